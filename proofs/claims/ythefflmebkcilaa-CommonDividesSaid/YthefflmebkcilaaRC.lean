/- The shapes of the types of the arguments. -/
import Derived.Test.YthefflmebkcilaaRB
set_option linter.unusedVariables false
set_option linter.unusedSimpArgs false
namespace Go.Proofs.Ythefflmebkcilaa.Fw
open Go
abbrev shF : List Sh := [.bool, .ws, .ws]
abbrev shR : Sh := .rows shF
theorem sh_int : HasSh Try.prog 3 [.int .i64] := .int Try.underlying3 (by kernel_rfl)
theorem sh_bool : HasSh Try.prog 4 [.bool] := .bool Try.underlying4 (by kernel_rfl)
theorem sh_u32 : HasSh Try.prog 32 [.int .u32] := .int Try.underlying32 (by kernel_rfl)
theorem sh_ws : HasSh Try.prog 22 [.ws] := .ws Try.underlying22 Try.underlying32 (by kernel_rfl) (by kernel_rfl)
theorem sh_wss : HasSh Try.prog 41 [.rows [.ws]] := .rows Try.underlying41 sh_ws (by decide) (by kernel_rfl)
end Go.Proofs.Ythefflmebkcilaa.Fw
