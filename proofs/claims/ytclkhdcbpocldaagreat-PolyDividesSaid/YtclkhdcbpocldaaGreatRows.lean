/-
  No cell of these rows narrows 'for every input' (looked for: loops, veiled, ifaces, maps, wideKeys, modest, calm, conditions, laid).
  DERIVED. THE GIVEN ROWS OF THIS SEAT. 4 by the template 'for every input the law returns true; each argument reads behind the call as it read before'; 0 by the template 'total and deterministic' (their statements: YtclkhdcbpocldaaGreatTotals.lean).
  GIVEN WITH THE SEED: the statements are not yours to turn. If you find one false, say at which input.
  Laid BY PROGRAM, IN A SANDBOX (cutbox-rows.mjs): the forced cells as the released guide's own fill.sh prints them over the translation ae33d37427c6ac6b… (all of the seat's roots in one cut). By AI agents, Wed Nov 11 2026. No macro, syntax, notation, axiom, sorry.
-/
import Derived.Test.YtclkhdcbpocldaaGreatChecked
import GoSem.Claim
import GoSem.ClaimJoined
import GoSem.ClaimMapViews
import Derived.JoinedTies
import Derived.KernelRfl
namespace Go.Proofs.YtclkhdcbpocldaaGreat
/- THE CELL 'sum', in the pinned program and in every row, IS THE sha256 OF THE DUMP (.gsa) THAT YtclkhdcbpocldaaGreatProg.lean LOADS. Nothing in Lean hashes anything: it is a label: what it is worth is what the hold of that sum in a sandbox is worth. -/
noncomputable def Tryz.pinned : Pinned := { name := "ytclkhdcbpocldaagreat", sum := "ae33d37427c6ac6b7c656daa7621e33dda56197ebcbdb5a9e3dbbdec93e2ef00", checked := Tryz.checked }
namespace Rows
def none {H : Type} : Left H := { results := [], args := [] }

/-- 'retrospectlaw36.PaceRules': WHATEVER THE INPUT: true; the input reads as it did. -/
def paceRulesSpec : ChangeSpec := { name := "paceRules", fn := fun _ => fun
  | [d] => { results := [.lit (.bool true)], args := [d] }
  | _ => none }
def paceRulesRow : OpenClaim := { program := "ytclkhdcbpocldaagreat", sum := "ae33d37427c6ac6b7c656daa7621e33dda56197ebcbdb5a9e3dbbdec93e2ef00", func := "retrospect/retrospectlaw36.PaceRules", spec := "paceRules", apart := false }
def PaceRulesSaid : Prop := paceRulesRow.holds Tryz.pinned (OpenSpec.ofChange paceRulesSpec)

/-- ITS FALSE NEIGHBOUR: 'it returns false'. Refute it at one input. -/
def paceRulesWrong : ChangeSpec := { name := "paceRules", fn := fun _ => fun
  | [d] => { results := [.lit (.bool false)], args := [d] }
  | _ => none }
def PaceRulesWrongFalsely : Prop := paceRulesRow.holds Tryz.pinned (OpenSpec.ofChange paceRulesWrong)

/-- 'retrospectlaw14.PolySums': WHATEVER THE INPUT: true; the input reads as it did. -/
def polySumsSpec : ChangeSpec := { name := "polySums", fn := fun _ => fun
  | [d1, d2, d3] => { results := [.lit (.bool true)], args := [d1, d2, d3] }
  | _ => none }
def polySumsRow : OpenClaim := { program := "ytclkhdcbpocldaagreat", sum := "ae33d37427c6ac6b7c656daa7621e33dda56197ebcbdb5a9e3dbbdec93e2ef00", func := "retrospect/retrospectlaw14.PolySums", spec := "polySums", apart := false }
def PolySumsSaid : Prop := polySumsRow.holds Tryz.pinned (OpenSpec.ofChange polySumsSpec)

/-- ITS FALSE NEIGHBOUR: 'it returns false'. Refute it at one input. -/
def polySumsWrong : ChangeSpec := { name := "polySums", fn := fun _ => fun
  | [d1, d2, d3] => { results := [.lit (.bool false)], args := [d1, d2, d3] }
  | _ => none }
def PolySumsWrongFalsely : Prop := polySumsRow.holds Tryz.pinned (OpenSpec.ofChange polySumsWrong)

/-- 'retrospectlaw14.PolyDivides': WHATEVER THE INPUT: true; the input reads as it did. -/
def polyDividesSpec : ChangeSpec := { name := "polyDivides", fn := fun _ => fun
  | [d1, d2] => { results := [.lit (.bool true)], args := [d1, d2] }
  | _ => none }
def polyDividesRow : OpenClaim := { program := "ytclkhdcbpocldaagreat", sum := "ae33d37427c6ac6b7c656daa7621e33dda56197ebcbdb5a9e3dbbdec93e2ef00", func := "retrospect/retrospectlaw14.PolyDivides", spec := "polyDivides", apart := false }
def PolyDividesSaid : Prop := polyDividesRow.holds Tryz.pinned (OpenSpec.ofChange polyDividesSpec)

/-- ITS FALSE NEIGHBOUR: 'it returns false'. Refute it at one input. -/
def polyDividesWrong : ChangeSpec := { name := "polyDivides", fn := fun _ => fun
  | [d1, d2] => { results := [.lit (.bool false)], args := [d1, d2] }
  | _ => none }
def PolyDividesWrongFalsely : Prop := polyDividesRow.holds Tryz.pinned (OpenSpec.ofChange polyDividesWrong)

/-- 'retrospectlaw36.PaceSizes': WHATEVER THE INPUT: true; the input reads as it did. -/
def paceSizesSpec : ChangeSpec := { name := "paceSizes", fn := fun _ => fun
  | [d1, d2, d3] => { results := [.lit (.bool true)], args := [d1, d2, d3] }
  | _ => none }
def paceSizesRow : OpenClaim := { program := "ytclkhdcbpocldaagreat", sum := "ae33d37427c6ac6b7c656daa7621e33dda56197ebcbdb5a9e3dbbdec93e2ef00", func := "retrospect/retrospectlaw36.PaceSizes", spec := "paceSizes", apart := false }
def PaceSizesSaid : Prop := paceSizesRow.holds Tryz.pinned (OpenSpec.ofChange paceSizesSpec)

/-- ITS FALSE NEIGHBOUR: 'it returns false'. Refute it at one input. -/
def paceSizesWrong : ChangeSpec := { name := "paceSizes", fn := fun _ => fun
  | [d1, d2, d3] => { results := [.lit (.bool false)], args := [d1, d2, d3] }
  | _ => none }
def PaceSizesWrongFalsely : Prop := paceSizesRow.holds Tryz.pinned (OpenSpec.ofChange paceSizesWrong)

/- THE SECOND FORM. 'bulk': how many values and letters a reading holds, each counted each time it is reached (what is shared counts as often as it is met; a slice's spare places count too). A statement '..UptoSaid' is the law's where the arguments, and the package variables that the reading takes, are together of bulk at most 1048576: NARROWER than '..Said'. Prove '..Said' where nothing that the law and all that it calls make is longer than what came in: it says more and counts as full. Else prove '..UptoSaid'. A law counts once. -/
mutual
def uptoBulk {H : Type} : DataW H → Nat
  | .lit (.string bytes) => bytes.length + 1
  | .lit _ => 1
  | .nil => 1
  | .ptr d => uptoBulk d + 1
  | .slice elems spare => uptoBulkAll elems + uptoBulkAll spare + 1
  | .agg parts => uptoBulkAll parts + 1
  | .iface _ d => uptoBulk d + 1
  | .map entries => uptoBulkEntries entries + 1
  | .held _ => 1
def uptoBulkAll {H : Type} : List (DataW H) → Nat
  | [] => 0
  | d :: r => uptoBulk d + uptoBulkAll r
def uptoBulkEntries {H : Type} : List (Lit × DataW H) → Nat
  | [] => 0
  | x :: r => uptoBulkEntry x + uptoBulkEntries r
def uptoBulkEntry {H : Type} : Lit × DataW H → Nat
  | (.string bytes, d) => bytes.length + uptoBulk d + 1
  | (_, d) => uptoBulk d + 1
 end
def uptoSmall : (H : Type) → List (DataW H) → Bool := fun _ ds => decide (uptoBulkAll ds ≤ 1048576)
def OpenSpec.upto (s : _root_.Go.ChangeSpec) : _root_.Go.OpenSpec := { _root_.Go.OpenSpec.ofChange s with cond := some uptoSmall }

/-- 'retrospectlaw36.PaceRules', WHERE WHAT IT READS IS OF BULK AT MOST 1048576: true; the input reads as it did. -/
def paceRulesUptoRow : OpenClaim := { program := "ytclkhdcbpocldaagreat", sum := "ae33d37427c6ac6b7c656daa7621e33dda56197ebcbdb5a9e3dbbdec93e2ef00", func := "retrospect/retrospectlaw36.PaceRules", spec := "paceRules", apart := false, narrowed := true }
def PaceRulesUptoSaid : Prop := paceRulesUptoRow.holds Tryz.pinned (OpenSpec.upto paceRulesSpec)

/-- 'retrospectlaw14.PolySums', WHERE WHAT IT READS IS OF BULK AT MOST 1048576: true; the input reads as it did. -/
def polySumsUptoRow : OpenClaim := { program := "ytclkhdcbpocldaagreat", sum := "ae33d37427c6ac6b7c656daa7621e33dda56197ebcbdb5a9e3dbbdec93e2ef00", func := "retrospect/retrospectlaw14.PolySums", spec := "polySums", apart := false, narrowed := true }
def PolySumsUptoSaid : Prop := polySumsUptoRow.holds Tryz.pinned (OpenSpec.upto polySumsSpec)

/-- 'retrospectlaw14.PolyDivides', WHERE WHAT IT READS IS OF BULK AT MOST 1048576: true; the input reads as it did. -/
def polyDividesUptoRow : OpenClaim := { program := "ytclkhdcbpocldaagreat", sum := "ae33d37427c6ac6b7c656daa7621e33dda56197ebcbdb5a9e3dbbdec93e2ef00", func := "retrospect/retrospectlaw14.PolyDivides", spec := "polyDivides", apart := false, narrowed := true }
def PolyDividesUptoSaid : Prop := polyDividesUptoRow.holds Tryz.pinned (OpenSpec.upto polyDividesSpec)

/-- 'retrospectlaw36.PaceSizes', WHERE WHAT IT READS IS OF BULK AT MOST 1048576: true; the input reads as it did. -/
def paceSizesUptoRow : OpenClaim := { program := "ytclkhdcbpocldaagreat", sum := "ae33d37427c6ac6b7c656daa7621e33dda56197ebcbdb5a9e3dbbdec93e2ef00", func := "retrospect/retrospectlaw36.PaceSizes", spec := "paceSizes", apart := false, narrowed := true }
def PaceSizesUptoSaid : Prop := paceSizesUptoRow.holds Tryz.pinned (OpenSpec.upto paceSizesSpec)

end Rows
end Go.Proofs.YtclkhdcbpocldaaGreat
