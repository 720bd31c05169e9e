/-
  No cell of these rows narrows 'for every input' (looked for: loops, veiled, ifaces, maps, wideKeys, modest, calm, conditions, laid).
  DERIVED. THE GIVEN ROWS OF THIS SEAT. 4 by the template 'for every input the law returns true; each argument reads behind the call as it read before'; 0 by the template 'total and deterministic' (their statements: YtolkecnhncbkhaaTotals.lean).
  GIVEN WITH THE SEED: the statements are not yours to turn. If you find one false, say at which input.
  Laid BY PROGRAM, IN A SANDBOX (cutbox-rows.mjs): the forced cells as the released guide's own fill.sh prints them over the translation 890314b895bfba2f… (all of the seat's roots in one cut). By AI agents, Wed Nov 11 2026. No macro, syntax, notation, axiom, sorry.
-/
import Derived.Test.YtolkecnhncbkhaaChecked
import GoSem.Claim
import GoSem.ClaimJoined
import GoSem.ClaimMapViews
import Derived.JoinedTies
import Derived.KernelRfl
namespace Go.Proofs.Ytolkecnhncbkhaa
/- THE CELL 'sum', in the pinned program and in every row, IS THE sha256 OF THE DUMP (.gsa) THAT YtolkecnhncbkhaaProg.lean LOADS. Nothing in Lean hashes anything: it is a label: what it is worth is what the hold of that sum in a sandbox is worth. -/
noncomputable def Try.pinned : Pinned := { name := "ytolkecnhncbkhaa", sum := "890314b895bfba2f9755700bd4a1d04d23e4a7014eded49bc93133ee3769d894", checked := Try.checked }
namespace Rows
def none {H : Type} : Left H := { results := [], args := [] }

/-- 'retrospectlaw15.RatfLeibniz': WHATEVER THE INPUT: true; the input reads as it did. -/
def ratfLeibnizSpec : ChangeSpec := { name := "ratfLeibniz", fn := fun _ => fun
  | [d1, d2, d3] => { results := [.lit (.bool true)], args := [d1, d2, d3] }
  | _ => none }
def ratfLeibnizRow : OpenClaim := { program := "ytolkecnhncbkhaa", sum := "890314b895bfba2f9755700bd4a1d04d23e4a7014eded49bc93133ee3769d894", func := "retrospect/retrospectlaw15.RatfLeibniz", spec := "ratfLeibniz", apart := false }
def RatfLeibnizSaid : Prop := ratfLeibnizRow.holds Try.pinned (OpenSpec.ofChange ratfLeibnizSpec)

/-- ITS FALSE NEIGHBOUR: 'it returns false'. Refute it at one input. -/
def ratfLeibnizWrong : ChangeSpec := { name := "ratfLeibniz", fn := fun _ => fun
  | [d1, d2, d3] => { results := [.lit (.bool false)], args := [d1, d2, d3] }
  | _ => none }
def RatfLeibnizWrongFalsely : Prop := ratfLeibnizRow.holds Try.pinned (OpenSpec.ofChange ratfLeibnizWrong)

/-- 'retrospectlaw09.FracSums': WHATEVER THE INPUT: true; the input reads as it did. -/
def fracSumsSpec : ChangeSpec := { name := "fracSums", fn := fun _ => fun
  | [d1, d2] => { results := [.lit (.bool true)], args := [d1, d2] }
  | _ => none }
def fracSumsRow : OpenClaim := { program := "ytolkecnhncbkhaa", sum := "890314b895bfba2f9755700bd4a1d04d23e4a7014eded49bc93133ee3769d894", func := "retrospect/retrospectlaw09.FracSums", spec := "fracSums", apart := false }
def FracSumsSaid : Prop := fracSumsRow.holds Try.pinned (OpenSpec.ofChange fracSumsSpec)

/-- ITS FALSE NEIGHBOUR: 'it returns false'. Refute it at one input. -/
def fracSumsWrong : ChangeSpec := { name := "fracSums", fn := fun _ => fun
  | [d1, d2] => { results := [.lit (.bool false)], args := [d1, d2] }
  | _ => none }
def FracSumsWrongFalsely : Prop := fracSumsRow.holds Try.pinned (OpenSpec.ofChange fracSumsWrong)

/-- 'retrospectlaw09.FracTells': WHATEVER THE INPUT: true; the input reads as it did. -/
def fracTellsSpec : ChangeSpec := { name := "fracTells", fn := fun _ => fun
  | [d1, d2] => { results := [.lit (.bool true)], args := [d1, d2] }
  | _ => none }
def fracTellsRow : OpenClaim := { program := "ytolkecnhncbkhaa", sum := "890314b895bfba2f9755700bd4a1d04d23e4a7014eded49bc93133ee3769d894", func := "retrospect/retrospectlaw09.FracTells", spec := "fracTells", apart := false }
def FracTellsSaid : Prop := fracTellsRow.holds Try.pinned (OpenSpec.ofChange fracTellsSpec)

/-- ITS FALSE NEIGHBOUR: 'it returns false'. Refute it at one input. -/
def fracTellsWrong : ChangeSpec := { name := "fracTells", fn := fun _ => fun
  | [d1, d2] => { results := [.lit (.bool false)], args := [d1, d2] }
  | _ => none }
def FracTellsWrongFalsely : Prop := fracTellsRow.holds Try.pinned (OpenSpec.ofChange fracTellsWrong)

/-- 'retrospectlaw15.RatfValues': WHATEVER THE INPUT: true; the input reads as it did. -/
def ratfValuesSpec : ChangeSpec := { name := "ratfValues", fn := fun _ => fun
  | [d1, d2, d3] => { results := [.lit (.bool true)], args := [d1, d2, d3] }
  | _ => none }
def ratfValuesRow : OpenClaim := { program := "ytolkecnhncbkhaa", sum := "890314b895bfba2f9755700bd4a1d04d23e4a7014eded49bc93133ee3769d894", func := "retrospect/retrospectlaw15.RatfValues", spec := "ratfValues", apart := false }
def RatfValuesSaid : Prop := ratfValuesRow.holds Try.pinned (OpenSpec.ofChange ratfValuesSpec)

/-- ITS FALSE NEIGHBOUR: 'it returns false'. Refute it at one input. -/
def ratfValuesWrong : ChangeSpec := { name := "ratfValues", fn := fun _ => fun
  | [d1, d2, d3] => { results := [.lit (.bool false)], args := [d1, d2, d3] }
  | _ => none }
def RatfValuesWrongFalsely : Prop := ratfValuesRow.holds Try.pinned (OpenSpec.ofChange ratfValuesWrong)

/- THE SECOND FORM. 'bulk': how many values and letters a reading holds, each counted each time it is reached (what is shared counts as often as it is met; a slice's spare places count too). A statement '..UptoSaid' is the law's where the arguments, and the package variables that the reading takes, are together of bulk at most 1048576: NARROWER than '..Said'. Prove '..Said' where nothing that the law and all that it calls make is longer than what came in: it says more and counts as full. Else prove '..UptoSaid'. A law counts once. -/
mutual
def uptoBulk {H : Type} : DataW H → Nat
  | .lit (.string bytes) => bytes.length + 1
  | .lit _ => 1
  | .nil => 1
  | .ptr d => uptoBulk d + 1
  | .slice elems spare => uptoBulkAll elems + uptoBulkAll spare + 1
  | .agg parts => uptoBulkAll parts + 1
  | .iface _ d => uptoBulk d + 1
  | .map entries => uptoBulkEntries entries + 1
  | .held _ => 1
def uptoBulkAll {H : Type} : List (DataW H) → Nat
  | [] => 0
  | d :: r => uptoBulk d + uptoBulkAll r
def uptoBulkEntries {H : Type} : List (Lit × DataW H) → Nat
  | [] => 0
  | x :: r => uptoBulkEntry x + uptoBulkEntries r
def uptoBulkEntry {H : Type} : Lit × DataW H → Nat
  | (.string bytes, d) => bytes.length + uptoBulk d + 1
  | (_, d) => uptoBulk d + 1
 end
def uptoSmall : (H : Type) → List (DataW H) → Bool := fun _ ds => decide (uptoBulkAll ds ≤ 1048576)
def OpenSpec.upto (s : _root_.Go.ChangeSpec) : _root_.Go.OpenSpec := { _root_.Go.OpenSpec.ofChange s with cond := some uptoSmall }

/-- 'retrospectlaw15.RatfLeibniz', WHERE WHAT IT READS IS OF BULK AT MOST 1048576: true; the input reads as it did. -/
def ratfLeibnizUptoRow : OpenClaim := { program := "ytolkecnhncbkhaa", sum := "890314b895bfba2f9755700bd4a1d04d23e4a7014eded49bc93133ee3769d894", func := "retrospect/retrospectlaw15.RatfLeibniz", spec := "ratfLeibniz", apart := false, narrowed := true }
def RatfLeibnizUptoSaid : Prop := ratfLeibnizUptoRow.holds Try.pinned (OpenSpec.upto ratfLeibnizSpec)

/-- 'retrospectlaw09.FracSums', WHERE WHAT IT READS IS OF BULK AT MOST 1048576: true; the input reads as it did. -/
def fracSumsUptoRow : OpenClaim := { program := "ytolkecnhncbkhaa", sum := "890314b895bfba2f9755700bd4a1d04d23e4a7014eded49bc93133ee3769d894", func := "retrospect/retrospectlaw09.FracSums", spec := "fracSums", apart := false, narrowed := true }
def FracSumsUptoSaid : Prop := fracSumsUptoRow.holds Try.pinned (OpenSpec.upto fracSumsSpec)

/-- 'retrospectlaw09.FracTells', WHERE WHAT IT READS IS OF BULK AT MOST 1048576: true; the input reads as it did. -/
def fracTellsUptoRow : OpenClaim := { program := "ytolkecnhncbkhaa", sum := "890314b895bfba2f9755700bd4a1d04d23e4a7014eded49bc93133ee3769d894", func := "retrospect/retrospectlaw09.FracTells", spec := "fracTells", apart := false, narrowed := true }
def FracTellsUptoSaid : Prop := fracTellsUptoRow.holds Try.pinned (OpenSpec.upto fracTellsSpec)

/-- 'retrospectlaw15.RatfValues', WHERE WHAT IT READS IS OF BULK AT MOST 1048576: true; the input reads as it did. -/
def ratfValuesUptoRow : OpenClaim := { program := "ytolkecnhncbkhaa", sum := "890314b895bfba2f9755700bd4a1d04d23e4a7014eded49bc93133ee3769d894", func := "retrospect/retrospectlaw15.RatfValues", spec := "ratfValues", apart := false, narrowed := true }
def RatfValuesUptoSaid : Prop := ratfValuesUptoRow.holds Try.pinned (OpenSpec.upto ratfValuesSpec)

end Rows
end Go.Proofs.Ytolkecnhncbkhaa
