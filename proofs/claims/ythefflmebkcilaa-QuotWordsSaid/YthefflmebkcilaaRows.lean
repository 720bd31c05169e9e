/-
  No cell of these rows narrows 'for every input' (looked for: loops, veiled, ifaces, maps, wideKeys, modest, calm, conditions, laid).
  DERIVED. THE GIVEN ROWS OF THIS SEAT. 7 by the template 'for every input the law returns true; each argument reads behind the call as it read before'; 0 by the template 'total and deterministic' (their statements: YthefflmebkcilaaTotals.lean).
  GIVEN WITH THE SEED: the statements are not yours to turn. If you find one false, say at which input.
  Laid BY PROGRAM, IN A SANDBOX (cutbox-rows.mjs): the forced cells as the released guide's own fill.sh prints them over the translation dd67c467454a973a… (all of the seat's roots in one cut). By AI agents, Wed Nov 11 2026. No macro, syntax, notation, axiom, sorry.
-/
import Derived.Test.YthefflmebkcilaaChecked
import GoSem.Claim
import GoSem.ClaimJoined
import GoSem.ClaimMapViews
import Derived.JoinedTies
import Derived.KernelRfl
namespace Go.Proofs.Ythefflmebkcilaa
/- THE CELL 'sum', in the pinned program and in every row, IS THE sha256 OF THE DUMP (.gsa) THAT YthefflmebkcilaaProg.lean LOADS. Nothing in Lean hashes anything: it is a label: what it is worth is what the hold of that sum in a sandbox is worth. -/
noncomputable def Try.pinned : Pinned := { name := "ythefflmebkcilaa", sum := "dd67c467454a973a03c292ebee930bed37b4ece3db9b0c5b5ed945e7b02af7d6", checked := Try.checked }
namespace Rows
def none {H : Type} : Left H := { results := [], args := [] }

/-- 'retrospectlaw05.QuotDivides': WHATEVER THE INPUT: true; the input reads as it did. -/
def quotDividesSpec : ChangeSpec := { name := "quotDivides", fn := fun _ => fun
  | [d1, d2] => { results := [.lit (.bool true)], args := [d1, d2] }
  | _ => none }
def quotDividesRow : OpenClaim := { program := "ythefflmebkcilaa", sum := "dd67c467454a973a03c292ebee930bed37b4ece3db9b0c5b5ed945e7b02af7d6", func := "retrospect/retrospectlaw05.QuotDivides", spec := "quotDivides", apart := false }
def QuotDividesSaid : Prop := quotDividesRow.holds Try.pinned (OpenSpec.ofChange quotDividesSpec)

/-- ITS FALSE NEIGHBOUR: 'it returns false'. Refute it at one input. -/
def quotDividesWrong : ChangeSpec := { name := "quotDivides", fn := fun _ => fun
  | [d1, d2] => { results := [.lit (.bool false)], args := [d1, d2] }
  | _ => none }
def QuotDividesWrongFalsely : Prop := quotDividesRow.holds Try.pinned (OpenSpec.ofChange quotDividesWrong)

/-- 'retrospectlaw05.QuotWords': WHATEVER THE INPUT: true; the input reads as it did. -/
def quotWordsSpec : ChangeSpec := { name := "quotWords", fn := fun _ => fun
  | [d1, d2] => { results := [.lit (.bool true)], args := [d1, d2] }
  | _ => none }
def quotWordsRow : OpenClaim := { program := "ythefflmebkcilaa", sum := "dd67c467454a973a03c292ebee930bed37b4ece3db9b0c5b5ed945e7b02af7d6", func := "retrospect/retrospectlaw05.QuotWords", spec := "quotWords", apart := false }
def QuotWordsSaid : Prop := quotWordsRow.holds Try.pinned (OpenSpec.ofChange quotWordsSpec)

/-- ITS FALSE NEIGHBOUR: 'it returns false'. Refute it at one input. -/
def quotWordsWrong : ChangeSpec := { name := "quotWords", fn := fun _ => fun
  | [d1, d2] => { results := [.lit (.bool false)], args := [d1, d2] }
  | _ => none }
def QuotWordsWrongFalsely : Prop := quotWordsRow.holds Try.pinned (OpenSpec.ofChange quotWordsWrong)

/-- 'retrospectlaw05.QuotBack': WHATEVER THE INPUT: true; the input reads as it did. -/
def quotBackSpec : ChangeSpec := { name := "quotBack", fn := fun _ => fun
  | [d1, d2, d3] => { results := [.lit (.bool true)], args := [d1, d2, d3] }
  | _ => none }
def quotBackRow : OpenClaim := { program := "ythefflmebkcilaa", sum := "dd67c467454a973a03c292ebee930bed37b4ece3db9b0c5b5ed945e7b02af7d6", func := "retrospect/retrospectlaw05.QuotBack", spec := "quotBack", apart := false }
def QuotBackSaid : Prop := quotBackRow.holds Try.pinned (OpenSpec.ofChange quotBackSpec)

/-- ITS FALSE NEIGHBOUR: 'it returns false'. Refute it at one input. -/
def quotBackWrong : ChangeSpec := { name := "quotBack", fn := fun _ => fun
  | [d1, d2, d3] => { results := [.lit (.bool false)], args := [d1, d2, d3] }
  | _ => none }
def QuotBackWrongFalsely : Prop := quotBackRow.holds Try.pinned (OpenSpec.ofChange quotBackWrong)

/-- 'retrospectlaw06.CommonTells': WHATEVER THE INPUT: true; the input reads as it did. -/
def commonTellsSpec : ChangeSpec := { name := "commonTells", fn := fun _ => fun
  | [d1, d2] => { results := [.lit (.bool true)], args := [d1, d2] }
  | _ => none }
def commonTellsRow : OpenClaim := { program := "ythefflmebkcilaa", sum := "dd67c467454a973a03c292ebee930bed37b4ece3db9b0c5b5ed945e7b02af7d6", func := "retrospect/retrospectlaw06.CommonTells", spec := "commonTells", apart := false }
def CommonTellsSaid : Prop := commonTellsRow.holds Try.pinned (OpenSpec.ofChange commonTellsSpec)

/-- ITS FALSE NEIGHBOUR: 'it returns false'. Refute it at one input. -/
def commonTellsWrong : ChangeSpec := { name := "commonTells", fn := fun _ => fun
  | [d1, d2] => { results := [.lit (.bool false)], args := [d1, d2] }
  | _ => none }
def CommonTellsWrongFalsely : Prop := commonTellsRow.holds Try.pinned (OpenSpec.ofChange commonTellsWrong)

/-- 'retrospectlaw06.CommonAll': WHATEVER THE INPUT: true; the input reads as it did. -/
def commonAllSpec : ChangeSpec := { name := "commonAll", fn := fun _ => fun
  | [d] => { results := [.lit (.bool true)], args := [d] }
  | _ => none }
def commonAllRow : OpenClaim := { program := "ythefflmebkcilaa", sum := "dd67c467454a973a03c292ebee930bed37b4ece3db9b0c5b5ed945e7b02af7d6", func := "retrospect/retrospectlaw06.CommonAll", spec := "commonAll", apart := false }
def CommonAllSaid : Prop := commonAllRow.holds Try.pinned (OpenSpec.ofChange commonAllSpec)

/-- ITS FALSE NEIGHBOUR: 'it returns false'. Refute it at one input. -/
def commonAllWrong : ChangeSpec := { name := "commonAll", fn := fun _ => fun
  | [d] => { results := [.lit (.bool false)], args := [d] }
  | _ => none }
def CommonAllWrongFalsely : Prop := commonAllRow.holds Try.pinned (OpenSpec.ofChange commonAllWrong)

/-- 'retrospectlaw06.CommonBoth': WHATEVER THE INPUT: true; the input reads as it did. -/
def commonBothSpec : ChangeSpec := { name := "commonBoth", fn := fun _ => fun
  | [d1, d2] => { results := [.lit (.bool true)], args := [d1, d2] }
  | _ => none }
def commonBothRow : OpenClaim := { program := "ythefflmebkcilaa", sum := "dd67c467454a973a03c292ebee930bed37b4ece3db9b0c5b5ed945e7b02af7d6", func := "retrospect/retrospectlaw06.CommonBoth", spec := "commonBoth", apart := false }
def CommonBothSaid : Prop := commonBothRow.holds Try.pinned (OpenSpec.ofChange commonBothSpec)

/-- ITS FALSE NEIGHBOUR: 'it returns false'. Refute it at one input. -/
def commonBothWrong : ChangeSpec := { name := "commonBoth", fn := fun _ => fun
  | [d1, d2] => { results := [.lit (.bool false)], args := [d1, d2] }
  | _ => none }
def CommonBothWrongFalsely : Prop := commonBothRow.holds Try.pinned (OpenSpec.ofChange commonBothWrong)

/-- 'retrospectlaw06.CommonDivides': WHATEVER THE INPUT: true; the input reads as it did. -/
def commonDividesSpec : ChangeSpec := { name := "commonDivides", fn := fun _ => fun
  | [d1, d2, d3] => { results := [.lit (.bool true)], args := [d1, d2, d3] }
  | _ => none }
def commonDividesRow : OpenClaim := { program := "ythefflmebkcilaa", sum := "dd67c467454a973a03c292ebee930bed37b4ece3db9b0c5b5ed945e7b02af7d6", func := "retrospect/retrospectlaw06.CommonDivides", spec := "commonDivides", apart := false }
def CommonDividesSaid : Prop := commonDividesRow.holds Try.pinned (OpenSpec.ofChange commonDividesSpec)

/-- ITS FALSE NEIGHBOUR: 'it returns false'. Refute it at one input. -/
def commonDividesWrong : ChangeSpec := { name := "commonDivides", fn := fun _ => fun
  | [d1, d2, d3] => { results := [.lit (.bool false)], args := [d1, d2, d3] }
  | _ => none }
def CommonDividesWrongFalsely : Prop := commonDividesRow.holds Try.pinned (OpenSpec.ofChange commonDividesWrong)

/- THE SECOND FORM. 'bulk': how many values and letters a reading holds, each counted each time it is reached (what is shared counts as often as it is met; a slice's spare places count too). A statement '..UptoSaid' is the law's where the arguments, and the package variables that the reading takes, are together of bulk at most 1048576: NARROWER than '..Said'. Prove '..Said' where nothing that the law and all that it calls make is longer than what came in: it says more and counts as full. Else prove '..UptoSaid'. A law counts once. -/
mutual
def uptoBulk {H : Type} : DataW H → Nat
  | .lit (.string bytes) => bytes.length + 1
  | .lit _ => 1
  | .nil => 1
  | .ptr d => uptoBulk d + 1
  | .slice elems spare => uptoBulkAll elems + uptoBulkAll spare + 1
  | .agg parts => uptoBulkAll parts + 1
  | .iface _ d => uptoBulk d + 1
  | .map entries => uptoBulkEntries entries + 1
  | .held _ => 1
def uptoBulkAll {H : Type} : List (DataW H) → Nat
  | [] => 0
  | d :: r => uptoBulk d + uptoBulkAll r
def uptoBulkEntries {H : Type} : List (Lit × DataW H) → Nat
  | [] => 0
  | x :: r => uptoBulkEntry x + uptoBulkEntries r
def uptoBulkEntry {H : Type} : Lit × DataW H → Nat
  | (.string bytes, d) => bytes.length + uptoBulk d + 1
  | (_, d) => uptoBulk d + 1
 end
def uptoSmall : (H : Type) → List (DataW H) → Bool := fun _ ds => decide (uptoBulkAll ds ≤ 1048576)
def OpenSpec.upto (s : _root_.Go.ChangeSpec) : _root_.Go.OpenSpec := { _root_.Go.OpenSpec.ofChange s with cond := some uptoSmall }

/-- 'retrospectlaw05.QuotDivides', WHERE WHAT IT READS IS OF BULK AT MOST 1048576: true; the input reads as it did. -/
def quotDividesUptoRow : OpenClaim := { program := "ythefflmebkcilaa", sum := "dd67c467454a973a03c292ebee930bed37b4ece3db9b0c5b5ed945e7b02af7d6", func := "retrospect/retrospectlaw05.QuotDivides", spec := "quotDivides", apart := false, narrowed := true }
def QuotDividesUptoSaid : Prop := quotDividesUptoRow.holds Try.pinned (OpenSpec.upto quotDividesSpec)

/-- 'retrospectlaw05.QuotWords', WHERE WHAT IT READS IS OF BULK AT MOST 1048576: true; the input reads as it did. -/
def quotWordsUptoRow : OpenClaim := { program := "ythefflmebkcilaa", sum := "dd67c467454a973a03c292ebee930bed37b4ece3db9b0c5b5ed945e7b02af7d6", func := "retrospect/retrospectlaw05.QuotWords", spec := "quotWords", apart := false, narrowed := true }
def QuotWordsUptoSaid : Prop := quotWordsUptoRow.holds Try.pinned (OpenSpec.upto quotWordsSpec)

/-- 'retrospectlaw05.QuotBack', WHERE WHAT IT READS IS OF BULK AT MOST 1048576: true; the input reads as it did. -/
def quotBackUptoRow : OpenClaim := { program := "ythefflmebkcilaa", sum := "dd67c467454a973a03c292ebee930bed37b4ece3db9b0c5b5ed945e7b02af7d6", func := "retrospect/retrospectlaw05.QuotBack", spec := "quotBack", apart := false, narrowed := true }
def QuotBackUptoSaid : Prop := quotBackUptoRow.holds Try.pinned (OpenSpec.upto quotBackSpec)

/-- 'retrospectlaw06.CommonTells', WHERE WHAT IT READS IS OF BULK AT MOST 1048576: true; the input reads as it did. -/
def commonTellsUptoRow : OpenClaim := { program := "ythefflmebkcilaa", sum := "dd67c467454a973a03c292ebee930bed37b4ece3db9b0c5b5ed945e7b02af7d6", func := "retrospect/retrospectlaw06.CommonTells", spec := "commonTells", apart := false, narrowed := true }
def CommonTellsUptoSaid : Prop := commonTellsUptoRow.holds Try.pinned (OpenSpec.upto commonTellsSpec)

/-- 'retrospectlaw06.CommonAll', WHERE WHAT IT READS IS OF BULK AT MOST 1048576: true; the input reads as it did. -/
def commonAllUptoRow : OpenClaim := { program := "ythefflmebkcilaa", sum := "dd67c467454a973a03c292ebee930bed37b4ece3db9b0c5b5ed945e7b02af7d6", func := "retrospect/retrospectlaw06.CommonAll", spec := "commonAll", apart := false, narrowed := true }
def CommonAllUptoSaid : Prop := commonAllUptoRow.holds Try.pinned (OpenSpec.upto commonAllSpec)

/-- 'retrospectlaw06.CommonBoth', WHERE WHAT IT READS IS OF BULK AT MOST 1048576: true; the input reads as it did. -/
def commonBothUptoRow : OpenClaim := { program := "ythefflmebkcilaa", sum := "dd67c467454a973a03c292ebee930bed37b4ece3db9b0c5b5ed945e7b02af7d6", func := "retrospect/retrospectlaw06.CommonBoth", spec := "commonBoth", apart := false, narrowed := true }
def CommonBothUptoSaid : Prop := commonBothUptoRow.holds Try.pinned (OpenSpec.upto commonBothSpec)

/-- 'retrospectlaw06.CommonDivides', WHERE WHAT IT READS IS OF BULK AT MOST 1048576: true; the input reads as it did. -/
def commonDividesUptoRow : OpenClaim := { program := "ythefflmebkcilaa", sum := "dd67c467454a973a03c292ebee930bed37b4ece3db9b0c5b5ed945e7b02af7d6", func := "retrospect/retrospectlaw06.CommonDivides", spec := "commonDivides", apart := false, narrowed := true }
def CommonDividesUptoSaid : Prop := commonDividesUptoRow.holds Try.pinned (OpenSpec.upto commonDividesSpec)

end Rows
end Go.Proofs.Ythefflmebkcilaa
