/-
  No cell of these rows narrows 'for every input' (looked for: loops, veiled, ifaces, maps, wideKeys, modest, calm, conditions, laid).
  DERIVED. THE GIVEN ROWS OF THIS SEAT. 9 by the template 'for every input the law returns true; each argument reads behind the call as it read before'; 0 by the template 'total and deterministic' (their statements: YtokfgmhcmajafaaTotals.lean).
  GIVEN WITH THE SEED: the statements are not yours to turn. If you find one false, say at which input.
  Laid BY PROGRAM, IN A SANDBOX (cutbox-rows.mjs): the forced cells as the released guide's own fill.sh prints them over the translation 4bca91920d2d0f9e… (all of the seat's roots in one cut). By AI agents, Wed Nov 11 2026. No macro, syntax, notation, axiom, sorry.
-/
import Derived.Test.YtokfgmhcmajafaaChecked
import GoSem.Claim
import GoSem.ClaimJoined
import GoSem.ClaimMapViews
import Derived.JoinedTies
import Derived.KernelRfl
namespace Go.Proofs.Ytokfgmhcmajafaa
/- THE CELL 'sum', in the pinned program and in every row, IS THE sha256 OF THE DUMP (.gsa) THAT YtokfgmhcmajafaaProg.lean LOADS. Nothing in Lean hashes anything: it is a label: what it is worth is what the hold of that sum in a sandbox is worth. -/
noncomputable def Try.pinned : Pinned := { name := "ytokfgmhcmajafaa", sum := "4bca91920d2d0f9e23bcbc7245aa4d35af3bb636a735da4f6a9d64a34e1fc0a6", checked := Try.checked }
namespace Rows
def none {H : Type} : Left H := { results := [], args := [] }

/-- 'retrospectlaw13.GaugeMore': WHATEVER THE INPUT: true; the input reads as it did. -/
def gaugeMoreSpec : ChangeSpec := { name := "gaugeMore", fn := fun _ => fun
  | [d1, d2, d3] => { results := [.lit (.bool true)], args := [d1, d2, d3] }
  | _ => none }
def gaugeMoreRow : OpenClaim := { program := "ytokfgmhcmajafaa", sum := "4bca91920d2d0f9e23bcbc7245aa4d35af3bb636a735da4f6a9d64a34e1fc0a6", func := "retrospect/retrospectlaw13.GaugeMore", spec := "gaugeMore", apart := false }
def GaugeMoreSaid : Prop := gaugeMoreRow.holds Try.pinned (OpenSpec.ofChange gaugeMoreSpec)

/-- ITS FALSE NEIGHBOUR: 'it returns false'. Refute it at one input. -/
def gaugeMoreWrong : ChangeSpec := { name := "gaugeMore", fn := fun _ => fun
  | [d1, d2, d3] => { results := [.lit (.bool false)], args := [d1, d2, d3] }
  | _ => none }
def GaugeMoreWrongFalsely : Prop := gaugeMoreRow.holds Try.pinned (OpenSpec.ofChange gaugeMoreWrong)

/-- 'retrospectlaw13.GaugePlays': WHATEVER THE INPUT: true; the input reads as it did. -/
def gaugePlaysSpec : ChangeSpec := { name := "gaugePlays", fn := fun _ => fun
  | [d1, d2] => { results := [.lit (.bool true)], args := [d1, d2] }
  | _ => none }
def gaugePlaysRow : OpenClaim := { program := "ytokfgmhcmajafaa", sum := "4bca91920d2d0f9e23bcbc7245aa4d35af3bb636a735da4f6a9d64a34e1fc0a6", func := "retrospect/retrospectlaw13.GaugePlays", spec := "gaugePlays", apart := false }
def GaugePlaysSaid : Prop := gaugePlaysRow.holds Try.pinned (OpenSpec.ofChange gaugePlaysSpec)

/-- ITS FALSE NEIGHBOUR: 'it returns false'. Refute it at one input. -/
def gaugePlaysWrong : ChangeSpec := { name := "gaugePlays", fn := fun _ => fun
  | [d1, d2] => { results := [.lit (.bool false)], args := [d1, d2] }
  | _ => none }
def GaugePlaysWrongFalsely : Prop := gaugePlaysRow.holds Try.pinned (OpenSpec.ofChange gaugePlaysWrong)

/-- 'retrospectlaw09.FracPowers': WHATEVER THE INPUT: true; the input reads as it did. -/
def fracPowersSpec : ChangeSpec := { name := "fracPowers", fn := fun _ => fun
  | [d1, d2] => { results := [.lit (.bool true)], args := [d1, d2] }
  | _ => none }
def fracPowersRow : OpenClaim := { program := "ytokfgmhcmajafaa", sum := "4bca91920d2d0f9e23bcbc7245aa4d35af3bb636a735da4f6a9d64a34e1fc0a6", func := "retrospect/retrospectlaw09.FracPowers", spec := "fracPowers", apart := false }
def FracPowersSaid : Prop := fracPowersRow.holds Try.pinned (OpenSpec.ofChange fracPowersSpec)

/-- ITS FALSE NEIGHBOUR: 'it returns false'. Refute it at one input. -/
def fracPowersWrong : ChangeSpec := { name := "fracPowers", fn := fun _ => fun
  | [d1, d2] => { results := [.lit (.bool false)], args := [d1, d2] }
  | _ => none }
def FracPowersWrongFalsely : Prop := fracPowersRow.holds Try.pinned (OpenSpec.ofChange fracPowersWrong)

/-- 'retrospectlaw09.FracExponents': WHATEVER THE INPUT: true; the input reads as it did. -/
def fracExponentsSpec : ChangeSpec := { name := "fracExponents", fn := fun _ => fun
  | [d1, d2, d3] => { results := [.lit (.bool true)], args := [d1, d2, d3] }
  | _ => none }
def fracExponentsRow : OpenClaim := { program := "ytokfgmhcmajafaa", sum := "4bca91920d2d0f9e23bcbc7245aa4d35af3bb636a735da4f6a9d64a34e1fc0a6", func := "retrospect/retrospectlaw09.FracExponents", spec := "fracExponents", apart := false }
def FracExponentsSaid : Prop := fracExponentsRow.holds Try.pinned (OpenSpec.ofChange fracExponentsSpec)

/-- ITS FALSE NEIGHBOUR: 'it returns false'. Refute it at one input. -/
def fracExponentsWrong : ChangeSpec := { name := "fracExponents", fn := fun _ => fun
  | [d1, d2, d3] => { results := [.lit (.bool false)], args := [d1, d2, d3] }
  | _ => none }
def FracExponentsWrongFalsely : Prop := fracExponentsRow.holds Try.pinned (OpenSpec.ofChange fracExponentsWrong)

/-- 'retrospectlaw09.FracOrder': WHATEVER THE INPUT: true; the input reads as it did. -/
def fracOrderSpec : ChangeSpec := { name := "fracOrder", fn := fun _ => fun
  | [d1, d2, d3] => { results := [.lit (.bool true)], args := [d1, d2, d3] }
  | _ => none }
def fracOrderRow : OpenClaim := { program := "ytokfgmhcmajafaa", sum := "4bca91920d2d0f9e23bcbc7245aa4d35af3bb636a735da4f6a9d64a34e1fc0a6", func := "retrospect/retrospectlaw09.FracOrder", spec := "fracOrder", apart := false }
def FracOrderSaid : Prop := fracOrderRow.holds Try.pinned (OpenSpec.ofChange fracOrderSpec)

/-- ITS FALSE NEIGHBOUR: 'it returns false'. Refute it at one input. -/
def fracOrderWrong : ChangeSpec := { name := "fracOrder", fn := fun _ => fun
  | [d1, d2, d3] => { results := [.lit (.bool false)], args := [d1, d2, d3] }
  | _ => none }
def FracOrderWrongFalsely : Prop := fracOrderRow.holds Try.pinned (OpenSpec.ofChange fracOrderWrong)

/-- 'retrospectlaw09.FracMakes': WHATEVER THE INPUT: true; the input reads as it did. -/
def fracMakesSpec : ChangeSpec := { name := "fracMakes", fn := fun _ => fun
  | [d1, d2, d3] => { results := [.lit (.bool true)], args := [d1, d2, d3] }
  | _ => none }
def fracMakesRow : OpenClaim := { program := "ytokfgmhcmajafaa", sum := "4bca91920d2d0f9e23bcbc7245aa4d35af3bb636a735da4f6a9d64a34e1fc0a6", func := "retrospect/retrospectlaw09.FracMakes", spec := "fracMakes", apart := false }
def FracMakesSaid : Prop := fracMakesRow.holds Try.pinned (OpenSpec.ofChange fracMakesSpec)

/-- ITS FALSE NEIGHBOUR: 'it returns false'. Refute it at one input. -/
def fracMakesWrong : ChangeSpec := { name := "fracMakes", fn := fun _ => fun
  | [d1, d2, d3] => { results := [.lit (.bool false)], args := [d1, d2, d3] }
  | _ => none }
def FracMakesWrongFalsely : Prop := fracMakesRow.holds Try.pinned (OpenSpec.ofChange fracMakesWrong)

/-- 'retrospectlaw09.FracSums': WHATEVER THE INPUT: true; the input reads as it did. -/
def fracSumsSpec : ChangeSpec := { name := "fracSums", fn := fun _ => fun
  | [d1, d2] => { results := [.lit (.bool true)], args := [d1, d2] }
  | _ => none }
def fracSumsRow : OpenClaim := { program := "ytokfgmhcmajafaa", sum := "4bca91920d2d0f9e23bcbc7245aa4d35af3bb636a735da4f6a9d64a34e1fc0a6", func := "retrospect/retrospectlaw09.FracSums", spec := "fracSums", apart := false }
def FracSumsSaid : Prop := fracSumsRow.holds Try.pinned (OpenSpec.ofChange fracSumsSpec)

/-- ITS FALSE NEIGHBOUR: 'it returns false'. Refute it at one input. -/
def fracSumsWrong : ChangeSpec := { name := "fracSums", fn := fun _ => fun
  | [d1, d2] => { results := [.lit (.bool false)], args := [d1, d2] }
  | _ => none }
def FracSumsWrongFalsely : Prop := fracSumsRow.holds Try.pinned (OpenSpec.ofChange fracSumsWrong)

/-- 'retrospectlaw09.FracField': WHATEVER THE INPUT: true; the input reads as it did. -/
def fracFieldSpec : ChangeSpec := { name := "fracField", fn := fun _ => fun
  | [d1, d2, d3] => { results := [.lit (.bool true)], args := [d1, d2, d3] }
  | _ => none }
def fracFieldRow : OpenClaim := { program := "ytokfgmhcmajafaa", sum := "4bca91920d2d0f9e23bcbc7245aa4d35af3bb636a735da4f6a9d64a34e1fc0a6", func := "retrospect/retrospectlaw09.FracField", spec := "fracField", apart := false }
def FracFieldSaid : Prop := fracFieldRow.holds Try.pinned (OpenSpec.ofChange fracFieldSpec)

/-- ITS FALSE NEIGHBOUR: 'it returns false'. Refute it at one input. -/
def fracFieldWrong : ChangeSpec := { name := "fracField", fn := fun _ => fun
  | [d1, d2, d3] => { results := [.lit (.bool false)], args := [d1, d2, d3] }
  | _ => none }
def FracFieldWrongFalsely : Prop := fracFieldRow.holds Try.pinned (OpenSpec.ofChange fracFieldWrong)

/-- 'retrospectlaw09.FracTells': WHATEVER THE INPUT: true; the input reads as it did. -/
def fracTellsSpec : ChangeSpec := { name := "fracTells", fn := fun _ => fun
  | [d1, d2] => { results := [.lit (.bool true)], args := [d1, d2] }
  | _ => none }
def fracTellsRow : OpenClaim := { program := "ytokfgmhcmajafaa", sum := "4bca91920d2d0f9e23bcbc7245aa4d35af3bb636a735da4f6a9d64a34e1fc0a6", func := "retrospect/retrospectlaw09.FracTells", spec := "fracTells", apart := false }
def FracTellsSaid : Prop := fracTellsRow.holds Try.pinned (OpenSpec.ofChange fracTellsSpec)

/-- ITS FALSE NEIGHBOUR: 'it returns false'. Refute it at one input. -/
def fracTellsWrong : ChangeSpec := { name := "fracTells", fn := fun _ => fun
  | [d1, d2] => { results := [.lit (.bool false)], args := [d1, d2] }
  | _ => none }
def FracTellsWrongFalsely : Prop := fracTellsRow.holds Try.pinned (OpenSpec.ofChange fracTellsWrong)

/- THE SECOND FORM. 'bulk': how many values and letters a reading holds, each counted each time it is reached (what is shared counts as often as it is met; a slice's spare places count too). A statement '..UptoSaid' is the law's where the arguments, and the package variables that the reading takes, are together of bulk at most 1048576: NARROWER than '..Said'. Prove '..Said' where nothing that the law and all that it calls make is longer than what came in: it says more and counts as full. Else prove '..UptoSaid'. A law counts once. -/
mutual
def uptoBulk {H : Type} : DataW H → Nat
  | .lit (.string bytes) => bytes.length + 1
  | .lit _ => 1
  | .nil => 1
  | .ptr d => uptoBulk d + 1
  | .slice elems spare => uptoBulkAll elems + uptoBulkAll spare + 1
  | .agg parts => uptoBulkAll parts + 1
  | .iface _ d => uptoBulk d + 1
  | .map entries => uptoBulkEntries entries + 1
  | .held _ => 1
def uptoBulkAll {H : Type} : List (DataW H) → Nat
  | [] => 0
  | d :: r => uptoBulk d + uptoBulkAll r
def uptoBulkEntries {H : Type} : List (Lit × DataW H) → Nat
  | [] => 0
  | x :: r => uptoBulkEntry x + uptoBulkEntries r
def uptoBulkEntry {H : Type} : Lit × DataW H → Nat
  | (.string bytes, d) => bytes.length + uptoBulk d + 1
  | (_, d) => uptoBulk d + 1
 end
def uptoSmall : (H : Type) → List (DataW H) → Bool := fun _ ds => decide (uptoBulkAll ds ≤ 1048576)
def OpenSpec.upto (s : _root_.Go.ChangeSpec) : _root_.Go.OpenSpec := { _root_.Go.OpenSpec.ofChange s with cond := some uptoSmall }

/-- 'retrospectlaw13.GaugeMore', WHERE WHAT IT READS IS OF BULK AT MOST 1048576: true; the input reads as it did. -/
def gaugeMoreUptoRow : OpenClaim := { program := "ytokfgmhcmajafaa", sum := "4bca91920d2d0f9e23bcbc7245aa4d35af3bb636a735da4f6a9d64a34e1fc0a6", func := "retrospect/retrospectlaw13.GaugeMore", spec := "gaugeMore", apart := false, narrowed := true }
def GaugeMoreUptoSaid : Prop := gaugeMoreUptoRow.holds Try.pinned (OpenSpec.upto gaugeMoreSpec)

/-- 'retrospectlaw13.GaugePlays', WHERE WHAT IT READS IS OF BULK AT MOST 1048576: true; the input reads as it did. -/
def gaugePlaysUptoRow : OpenClaim := { program := "ytokfgmhcmajafaa", sum := "4bca91920d2d0f9e23bcbc7245aa4d35af3bb636a735da4f6a9d64a34e1fc0a6", func := "retrospect/retrospectlaw13.GaugePlays", spec := "gaugePlays", apart := false, narrowed := true }
def GaugePlaysUptoSaid : Prop := gaugePlaysUptoRow.holds Try.pinned (OpenSpec.upto gaugePlaysSpec)

/-- 'retrospectlaw09.FracPowers', WHERE WHAT IT READS IS OF BULK AT MOST 1048576: true; the input reads as it did. -/
def fracPowersUptoRow : OpenClaim := { program := "ytokfgmhcmajafaa", sum := "4bca91920d2d0f9e23bcbc7245aa4d35af3bb636a735da4f6a9d64a34e1fc0a6", func := "retrospect/retrospectlaw09.FracPowers", spec := "fracPowers", apart := false, narrowed := true }
def FracPowersUptoSaid : Prop := fracPowersUptoRow.holds Try.pinned (OpenSpec.upto fracPowersSpec)

/-- 'retrospectlaw09.FracExponents', WHERE WHAT IT READS IS OF BULK AT MOST 1048576: true; the input reads as it did. -/
def fracExponentsUptoRow : OpenClaim := { program := "ytokfgmhcmajafaa", sum := "4bca91920d2d0f9e23bcbc7245aa4d35af3bb636a735da4f6a9d64a34e1fc0a6", func := "retrospect/retrospectlaw09.FracExponents", spec := "fracExponents", apart := false, narrowed := true }
def FracExponentsUptoSaid : Prop := fracExponentsUptoRow.holds Try.pinned (OpenSpec.upto fracExponentsSpec)

/-- 'retrospectlaw09.FracOrder', WHERE WHAT IT READS IS OF BULK AT MOST 1048576: true; the input reads as it did. -/
def fracOrderUptoRow : OpenClaim := { program := "ytokfgmhcmajafaa", sum := "4bca91920d2d0f9e23bcbc7245aa4d35af3bb636a735da4f6a9d64a34e1fc0a6", func := "retrospect/retrospectlaw09.FracOrder", spec := "fracOrder", apart := false, narrowed := true }
def FracOrderUptoSaid : Prop := fracOrderUptoRow.holds Try.pinned (OpenSpec.upto fracOrderSpec)

/-- 'retrospectlaw09.FracMakes', WHERE WHAT IT READS IS OF BULK AT MOST 1048576: true; the input reads as it did. -/
def fracMakesUptoRow : OpenClaim := { program := "ytokfgmhcmajafaa", sum := "4bca91920d2d0f9e23bcbc7245aa4d35af3bb636a735da4f6a9d64a34e1fc0a6", func := "retrospect/retrospectlaw09.FracMakes", spec := "fracMakes", apart := false, narrowed := true }
def FracMakesUptoSaid : Prop := fracMakesUptoRow.holds Try.pinned (OpenSpec.upto fracMakesSpec)

/-- 'retrospectlaw09.FracSums', WHERE WHAT IT READS IS OF BULK AT MOST 1048576: true; the input reads as it did. -/
def fracSumsUptoRow : OpenClaim := { program := "ytokfgmhcmajafaa", sum := "4bca91920d2d0f9e23bcbc7245aa4d35af3bb636a735da4f6a9d64a34e1fc0a6", func := "retrospect/retrospectlaw09.FracSums", spec := "fracSums", apart := false, narrowed := true }
def FracSumsUptoSaid : Prop := fracSumsUptoRow.holds Try.pinned (OpenSpec.upto fracSumsSpec)

/-- 'retrospectlaw09.FracField', WHERE WHAT IT READS IS OF BULK AT MOST 1048576: true; the input reads as it did. -/
def fracFieldUptoRow : OpenClaim := { program := "ytokfgmhcmajafaa", sum := "4bca91920d2d0f9e23bcbc7245aa4d35af3bb636a735da4f6a9d64a34e1fc0a6", func := "retrospect/retrospectlaw09.FracField", spec := "fracField", apart := false, narrowed := true }
def FracFieldUptoSaid : Prop := fracFieldUptoRow.holds Try.pinned (OpenSpec.upto fracFieldSpec)

/-- 'retrospectlaw09.FracTells', WHERE WHAT IT READS IS OF BULK AT MOST 1048576: true; the input reads as it did. -/
def fracTellsUptoRow : OpenClaim := { program := "ytokfgmhcmajafaa", sum := "4bca91920d2d0f9e23bcbc7245aa4d35af3bb636a735da4f6a9d64a34e1fc0a6", func := "retrospect/retrospectlaw09.FracTells", spec := "fracTells", apart := false, narrowed := true }
def FracTellsUptoSaid : Prop := fracTellsUptoRow.holds Try.pinned (OpenSpec.upto fracTellsSpec)

end Rows
end Go.Proofs.Ytokfgmhcmajafaa
