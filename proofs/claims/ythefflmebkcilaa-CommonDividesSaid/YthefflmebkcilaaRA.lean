/- From the typed readings to data. -/
import Derived.Test.YthefflmebkcilaaGB
import Derived.Below
set_option linter.unusedVariables false
namespace Go.Proofs.Ythefflmebkcilaa.Fw
open Go Pu Go.RowKit
def IsRow (k : IntKind) (w : World) (a : Option Addr) (len cap : Nat) (zs : List Int) : Prop :=
  (a = none ∧ len = 0 ∧ cap = 0 ∧ zs = []) ∨
  ∃ x, a = some x ∧ len ≤ cap ∧ cap ≤ maxLen ∧ zs.length = cap ∧ (∀ i, i < zs.length → w.cell? (x.add i) = some (.int k (zs.getD i 0))) ∧ ∀ n ∈ zs, (Lit.int k n).wf = true
theorem wf_u32 {n : Int} (h : (Lit.int .u32 n).wf = true) : 0 ≤ n ∧ n < 4294967296 := by
  simp [Lit.wf, IntKind.min, IntKind.max, IntKind.signed, IntKind.bits] at h
  omega
def Fall (w : World) : Nat → Prop := fun b => b < w.heap.size
theorem row_words {w : World} {a : Option Addr} {len cap : Nat} {zs : List Int} (h : IsRow .u32 w a len cap zs) : ∃ l : List Int, Wd l ∧ l.length ≤ maxLen ∧ RepL w (Fall w) (.words l) (.slice a len cap) := by
  rcases h with ⟨rfl, rfl, rfl, rfl⟩ | ⟨x, rfl, h1, h2, h3, h4, h5⟩
  · exact ⟨[], Wd.nil, Nat.zero_le _, RepL.nilW _ _⟩
  · have hl : (zs.take len).length = len := by rw [List.length_take]; omega
    refine ⟨zs.take len, fun n hn => wf_u32 (h5 n (List.mem_of_mem_take hn)), by omega, RepL.sl (d := .words (zs.take len)) (sz := 1) (n := len) (fl := (zs.take len).map wd) (by simp only [D.sl?, hl]) (some x) cap ((zs.take len).map fun n => .int .u32 n) h1 h2 (by simp) (fun j u hu => ?_) (fun j d u hd hu => ?_)⟩
    · rw [List.getElem?_map] at hu
      cases hj : (zs.take len)[j]? with
      | none => rw [hj] at hu; cases hu
      | some n =>
        rw [hj] at hu
        simp only [Option.map_some, Option.some.injEq] at hu
        subst hu
        rw [List.getElem?_take] at hj
        split at hj
        · have hlt := (List.getElem?_eq_some_iff.1 hj).1
          have hc := h4 j hlt
          rw [List.getD_eq_getElem?_getD, hj] at hc
          have hb := World.block_lt_of_cell? w _ hc
          rw [add_block] at hb
          exact ⟨x, rfl, hb, hc⟩
        · cases hj
    · rw [List.getElem?_map] at hd hu
      cases hj : (zs.take len)[j]? with
      | none => rw [hj] at hu; cases hu
      | some n =>
        rw [hj] at hd hu
        simp only [Option.map_some, Option.some.injEq] at hd hu
        subst hd; subst hu
        exact RepL.int _ _
theorem law_calls {P : Program} {g : FuncId} {args : List V} {w : World} {vals : List Value} (h : Runs P g args (.d (.bool true))) (ha : AllR (VR1 w (Fall w) (fun _ => undef) (fun _ => none)) args vals) :
    Calls P g vals.toArray w fun e w' => e = .returned (.bool true) ∧ Below w.heap.size w w' := by
  unfold Runs at h
  refine (h.2 (Fall w) w vals (fun b hb => hb) ha).mono ?_
  rintro e w' ⟨v, F', rfl, hv, _, hk⟩
  have : v = .bool true := boolV hv
  exact ⟨by rw [this], ⟨hk.os, hk.tape, hk.output, hk.size, fun k hk' => hk.block k hk' (fun x => x)⟩⟩
end Go.Proofs.Ythefflmebkcilaa.Fw
