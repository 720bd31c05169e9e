/- More of words and numbers. -/
import Derived.Test.YthefflmebkcilaaPA
namespace Go.Proofs.Ythefflmebkcilaa.Pu
theorem Wd.g {a : List Int} (h : Wd a) (i : Nat) : 0 ≤ a.getD i 0 ∧ a.getD i 0 < 4294967296 := h.getD i
theorem split_at {a : List Int} {i : Nat} (h : i < a.length) : a = a.take i ++ (a.getD i 0 :: a.drop (i + 1)) := by
  conv => lhs; rw [← List.take_append_drop i a, List.drop_eq_getElem_cons h]
  rw [List.getD_eq_getElem?_getD, List.getElem?_eq_getElem h]
  rfl
theorem val_split {a : List Int} {i : Nat} (h : i < a.length) : val a = val (a.take i) + 4294967296 ^ i * ((a.getD i 0).toNat + 4294967296 * val (a.drop (i + 1))) := by
  conv => lhs; rw [split_at h, val_app]
  rw [List.length_take, Nat.min_eq_left (by omega)]
  rfl
theorem val_take_lt {a : List Int} (hw : Wd a) (i : Nat) : val (a.take i) < 4294967296 ^ i := by
  have := val_lt (hw.take i)
  refine Nat.lt_of_lt_of_le this (Nat.pow_le_pow_right (by omega) ?_)
  rw [List.length_take]; omega
theorem val_take_drop (a : List Int) (i : Nat) (h : i ≤ a.length) : val a = val (a.take i) + 4294967296 ^ i * val (a.drop i) := by
  conv => lhs; rw [← List.take_append_drop i a, val_app]
  rw [List.length_take, Nat.min_eq_left h]
theorem lt_top {a b : List Int} {i : Nat} (ha : Wd a) (hb : Wd b) (h1 : i < a.length) (h2 : i < b.length) (hd : val (a.drop (i + 1)) = val (b.drop (i + 1))) (hlt : a.getD i 0 < b.getD i 0) : val a < val b := by
  rw [val_split h1, val_split h2, hd]
  have e1 := val_take_lt ha i
  have x0 := (ha.g i).1
  have y0 := (hb.g i).1
  obtain ⟨x, hx⟩ : ∃ x, x = (a.getD i 0).toNat := ⟨_, rfl⟩
  obtain ⟨y, hy⟩ : ∃ y, y = (b.getD i 0).toNat := ⟨_, rfl⟩
  rw [← hx, ← hy]
  have hxy : x + 1 ≤ y := by omega
  generalize val (b.drop (i + 1)) = D
  generalize 4294967296 ^ i = p at e1 ⊢
  have : p * (x + 4294967296 * D) + p ≤ p * (y + 4294967296 * D) := by
    rw [← Nat.mul_succ]
    exact Nat.mul_le_mul_left _ (by omega)
  omega
/-- Adding one word to a value that is written at its end. -/
theorem val_snoc (a : List Int) (x : Int) : val (a ++ [x]) = val a + 4294967296 ^ a.length * x.toNat := by
  rw [val_app]; simp [val]
theorem take_succ_snoc {a : List Int} {i : Nat} (h : i < a.length) : a.take (i + 1) = a.take i ++ [a.getD i 0] := by
  rw [List.take_add_one, List.getElem?_eq_getElem h, List.getD_eq_getElem?_getD, List.getElem?_eq_getElem h]
  rfl
theorem val_take_succ {a : List Int} {i : Nat} (h : i < a.length) : val (a.take (i + 1)) = val (a.take i) + 4294967296 ^ i * (a.getD i 0).toNat := by
  rw [take_succ_snoc h, val_snoc, List.length_take, Nat.min_eq_left (by omega)]
theorem set_len_app (l r : List Int) (x y : Int) : (l ++ x :: r).set l.length y = l ++ y :: r := by
  induction l with
  | nil => rfl
  | cons a l ih => simp
/-- what lies behind the end is 0 -/
theorem val_take_ge {a : List Int} {i : Nat} (h : a.length ≤ i) : val (a.take i) = val a := by rw [List.take_of_length_le h]
theorem getD_ge {a : List Int} {i : Nat} (h : a.length ≤ i) : a.getD i 0 = 0 := by rw [List.getD_eq_getElem?_getD, List.getElem?_eq_none h]; rfl
/-- with 0 behind the end, for every i -/
theorem val_take_succ' {a : List Int} (i : Nat) : val (a.take (i + 1)) = val (a.take i) + 4294967296 ^ i * (a.getD i 0).toNat := by
  by_cases h : i < a.length
  · exact val_take_succ h
  · rw [val_take_ge (by omega), val_take_ge (by omega), getD_ge (by omega)]; simp
theorem take_set_ge {a : List Int} {i k : Nat} {x : Int} (h : k ≤ i) : (a.set i x).take k = a.take k := by
  rw [List.take_set_of_le h]
theorem val_take_set {a : List Int} {i : Nat} {x : Int} (h : i < a.length) : val ((a.set i x).take (i + 1)) = val (a.take i) + 4294967296 ^ i * x.toNat := by
  rw [val_take_succ (by simpa using h), take_set_ge (Nat.le_refl _)]
  congr 3
  rw [List.getD_eq_getElem?_getD, List.getElem?_set_self h]; rfl
theorem val_set_last {a : List Int} {i : Nat} {x : Int} (h : i + 1 = a.length) : val (a.set i x) = val (a.take i) + 4294967296 ^ i * x.toNat := by
  rw [← val_take_set (by omega), List.take_of_length_le (by simp; omega)]
def cmpI (m n : Nat) : Int := if m < n then -1 else if n < m then 1 else 0
theorem cmpI_lt {m n : Nat} : cmpI m n < 0 ↔ m < n := by unfold cmpI; split; omega; split <;> omega
theorem cmpI_eq {m n : Nat} : cmpI m n = 0 ↔ m = n := by unfold cmpI; split; omega; split <;> omega
theorem cmpI_gt {m n : Nat} : 0 < cmpI m n ↔ n < m := by unfold cmpI; split; omega; split <;> omega
end Go.Proofs.Ythefflmebkcilaa.Pu
