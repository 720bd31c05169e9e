/- The n lowest words of a number; rows in three parts. -/
import Derived.Test.YthefflmebkcilaaPB
namespace Go.Proofs.Ythefflmebkcilaa.Pu
def dig : Nat → Nat → List Int
  | 0, _ => []
  | n + 1, v => ((v % 4294967296 : Nat) : Int) :: dig n (v / 4294967296)
theorem dig_len (n v : Nat) : (dig n v).length = n := by
  induction n generalizing v with
  | zero => rfl
  | succ n ih => simp [dig, ih]
theorem Wd.dig (n v : Nat) : Wd (dig n v) := by
  induction n generalizing v with
  | zero => exact Wd.nil
  | succ n ih => exact Wd.cons (by omega) (by omega) (ih _)
theorem val_dig (n v : Nat) : val (dig n v) = v % 4294967296 ^ n := by
  induction n generalizing v with
  | zero => simp [Pu.dig, val, Nat.mod_one]
  | succ n ih =>
    simp only [Pu.dig, val, ih]
    rw [Nat.pow_succ, Nat.mul_comm (4294967296 ^ n) 4294967296, Nat.mod_mul, Int.toNat_natCast]
theorem val_dig_lt {n v : Nat} (h : v < 4294967296 ^ n) : val (dig n v) = v := by rw [val_dig, Nat.mod_eq_of_lt h]
theorem dig_val {l : List Int} (hw : Wd l) : dig l.length (val l) = l := by
  induction l with
  | nil => rfl
  | cons x l ih =>
    have h0 := hw.head
    have e1 : ((val (x :: l) % 4294967296 : Nat) : Int) = x := by simp only [val]; omega
    have e2 : val (x :: l) / 4294967296 = val l := by simp only [val]; omega
    simp only [List.length_cons, Pu.dig, e1, e2, ih hw.tail]
theorem dig_eq {l : List Int} {n v : Nat} (hw : Wd l) (hl : l.length = n) (hv : val l = v) : l = dig n v := by
  subst hl; subst hv; exact (dig_val hw).symm
/-- the value tells a row of a given length -/
theorem val_inj {l m : List Int} (hl : Wd l) (hm : Wd m) (h : l.length = m.length) (hv : val l = val m) : l = m := by
  rw [← dig_val hl, ← dig_val hm, h, hv]
theorem mid_set {L m R : List Int} {i j : Nat} {x : Int} (hi : i = L.length + j) (hj : j < m.length) : (L ++ (m ++ R)).set i x = L ++ (m.set j x ++ R) := by
  subst hi
  rw [List.set_append_right _ _ (by omega), Nat.add_sub_cancel_left, List.set_append_left _ _ hj]
theorem mid_get {L m R : List Int} {i j : Nat} (hi : i = L.length + j) (hj : j < m.length) : (L ++ (m ++ R)).getD i 0 = m.getD j 0 := by
  subst hi
  simp only [List.getD_eq_getElem?_getD]
  rw [List.getElem?_append_right (by omega), Nat.add_sub_cancel_left, List.getElem?_append_left hj]
theorem mid_elem {L m R : List Int} {i j : Nat} (hi : i = L.length + j) (hj : j < m.length) : (L ++ (m ++ R))[i]? = some (m.getD j 0) := by
  subst hi
  rw [List.getElem?_append_right (by omega), Nat.add_sub_cancel_left, List.getElem?_append_left hj, List.getD_eq_getElem?_getD, List.getElem?_eq_getElem hj]
  rfl
theorem getD_setne {a : List Int} {i j : Nat} {x : Int} (h : i ≠ j) : (a.set i x).getD j 0 = a.getD j 0 := by
  simp only [List.getD_eq_getElem?_getD]
  rw [List.getElem?_set_ne h]
theorem three (a : List Int) (i k : Nat) : a = a.take i ++ ((a.drop i).take k ++ a.drop (i + k)) := by
  rw [← List.drop_drop, List.take_append_drop, List.take_append_drop]
theorem row_step {A q C D K : Nat} {x y m c : Int} (hx : 0 ≤ x) (hy : 0 ≤ y) (hm : 0 ≤ m) (hc : 0 ≤ c) (h : A + q * c.toNat = x.toNat * C + D + K) :
    A + q * ((x * y + m + c) % 4294967296).toNat + q * 4294967296 * ((x * y + m + c) / 4294967296).toNat = x.toNat * (C + q * y.toNat) + (D + q * m.toNat) + K := by
  obtain ⟨x, rfl⟩ := Int.eq_ofNat_of_zero_le hx
  obtain ⟨y, rfl⟩ := Int.eq_ofNat_of_zero_le hy
  obtain ⟨m, rfl⟩ := Int.eq_ofNat_of_zero_le hm
  obtain ⟨c, rfl⟩ := Int.eq_ofNat_of_zero_le hc
  simp only [Int.toNat_natCast] at h ⊢
  have e : ((x : Int) * y + m + c) = ((x * y + m + c : Nat) : Int) := by simp
  rw [e]
  generalize ht : x * y + m + c = t
  have e1 : (((t : Nat) : Int) % 4294967296).toNat = t % 4294967296 := by omega
  have e2 : (((t : Nat) : Int) / 4294967296).toNat = t / 4294967296 := by omega
  rw [e1, e2]
  have e3 : q * (t % 4294967296) + q * 4294967296 * (t / 4294967296) = q * t := by
    rw [Nat.mul_assoc, ← Nat.mul_add, Nat.mod_add_div]
  have e4 : q * t = q * (x * y) + q * m + q * c := by rw [← ht, Nat.mul_add, Nat.mul_add]
  have e5 : x * (C + q * y) = x * C + q * (x * y) := by rw [Nat.mul_add]; congr 1; rw [Nat.mul_left_comm]
  rw [e5]
  omega
theorem val_three (a : List Int) (i : Nat) (h : i ≤ a.length) : val a = val (a.take i) + 4294967296 ^ i * val (a.drop i) := val_take_drop a i h
theorem val_parts (L m R : List Int) : val (L ++ (m ++ R)) = val L + 4294967296 ^ L.length * (val m + 4294967296 ^ m.length * val R) := by rw [val_app, val_app]
theorem mul_lt_pow {x A n : Nat} (hx : x < 4294967296) (hA : A < 4294967296 ^ n) : x * A + (4294967296 ^ n - 1) < 4294967296 ^ (n + 1) := by
  rw [Nat.pow_succ]
  generalize 4294967296 ^ n = p at hA ⊢
  have : x * A ≤ 4294967295 * (p - 1) := Nat.mul_le_mul (by omega) (by omega)
  omega
theorem mul_step {x A D n : Nat} (hx : x < 4294967296) (hA : A < 4294967296 ^ n) (hD : D < 4294967296 ^ n) : x * A + D < 4294967296 ^ (n + 1) := by
  have := mul_lt_pow hx hA
  omega
/-- what lies high in a small number is 0 -/
theorem val_drop_zero {a : List Int} {i : Nat} (hi : i ≤ a.length) (h : val a < 4294967296 ^ i) : val (a.drop i) = 0 := by
  rw [val_take_drop a i hi] at h
  rcases Nat.eq_zero_or_pos (val (a.drop i)) with h0 | h0
  · exact h0
  · have : 4294967296 ^ i * 1 ≤ 4294967296 ^ i * val (a.drop i) := Nat.mul_le_mul_left _ h0
    omega
theorem val_set {a : List Int} {i : Nat} {x : Int} (h : i < a.length) : val (a.set i x) + 4294967296 ^ i * (a.getD i 0).toNat = val a + 4294967296 ^ i * x.toNat := by
  have e1 := val_split (a := a.set i x) (i := i) (by simpa using h)
  have e2 := val_split (a := a) (i := i) h
  have e3 : (a.set i x).getD i 0 = x := by rw [List.getD_eq_getElem?_getD, List.getElem?_set_self h]; rfl
  have e4 : (a.set i x).drop (i + 1) = a.drop (i + 1) := by rw [List.drop_set_of_lt (by omega)]
  rw [take_set_ge (Nat.le_refl _), e3, e4, Nat.mul_add] at e1
  rw [Nat.mul_add] at e2
  omega
theorem getD_setself {a : List Int} {i : Nat} {x : Int} (h : i < a.length) : (a.set i x).getD i 0 = x := by rw [List.getD_eq_getElem?_getD, List.getElem?_set_self h]; rfl
theorem val_drop_cons {a : List Int} {i : Nat} (h : i < a.length) : val (a.drop i) = (a.getD i 0).toNat + 4294967296 * val (a.drop (i + 1)) := by
  rw [List.drop_eq_getElem_cons h, List.getD_eq_getElem?_getD, List.getElem?_eq_getElem h]; rfl
theorem val_drop_cons' (a : List Int) (i : Nat) : val (a.drop i) = (a.getD i 0).toNat + 4294967296 * val (a.drop (i + 1)) := by
  by_cases h : i < a.length
  · exact val_drop_cons h
  · rw [List.drop_eq_nil_of_le (by omega), List.drop_eq_nil_of_le (by omega), getD_ge (by omega)]; rfl
theorem pow32 {n : Nat} (h : n ≤ 32) : 2 ^ n * 2 ^ (32 - n) = 4294967296 := by rw [← Nat.pow_add, show n + (32 - n) = 32 by omega]
/-- one word of a number that is shifted down -/
theorem down_step {n x y V : Nat} (hn : n ≤ 32) (hx : x < 4294967296) (hV : V % 2 ^ n = y % 2 ^ n) :
    ((x + 4294967296 * y) / 2 ^ n) % 4294967296 + 4294967296 * (V / 2 ^ n) = (x + 4294967296 * V) / 2 ^ n := by
  have hc := pow32 hn
  have hp : 0 < 2 ^ n := Nat.two_pow_pos n
  generalize 2 ^ (32 - n) = c at hc
  generalize 2 ^ n = p at hc hV hp ⊢
  have e : ∀ z, (x + 4294967296 * z) / p = x / p + c * z := by
    intro z
    rw [← hc, Nat.mul_assoc, Nat.add_mul_div_left _ _ hp]
  rw [e, e]
  have h1 : x / p < c := (Nat.div_lt_iff_lt_mul hp).2 (by rw [Nat.mul_comm c p, hc]; exact hx)
  have hy := Nat.div_add_mod y p
  have hv := Nat.div_add_mod V p
  rw [hV] at hv
  have hr : y % p < p := Nat.mod_lt _ hp
  have h2 : c * y = 4294967296 * (y / p) + c * (y % p) := by
    conv => lhs; rw [← hy, Nat.mul_add, ← Nat.mul_assoc, Nat.mul_comm c p, hc]
  have h3 : c * V = 4294967296 * (V / p) + c * (y % p) := by
    conv => lhs; rw [← hv, Nat.mul_add, ← Nat.mul_assoc, Nat.mul_comm c p, hc]
  have h4 : c * (y % p) + c ≤ 4294967296 := by
    rw [← hc, ← Nat.mul_succ, Nat.mul_comm p c]
    exact Nat.mul_le_mul_left _ hr
  rw [h2, h3]
  clear e hV hy hv hr h2 h3
  generalize x / p = u at h1 ⊢
  generalize c * (y % p) = z at h4 ⊢
  generalize y / p = q
  generalize V / p = r
  have : (u + (4294967296 * q + z)) % 4294967296 = u + z := by omega
  rw [this]
  omega
theorem val_mod (a : List Int) (i : Nat) {n : Nat} (hn : n ≤ 32) : val (a.drop i) % 2 ^ n = (a.getD i 0).toNat % 2 ^ n := by
  rw [val_drop_cons', ← pow32 hn, Nat.mul_assoc, Nat.add_mul_mod_self_left]
theorem up_step {out : List Int} {i : Nat} {w v : Int} {u r d : Nat} (h : i + 1 < out.length) (hu : (out.getD i 0).toNat = u) (hz : (out.getD (i + 1) 0).toNat = 0) (hw : w.toNat = u + r) (hv : v.toNat = d) :
    val ((out.set i w).set (i + 1) v) = val out + 4294967296 ^ i * r + 4294967296 ^ (i + 1) * d := by
  have v1 := val_set (a := out) (i := i) (x := w) (by omega)
  have v2 := val_set (a := out.set i w) (i := i + 1) (x := v) (by rw [List.length_set]; omega)
  rw [getD_setne (by omega), hz, hv, Nat.mul_zero, Nat.add_zero] at v2
  rw [hu, hw, Nat.mul_add] at v1
  rw [v2]
  generalize 4294967296 ^ (i + 1) * d = z
  generalize 4294967296 ^ i * u = y at v1
  generalize 4294967296 ^ i * r = t at v1 ⊢
  omega
theorem up_sum {q X d r : Nat} (h : 4294967296 * d + r = X) : q * r + q * 4294967296 * d = q * X := by
  rw [← h, Nat.mul_add, Nat.mul_assoc, Nat.add_comm]
end Go.Proofs.Ythefflmebkcilaa.Pu
