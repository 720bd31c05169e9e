/- Bits of a number. -/
import Derived.Test.YthefflmebkcilaaPF
namespace Go.Proofs.Ythefflmebkcilaa.Pu
theorem val_div_pow {a : List Int} (hw : Wd a) {j : Nat} (hj : j ≤ a.length) : val a / 4294967296 ^ j = val (a.drop j) := by
  rw [val_take_drop a j hj]
  have h := val_take_lt hw j
  rw [Nat.add_mul_div_left _ _ (by omega), Nat.div_eq_of_lt h, Nat.zero_add]
theorem pow_split (j r : Nat) : 2 ^ (32 * j + r) = 4294967296 ^ j * 2 ^ r := by
  rw [Nat.pow_add, Nat.pow_mul]
theorem bit_word {a : List Int} (hw : Wd a) {j r : Nat} (hj : j < a.length) (hr : r < 32) : val a / 2 ^ (32 * j + r) % 2 = (a.getD j 0).toNat / 2 ^ r % 2 := by
  rw [pow_split, ← Nat.div_div_eq_div_mul, val_div_pow hw (by omega), val_drop_cons' a j]
  have hc := pow32 (n := r) (by omega)
  have h2 : 2 ^ (32 - r) = 2 * 2 ^ (31 - r) := by rw [show 32 - r = (31 - r) + 1 by omega, Nat.pow_succ, Nat.mul_comm]
  have hp : 0 < 2 ^ r := Nat.two_pow_pos r
  rw [← hc, Nat.mul_assoc, Nat.add_mul_div_left _ _ hp, h2, Nat.mul_assoc, Nat.add_mul_mod_self_left]
theorem bit_high {a : List Int} (hw : Wd a) {j r : Nat} (hj : a.length ≤ j) : val a / 2 ^ (32 * j + r) = 0 := by
  apply Nat.div_eq_of_lt
  rw [pow_split]
  refine Nat.lt_of_lt_of_le (val_lt hw) (Nat.le_trans (Nat.pow_le_pow_right (by omega) hj) (Nat.le_mul_of_pos_right _ (Nat.two_pow_pos r)))
theorem val_lt_bits {a : List Int} (hw : Wd a) : val a < 2 ^ (32 * a.length) := by
  have := val_lt hw
  have e := pow_split a.length 0
  rw [Nat.add_zero, Nat.pow_zero, Nat.mul_one] at e
  rw [e]; exact this
/-- a bit that is 0 at the top -/
theorem lt_of_bit {v n : Nat} (h : v < 2 ^ (n + 1)) (hb : v / 2 ^ n % 2 ≠ 1) : v < 2 ^ n := by
  rcases Nat.lt_or_ge v (2 ^ n) with h1 | h1
  · exact h1
  · exfalso
    have hp : 0 < 2 ^ n := Nat.two_pow_pos n
    have h2 : v / 2 ^ n < 2 := by rw [Nat.div_lt_iff_lt_mul hp, Nat.mul_comm, ← Nat.pow_succ]; exact h
    have h3 : 0 < v / 2 ^ n := Nat.div_pos h1 hp
    omega
end Go.Proofs.Ythefflmebkcilaa.Pu
