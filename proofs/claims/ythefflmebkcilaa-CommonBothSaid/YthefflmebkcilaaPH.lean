/- Bit by bit. -/
import Derived.Test.YthefflmebkcilaaPG
namespace Go.Proofs.Ythefflmebkcilaa.Pu
theorem dig_zero (n : Nat) : dig n 0 = List.replicate n 0 := by
  induction n with
  | zero => rfl
  | succ n ih => simp [dig, ih, List.replicate_succ]
theorem half_step (va i : Nat) : va / 2 ^ i = 2 * (va / 2 ^ (i + 1)) + va / 2 ^ i % 2 := by
  rw [Nat.pow_succ, ← Nat.div_div_eq_div_mul]
  omega
theorem bit_round {V Q R vb c : Nat} (hvb : 0 < vb) (hQ : Q = V / vb) (hR : R = V % vb) (hc : c ≤ 1) :
    (vb ≤ 2 * R + c → (2 * V + c) / vb = 2 * Q + 1 ∧ (2 * V + c) % vb = 2 * R + c - vb) ∧ (¬ vb ≤ 2 * R + c → (2 * V + c) / vb = 2 * Q ∧ (2 * V + c) % vb = 2 * R + c) := by
  have hd := Nat.div_add_mod V vb
  have hm := Nat.mod_lt V hvb
  rw [← hQ, ← hR] at hd
  rw [← hR] at hm
  constructor
  · intro h
    have e : 2 * V + c = (2 * R + c - vb) + vb * (2 * Q + 1) := by
      rw [Nat.mul_add, Nat.mul_one, Nat.mul_left_comm]; omega
    rw [e]
    exact ⟨by rw [Nat.add_mul_div_left _ _ hvb, Nat.div_eq_of_lt (by omega), Nat.zero_add], by rw [Nat.add_mul_mod_self_left, Nat.mod_eq_of_lt (by omega)]⟩
  · intro h
    have e : 2 * V + c = (2 * R + c) + vb * (2 * Q) := by
      rw [Nat.mul_left_comm]; omega
    rw [e]
    exact ⟨by rw [Nat.add_mul_div_left _ _ hvb, Nat.div_eq_of_lt (by omega), Nat.zero_add], by rw [Nat.add_mul_mod_self_left, Nat.mod_eq_of_lt (by omega)]⟩
theorem dig_inc {n v : Nat} : (dig (n + 1) (2 * v)).set 0 (((2 * v) % 4294967296 + 1 : Nat) : Int) = dig (n + 1) (2 * v + 1) := by
  simp only [dig, List.set_cons_zero]
  congr 2
  · omega
  · omega
theorem div_bits_zero {v : Nat} (n : Nat) (h : v < 2 ^ n) : v / 2 ^ n = 0 := Nat.div_eq_of_lt h
end Go.Proofs.Ythefflmebkcilaa.Pu
