/- How long numbers are; common divisors. -/
import Derived.Test.YthefflmebkcilaaPF
import Derived.Test.YthefflmebkcilaaPG
namespace Go.Proofs.Ythefflmebkcilaa.Pu
theorem nw_mul (m n : Nat) : (toW (m * n)).length ≤ (toW m).length + (toW n).length := by
  rw [toW_len_iff, Nat.pow_add]
  have h1 := val_lt (Wd.toW m)
  have h2 := val_lt (Wd.toW n)
  rw [val_toW] at h1 h2
  rcases Nat.eq_zero_or_pos n with h0 | h0
  · subst h0; rw [Nat.mul_zero]; exact Nat.mul_pos (Nat.pow_pos (by omega)) (Nat.pow_pos (by omega))
  · exact Nat.lt_of_lt_of_le (Nat.mul_lt_mul_of_pos_right h1 h0) (Nat.mul_le_mul_left _ (Nat.le_of_lt h2))
theorem nw_add {m n k : Nat} (h1 : (toW m).length ≤ k) (h2 : (toW n).length ≤ k) : (toW (m + n)).length ≤ k + 1 := by
  rw [toW_len_iff] at *
  rw [Nat.pow_succ]
  omega
theorem nw_le {m n k : Nat} (h : m ≤ n) (hk : (toW n).length ≤ k) : (toW m).length ≤ k := Nat.le_trans (toW_len_mono h) hk
theorem nw_val {a : List Int} (h : Wd a) {k : Nat} (hk : a.length ≤ k) : (toW (val a)).length ≤ k := Nat.le_trans (toW_len_val_le h) hk
theorem nw_two {n : Nat} : (toW n).length ≤ 2 ↔ n < 18446744073709551616 := by
  rw [toW_len_iff, show (4294967296 : Nat) ^ 2 = 18446744073709551616 from rfl]
theorem nw_one {n : Nat} (h0 : n ≠ 0) (h : n < 4294967296) : toW n = [(n : Int)] := by
  rw [toW_pos h0, Nat.div_eq_of_lt h, toW_zero, Nat.mod_eq_of_lt h]
theorem toW_is_one {n : Nat} : (toW n).length = 1 ∧ (toW n).getD 0 0 = 1 ↔ n = 1 := by
  constructor
  · rintro ⟨h1, h2⟩
    have h3 := val_toW n
    match hh : toW n, h1 with
    | [x], _ =>
      rw [hh] at h2 h3
      have hx : x = 1 := h2
      subst hx
      exact h3.symm
  · intro h
    subst h
    rw [nw_one (by omega) (by omega)]
    exact ⟨rfl, rfl⟩
theorem or_cat (h l : Nat) (hl : l < 4294967296) : h * 4294967296 ||| l = h * 4294967296 + l := by
  have := Nat.two_pow_add_eq_or_of_lt (i := 32) (b := l) hl h
  rw [show h * 4294967296 = 2 ^ 32 * h by omega, ← this]
theorem gcd_step (m n : Nat) : Nat.gcd n (m % n) = Nat.gcd m n := by
  rw [Nat.gcd_comm n (m % n), Nat.gcd_comm m n, Nat.gcd_rec n m]
end Go.Proofs.Ythefflmebkcilaa.Pu
