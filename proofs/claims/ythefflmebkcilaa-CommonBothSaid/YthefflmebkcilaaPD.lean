/- The guess at a word of a quotient. -/
import Derived.Test.YthefflmebkcilaaPC
import Derived.Test.YthefflmebkcilaaPK
namespace Go.Proofs.Ythefflmebkcilaa.Pu
section
variable {W a2 a1 a0 b1 b0 q r : Nat}
theorem guess_eq (hI : q * b1 + r = a2 * W + a1) : q * (b1 * W + b0) + (r * W + a0) = (a2 * W + a1) * W + a0 + q * b0 := by
  rw [← hI, Nat.mul_add, ← Nat.mul_assoc, Nat.add_mul]
  omega
theorem guess_le (hD : 0 < b1 * W + b0) (hI : q * b1 + r = a2 * W + a1) (h : q * b0 ≤ r * W + a0) : q ≤ ((a2 * W + a1) * W + a0) / (b1 * W + b0) := by
  have := guess_eq (b0 := b0) (a0 := a0) hI
  rw [Nat.le_div_iff_mul_le hD]
  omega
theorem guess_gt (hD : 0 < b1 * W + b0) (hI : q * b1 + r = a2 * W + a1) (h : r * W + a0 < q * b0) : ((a2 * W + a1) * W + a0) / (b1 * W + b0) < q := by
  have := guess_eq (b0 := b0) (a0 := a0) hI
  rw [Nat.div_lt_iff_lt_mul hD]
  omega
end
def gW (W a2 a1 a0 b1 b0 : Nat) : Nat := min (((a2 * W + a1) * W + a0) / (b1 * W + b0)) (W - 1)
theorem gW_lt {W a2 a1 a0 b1 b0 : Nat} (h : 0 < W) : gW W a2 a1 a0 b1 b0 < W := by
  unfold gW
  omega
theorem gW_stop {W a2 a1 a0 b1 b0 q r : Nat} (hD : 0 < b1 * W + b0) (hI : q * b1 + r = a2 * W + a1) (h : q * b0 ≤ r * W + a0) (hq : q < W) (hG : gW W a2 a1 a0 b1 b0 ≤ q) : q = gW W a2 a1 a0 b1 b0 := by
  have := guess_le hD hI h
  unfold gW at hG ⊢
  omega
theorem gW_go {W a2 a1 a0 b1 b0 q r : Nat} (hD : 0 < b1 * W + b0) (hI : q * b1 + r = a2 * W + a1) (h : r * W + a0 < q * b0) : gW W a2 a1 a0 b1 b0 < q := by
  have := guess_gt hD hI h
  unfold gW
  omega
theorem gW_start {W a2 a1 a0 b1 b0 : Nat} (hb : 0 < b1) (hW : 0 < W) (h1 : a1 < W) (hlt : a2 < b1) (h0 : a0 < W) : gW W a2 a1 a0 b1 b0 ≤ (a2 * W + a1) / b1 := by
  have hD : 0 < b1 * W + b0 := by have := Nat.mul_pos hb hW; omega
  have e : (a2 * W + a1) / b1 * b1 + (a2 * W + a1) % b1 = a2 * W + a1 := by rw [Nat.mul_comm]; exact Nat.div_add_mod _ _
  have hr : (a2 * W + a1) % b1 < b1 := Nat.mod_lt _ hb
  have key : ((a2 * W + a1) * W + a0) / (b1 * W + b0) < (a2 * W + a1) / b1 + 1 := by
    rw [Nat.div_lt_iff_lt_mul hD, Nat.mul_add, ← Nat.mul_assoc, Nat.succ_mul]
    have h2 : (a2 * W + a1) * W + W ≤ ((a2 * W + a1) / b1 * b1 + b1) * W := by
      rw [← Nat.succ_mul]
      exact Nat.mul_le_mul_right _ (by omega)
    omega
  unfold gW
  omega
/-- with the first word too great, the guess is the greatest -/
theorem gW_top {W a2 a1 a0 b1 b0 : Nat} (hW : 0 < W) (hb0 : b0 < W) (hb : 0 < b1) (h : b1 < a2 ∨ (a2 = b1 ∧ W ≤ a1 + b1)) : gW W a2 a1 a0 b1 b0 = W - 1 := by
  have hD : 0 < b1 * W + b0 := by have := Nat.mul_pos hb hW; omega
  have key : W - 1 ≤ ((a2 * W + a1) * W + a0) / (b1 * W + b0) := by
    rw [Nat.le_div_iff_mul_le hD]
    obtain ⟨V, rfl⟩ : ∃ V, W = V + 1 := ⟨W - 1, by omega⟩
    rw [Nat.add_sub_cancel]
    rcases h with h | ⟨rfl, h⟩
    · have h1 : (b1 + 1) * (V + 1) ≤ a2 * (V + 1) := Nat.mul_le_mul_right _ h
      have h2 : ((b1 + 1) * (V + 1)) * (V + 1) ≤ (a2 * (V + 1) + a1) * (V + 1) := Nat.mul_le_mul_right _ (by omega)
      have h3 : V * (b1 * (V + 1) + b0) ≤ (V + 1) * (b1 * (V + 1) + (V + 1)) := Nat.mul_le_mul (by omega) (by omega)
      have h4 : (V + 1) * (b1 * (V + 1) + (V + 1)) = ((b1 + 1) * (V + 1)) * (V + 1) := by rw [Nat.add_mul b1 1, Nat.one_mul, Nat.mul_comm]
      omega
    · have h1 : (V + 1) * (V + 1) ≤ (a1 + a2) * (V + 1) := Nat.mul_le_mul_right _ h
      have h2 : V * b0 ≤ (V + 1) * (V + 1) := Nat.mul_le_mul (by omega) (by omega)
      have h3 : V * (a2 * (V + 1) + b0) = V * (a2 * (V + 1)) + V * b0 := Nat.mul_add _ _ _
      have h4 : (a2 * (V + 1) + a1) * (V + 1) = V * (a2 * (V + 1)) + (a1 + a2) * (V + 1) := by
        rw [Nat.add_mul, Nat.add_mul, ← Nat.add_assoc]
        have : a2 * (V + 1) * (V + 1) = V * (a2 * (V + 1)) + a2 * (V + 1) := by rw [Nat.mul_comm (a2 * (V + 1)) (V + 1), Nat.succ_mul]
        omega
      omega
  unfold gW
  omega
end Go.Proofs.Ythefflmebkcilaa.Pu
