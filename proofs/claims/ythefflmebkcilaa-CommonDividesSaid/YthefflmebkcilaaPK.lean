/- Of one word of a quotient. -/
namespace Go.Proofs.Ythefflmebkcilaa.Pu
/-- the guess by the highest words is not too small -/
theorem qhat_ge {R b A D M r b' : Nat} (hR : R = A * M + r) (hr : r < M) (hb : b = D * M + b') (hD : 0 < D) : R / b ≤ A / D := by
  rw [Nat.le_div_iff_mul_le hD]
  have h1 : R / b * b ≤ R := Nat.div_mul_le_self R b
  have h2 : R / b * (D * M) ≤ R / b * b := Nat.mul_le_mul_left _ (by omega)
  have h3 : R / b * D * M < (A + 1) * M := by
    rw [Nat.mul_assoc, Nat.add_mul]; omega
  have := Nat.lt_of_mul_lt_mul_right h3
  omega
/-- .. and at most by one too great -/
theorem qhat_le {R b A D M r b' q : Nat} (hR : R = A * M + r) (hb : b = D * M + b') (hb' : b' < M) (hD : 0 < D) (hq : q * D ≤ A) (hqD : q ≤ D + 1) : q ≤ R / b + 1 := by
  apply Nat.le_of_not_lt
  intro hlt
  have hb0 : 0 < b := by
    have : 0 < D * M := Nat.mul_pos hD (by omega)
    omega
  have h1 : R < (R / b + 1) * b := by
    have := Nat.lt_div_mul_add (a := R) hb0
    rw [Nat.add_mul]; omega
  have h2 : (R / b + 1) * b ≤ (q - 1) * b := Nat.mul_le_mul_right _ (by omega)
  have h3 : q * D * M ≤ A * M := Nat.mul_le_mul_right _ hq
  have h4 : (q - 1) * b ≤ (q - 1) * ((D + 1) * M) := Nat.mul_le_mul_left _ (by rw [hb, Nat.add_mul]; omega)
  have h5 : q * D * M < (q - 1) * (D + 1) * M := by rw [Nat.mul_assoc (q - 1)]; omega
  have h6 := Nat.lt_of_mul_lt_mul_right h5
  clear h1 h2 h3 h4 h5 hlt
  cases q with
  | zero => omega
  | succ p =>
    simp only [Nat.add_sub_cancel] at h6
    rw [Nat.add_mul, Nat.mul_add] at h6
    omega
end Go.Proofs.Ythefflmebkcilaa.Pu
