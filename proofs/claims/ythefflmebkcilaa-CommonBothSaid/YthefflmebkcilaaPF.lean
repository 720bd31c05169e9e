/- One word of a long quotient. -/
import Derived.Test.YthefflmebkcilaaPE
namespace Go.Proofs.Ythefflmebkcilaa.Pu
theorem guess_ok {W a2 a1 a0 b1 b0 M r b' R vb : Nat} (hW : 0 < W) (hR : R = ((a2 * W + a1) * W + a0) * M + r) (hr : r < M) (hb : vb = (b1 * W + b0) * M + b') (hb' : b' < M) (hb1 : 0 < b1) (hlt : R < W * vb) :
    R / vb ≤ gW W a2 a1 a0 b1 b0 ∧ gW W a2 a1 a0 b1 b0 ≤ R / vb + 1 := by
  have hD : 0 < b1 * W + b0 := by have := Nat.mul_pos hb1 hW; omega
  have hvb : 0 < vb := by
    rcases Nat.eq_zero_or_pos vb with h | h
    · subst h; simp at hlt
    · exact h
  have h1 := qhat_ge hR hr hb hD
  have h2 : R / vb < W := (Nat.div_lt_iff_lt_mul hvb).2 hlt
  have hDW : W ≤ b1 * W + b0 := by have := Nat.mul_le_mul_right W hb1; omega
  refine ⟨by unfold gW; omega, ?_⟩
  refine qhat_le hR hb hb' hD ?_ ?_
  · have : gW W a2 a1 a0 b1 b0 ≤ ((a2 * W + a1) * W + a0) / (b1 * W + b0) := Nat.min_le_left _ _
    exact (Nat.le_div_iff_mul_le hD).1 this
  · have := gW_lt (W := W) (a2 := a2) (a1 := a1) (a0 := a0) (b1 := b1) (b0 := b0) hW
    omega
theorem top3 {M : List Int} {n : Nat} (hl : M.length = n + 3) : val M = (((M.getD (n + 2) 0).toNat * 4294967296 + (M.getD (n + 1) 0).toNat) * 4294967296 + (M.getD n 0).toNat) * 4294967296 ^ n + val (M.take n) := by
  rw [val_take_drop M n (by omega), val_drop_cons' M n, val_drop_cons' M (n + 1), val_drop_cons' M (n + 1 + 1), List.drop_eq_nil_of_le (by omega)]
  simp only [val, Nat.mul_zero, Nat.add_zero]
  generalize (M.getD (n + 1 + 1) 0).toNat = x
  generalize (M.getD (n + 1) 0).toNat = y
  generalize (M.getD n 0).toNat = z
  rw [Nat.add_comm, Nat.mul_comm (4294967296 ^ n)]
  congr 2
  rw [Nat.add_comm z, Nat.mul_comm _ 4294967296, Nat.mul_comm 4294967296 x, Nat.add_comm y]
theorem top2 {M : List Int} {n : Nat} (hl : M.length = n + 2) : val M = ((M.getD (n + 1) 0).toNat * 4294967296 + (M.getD n 0).toNat) * 4294967296 ^ n + val (M.take n) := by
  rw [val_take_drop M n (by omega), val_drop_cons' M n, val_drop_cons' M (n + 1), List.drop_eq_nil_of_le (by omega)]
  simp only [val, Nat.mul_zero, Nat.add_zero]
  generalize (M.getD (n + 1) 0).toNat = y
  generalize (M.getD n 0).toNat = z
  rw [Nat.add_comm, Nat.mul_comm (4294967296 ^ n)]
  congr 2
  rw [Nat.add_comm z, Nat.mul_comm 4294967296 y]
theorem getD_mid {a : List Int} {i k j : Nat} (h : j < k) : ((a.drop i).take k).getD j 0 = a.getD (i + j) 0 := by
  simp only [List.getD_eq_getElem?_getD]
  rw [List.getElem?_take, if_pos h, List.getElem?_drop]
/-- what is left behind taking away, and giving back once if that was one too many -/
theorem left_over {N R vb x : Nat} (hvb : 0 < vb) (h1 : R / vb ≤ x) (h2 : x ≤ R / vb + 1) (hN : vb < N) (hQ : x * vb < N) :
    (¬ R < x * vb → x = R / vb ∧ takeN N R (x * vb) = R % vb) ∧ (R < x * vb → x = R / vb + 1 ∧ takeN N R (x * vb) < N ∧ (takeN N R (x * vb) + vb) % N = R % vb) := by
  have hd := Nat.div_add_mod R vb
  have hm := Nat.mod_lt R hvb
  have hcase : x = R / vb ∨ x = R / vb + 1 := by omega
  generalize R / vb = q at *
  generalize R % vb = r at *
  unfold takeN
  rw [Nat.mul_comm] at hd
  rcases hcase with rfl | rfl
  · exact ⟨fun h => ⟨rfl, by rw [if_neg h]; omega⟩, fun h => by omega⟩
  · rw [Nat.succ_mul] at hQ ⊢
    refine ⟨fun h => by omega, fun h => ⟨rfl, by rw [if_pos h]; omega, ?_⟩⟩
    rw [if_pos h]
    have : R + N - (q * vb + vb) + vb = r + N := by omega
    rw [this, Nat.add_mod_right, Nat.mod_eq_of_lt (by omega)]
theorem long_round {a c q L R : List Int} {i n la m vb y : Nat} (hi : i < m) (hLl : L.length = i) (hL : L = c.take i) (len3 : ∀ v, (L ++ (dig (n + 3) v ++ R)).length = la) (hwL : Wd L) (hwR : Wd R) (hR0 : val R = 0) (hql : q.length = m) (hwq : Wd q)
    (hvb : 0 < vb) (hN : vb < 4294967296 ^ (n + 3)) (hRlt : val (c.drop i) < 4294967296 * vb) (hsame : c.take (i + 1) = a.take (i + 1)) (hRd : val (c.drop i) = (c.getD i 0).toNat + 4294967296 * val (c.drop (i + 1)))
    (hv : val (q.drop (i + 1)) * vb + val (c.drop (i + 1)) = val (a.drop (i + 1))) (hy : y = val (c.drop i) / vb) :
    i ≤ m ∧ (L ++ (dig (n + 3) (val (c.drop i) % vb) ++ R)).length = la ∧ Wd (L ++ (dig (n + 3) (val (c.drop i) % vb) ++ R)) ∧ (q.set i (y : Int)).length = m ∧ Wd (q.set i (y : Int)) ∧ val ((L ++ (dig (n + 3) (val (c.drop i) % vb) ++ R)).drop i) < vb ∧
      val ((q.set i (y : Int)).drop i) * vb + val ((L ++ (dig (n + 3) (val (c.drop i) % vb) ++ R)).drop i) = val (a.drop i) ∧ (L ++ (dig (n + 3) (val (c.drop i) % vb) ++ R)).take i = a.take i := by
  have hyl : y < 4294967296 := by rw [hy]; exact (Nat.div_lt_iff_lt_mul hvb).2 hRlt
  have hdr : (L ++ (dig (n + 3) (val (c.drop i) % vb) ++ R)).drop i = dig (n + 3) (val (c.drop i) % vb) ++ R := by
    rw [← hLl, List.drop_left]
  have hmod : val (c.drop i) % vb < vb := Nat.mod_lt _ hvb
  have hvd : val (dig (n + 3) (val (c.drop i) % vb) ++ R) = val (c.drop i) % vb := by
    rw [val_app, hR0, Nat.mul_zero, Nat.add_zero, val_dig_lt (Nat.lt_trans hmod hN)]
  have y0 : (0 : Int) ≤ (y : Int) := Int.natCast_nonneg _
  have y1 : (y : Int) < 4294967296 := by omega
  refine ⟨Nat.le_of_lt hi, len3 _, hwL.app ((Wd.dig _ _).app hwR), by rw [List.length_set]; exact hql, hwq.set i y0 y1, by rw [hdr, hvd]; exact hmod, ?_, ?_⟩
  · have hai : a.getD i 0 = c.getD i 0 := by
      have h1 : (c.take (i + 1)).getD i 0 = (a.take (i + 1)).getD i 0 := by rw [hsame]
      simp only [List.getD_eq_getElem?_getD, List.getElem?_take, if_pos (Nat.lt_succ_self i)] at h1 ⊢
      exact h1.symm
    have hd := Nat.div_add_mod (val (c.drop i)) vb
    rw [hdr, hvd, val_drop_cons (by rw [List.length_set, hql]; exact hi), getD_setself (by rw [hql]; exact hi), List.drop_set_of_lt (Nat.lt_succ_self i), Int.toNat_natCast, hy, val_drop_cons' a i, hai, ← hv]
    clear hdr hvd hmod hN hRlt hyl y1 y0 hy
    rw [Nat.mul_comm] at hd
    rw [Nat.add_mul, Nat.mul_assoc, Nat.mul_add]
    rw [hRd] at hd ⊢
    generalize (c.getD i 0).toNat = g at *
    generalize val (c.drop (i + 1)) = D at *
    generalize (g + 4294967296 * D) / vb * vb = z1 at *
    generalize (g + 4294967296 * D) % vb = z2 at *
    generalize val (q.drop (i + 1)) * vb = z3 at *
    omega
  · rw [← hLl, List.take_left, hLl, hL]
    have h1 : (c.take (i + 1)).take i = (a.take (i + 1)).take i := by rw [hsame]
    rw [List.take_take, List.take_take, Nat.min_eq_left (Nat.le_succ i)] at h1
    exact h1
theorem toW_len_mul {a : List Int} (hw : Wd a) {k : Nat} (hk : k ≤ 4294967296) : (toW (val a * k)).length ≤ a.length + 1 := by
  rw [toW_len_iff, Nat.pow_succ]
  have h1 := val_lt hw
  rcases Nat.eq_zero_or_pos k with h0 | h0
  · subst h0; rw [Nat.mul_zero]; exact Nat.mul_pos (Nat.pow_pos (by omega)) (by omega)
  · exact Nat.lt_of_lt_of_le (Nat.mul_lt_mul_of_pos_right h1 h0) (Nat.mul_le_mul_left _ hk)
theorem toW_ge {n : Nat} (h : (toW n).length ≠ 0) : 4294967296 ^ ((toW n).length - 1) ≤ n := by
  rcases Nat.lt_or_ge n (4294967296 ^ ((toW n).length - 1)) with h1 | h1
  · have := toW_len_le h1; omega
  · exact h1
/-- the facts of a long quotient whose dividend has a word more -/
theorem div_frame {A D n : Nat} (hD : (toW D).length = n + 2) (hle : D ≤ A) :
    (toW A ++ [0]).length = (toW A).length + 1 ∧ n + 2 ≤ (toW A ++ [0]).length ∧ val ((toW A ++ [0]).drop ((toW A ++ [0]).length - (n + 2))) < D ∧ A / D < 4294967296 ^ ((toW A ++ [0]).length - (n + 2)) ∧ A % D < 4294967296 ^ (toW A ++ [0]).length ∧ val (toW A ++ [0]) = A := by
  have hm := toW_len_mono hle
  have hl : (toW A ++ [0]).length = (toW A).length + 1 := by rw [List.length_append]; rfl
  have hg := toW_ge (n := D) (by omega)
  have hlt := val_lt (Wd.toW A)
  rw [val_toW] at hlt
  rw [hD] at hg hm
  have hk : (toW A).length + 1 - (n + 2) ≤ (toW A).length := by omega
  have hv : val (toW A ++ [0]) = A := by rw [val_app, val_toW]; simp [val]
  rw [hl]
  refine ⟨rfl, by omega, ?_, ?_, ?_, hv⟩
  · rw [List.drop_append_of_le_length hk, val_app]
    have h2 := val_lt ((Wd.toW A).drop ((toW A).length + 1 - (n + 2)))
    rw [List.length_drop, show (toW A).length - ((toW A).length + 1 - (n + 2)) = n + 1 by omega] at h2
    have h3 : val [0] = 0 := rfl
    rw [h3, Nat.mul_zero, Nat.add_zero]
    exact Nat.lt_of_lt_of_le h2 hg
  · rw [Nat.div_lt_iff_lt_mul (by
      rcases Nat.eq_zero_or_pos D with h0 | h0
      · subst h0; rw [toW_zero] at hD; simp at hD
      · exact h0), Nat.mul_comm]
    refine Nat.lt_of_lt_of_le hlt ?_
    refine Nat.le_trans ?_ (Nat.mul_le_mul_right _ hg)
    rw [← Nat.pow_add]
    exact Nat.pow_le_pow_right (by omega) (by omega)
  · refine Nat.lt_of_le_of_lt (Nat.mod_le _ _) (Nat.lt_of_lt_of_le hlt (Nat.pow_le_pow_right (by omega) (by omega)))
end Go.Proofs.Ythefflmebkcilaa.Pu
