/- Taking a multiple of the divisor away, giving it back. -/
import Derived.Test.YthefflmebkcilaaSE
import Derived.Test.YthefflmebkcilaaPE
set_option linter.unusedVariables false
namespace Go.Proofs.Ythefflmebkcilaa.Fw
open Go Pu
theorem mget (m : List Int) (hw : Wd m) (i : Nat) : ∃ n : Nat, m.getD i 0 = (n : Int) ∧ n < 4294967296 := by
  obtain ⟨n, hn⟩ := Int.eq_ofNat_of_zero_le (hw.g i).1
  exact ⟨n, hn, by have := (hw.g i).2; omega⟩
theorem take_spec {L M R b : List Int} {x : Nat} (hwb : Wd b) (hwM : Wd M) (hx : x < 4294967296) (hM : M.length = b.length + 1) (hlen : (L ++ (M ++ R)).length ≤ 8796093022208) :
    RunsG Try.prog g_quot_take [.own 1000 0 (L ++ (M ++ R)).length, .d (.int .i64 (L.length : Int)), .d (.words b), .d (.int .u32 (x : Int))] [(1000, .words tU32 (L ++ (M ++ R)))] (.d (.bool (decide (val M < x * val b))))
      [(1000, .words tU32 (L ++ (dig (b.length + 1) (takeN (4294967296 ^ (b.length + 1)) (val M) (x * val b)) ++ R)))] := by
  refine runG [] p_quot_take rfl rfl rfl rfl (fun B S F0 w0 V0 => ?_)
  have hN : (L ++ (M ++ R)).length = L.length + b.length + 1 + R.length := by simp [hM]; omega
  rw [hN] at hlen ⊢
  have w : ∀ {n : Nat}, n < 4294967296 → W32 (n : Int) := fun h => ⟨by omega, by omega⟩
  refine loop_intro (fun p : Nat × List Int × Nat × Nat => st [(0, .own 1000 0 (L.length + b.length + 1 + R.length)), (1, .d (.int .i64 (L.length : Int))), (2, .d (.words b)), (3, .d (.int .u32 (x : Int))), (9, .d (.int .u32 (p.2.2.1 : Int))), (10, .d (.int .u32 (p.2.2.2 : Int))), (15, .d (.words b)), (16, .d (.int .i64 (b.length : Int))), (17, .d (.int .i64 (p.1 : Int)))] [(1000, .words 32 (L ++ (p.2.1 ++ R)))]) (fun p => b.length - p.1)
    (fun p => p.1 ≤ b.length ∧ p.2.1.length = b.length + 1 ∧ Wd p.2.1 ∧ p.2.2.1 < 4294967296 ∧ p.2.2.2 ≤ 1 ∧ (∀ j, p.1 ≤ j → p.2.1.getD j 0 = M.getD j 0) ∧ val (p.2.1.take p.1) + x * val (b.take p.1) = val (M.take p.1) + 4294967296 ^ p.1 * (p.2.2.2 + p.2.2.1)) (0, M, 0, 0)
    ⟨Nat.zero_le _, hM, hwM, by show (0 : Nat) < 4294967296; omega, Nat.zero_le _, fun _ _ => rfl, by simp [val]⟩ (weak_st _ _ ⟨rfl, rfl, rfl, rfl, rfl, rfl, rfl, rfl, rfl, trivial⟩ ⟨rfl, trivial⟩ rfl) ?_
  rintro ⟨i, m, c, u⟩ ⟨hi, hl, hwm, hc, hu, hsame, hv⟩
  dsimp only at hi hl hwm hc hu hsame hv
  obtain ⟨mi, hmi, hmi'⟩ := mget m hwm i
  refine split_intro (fun h => ?_) (fun h => ?_)
  · have hlt : i < b.length := by have h : (i : Int) < b.length := of_decide_eq_true h; omega
    have ei : IntKind.i64.wrap ((i : Int) + 1) = ((i + 1 : Nat) : Int) := by rw [wr (by omega) (by omega)]; omega
    have ea : IntKind.i64.wrap ((L.length : Int) + (i : Int)) = ((L.length + i : Nat) : Int) := by rw [wr (by omega) (by omega)]; omega
    obtain ⟨y, hy, hy'⟩ := mget b hwb i
    obtain ⟨lo, hi', d, u', e1, e2, e3, e4, e5, e6, e7, e8⟩ := take_word (x := x) (y := y) (c := c) (m := mi) (w := u) hu hmi'
    refine idx_w i rfl hlt ?_
    refine call_intro _ (limb_Mul_spec (w hx) (by rw [hy]; exact w hy') (w hc) ⟨by omega, by omega⟩) ?_
    refine side_intro (by show (0 : Int) ≤ IntKind.i64.wrap ((L.length : Int) + (i : Int)) ∧ IntKind.i64.wrap ((L.length : Int) + (i : Int)) < ((L.length + b.length + 1 + R.length : Nat) : Int); omega) ?_
    refine idx_intro (m.getD i 0) (Int.natCast_nonneg _) (by
      show (L ++ (m ++ R))[((0 + (IntKind.i64.wrap ((L.length : Int) + (i : Int))).toNat : Nat) : Int).toNat]? = _
      rw [ea, Int.toNat_natCast, Int.toNat_natCast]
      exact mid_elem (by omega) (by omega)) ?_
    refine call_intro (.tup [.d (.int .u32 (d : Int)), .d (.int .u32 (u' : Int))]) ?_ ?_
    · have hsub := limb_Sub_spec (x := (mi : Int)) (y := (lo : Int)) (k := (u : Int)) (w hmi') (w e3) (w (by omega))
      rw [e4, e5] at hsub
      rw [← e1, ← hmi, ← hy] at hsub
      exact hsub
    refine side_intro (by show (0 : Int) ≤ IntKind.i64.wrap ((L.length : Int) + (i : Int)) ∧ IntKind.i64.wrap ((L.length : Int) + (i : Int)) < ((L.length + b.length + 1 + R.length : Nat) : Int); omega) ?_
    have hhi : hi' < 4294967296 := by
      have := mul_bd (w hx) (w hy') (w hc) (d := 0) ⟨by omega, by omega⟩
      generalize (x : Int) * (y : Int) = xy at this e2
      omega
    refine ⟨(i + 1, m.set i (d : Int), hi', u'), ⟨hlt, by show (m.set i _).length = _; rw [List.length_set]; exact hl, hwm.set i (by omega) (by omega), hhi, e6, fun j hj => ?_, ?_⟩, by show b.length - (i + 1) < b.length - i; omega, ?_⟩
    · show (m.set i _).getD j 0 = _
      have hj : i + 1 ≤ j := hj
      rw [getD_setne (by omega)]
      exact hsame j (by omega)
    · show val ((m.set i _).take (i + 1)) + x * val (b.take (i + 1)) = val (M.take (i + 1)) + 4294967296 ^ (i + 1) * (u' + hi')
      rw [val_take_set (by omega), val_take_succ' (a := b), val_take_succ' (a := M), ← hsame i (Nat.le_refl _), hmi, hy, Nat.pow_succ]
      simp only [Int.toNat_natCast]
      rw [Nat.mul_add x, Nat.mul_left_comm x]
      exact step_sum hv e8
    · refine weak_st _ _ ⟨rfl, rfl, rfl, rfl, u32_inj ?_, rfl, rfl, rfl, i64_inj ei, trivial⟩ ⟨?_, trivial⟩ rfl
      · show ((x : Int) * b.getD i 0 + (c : Int) + 0) / 4294967296 = (hi' : Int)
        rw [hy]; exact e2
      · show some (MO.words 32 ((L ++ (m ++ R)).set (0 + (IntKind.i64.wrap ((L.length : Int) + (i : Int))).toNat) _)) = _
        rw [mid_set (j := i) (by rw [ea]; omega) (by omega)]
  · have hend : i = b.length := by have h : ¬ (i : Int) < b.length := of_decide_eq_false h; omega
    subst hend
    have ea : IntKind.i64.wrap ((L.length : Int) + (b.length : Int)) = ((L.length + b.length : Nat) : Int) := by rw [wr (by omega) (by omega)]; omega
    obtain ⟨lo, hi', d, u', e1, e2, e3, e4, e5, e6, e7, e8⟩ := take_word (x := 0) (y := 0) (c := c) (m := mi) (w := u) hu hmi'
    have hlo : lo = c := by omega
    have hhi : hi' = 0 := by omega
    subst hlo hhi
    refine side_intro (by show (0 : Int) ≤ IntKind.i64.wrap ((L.length : Int) + (b.length : Int)) ∧ IntKind.i64.wrap ((L.length : Int) + (b.length : Int)) < ((L.length + b.length + 1 + R.length : Nat) : Int); omega) ?_
    refine idx_intro (m.getD b.length 0) (Int.natCast_nonneg _) (by
      show (L ++ (m ++ R))[((0 + (IntKind.i64.wrap ((L.length : Int) + (b.length : Int))).toNat : Nat) : Int).toNat]? = _
      rw [ea, Int.toNat_natCast, Int.toNat_natCast]
      exact mid_elem (by omega) (by omega)) ?_
    refine call_intro (.tup [.d (.int .u32 (d : Int)), .d (.int .u32 (u' : Int))]) ?_ ?_
    · have hsub := limb_Sub_spec (x := (mi : Int)) (y := (lo : Int)) (k := (u : Int)) (w hmi') (w e3) (w (by omega))
      rw [e4, e5, ← hmi] at hsub
      exact hsub
    refine side_intro (by show (0 : Int) ≤ IntKind.i64.wrap ((L.length : Int) + (b.length : Int)) ∧ IntKind.i64.wrap ((L.length : Int) + (b.length : Int)) < ((L.length + b.length + 1 + R.length : Nat) : Int); omega) ?_
    have hwf : Wd (m.set b.length (d : Int)) := hwm.set _ (by omega) (by omega)
    have hlf : (m.set b.length (d : Int)).length = b.length + 1 := by rw [List.length_set]; exact hl
    have hvf : val (m.set b.length (d : Int)) + x * val b = val M + 4294967296 ^ (b.length + 1) * u' := by
      rw [val_set_last (by omega), Int.toNat_natCast]
      have hMM : val M = val (M.take b.length) + 4294967296 ^ b.length * mi := by
        have := val_take_succ' (a := M) b.length
        rw [List.take_of_length_le (by omega), ← hsame b.length (Nat.le_refl _), hmi, Int.toNat_natCast] at this
        exact this
      have hs := step_sum hv e8
      rw [List.take_length, ← hMM] at hs
      rw [Nat.pow_succ]
      simpa using hs
    have hlt1 := val_lt hwf
    rw [hlf] at hlt1
    have hlt2 := val_lt hwM
    rw [hM] at hlt2
    have hlt3 : x * val b < 4294967296 ^ (b.length + 1) := mul_step (D := 0) hx (val_lt hwb) (Nat.pow_pos (by omega))
    obtain ⟨f1, f2⟩ := take_end hvf hlt1 hlt3 e6
    refine retG_intro (b_inj ?_) rfl ⟨?_, trivial⟩ rfl
    · show decide ((u' : Int) > 0) = _
      by_cases hb : val M < x * val b
      · rw [if_pos hb] at f1; rw [f1, decide_eq_true hb]; rfl
      · rw [if_neg hb] at f1; rw [f1, decide_eq_false hb]; rfl
    · show some (MO.words 32 ((L ++ (m ++ R)).set (0 + (IntKind.i64.wrap ((L.length : Int) + (b.length : Int))).toNat) (d : Int))) = _
      rw [mid_set (j := b.length) (by rw [ea]; omega) (by omega)]
      rw [dig_eq (n := b.length + 1) (v := takeN (4294967296 ^ (b.length + 1)) (val M) (x * val b)) hwf hlf f2]
theorem give_spec {L M R b : List Int} (hwb : Wd b) (hwM : Wd M) (hM : M.length = b.length + 1) (hlen : (L ++ (M ++ R)).length ≤ 8796093022208) :
    RunsG Try.prog g_quot_give [.own 1000 0 (L ++ (M ++ R)).length, .d (.int .i64 (L.length : Int)), .d (.words b)] [(1000, .words tU32 (L ++ (M ++ R)))] (.tup [])
      [(1000, .words tU32 (L ++ (dig (b.length + 1) (val M + val b) ++ R)))] := by
  refine runG [] p_quot_give rfl rfl rfl rfl (fun B S F0 w0 V0 => ?_)
  have hN : (L ++ (M ++ R)).length = L.length + b.length + 1 + R.length := by simp [hM]; omega
  rw [hN] at hlen ⊢
  refine loop_intro (fun p : Nat × List Int × Int => st [(0, .own 1000 0 (L.length + b.length + 1 + R.length)), (1, .d (.int .i64 (L.length : Int))), (2, .d (.words b)), (6, .d (.int .u32 p.2.2)), (9, .d (.words b)), (10, .d (.int .i64 (b.length : Int))), (11, .d (.int .i64 (p.1 : Int)))] [(1000, .words 32 (L ++ (p.2.1 ++ R)))]) (fun p => b.length - p.1)
    (fun p => p.1 ≤ b.length ∧ p.2.1.length = b.length + 1 ∧ Wd p.2.1 ∧ W32 p.2.2 ∧ (∀ j, p.1 ≤ j → p.2.1.getD j 0 = M.getD j 0) ∧ val (p.2.1.take p.1) + 4294967296 ^ p.1 * p.2.2.toNat = (1 : Int).toNat * val (b.take p.1) + val (M.take p.1) + 0) (0, M, 0)
    ⟨Nat.zero_le _, hM, hwM, ⟨Int.le_refl 0, by show (0 : Int) < 4294967296; omega⟩, fun _ _ => rfl, by simp [val]⟩ (weak_st _ _ ⟨rfl, rfl, rfl, rfl, rfl, rfl, rfl, trivial⟩ ⟨rfl, trivial⟩ rfl) ?_
  rintro ⟨i, m, c⟩ ⟨hi, hl, hwm, hc, hsame, hv⟩
  dsimp only at hi hl hwm hc hsame hv
  have g2 := hwm.g i
  refine split_intro (fun h => ?_) (fun h => ?_)
  · have hlt : i < b.length := by have h : (i : Int) < b.length := of_decide_eq_true h; omega
    have ei : IntKind.i64.wrap ((i : Int) + 1) = ((i + 1 : Nat) : Int) := by rw [wr (by omega) (by omega)]; omega
    have ea : IntKind.i64.wrap ((L.length : Int) + (i : Int)) = ((L.length + i : Nat) : Int) := by rw [wr (by omega) (by omega)]; omega
    have g1 := hwb.g i
    refine idx_w i rfl hlt ?_
    refine side_intro (by show (0 : Int) ≤ IntKind.i64.wrap ((L.length : Int) + (i : Int)) ∧ IntKind.i64.wrap ((L.length : Int) + (i : Int)) < ((L.length + b.length + 1 + R.length : Nat) : Int); omega) ?_
    refine idx_intro (m.getD i 0) (Int.natCast_nonneg _) (by
      show (L ++ (m ++ R))[((0 + (IntKind.i64.wrap ((L.length : Int) + (i : Int))).toNat : Nat) : Int).toNat]? = _
      rw [ea, Int.toNat_natCast, Int.toNat_natCast]
      exact mid_elem (by omega) (by omega)) ?_
    refine call_intro _ (limb_Add_spec g2 g1 hc) ?_
    refine side_intro (by show (0 : Int) ≤ IntKind.i64.wrap ((L.length : Int) + (i : Int)) ∧ IntKind.i64.wrap ((L.length : Int) + (i : Int)) < ((L.length + b.length + 1 + R.length : Nat) : Int); omega) ?_
    have hc0 := hc.1
    have hc1 := hc.2
    refine ⟨(i + 1, m.set i ((m.getD i 0 + b.getD i 0 + c) % 4294967296), (m.getD i 0 + b.getD i 0 + c) / 4294967296), ⟨hlt, by show (m.set i _).length = _; rw [List.length_set]; exact hl, hwm.set i (by omega) (by omega), ⟨by dsimp only; omega, by dsimp only; omega⟩, fun j hj => ?_, ?_⟩, by show b.length - (i + 1) < b.length - i; omega, ?_⟩
    · show (m.set i _).getD j 0 = _
      have hj : i + 1 ≤ j := hj
      rw [getD_setne (by omega)]
      exact hsame j (by omega)
    · show val ((m.set i _).take (i + 1)) + 4294967296 ^ (i + 1) * _ = _
      rw [val_take_set (by omega), val_take_succ' (a := b), val_take_succ' (a := M), ← hsame i (Nat.le_refl _), Nat.pow_succ]
      have e : m.getD i 0 + b.getD i 0 + c = 1 * b.getD i 0 + m.getD i 0 + c := by omega
      rw [e]
      exact row_step (by omega) g1.1 g2.1 hc.1 hv
    · refine weak_st _ _ ⟨rfl, rfl, rfl, rfl, rfl, rfl, i64_inj ei, trivial⟩ ⟨?_, trivial⟩ rfl
      show some (MO.words 32 ((L ++ (m ++ R)).set (0 + (IntKind.i64.wrap ((L.length : Int) + (i : Int))).toNat) _)) = _
      rw [mid_set (j := i) (by rw [ea]; omega) (by omega)]
  · have hend : i = b.length := by have h : ¬ (i : Int) < b.length := of_decide_eq_false h; omega
    subst hend
    have ea : IntKind.i64.wrap ((L.length : Int) + (b.length : Int)) = ((L.length + b.length : Nat) : Int) := by rw [wr (by omega) (by omega)]; omega
    refine side_intro (by show (0 : Int) ≤ IntKind.i64.wrap ((L.length : Int) + (b.length : Int)) ∧ IntKind.i64.wrap ((L.length : Int) + (b.length : Int)) < ((L.length + b.length + 1 + R.length : Nat) : Int); omega) ?_
    refine idx_intro (m.getD b.length 0) (Int.natCast_nonneg _) (by
      show (L ++ (m ++ R))[((0 + (IntKind.i64.wrap ((L.length : Int) + (b.length : Int))).toNat : Nat) : Int).toNat]? = _
      rw [ea, Int.toNat_natCast, Int.toNat_natCast]
      exact mid_elem (by omega) (by omega)) ?_
    refine side_intro (by show (0 : Int) ≤ IntKind.i64.wrap ((L.length : Int) + (b.length : Int)) ∧ IntKind.i64.wrap ((L.length : Int) + (b.length : Int)) < ((L.length + b.length + 1 + R.length : Nat) : Int); omega) ?_
    refine retG_intro rfl rfl ⟨?_, trivial⟩ rfl
    show some (MO.words 32 ((L ++ (m ++ R)).set (0 + (IntKind.i64.wrap ((L.length : Int) + (b.length : Int))).toNat) (IntKind.u32.wrap (m.getD b.length 0 + c)))) = _
    rw [mid_set (j := b.length) (by rw [ea]; omega) (by omega)]
    obtain ⟨k, hk, hk'⟩ := mget m hwm b.length
    obtain ⟨c, rfl⟩ := Int.eq_ofNat_of_zero_le hc.1
    have ew : IntKind.u32.wrap (m.getD b.length 0 + (c : Int)) = (((k + c) % 4294967296 : Nat) : Int) := by rw [hk, w32]; omega
    rw [ew]
    rw [dig_mod (n := b.length + 1) (v := val M + val b) (l := m.set b.length (((k + c) % 4294967296 : Nat) : Int)) (hwm.set _ (by omega) (by omega)) (by rw [List.length_set]; exact hl)]
    rw [val_set_last (by omega), Int.toNat_natCast]
    have hMM : val M = val (M.take b.length) + 4294967296 ^ b.length * k := by
      have := val_take_succ' (a := M) b.length
      rw [List.take_of_length_le (by omega), ← hsame b.length (Nat.le_refl _), hk, Int.toNat_natCast] at this
      exact this
    have hv' : val (m.take b.length) + 4294967296 ^ b.length * c = val b + val (M.take b.length) := by
      rw [List.take_length] at hv
      simpa using hv
    have htl := val_take_lt hwm b.length
    rw [Nat.pow_succ]
    generalize 4294967296 ^ b.length = q at hv' hMM htl ⊢
    have e3 : val M + val b = val (m.take b.length) + q * (k + c) := by rw [Nat.mul_add]; omega
    rw [e3, Nat.mod_mul]
    have e4 : (val (m.take b.length) + q * (k + c)) % q = val (m.take b.length) := by rw [Nat.add_mul_mod_self_left, Nat.mod_eq_of_lt htl]
    have e5 : (val (m.take b.length) + q * (k + c)) / q = k + c := by rw [Nat.add_mul_div_left _ _ (by omega), Nat.div_eq_of_lt htl, Nat.zero_add]
    rw [e4, e5]
end Go.Proofs.Ythefflmebkcilaa.Fw
