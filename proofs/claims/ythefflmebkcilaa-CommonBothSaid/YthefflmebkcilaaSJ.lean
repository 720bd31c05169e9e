/- The document's bits, doubling and taking away in place. -/
import Derived.Test.YthefflmebkcilaaSI
import Derived.Test.YthefflmebkcilaaPG
set_option linter.unusedVariables false
namespace Go.Proofs.Ythefflmebkcilaa.Fw
open Go Pu
theorem Has_spec {a : List Int} {i : Nat} (hwa : Wd a) (ha : a.length ≤ 1099511627776) (hi : i < 1125899906842624) : Runs Try.prog g_retrospectref03_Has [.d (.words a), .d (.int .i64 (i : Int))] (.d (.bool (decide (val a / 2 ^ i % 2 = 1)))) := by
  refine run1 [] p_retrospectref03_Has rfl rfl (fun B S F0 w0 V0 => ?_)
  have ej : IntKind.i64.wrap ((i : Int).tdiv 32) = ((i / 32 : Nat) : Int) := by rw [Int.tdiv_eq_ediv_of_nonneg (by omega), wr (by omega) (by omega)]; omega
  have er : (i : Int).tmod 32 = ((i % 32 : Nat) : Int) := by rw [Int.tmod_eq_emod_of_nonneg (by omega)]; omega
  have hid : i = 32 * (i / 32) + i % 32 := by omega
  refine split_false (decide_eq_false (by show ¬ (i : Int) < 0; omega)) ?_
  refine side_intro (by show (32 : Int) ≠ 0; omega) ?_
  refine split_intro (fun h => ?_) (fun h => ?_)
  · have h : IntKind.i64.wrap ((i : Int).tdiv 32) ≥ (a.length : Int) := of_decide_eq_true h
    refine ret_intro (b_inj ?_) rfl
    have hb := bit_high hwa (j := i / 32) (r := i % 32) (by omega)
    rw [← hid] at hb
    rw [hb, decide_eq_false (by omega)]
  have h : ¬ IntKind.i64.wrap ((i : Int).tdiv 32) ≥ (a.length : Int) := of_decide_eq_false h
  refine side_intro (by show (32 : Int) ≠ 0; omega) ?_
  refine idx_w (i / 32) ej (by omega) ?_
  obtain ⟨x, hx, hx'⟩ := mget a hwa (i / 32)
  have hb := bit_word hwa (j := i / 32) (r := i % 32) (by omega) (by omega)
  rw [← hid, hx, Int.toNat_natCast] at hb
  refine loop_intro (fun p : Nat × Nat => st [(1, .d (.int .i64 (i : Int))), (5, .d (.int .u32 (p.2 : Int))), (6, .d (.int .i64 (p.1 : Int)))] []) (fun p => 32 - p.1) (fun p => p.1 ≤ i % 32 ∧ p.2 = x / 2 ^ p.1) (0, x) ⟨Nat.zero_le _, by simp⟩ (weak_st _ _ ⟨rfl, u32_inj hx, rfl, trivial⟩ trivial rfl) ?_
  rintro ⟨k, y⟩ ⟨hk, hy⟩
  dsimp only at hk hy
  refine side_intro (by show (32 : Int) ≠ 0; omega) ?_
  have hyl : y < 4294967296 := by rw [hy]; exact Nat.lt_of_le_of_lt (Nat.div_le_self _ _) hx'
  refine split_intro (fun h1 => ?_) (fun h1 => ?_)
  · have h1 : (k : Int) < (i : Int).tmod 32 := of_decide_eq_true h1
    have ek : IntKind.i64.wrap ((k : Int) + 1) = ((k + 1 : Nat) : Int) := by rw [wr (by omega) (by omega)]; omega
    refine side_intro (by show (2 : Int) ≠ 0; omega) ?_
    refine ⟨(k + 1, y / 2), ⟨by dsimp only; omega, by dsimp only; rw [hy, Nat.pow_succ, Nat.div_div_eq_div_mul]⟩, by show 32 - (k + 1) < 32 - k; omega, weak_st _ _ ⟨rfl, u32_inj ?_, i64_inj ek, trivial⟩ trivial rfl⟩
    show IntKind.u32.wrap ((y : Int).tdiv 2) = ((y / 2 : Nat) : Int)
    rw [Int.tdiv_eq_ediv_of_nonneg (by omega), w32]
    omega
  · have h1 : ¬ (k : Int) < (i : Int).tmod 32 := of_decide_eq_false h1
    have hk2 : k = i % 32 := by omega
    refine side_intro (by show (2 : Int) ≠ 0; omega) ?_
    refine ret_intro (b_inj ?_) rfl
    show ((y : Int).tmod 2 == 1) = _
    rw [hb, ← hk2, ← hy, Int.tmod_eq_emod_of_nonneg (by omega)]
    by_cases hh : y % 2 = 1
    · rw [decide_eq_true hh]; exact beq_iff_eq.2 (by omega)
    · rw [decide_eq_false hh]; exact beq_eq_false_iff_ne.2 (by omega)
theorem rLen_spec {a : List Int} (hwa : Wd a) (ha : a.length ≤ 1099511627776) : Runs Try.prog g_retrospectref03_Len [.d (.words a)] (.d (.int .i64 ((bits (val a) : Nat) : Int))) := by
  refine run1 [] p_retrospectref03_Len rfl rfl (fun B S F0 w0 V0 => ?_)
  have e0 : IntKind.i64.wrap (32 * (a.length : Int)) = ((32 * a.length : Nat) : Int) := by rw [wr (by omega) (by omega)]; omega
  refine loop_intro (fun n : Nat => st [(0, .d (.words a)), (3, .d (.int .i64 (n : Int)))] []) (fun n => n) (fun n => n ≤ 32 * a.length ∧ val a < 2 ^ n) (32 * a.length) ⟨Nat.le_refl _, val_lt_bits hwa⟩ (weak_st _ _ ⟨rfl, i64_inj e0, trivial⟩ trivial rfl) ?_
  rintro n ⟨hn, hv⟩
  refine split_intro (fun h => ?_) (fun h => ?_)
  · have h : (n : Int) > 0 := of_decide_eq_true h
    obtain ⟨i, rfl⟩ : ∃ i, n = i + 1 := ⟨n - 1, by omega⟩
    have e1 : IntKind.i64.wrap (((i + 1 : Nat) : Int) - 1) = (i : Int) := by rw [wr (by omega) (by omega)]; omega
    refine call_intro (.d (.bool (decide (val a / 2 ^ i % 2 = 1)))) ?_ ?_
    · have := Has_spec hwa ha (i := i) (by omega)
      rw [← e1] at this
      exact this
    refine split_intro (fun h1 => ?_) (fun h1 => ?_)
    · have h1 : (!decide (val a / 2 ^ i % 2 = 1)) = true := h1
      have h1 : ¬ val a / 2 ^ i % 2 = 1 := by simpa using h1
      exact ⟨i, ⟨by omega, lt_of_bit hv h1⟩, Nat.lt_succ_self i, weak_st _ _ ⟨rfl, i64_inj e1, trivial⟩ trivial rfl⟩
    · have h1 : (!decide (val a / 2 ^ i % 2 = 1)) = false := h1
      have h1 : val a / 2 ^ i % 2 = 1 := by simpa using h1
      refine ret_intro (i64_inj ?_) rfl
      show ((i + 1 : Nat) : Int) = _
      have hne : val a ≠ 0 := by intro e; rw [e, Nat.zero_div] at h1; cases h1
      have hge : 2 ^ i ≤ val a := by
        rcases Nat.lt_or_ge (val a) (2 ^ i) with h2 | h2
        · rw [Nat.div_eq_of_lt h2] at h1; cases h1
        · exact h2
      unfold bits
      rw [if_neg hne, (Nat.log2_eq_iff hne).2 ⟨hge, hv⟩]
  · have h : ¬ (n : Int) > 0 := of_decide_eq_false h
    have : n = 0 := by omega
    subst this
    refine split_false rfl ?_
    refine ret_intro (i64_inj ?_) rfl
    have : val a = 0 := by simpa using hv
    rw [this]; rfl
theorem Double_spec {r : List Int} (more : Bool) (hwr : Wd r) (hl0 : r.length ≤ 1099511627776) :
    RunsG Try.prog g_retrospectref05_Double [.own 1000 0 r.length, .d (.bool more)] [(1000, .words tU32 r)] (.tup []) [(1000, .words tU32 (dig r.length (2 * val r + more.toNat)))] := by
  refine runG [] p_retrospectref05_Double rfl rfl rfl rfl (fun B S F0 w0 V0 => ?_)
  obtain ⟨k0, hk0, hk1⟩ : ∃ k0 : Int, k0.toNat = more.toNat ∧ k0 = if more then 1 else 0 := ⟨_, by cases more <;> rfl, rfl⟩
  have hkb : 0 ≤ k0 ∧ k0 ≤ 1 := by rw [hk1]; cases more <;> decide
  cases more
  case' false => refine split_false rfl ?_
  case' true => refine split_true rfl ?_
  all_goals
    rw [← hk0]
    refine loop_intro (fun p : Nat × List Int × Int => st [(0, .own 1000 0 r.length), (4, .d (.int .u32 p.2.2)), (5, .d (.int .i64 (p.1 : Int)))] [(1000, .words 32 p.2.1)]) (fun p => r.length - p.1)
      (fun p => p.1 ≤ r.length ∧ p.2.1.length = r.length ∧ Wd p.2.1 ∧ (0 ≤ p.2.2 ∧ p.2.2 ≤ 1) ∧ (∀ j, p.1 ≤ j → p.2.1.getD j 0 = r.getD j 0) ∧ val (p.2.1.take p.1) + 4294967296 ^ p.1 * p.2.2.toNat = (2 : Int).toNat * val (r.take p.1) + 0 + k0.toNat) (0, r, k0)
      ⟨Nat.zero_le _, rfl, hwr, hkb, fun _ _ => rfl, by simp [val]⟩ (weak_st _ _ ⟨rfl, u32_inj (by rw [hk1]; rfl), rfl, trivial⟩ ⟨rfl, trivial⟩ rfl) ?_
    rintro ⟨i, m, c⟩ ⟨hi, hl, hwm, hc, hsame, hv⟩
    dsimp only at hi hl hwm hc hsame hv
    refine split_intro (fun h => ?_) (fun h => ?_)
    · have hlt : i < r.length := by have h : (i : Int) < r.length := of_decide_eq_true h; omega
      have ei : IntKind.i64.wrap ((i : Int) + 1) = ((i + 1 : Nat) : Int) := by rw [wr (by omega) (by omega)]; omega
      have g := hwm.g i
      refine side_intro (by show (0 : Int) ≤ i ∧ (i : Int) < ((r.length : Nat) : Int); omega) ?_
      refine idx_own i rfl (by show i < m.length; omega) ?_
      refine side_intro (by show (2147483648 : Int) ≠ 0; omega) ?_
      refine side_intro (by show (0 : Int) ≤ i ∧ (i : Int) < ((r.length : Nat) : Int); omega) ?_
      refine idx_own i rfl (by show i < m.length; omega) ?_
      refine side_intro (by show (0 : Int) ≤ i ∧ (i : Int) < ((r.length : Nat) : Int); omega) ?_
      have ed : IntKind.u32.wrap (IntKind.u32.wrap (m.getD i 0 * 2) + c) = (2 * m.getD i 0 + 0 + c) % 4294967296 := by rw [w32, w32]; omega
      have eq : IntKind.u32.wrap ((m.getD i 0).tdiv 2147483648) = (2 * m.getD i 0 + 0 + c) / 4294967296 := by rw [Int.tdiv_eq_ediv_of_nonneg g.1, w32]; omega
      refine ⟨(i + 1, m.set i ((2 * m.getD i 0 + 0 + c) % 4294967296), (2 * m.getD i 0 + 0 + c) / 4294967296), ⟨hlt, by show (m.set i _).length = _; rw [List.length_set]; exact hl, hwm.set i (by omega) (by omega), ⟨by dsimp only; omega, by dsimp only; omega⟩, fun j hj => ?_, ?_⟩, by show r.length - (i + 1) < r.length - i; omega, ?_⟩
      · show (m.set i _).getD j 0 = _
        have hj : i + 1 ≤ j := hj
        rw [getD_setne (by omega)]
        exact hsame j (by omega)
      · show val ((m.set i _).take (i + 1)) + 4294967296 ^ (i + 1) * _ = _
        rw [val_take_set (by omega), val_take_succ' (a := r), ← hsame i (Nat.le_refl _), Nat.pow_succ]
        exact row_step (by omega) g.1 (Int.le_refl 0) hc.1 hv
      · refine weak_st _ _ ⟨rfl, u32_inj eq, i64_inj ei, trivial⟩ ⟨?_, trivial⟩ rfl
        show some (MO.words 32 (m.set (0 + ((i : Int)).toNat) (IntKind.u32.wrap (IntKind.u32.wrap (m.getD i 0 * 2) + c)))) = _
        rw [ed, Nat.zero_add, Int.toNat_natCast]
    · have hend : i = r.length := by have h : ¬ (i : Int) < r.length := of_decide_eq_false h; omega
      refine retG_intro rfl rfl ⟨?_, trivial⟩ rfl
      show some (MO.words 32 m) = _
      rw [dig_mod (n := r.length) (v := 2 * val r + k0.toNat) hwm hl]
      have h2 := val_lt hwm
      rw [hl] at h2
      rw [hend, ← hl, List.take_length, hl, List.take_length] at hv
      have h3 : (2 : Int).toNat = 2 := rfl
      rw [h3, Nat.add_zero] at hv
      rw [← hv, Nat.add_mul_mod_self_left, Nat.mod_eq_of_lt h2]
theorem Less_spec {a b : List Int} (hwa : Wd a) (hwb : Wd b) (hla : a.length ≤ 1099511627776) (hlb : b.length ≤ 1099511627776) (hle : val b ≤ val a) :
    RunsG Try.prog g_retrospectref05_Less [.own 1000 0 a.length, .d (.words b)] [(1000, .words tU32 a)] (.tup []) [(1000, .words tU32 (dig a.length (val a - val b)))] := by
  refine runG [] p_retrospectref05_Less rfl rfl rfl rfl (fun B S F0 w0 V0 => ?_)
  refine loop_intro (fun p : Nat × List Int × Nat => st [(0, .own 1000 0 a.length), (1, .d (.words b)), (4, .d (.int .u64 (p.2.2 : Int))), (5, .d (.int .i64 (p.1 : Int)))] [(1000, .words 32 p.2.1)]) (fun p => a.length - p.1)
    (fun p => p.1 ≤ a.length ∧ p.2.1.length = a.length ∧ Wd p.2.1 ∧ p.2.2 ≤ 1 ∧ (∀ j, p.1 ≤ j → p.2.1.getD j 0 = a.getD j 0) ∧ val (p.2.1.take p.1) + val (b.take p.1) = val (a.take p.1) + 4294967296 ^ p.1 * (p.2.2 + 0)) (0, a, 0)
    ⟨Nat.zero_le _, rfl, hwa, Nat.zero_le _, fun _ _ => rfl, by simp [val]⟩ (weak_st _ _ ⟨rfl, rfl, rfl, rfl, trivial⟩ ⟨rfl, trivial⟩ rfl) ?_
  rintro ⟨i, m, u⟩ ⟨hi, hl, hwm, hu, hsame, hv⟩
  dsimp only at hi hl hwm hu hsame hv
  refine split_intro (fun h => ?_) (fun h => ?_)
  · have hlt : i < a.length := by have h : (i : Int) < a.length := of_decide_eq_true h; omega
    have ei : IntKind.i64.wrap ((i : Int) + 1) = ((i + 1 : Nat) : Int) := by rw [wr (by omega) (by omega)]; omega
    obtain ⟨x, hx, hx'⟩ := mget m hwm i
    obtain ⟨y, hy, hy'⟩ := mget b hwb i
    refine side_intro (by show (0 : Int) ≤ i ∧ (i : Int) < ((a.length : Nat) : Int); omega) ?_
    refine idx_own i rfl (by show i < m.length; omega) ?_
    refine call_intro _ (rAt_spec (a := b) (i := i) hlb) ?_
    have ex : IntKind.u64.wrap (m.getD i 0) = (x : Int) := by rw [hx, w64]; omega
    have ey : IntKind.u64.wrap (IntKind.u64.wrap (b.getD i 0) + (u : Int)) = ((y + u : Nat) : Int) := by rw [hy, w64, w64]; omega
    have fin : ∀ (d w : Nat), d < 4294967296 → w ≤ 1 → d + y + u + 0 = x + 4294967296 * (w + 0) → val ((m.set i (d : Int)).take (i + 1)) + val (b.take (i + 1)) = val (a.take (i + 1)) + 4294967296 ^ (i + 1) * (w + 0) := by
      intro d w hd hw he
      rw [val_take_set (by omega), val_take_succ' (a := b), val_take_succ' (a := a), ← hsame i (Nat.le_refl _), hx, hy, Nat.pow_succ]
      simp only [Int.toNat_natCast]
      exact step_sum hv he
    have same' : ∀ d : Int, ∀ j, i + 1 ≤ j → (m.set i d).getD j 0 = a.getD j 0 := by
      intro d j hj
      rw [getD_setne (by omega)]
      exact hsame j (by omega)
    refine split_intro (fun h1 => ?_) (fun h1 => ?_)
    · have h1 : IntKind.u64.wrap (m.getD i 0) < IntKind.u64.wrap (IntKind.u64.wrap (b.getD i 0) + (u : Int)) := of_decide_eq_true h1
      refine side_intro (by show (0 : Int) ≤ i ∧ (i : Int) < ((a.length : Nat) : Int); omega) ?_
      have ed : IntKind.u32.wrap (IntKind.u64.wrap (IntKind.u64.wrap (IntKind.u64.wrap (m.getD i 0) + 4294967296) - IntKind.u64.wrap (IntKind.u64.wrap (b.getD i 0) + (u : Int)))) = ((x + 4294967296 - (y + u) : Nat) : Int) := by
        rw [ex, ey, w64 ((x : Int) + 4294967296), w64, w32]; omega
      refine ⟨(i + 1, m.set i ((x + 4294967296 - (y + u) : Nat) : Int), 1), ⟨hlt, by show (m.set i _).length = _; rw [List.length_set]; exact hl, hwm.set i (by omega) (by omega), Nat.le_refl _, same' _, fin _ 1 (by omega) (Nat.le_refl _) (by omega)⟩, by show a.length - (i + 1) < a.length - i; omega, ?_⟩
      refine weak_st _ _ ⟨rfl, rfl, rfl, i64_inj ei, trivial⟩ ⟨?_, trivial⟩ rfl
      show some (MO.words 32 (m.set (0 + ((i : Int)).toNat) (IntKind.u32.wrap (IntKind.u64.wrap (IntKind.u64.wrap (IntKind.u64.wrap (m.getD i 0) + 4294967296) - IntKind.u64.wrap (IntKind.u64.wrap (b.getD i 0) + (u : Int))))))) = _
      rw [ed, Nat.zero_add, Int.toNat_natCast]
    · have h1 : ¬ IntKind.u64.wrap (m.getD i 0) < IntKind.u64.wrap (IntKind.u64.wrap (b.getD i 0) + (u : Int)) := of_decide_eq_false h1
      refine side_intro (by show (0 : Int) ≤ i ∧ (i : Int) < ((a.length : Nat) : Int); omega) ?_
      have ed : IntKind.u32.wrap (IntKind.u64.wrap (IntKind.u64.wrap (m.getD i 0) - IntKind.u64.wrap (IntKind.u64.wrap (b.getD i 0) + (u : Int)))) = ((x - (y + u) : Nat) : Int) := by
        rw [ex, ey, w64, w32]; omega
      refine ⟨(i + 1, m.set i ((x - (y + u) : Nat) : Int), 0), ⟨hlt, by show (m.set i _).length = _; rw [List.length_set]; exact hl, hwm.set i (by omega) (by omega), Nat.zero_le _, same' _, fin _ 0 (by omega) (Nat.zero_le _) (by omega)⟩, by show a.length - (i + 1) < a.length - i; omega, ?_⟩
      refine weak_st _ _ ⟨rfl, rfl, rfl, i64_inj ei, trivial⟩ ⟨?_, trivial⟩ rfl
      show some (MO.words 32 (m.set (0 + ((i : Int)).toNat) (IntKind.u32.wrap (IntKind.u64.wrap (IntKind.u64.wrap (m.getD i 0) - IntKind.u64.wrap (IntKind.u64.wrap (b.getD i 0) + (u : Int))))))) = _
      rw [ed, Nat.zero_add, Int.toNat_natCast]
  · have hend : i = a.length := by have h : ¬ (i : Int) < a.length := of_decide_eq_false h; omega
    refine retG_intro rfl rfl ⟨?_, trivial⟩ rfl
    show some (MO.words 32 m) = _
    have h2 := val_lt hwm
    have h3 := val_lt hwa
    rw [hl] at h2
    rw [hend, ← hl, List.take_length, hl, List.take_length] at hv
    have hbt : val (b.take a.length) = val b := by
      by_cases hj : a.length ≤ b.length
      · have h4 := val_drop_zero (a := b) (i := a.length) hj (by omega)
        rw [val_take_drop b a.length hj, h4, Nat.mul_zero, Nat.add_zero]
      · rw [val_take_ge (by omega)]
    rw [hbt, Nat.add_zero] at hv
    generalize 4294967296 ^ a.length = q at hv h2 h3
    have hu0 : u = 0 := by
      have : u = 0 ∨ u = 1 := by omega
      rcases this with h | h
      · exact h
      · subst h; omega
    subst hu0
    rw [dig_eq (n := a.length) (v := val a - val b) hwm hl (by omega)]
end Go.Proofs.Ythefflmebkcilaa.Fw
