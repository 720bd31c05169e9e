/- The document's quotient, bit by bit. -/
import Derived.Test.YthefflmebkcilaaSJ
import Derived.Test.YthefflmebkcilaaPH
set_option linter.unusedVariables false
namespace Go.Proofs.Ythefflmebkcilaa.Fw
open Go Pu
theorem lt_bits {v : Nat} : v < 2 ^ bits v := by
  unfold bits
  split
  · rename_i h; rw [h]; decide
  · exact Nat.lt_log2_self
set_option maxHeartbeats 2000000 in
theorem rDiv_specG {a b : List Int} (hwa : Wd a) (hwb : Wd b) (ha : a.length ≤ 137438953472) (hb : b.length ≤ 137438953472) (h0 : val b ≠ 0) :
    RunsG Try.prog g_retrospectref05_Div [.d (.words a), .d (.words b)] [] (.tup [.own 51 0 (toW (val a / val b)).length, .own 53 0 (toW (val a % val b)).length]) [(51, .words tU32 (toW (val a / val b))), (53, .words tU32 (toW (val a % val b)))] := by
  refine runG [51, 53] p_retrospectref05_Div rfl rfl rfl rfl (fun B S F0 w0 V0 => ?_)
  refine opp_make hT rfl rfl (Nat.le_of_ble_eq_true rfl) (e := 32) rfl rfl (Nat.le_of_ble_eq_true rfl) (fun _ => rfl) (k := .i64) (k' := .i64) (n := ((a.length : Nat) : Int)) rfl rfl rfl (by omega) ?_ ?_ ?_
  · show 4 * ((a.length : Nat) : Int).toNat ≤ _
    omega
  · unfold maxLen; omega
  have e1 : IntKind.i64.wrap ((b.length : Int) + 1) = ((b.length + 1 : Nat) : Int) := by rw [wr (by omega) (by omega)]; omega
  refine opp_make hT rfl rfl (Nat.le_of_ble_eq_true rfl) (e := 32) rfl rfl (Nat.le_of_ble_eq_true rfl) (fun _ => rfl) (k := .i64) (k' := .i64) (n := ((b.length + 1 : Nat) : Int)) (i64_inj e1) (i64_inj e1) rfl (by omega) ?_ ?_ ?_
  · show 4 * ((b.length + 1 : Nat) : Int).toNat ≤ _
    omega
  · unfold maxLen; omega
  rw [Int.toNat_natCast, Int.toNat_natCast]
  refine call_intro _ (rLen_spec hwa (by omega)) ?_
  have hvb : 0 < val b := by omega
  have hbits : bits (val a) ≤ 32 * a.length := by
    unfold bits
    split
    · omega
    · rename_i h
      have := (Nat.log2_lt h).2 (val_lt_bits hwa)
      omega
  have e2 : IntKind.i64.wrap (((bits (val a) : Nat) : Int) - 1) = ((bits (val a) : Nat) : Int) - 1 := wr (by omega) (by omega)
  refine loop_intro (fun k : Nat => st [(0, .d (.words a)), (1, .d (.words b)), (6, .own 11 0 a.length), (7, .own 15 0 (b.length + 1)), (8, .d (.int .i64 ((k : Int) - 1)))] [(11, .words 32 (dig a.length (val a / 2 ^ k / val b))), (15, .words 32 (dig (b.length + 1) (val a / 2 ^ k % val b)))]) (fun k => k)
    (fun k => k ≤ bits (val a)) (bits (val a)) (Nat.le_refl _) (weak_st _ _ ⟨rfl, rfl, rfl, rfl, i64_inj e2, trivial⟩ ⟨?_, ?_, trivial⟩ rfl) ?_
  · rw [Nat.div_eq_of_lt lt_bits, Nat.zero_div, dig_zero]; rfl
  · rw [Nat.div_eq_of_lt lt_bits, Nat.zero_mod, dig_zero]; rfl
  intro k hk
  refine split_intro (fun h => ?_) (fun h => ?_)
  · have h : (k : Int) - 1 ≥ 0 := of_decide_eq_true h
    obtain ⟨i, rfl⟩ : ∃ i, k = i + 1 := ⟨k - 1, by omega⟩
    have ei : ((i + 1 : Nat) : Int) - 1 = (i : Int) := by omega
    have e3 : IntKind.i64.wrap (((i + 1 : Nat) : Int) - 1 - 1) = (i : Int) - 1 := by rw [ei, wr (by omega) (by omega)]
    have ej : IntKind.i64.wrap ((((i + 1 : Nat) : Int) - 1).tdiv 32) = ((i / 32 : Nat) : Int) := by rw [ei, Int.tdiv_eq_ediv_of_nonneg (by omega), wr (by omega) (by omega)]; omega
    have er : (((i + 1 : Nat) : Int) - 1).tmod 32 = ((i % 32 : Nat) : Int) := by rw [ei, Int.tmod_eq_emod_of_nonneg (by omega)]; omega
    refine side_intro rfl ?_
    refine side_intro (by show (32 : Int) ≠ 0; omega) ?_
    refine idx_w (i / 32) ej (by omega) ?_
    refine side_intro (by show (32 : Int) ≠ 0; omega) ?_
    refine side_intro (by show (0 : Int) ≤ (((i + 1 : Nat) : Int) - 1).tmod 32; rw [er]; omega) ?_
    have hr32 : i % 32 < 32 := Nat.mod_lt _ (by omega)
    have hp2 : 0 < 2 ^ (i % 32) := Nat.two_pow_pos _
    have hp31 : 2 ^ (i % 32) ≤ 2 ^ 31 := Nat.pow_le_pow_right (by omega) (by omega)
    have es : IntKind.u32.wrap (1 * 2 ^ (min ((((i + 1 : Nat) : Int) - 1).tmod 32).toNat IntKind.u32.bits)) = ((2 ^ (i % 32) : Nat) : Int) := by
      rw [er, Int.toNat_natCast, show min (i % 32) IntKind.u32.bits = i % 32 by show min (i % 32) 32 = _; omega, Int.one_mul, show (2 : Int) ^ (i % 32) = ((2 ^ (i % 32) : Nat) : Int) by rw [Int.natCast_pow]; rfl, w32]
      generalize 2 ^ (i % 32) = z at hp31
      omega
    refine side_intro (by show IntKind.u32.wrap (1 * 2 ^ (min ((((i + 1 : Nat) : Int) - 1).tmod 32).toNat IntKind.u32.bits)) ≠ 0; rw [es]; generalize 2 ^ (i % 32) = z at hp2; omega) ?_
    refine side_intro (by show (2 : Int) ≠ 0; omega) ?_
    obtain ⟨x, hx, hx'⟩ := mget a hwa (i / 32)
    have hbw := bit_word hwa (j := i / 32) (r := i % 32) (by omega) hr32
    rw [show 32 * (i / 32) + i % 32 = i by omega, hx, Int.toNat_natCast] at hbw
    obtain ⟨c, hc⟩ : ∃ c, c = val a / 2 ^ i % 2 := ⟨_, rfl⟩
    have hc1 : c ≤ 1 := by omega
    have eb : ((IntKind.u32.wrap ((a.getD (i / 32) 0).tdiv (IntKind.u32.wrap (1 * 2 ^ (min ((((i + 1 : Nat) : Int) - 1).tmod 32).toNat IntKind.u32.bits))))).tmod 2 == 1) = (c == 1) := by
      rw [es, hx, Int.tdiv_eq_ediv_of_nonneg (by omega), ← Int.natCast_ediv, w32]
      have hxl : x / 2 ^ (i % 32) < 4294967296 := Nat.lt_of_le_of_lt (Nat.div_le_self _ _) hx'
      rw [← hc] at hbw
      generalize x / 2 ^ (i % 32) = y at hxl hbw
      rw [Int.tmod_eq_emod_of_nonneg (by omega)]
      by_cases h1 : c = 1
      · rw [h1]; exact beq_iff_eq.2 (by omega)
      · rw [beq_eq_false_iff_ne.2 h1]; exact beq_eq_false_iff_ne.2 (by omega)
    have hcb : (c == 1).toNat = c := by
      have : c = 0 ∨ c = 1 := by omega
      rcases this with h1 | h1 <;> rw [h1] <;> rfl
    obtain ⟨V, hV⟩ : ∃ V, V = val a / 2 ^ (i + 1) := ⟨_, rfl⟩
    have hVi : val a / 2 ^ i = 2 * V + c := by rw [hV, hc]; exact half_step _ _
    rw [← hV]
    obtain ⟨Q, hQ⟩ : ∃ Q, Q = V / val b := ⟨_, rfl⟩
    obtain ⟨R, hR⟩ : ∃ R, R = V % val b := ⟨_, rfl⟩
    obtain ⟨rd1, rd2⟩ := bit_round hvb hQ hR hc1
    have hRlt : R < val b := by rw [hR]; exact Nat.mod_lt _ hvb
    have hbl := val_lt hwb
    have hal := val_lt hwa
    have hR2 : 2 * R + c < 4294967296 ^ (b.length + 1) := by rw [Nat.pow_succ]; omega
    have hVa : 2 * V + c ≤ val a := by rw [← hVi]; exact Nat.div_le_self _ _
    have hQV : Q ≤ V := by rw [hQ]; exact Nat.div_le_self _ _
    rw [← hQ, ← hR]
    have hd1 := Double_spec (r := dig (b.length + 1) R) (c == 1) (Wd.dig _ _) (by rw [dig_len]; omega)
    rw [dig_len, val_dig_lt (by omega), hcb, ← eb] at hd1
    refine call_row 15 hd1 rfl rfl rfl rfl rfl rfl (same_words (by rw [dig_len, dig_len])) ?_
    have hd2 := Double_spec (r := dig a.length Q) false (Wd.dig _ _) (by rw [dig_len]; omega)
    rw [dig_len, val_dig_lt (by omega), show (2 * Q + false.toNat) = 2 * Q from rfl] at hd2
    refine call_row 11 hd2 rfl rfl rfl rfl rfl rfl (same_words (by rw [dig_len, dig_len])) ?_
    have hcm := rCmp_spec (a := dig (b.length + 1) (2 * R + c)) (b := b) (Wd.dig _ _) hwb (by rw [dig_len]; omega) (by omega)
    rw [val_dig_lt hR2, ← snap_all 32 _ (dig_len _ _).symm] at hcm
    refine opp_callR (T := TB) hcm rfl rfl rfl rfl rfl rfl ?_
    refine split_intro (fun h2 => ?_) (fun h2 => ?_)
    · have h2 : cmpI (2 * R + c) (val b) ≥ 0 := of_decide_eq_true h2
      have h3 : val b ≤ 2 * R + c := by
        rcases Nat.lt_or_ge (2 * R + c) (val b) with h4 | h4
        · have := cmpI_lt.2 h4; omega
        · exact h4
      obtain ⟨q1, q2⟩ := rd1 h3
      have hls := Less_spec (a := dig (b.length + 1) (2 * R + c)) (b := b) (Wd.dig _ _) hwb (by rw [dig_len]; omega) (by omega) (by rw [val_dig_lt hR2]; exact h3)
      rw [dig_len, val_dig_lt hR2] at hls
      refine call_row 15 hls rfl rfl rfl rfl rfl rfl (same_words (by rw [dig_len, dig_len])) ?_
      have hal0 : 0 < a.length := by omega
      obtain ⟨m, hm⟩ : ∃ m, a.length = m + 1 := ⟨a.length - 1, by omega⟩
      refine side_intro (by show (0 : Int) ≤ 0 ∧ (0 : Int) < ((a.length : Nat) : Int); omega) ?_
      refine idx_own 0 rfl (by show 0 < (dig a.length (2 * Q)).length; rw [dig_len]; exact hal0) ?_
      refine side_intro (by show (0 : Int) ≤ 0 ∧ (0 : Int) < ((a.length : Nat) : Int); omega) ?_
      refine ⟨i, by omega, Nat.lt_succ_self i, weak_st _ _ ⟨rfl, rfl, rfl, rfl, i64_inj e3, trivial⟩ ⟨?_, ?_, trivial⟩ rfl⟩
      · show some (MO.words 32 ((dig a.length (2 * Q)).set 0 (IntKind.u32.wrap ((dig a.length (2 * Q)).getD 0 0 + 1)))) = _
        rw [hVi, q1, hm]
        have eg : (dig (m + 1) (2 * Q)).getD 0 0 = (((2 * Q) % 4294967296 : Nat) : Int) := rfl
        have ew : IntKind.u32.wrap ((dig (m + 1) (2 * Q)).getD 0 0 + 1) = (((2 * Q) % 4294967296 + 1 : Nat) : Int) := by rw [eg, w32]; omega
        rw [ew, dig_inc]
      · rw [hVi, q2]; rfl
    · have h2 : ¬ cmpI (2 * R + c) (val b) ≥ 0 := of_decide_eq_false h2
      have h3 : ¬ val b ≤ 2 * R + c := by
        intro h4
        rcases Nat.lt_or_ge (2 * R + c) (val b) with h5 | h5
        · omega
        · have : ¬ cmpI (2 * R + c) (val b) < 0 := fun h6 => by have := cmpI_lt.1 h6; omega
          omega
      obtain ⟨q1, q2⟩ := rd2 h3
      refine ⟨i, by omega, Nat.lt_succ_self i, weak_st _ _ ⟨rfl, rfl, rfl, rfl, i64_inj e3, trivial⟩ ⟨?_, ?_, trivial⟩ rfl⟩
      · rw [hVi, q1]; rfl
      · rw [hVi, q2]; rfl
  · have h : ¬ (k : Int) - 1 ≥ 0 := of_decide_eq_false h
    have hk0 : k = 0 := by omega
    subst hk0
    have hal := val_lt hwa
    have hbl := val_lt hwb
    have hQl : val a / val b < 4294967296 ^ a.length := Nat.lt_of_le_of_lt (Nat.div_le_self _ _) hal
    have hRl : val a % val b < 4294967296 ^ (b.length + 1) := by
      have := Nat.mod_lt (val a) hvb
      rw [Nat.pow_succ]; omega
    have hn1 := rNorm_specG (a := dig a.length (val a / 2 ^ 0 / val b)) (Wd.dig _ _) (by rw [dig_len]; omega)
    have hn2 := rNorm_specG (a := dig (b.length + 1) (val a / 2 ^ 0 % val b)) (Wd.dig _ _) (by rw [dig_len]; omega)
    refine opp_weak _ (weak_freeze (i := 11) (m := .words 32 (dig a.length (val a / 2 ^ 0 / val b))) (Nat.le_of_ble_eq_true rfl) rfl) ?_
    refine call_new 51 hn1 rfl rfl rfl rfl rfl ?_ rfl ?_
    · show [snapM (.words 32 (dig a.length (val a / 2 ^ 0 / val b))) 0 a.length] = _
      rw [snap_all 32 _ (dig_len _ _).symm]
    refine opp_weak _ (weak_freeze (i := 15) (m := .words 32 (dig (b.length + 1) (val a / 2 ^ 0 % val b))) (Nat.le_of_ble_eq_true rfl) rfl) ?_
    refine call_new 53 hn2 rfl rfl rfl rfl rfl ?_ rfl ?_
    · show [snapM (.words 32 (dig (b.length + 1) (val a / 2 ^ 0 % val b))) 0 (b.length + 1)] = _
      rw [snap_all 32 _ (dig_len _ _).symm]
    have e5 : val (dig a.length (val a / 2 ^ 0 / val b)) = val a / val b := by rw [Nat.pow_zero, Nat.div_one, val_dig_lt hQl]
    have e6 : val (dig (b.length + 1) (val a / 2 ^ 0 % val b)) = val a % val b := by rw [Nat.pow_zero, Nat.div_one, val_dig_lt hRl]
    refine retG_intro ?_ rfl ⟨?_, ?_, trivial⟩ rfl
    · show V.tup [V.own 51 0 (toW (val (dig a.length (val a / 2 ^ 0 / val b)))).length, V.own 53 0 (toW (val (dig (b.length + 1) (val a / 2 ^ 0 % val b)))).length] = _
      rw [e5, e6]
    · show some (MO.words 32 (toW (val (dig a.length (val a / 2 ^ 0 / val b))))) = _
      rw [e5]
    · show some (MO.words 32 (toW (val (dig (b.length + 1) (val a / 2 ^ 0 % val b))))) = _
      rw [e6]
theorem rDiv_spec {a b : List Int} (hwa : Wd a) (hwb : Wd b) (ha : a.length ≤ 137438953472) (hb : b.length ≤ 137438953472) (h0 : val b ≠ 0) :
    Runs Try.prog g_retrospectref05_Div [.d (.words a), .d (.words b)] (.tup [.d (.words (toW (val a / val b))), .d (.words (toW (val a % val b)))]) := by
  have := runs_of_G (rDiv_specG hwa hwb ha hb h0) rfl rfl
  have e : snapR [(51, MO.words tU32 (toW (val a / val b))), (53, MO.words tU32 (toW (val a % val b)))] (.tup [.own 51 0 (toW (val a / val b)).length, .own 53 0 (toW (val a % val b)).length]) = .tup [.d (.words (toW (val a / val b))), .d (.words (toW (val a % val b)))] := by
    show V.tup [snapM (.words 32 (toW (val a / val b))) 0 _, snapM (.words 32 (toW (val a % val b))) 0 _] = _
    rw [snap_all 32 _ rfl, snap_all 32 _ rfl]
  rw [e] at this
  exact this
end Go.Proofs.Ythefflmebkcilaa.Fw
