/- Texts of the proof, one after the other: SK PL SL PM FX SM SN SO SQ PN SR ST SU SV SW RA RB RC SY LQ FY RF PW PT PO. -/
import Derived.Below
import Derived.OpenShut
import Derived.Test.YtolkecnhncbkhaaGreatM3
set_option linter.unusedSimpArgs false
set_option linter.unusedVariables false
/- The document's quotient, bit by bit. -/
set_option linter.unusedVariables false
namespace Go.Proofs.YtolkecnhncbkhaaGreat.Fw
open Go Pu
theorem lt_bits {v : Nat} : v < 2 ^ bits v := by
  unfold bits
  split
  · rename_i h; rw [h]; decide
  · exact Nat.lt_log2_self
set_option maxHeartbeats 2000000 in
theorem rDiv_specG {a b : List Int} (hwa : Wd a) (hwb : Wd b) (ha : a.length ≤ 137438953472) (hb : b.length ≤ 137438953472) (h0 : val b ≠ 0) :
    RunsG Tryz.prog g_retrospectref05_Div [.d (.words a), .d (.words b)] [] (.tup [.own 51 0 (toW (val a / val b)).length, .own 53 0 (toW (val a % val b)).length]) [(51, .words tU32 (toW (val a / val b))), (53, .words tU32 (toW (val a % val b)))] := by
  refine runG [51, 53] p_retrospectref05_Div rfl rfl rfl rfl (fun B S F0 w0 V0 => ?_)
  refine opp_make hT rfl rfl (Nat.le_of_ble_eq_true rfl) (e := tU32) rfl rfl (Nat.le_of_ble_eq_true rfl) (fun _ => rfl) (k := .i64) (k' := .i64) (n := ((a.length : Nat) : Int)) rfl rfl rfl (by omega) ?_ ?_ ?_
  · show 4 * ((a.length : Nat) : Int).toNat ≤ _
    omega
  · unfold maxLen; omega
  have e1 : IntKind.i64.wrap ((b.length : Int) + 1) = ((b.length + 1 : Nat) : Int) := by rw [wr (by omega) (by omega)]; omega
  refine opp_make hT rfl rfl (Nat.le_of_ble_eq_true rfl) (e := tU32) rfl rfl (Nat.le_of_ble_eq_true rfl) (fun _ => rfl) (k := .i64) (k' := .i64) (n := ((b.length + 1 : Nat) : Int)) (i64_inj e1) (i64_inj e1) rfl (by omega) ?_ ?_ ?_
  · show 4 * ((b.length + 1 : Nat) : Int).toNat ≤ _
    omega
  · unfold maxLen; omega
  rw [Int.toNat_natCast, Int.toNat_natCast]
  refine call_intro _ (rLen_spec hwa (by omega)) ?_
  have hvb : 0 < val b := by omega
  have hbits : bits (val a) ≤ 32 * a.length := by
    unfold bits
    split
    · omega
    · rename_i h
      have := (Nat.log2_lt h).2 (val_lt_bits hwa)
      omega
  have e2 : IntKind.i64.wrap (((bits (val a) : Nat) : Int) - 1) = ((bits (val a) : Nat) : Int) - 1 := wr (by omega) (by omega)
  refine loop_intro (fun k : Nat => st [(0, .d (.words a)), (1, .d (.words b)), (6, .own 11 0 a.length), (7, .own 15 0 (b.length + 1)), (8, .d (.int .i64 ((k : Int) - 1)))] [(11, .words tU32 (dig a.length (val a / 2 ^ k / val b))), (15, .words tU32 (dig (b.length + 1) (val a / 2 ^ k % val b)))]) (fun k => k)
    (fun k => k ≤ bits (val a)) (bits (val a)) (Nat.le_refl _) (weak_st _ _ ⟨rfl, rfl, rfl, rfl, i64_inj e2, trivial⟩ ⟨?_, ?_, trivial⟩ rfl) ?_
  · rw [Nat.div_eq_of_lt lt_bits, Nat.zero_div, dig_zero]; rfl
  · rw [Nat.div_eq_of_lt lt_bits, Nat.zero_mod, dig_zero]; rfl
  intro k hk
  refine split_intro (fun h => ?_) (fun h => ?_)
  · have h : (k : Int) - 1 ≥ 0 := of_decide_eq_true h
    obtain ⟨i, rfl⟩ : ∃ i, k = i + 1 := ⟨k - 1, by omega⟩
    have ei : ((i + 1 : Nat) : Int) - 1 = (i : Int) := by omega
    have e3 : IntKind.i64.wrap (((i + 1 : Nat) : Int) - 1 - 1) = (i : Int) - 1 := by rw [ei, wr (by omega) (by omega)]
    have ej : IntKind.i64.wrap ((((i + 1 : Nat) : Int) - 1).tdiv 32) = ((i / 32 : Nat) : Int) := by rw [ei, Int.tdiv_eq_ediv_of_nonneg (by omega), wr (by omega) (by omega)]; omega
    have er : (((i + 1 : Nat) : Int) - 1).tmod 32 = ((i % 32 : Nat) : Int) := by rw [ei, Int.tmod_eq_emod_of_nonneg (by omega)]; omega
    refine side_intro rfl ?_
    refine side_intro (by show (32 : Int) ≠ 0; omega) ?_
    refine idx_w (i / 32) ej (by omega) ?_
    refine side_intro (by show (32 : Int) ≠ 0; omega) ?_
    refine side_intro (by show (0 : Int) ≤ (((i + 1 : Nat) : Int) - 1).tmod 32; rw [er]; omega) ?_
    have hr32 : i % 32 < 32 := Nat.mod_lt _ (by omega)
    have hp2 : 0 < 2 ^ (i % 32) := Nat.two_pow_pos _
    have hp31 : 2 ^ (i % 32) ≤ 2 ^ 31 := Nat.pow_le_pow_right (by omega) (by omega)
    have es : IntKind.u32.wrap (1 * 2 ^ (min ((((i + 1 : Nat) : Int) - 1).tmod 32).toNat IntKind.u32.bits)) = ((2 ^ (i % 32) : Nat) : Int) := by
      rw [er, Int.toNat_natCast, show min (i % 32) IntKind.u32.bits = i % 32 by show min (i % 32) 32 = _; omega, Int.one_mul, show (2 : Int) ^ (i % 32) = ((2 ^ (i % 32) : Nat) : Int) by rw [Int.natCast_pow]; rfl, w32]
      generalize 2 ^ (i % 32) = z at hp31
      omega
    refine side_intro (by show IntKind.u32.wrap (1 * 2 ^ (min ((((i + 1 : Nat) : Int) - 1).tmod 32).toNat IntKind.u32.bits)) ≠ 0; rw [es]; generalize 2 ^ (i % 32) = z at hp2; omega) ?_
    refine side_intro (by show (2 : Int) ≠ 0; omega) ?_
    obtain ⟨x, hx, hx'⟩ := mget a hwa (i / 32)
    have hbw := bit_word hwa (j := i / 32) (r := i % 32) (by omega) hr32
    rw [show 32 * (i / 32) + i % 32 = i by omega, hx, Int.toNat_natCast] at hbw
    obtain ⟨c, hc⟩ : ∃ c, c = val a / 2 ^ i % 2 := ⟨_, rfl⟩
    have hc1 : c ≤ 1 := by omega
    have eb : ((IntKind.u32.wrap ((a.getD (i / 32) 0).tdiv (IntKind.u32.wrap (1 * 2 ^ (min ((((i + 1 : Nat) : Int) - 1).tmod 32).toNat IntKind.u32.bits))))).tmod 2 == 1) = (c == 1) := by
      rw [es, hx, Int.tdiv_eq_ediv_of_nonneg (by omega), ← Int.natCast_ediv, w32]
      have hxl : x / 2 ^ (i % 32) < 4294967296 := Nat.lt_of_le_of_lt (Nat.div_le_self _ _) hx'
      rw [← hc] at hbw
      generalize x / 2 ^ (i % 32) = y at hxl hbw
      rw [Int.tmod_eq_emod_of_nonneg (by omega)]
      by_cases h1 : c = 1
      · rw [h1]; exact beq_iff_eq.2 (by omega)
      · rw [beq_eq_false_iff_ne.2 h1]; exact beq_eq_false_iff_ne.2 (by omega)
    have hcb : (c == 1).toNat = c := by
      have : c = 0 ∨ c = 1 := by omega
      rcases this with h1 | h1 <;> rw [h1] <;> rfl
    obtain ⟨V, hV⟩ : ∃ V, V = val a / 2 ^ (i + 1) := ⟨_, rfl⟩
    have hVi : val a / 2 ^ i = 2 * V + c := by rw [hV, hc]; exact half_step _ _
    rw [← hV]
    obtain ⟨Q, hQ⟩ : ∃ Q, Q = V / val b := ⟨_, rfl⟩
    obtain ⟨R, hR⟩ : ∃ R, R = V % val b := ⟨_, rfl⟩
    obtain ⟨rd1, rd2⟩ := bit_round hvb hQ hR hc1
    have hRlt : R < val b := by rw [hR]; exact Nat.mod_lt _ hvb
    have hbl := val_lt hwb
    have hal := val_lt hwa
    have hR2 : 2 * R + c < 4294967296 ^ (b.length + 1) := by rw [Nat.pow_succ]; omega
    have hVa : 2 * V + c ≤ val a := by rw [← hVi]; exact Nat.div_le_self _ _
    have hQV : Q ≤ V := by rw [hQ]; exact Nat.div_le_self _ _
    rw [← hQ, ← hR]
    have hd1 := Double_spec (r := dig (b.length + 1) R) (c == 1) (Wd.dig _ _) (by rw [dig_len]; omega)
    rw [dig_len, val_dig_lt (by omega), hcb, ← eb] at hd1
    refine call_row 15 hd1 rfl rfl rfl rfl rfl rfl (same_words (by rw [dig_len, dig_len])) ?_
    have hd2 := Double_spec (r := dig a.length Q) false (Wd.dig _ _) (by rw [dig_len]; omega)
    rw [dig_len, val_dig_lt (by omega), show (2 * Q + false.toNat) = 2 * Q from rfl] at hd2
    refine call_row 11 hd2 rfl rfl rfl rfl rfl rfl (same_words (by rw [dig_len, dig_len])) ?_
    have hcm := rCmp_spec (a := dig (b.length + 1) (2 * R + c)) (b := b) (Wd.dig _ _) hwb (by rw [dig_len]; omega) (by omega)
    rw [val_dig_lt hR2, ← snap_all tU32 _ (dig_len _ _).symm] at hcm
    refine opp_callR (T := TB) hcm rfl rfl rfl rfl rfl rfl ?_
    refine split_intro (fun h2 => ?_) (fun h2 => ?_)
    · have h2 : cmpI (2 * R + c) (val b) ≥ 0 := of_decide_eq_true h2
      have h3 : val b ≤ 2 * R + c := by
        rcases Nat.lt_or_ge (2 * R + c) (val b) with h4 | h4
        · have := cmpI_lt.2 h4; omega
        · exact h4
      obtain ⟨q1, q2⟩ := rd1 h3
      have hls := Less_spec (a := dig (b.length + 1) (2 * R + c)) (b := b) (Wd.dig _ _) hwb (by rw [dig_len]; omega) (by omega) (by rw [val_dig_lt hR2]; exact h3)
      rw [dig_len, val_dig_lt hR2] at hls
      refine call_row 15 hls rfl rfl rfl rfl rfl rfl (same_words (by rw [dig_len, dig_len])) ?_
      have hal0 : 0 < a.length := by omega
      obtain ⟨m, hm⟩ : ∃ m, a.length = m + 1 := ⟨a.length - 1, by omega⟩
      refine side_intro (by show (0 : Int) ≤ 0 ∧ (0 : Int) < ((a.length : Nat) : Int); omega) ?_
      refine idx_own 0 rfl (by show 0 < (dig a.length (2 * Q)).length; rw [dig_len]; exact hal0) ?_
      refine side_intro (by show (0 : Int) ≤ 0 ∧ (0 : Int) < ((a.length : Nat) : Int); omega) ?_
      refine ⟨i, by omega, Nat.lt_succ_self i, weak_st _ _ ⟨rfl, rfl, rfl, rfl, i64_inj e3, trivial⟩ ⟨?_, ?_, trivial⟩ rfl⟩
      · show some (MO.words tU32 ((dig a.length (2 * Q)).set 0 (IntKind.u32.wrap ((dig a.length (2 * Q)).getD 0 0 + 1)))) = _
        rw [hVi, q1, hm]
        have eg : (dig (m + 1) (2 * Q)).getD 0 0 = (((2 * Q) % 4294967296 : Nat) : Int) := rfl
        have ew : IntKind.u32.wrap ((dig (m + 1) (2 * Q)).getD 0 0 + 1) = (((2 * Q) % 4294967296 + 1 : Nat) : Int) := by rw [eg, w32]; omega
        rw [ew, dig_inc]
      · rw [hVi, q2]; rfl
    · have h2 : ¬ cmpI (2 * R + c) (val b) ≥ 0 := of_decide_eq_false h2
      have h3 : ¬ val b ≤ 2 * R + c := by
        intro h4
        rcases Nat.lt_or_ge (2 * R + c) (val b) with h5 | h5
        · omega
        · have : ¬ cmpI (2 * R + c) (val b) < 0 := fun h6 => by have := cmpI_lt.1 h6; omega
          omega
      obtain ⟨q1, q2⟩ := rd2 h3
      refine ⟨i, by omega, Nat.lt_succ_self i, weak_st _ _ ⟨rfl, rfl, rfl, rfl, i64_inj e3, trivial⟩ ⟨?_, ?_, trivial⟩ rfl⟩
      · rw [hVi, q1]; rfl
      · rw [hVi, q2]; rfl
  · have h : ¬ (k : Int) - 1 ≥ 0 := of_decide_eq_false h
    have hk0 : k = 0 := by omega
    subst hk0
    have hal := val_lt hwa
    have hbl := val_lt hwb
    have hQl : val a / val b < 4294967296 ^ a.length := Nat.lt_of_le_of_lt (Nat.div_le_self _ _) hal
    have hRl : val a % val b < 4294967296 ^ (b.length + 1) := by
      have := Nat.mod_lt (val a) hvb
      rw [Nat.pow_succ]; omega
    have hn1 := rNorm_specG (a := dig a.length (val a / 2 ^ 0 / val b)) (Wd.dig _ _) (by rw [dig_len]; omega)
    have hn2 := rNorm_specG (a := dig (b.length + 1) (val a / 2 ^ 0 % val b)) (Wd.dig _ _) (by rw [dig_len]; omega)
    refine opp_weak _ (weak_freeze (i := 11) (m := .words tU32 (dig a.length (val a / 2 ^ 0 / val b))) (Nat.le_of_ble_eq_true rfl) rfl) ?_
    refine call_new 51 hn1 rfl rfl rfl rfl rfl ?_ rfl ?_
    · show [snapM (.words tU32 (dig a.length (val a / 2 ^ 0 / val b))) 0 a.length] = _
      rw [snap_all tU32 _ (dig_len _ _).symm]
    refine opp_weak _ (weak_freeze (i := 15) (m := .words tU32 (dig (b.length + 1) (val a / 2 ^ 0 % val b))) (Nat.le_of_ble_eq_true rfl) rfl) ?_
    refine call_new 53 hn2 rfl rfl rfl rfl rfl ?_ rfl ?_
    · show [snapM (.words tU32 (dig (b.length + 1) (val a / 2 ^ 0 % val b))) 0 (b.length + 1)] = _
      rw [snap_all tU32 _ (dig_len _ _).symm]
    have e5 : val (dig a.length (val a / 2 ^ 0 / val b)) = val a / val b := by rw [Nat.pow_zero, Nat.div_one, val_dig_lt hQl]
    have e6 : val (dig (b.length + 1) (val a / 2 ^ 0 % val b)) = val a % val b := by rw [Nat.pow_zero, Nat.div_one, val_dig_lt hRl]
    refine retG_intro ?_ rfl ⟨?_, ?_, trivial⟩ rfl
    · show V.tup [V.own 51 0 (toW (val (dig a.length (val a / 2 ^ 0 / val b)))).length, V.own 53 0 (toW (val (dig (b.length + 1) (val a / 2 ^ 0 % val b)))).length] = _
      rw [e5, e6]
    · show some (MO.words tU32 (toW (val (dig a.length (val a / 2 ^ 0 / val b))))) = _
      rw [e5]
    · show some (MO.words tU32 (toW (val (dig (b.length + 1) (val a / 2 ^ 0 % val b))))) = _
      rw [e6]
theorem rDiv_spec {a b : List Int} (hwa : Wd a) (hwb : Wd b) (ha : a.length ≤ 137438953472) (hb : b.length ≤ 137438953472) (h0 : val b ≠ 0) :
    Runs Tryz.prog g_retrospectref05_Div [.d (.words a), .d (.words b)] (.tup [.d (.words (toW (val a / val b))), .d (.words (toW (val a % val b)))]) := by
  have := runs_of_G (rDiv_specG hwa hwb ha hb h0) rfl rfl
  have e : snapR [(51, MO.words tU32 (toW (val a / val b))), (53, MO.words tU32 (toW (val a % val b)))] (.tup [.own 51 0 (toW (val a / val b)).length, .own 53 0 (toW (val a % val b)).length]) = .tup [.d (.words (toW (val a / val b))), .d (.words (toW (val a % val b)))] := by
    show V.tup [snapM (.words tU32 (toW (val a / val b))) 0 _, snapM (.words tU32 (toW (val a % val b))) 0 _] = _
    rw [snap_all tU32 _ rfl, snap_all tU32 _ rfl]
  rw [e] at this
  exact this
end Go.Proofs.YtolkecnhncbkhaaGreat.Fw

/- How long numbers are; common divisors. -/
namespace Go.Proofs.YtolkecnhncbkhaaGreat.Pu
theorem nw_mul (m n : Nat) : (toW (m * n)).length ≤ (toW m).length + (toW n).length := by
  rw [toW_len_iff, Nat.pow_add]
  have h1 := val_lt (Wd.toW m)
  have h2 := val_lt (Wd.toW n)
  rw [val_toW] at h1 h2
  rcases Nat.eq_zero_or_pos n with h0 | h0
  · subst h0; rw [Nat.mul_zero]; exact Nat.mul_pos (Nat.pow_pos (by omega)) (Nat.pow_pos (by omega))
  · exact Nat.lt_of_lt_of_le (Nat.mul_lt_mul_of_pos_right h1 h0) (Nat.mul_le_mul_left _ (Nat.le_of_lt h2))
theorem nw_add {m n k : Nat} (h1 : (toW m).length ≤ k) (h2 : (toW n).length ≤ k) : (toW (m + n)).length ≤ k + 1 := by
  rw [toW_len_iff] at *
  rw [Nat.pow_succ]
  omega
theorem nw_le {m n k : Nat} (h : m ≤ n) (hk : (toW n).length ≤ k) : (toW m).length ≤ k := Nat.le_trans (toW_len_mono h) hk
theorem nw_val {a : List Int} (h : Wd a) {k : Nat} (hk : a.length ≤ k) : (toW (val a)).length ≤ k := Nat.le_trans (toW_len_val_le h) hk
theorem nw_two {n : Nat} : (toW n).length ≤ 2 ↔ n < 18446744073709551616 := by
  rw [toW_len_iff, show (4294967296 : Nat) ^ 2 = 18446744073709551616 from rfl]
theorem nw_one {n : Nat} (h0 : n ≠ 0) (h : n < 4294967296) : toW n = [(n : Int)] := by
  rw [toW_pos h0, Nat.div_eq_of_lt h, toW_zero, Nat.mod_eq_of_lt h]
theorem toW_is_one {n : Nat} : (toW n).length = 1 ∧ (toW n).getD 0 0 = 1 ↔ n = 1 := by
  constructor
  · rintro ⟨h1, h2⟩
    have h3 := val_toW n
    match hh : toW n, h1 with
    | [x], _ =>
      rw [hh] at h2 h3
      have hx : x = 1 := h2
      subst hx
      exact h3.symm
  · intro h
    subst h
    rw [nw_one (by omega) (by omega)]
    exact ⟨rfl, rfl⟩
theorem or_cat (h l : Nat) (hl : l < 4294967296) : h * 4294967296 ||| l = h * 4294967296 + l := by
  have := Nat.two_pow_add_eq_or_of_lt (i := 32) (b := l) hl h
  rw [show h * 4294967296 = 2 ^ 32 * h by omega, ← this]
theorem gcd_step (m n : Nat) : Nat.gcd n (m % n) = Nat.gcd m n := by
  rw [Nat.gcd_comm n (m % n), Nat.gcd_comm m n, Nat.gcd_rec n m]
end Go.Proofs.YtolkecnhncbkhaaGreat.Pu

/- Sums of two, small numbers, common divisors. -/
set_option linter.unusedVariables false
namespace Go.Proofs.YtolkecnhncbkhaaGreat.Fw
open Go Pu
theorem rowsV (a b : List Int) (i : Nat) : [[D.words a], [D.words b]][i]? = some [.words ([a, b].getD i [])] ↔ i < 2 := by
  rcases i with _ | _ | i <;> simp
def psum (x y : Nat) : Nat → Nat
  | 0 => 0
  | 1 => x
  | _ => x + y
theorem AddTwo_spec {a b : List Int} (hwa : Wd a) (hwb : Wd b) (ha : a.length ≤ 274877906944) (hb : b.length ≤ 274877906944) : Runs Tryz.prog g_nat_Add [.d (.rows 1 [[.words a], [.words b]])] (.d (.words (toW (val a + val b)))) := by
  refine run1 [] p_nat_Add rfl rfl (fun B S F0 w0 V0 => ?_)
  refine loop_intro (fun i : Nat => st [(3, .d (.words (toW (psum (val a) (val b) i)))), (6, .d (.rows 1 [[.words a], [.words b]])), (7, .d (.int .i64 2)), (8, .d (.int .i64 (i : Int)))] []) (fun i => 2 - i) (fun i => i ≤ 2) 0
    (Nat.zero_le _) (weak_trans (weak_st _ _ ⟨by show V.d (.words []) = V.d (.words (toW 0)); rw [toW_zero], rfl, rfl, rfl, trivial⟩ trivial rfl) (weak_nilW 3 rfl)) ?_
  intro i hi
  have la := nw_val hwa ha
  have lb := nw_val hwb hb
  refine split_intro (fun h => ?_) (fun h => ?_)
  · have h : (i : Int) < 2 := of_decide_eq_true h
    have h01 : i = 0 ∨ i = 1 := by omega
    rcases h01 with rfl | rfl
    · refine idx_intro [.words a] (by omega) rfl ?_
      refine call_intro _ (trim_spec hwa (by omega)) ?_
      refine call_intro _ (plus_spec (Wd.toW 0) (Wd.toW (val a)) (by show (toW 0).length ≤ _; rw [toW_zero]; exact Nat.zero_le _) (by omega)) ?_
      refine ⟨1, by omega, by omega, weak_st _ _ ⟨?_, rfl, rfl, rfl, trivial⟩ trivial rfl⟩
      show V.d (.words (toW (val (toW 0) + val (toW (val a))))) = V.d (.words (toW (val a)))
      rw [val_toW, val_toW, Nat.zero_add]
    · refine idx_intro [.words b] (by omega) rfl ?_
      refine call_intro _ (trim_spec hwb (by omega)) ?_
      refine call_intro _ (plus_spec (Wd.toW (val a)) (Wd.toW (val b)) (by show (toW (val a)).length ≤ _; omega) (by omega)) ?_
      refine ⟨2, by omega, by omega, weak_st _ _ ⟨?_, rfl, rfl, rfl, trivial⟩ trivial rfl⟩
      show V.d (.words (toW (val (toW (val a)) + val (toW (val b))))) = V.d (.words (toW (val a + val b)))
      rw [val_toW, val_toW]
  · have h : ¬ (i : Int) < 2 := of_decide_eq_false h
    have : i = 2 := by omega
    subst this
    exact ret_intro rfl rfl
theorem Small_spec {a : List Int} (hw : Wd a) (ha : a.length ≤ 1099511627776) : Runs Tryz.prog g_nat_Small [.d (.words a)] (if val a < 18446744073709551616 then .tup [.d (.int .u64 (val a)), .d (.bool true)] else .tup [.d (.int .u64 0), .d (.bool false)]) := by
  refine run1 [] p_nat_Small rfl rfl (fun B S F0 w0 V0 => ?_)
  refine call_intro _ (trim_spec hw ha) ?_
  have hl := nw_val hw ha
  generalize val a = n at hl ⊢
  refine split_intro (fun h => ?_) (fun h => ?_)
  · have h : ((toW n).length : Int) > 2 := of_decide_eq_true h
    rw [if_neg (fun hh => by have := nw_two.2 hh; omega)]
    exact ret_intro rfl rfl
  have h : ¬ ((toW n).length : Int) > 2 := of_decide_eq_false h
  have h2 : (toW n).length ≤ 2 := by omega
  have hlt := nw_two.1 h2
  rw [if_pos hlt]
  have hwn := Wd.toW n
  refine loop_intro (fun i : Nat => st [(4, .d (.int .u64 ((val ((toW n).take i) : Nat) : Int))), (12, .d (.words (toW n))), (13, .d (.int .i64 ((toW n).length : Int))), (14, .d (.int .i64 (i : Int)))] []) (fun i => (toW n).length - i) (fun i => i ≤ (toW n).length) 0
    (Nat.zero_le _) (weak_st _ _ ⟨rfl, rfl, rfl, rfl, trivial⟩ trivial rfl) ?_
  intro i hi
  refine split_intro (fun h => ?_) (fun h => ?_)
  · have hlt2 : i < (toW n).length := by have h : (i : Int) < (toW n).length := of_decide_eq_true h; omega
    have ei : IntKind.i64.wrap ((i : Int) + 1) = ((i + 1 : Nat) : Int) := by rw [wr (by omega) (by omega)]; omega
    have e32 : IntKind.i64.wrap (32 * (i : Int)) = ((32 * i : Nat) : Int) := by rw [wr (by omega) (by omega)]; omega
    refine idx_w i rfl hlt2 ?_
    refine side_intro (by show (0 : Int) ≤ IntKind.i64.wrap (32 * (i : Int)); rw [e32]; omega) ?_
    refine ⟨i + 1, hlt2, by show (toW n).length - (i + 1) < (toW n).length - i; omega, weak_st _ _ ⟨u64_inj ?_, rfl, rfl, i64_inj ei, trivial⟩ trivial rfl⟩
    rw [e32, val_take_succ hlt2]
    obtain ⟨x, hx, hx'⟩ := mget (toW n) hwn i
    rw [hx]
    have h01 : i = 0 ∨ i = 1 := by omega
    have ex : IntKind.u64.wrap (x : Int) = x := by rw [w64]; omega
    rw [ex]
    have key : ∀ (p q : Nat), p < 18446744073709551616 → q < 18446744073709551616 → IntKind.u64.wrap (BitVec.ofInt 64 (p : Int) ||| BitVec.ofInt 64 (q : Int)).toNat = ((p ||| q : Nat) : Int) := by
      intro p q hp hq
      have e1 : BitVec.ofInt 64 (p : Int) = BitVec.ofNat 64 p := BitVec.ofInt_natCast ..
      have e2 : BitVec.ofInt 64 (q : Int) = BitVec.ofNat 64 q := BitVec.ofInt_natCast ..
      have hpq : p ||| q < 2 ^ 64 := Nat.or_lt_two_pow hp hq
      rw [e1, e2, BitVec.toNat_or, BitVec.toNat_ofNat, BitVec.toNat_ofNat, Nat.mod_eq_of_lt hp, Nat.mod_eq_of_lt hq, w64]
      omega
    rcases h01 with rfl | rfl
    · show IntKind.u64.wrap (BitVec.ofInt 64 ((val ((toW n).take 0) : Nat) : Int) ||| BitVec.ofInt 64 (IntKind.u64.wrap ((x : Int) * 2 ^ 0))).toNat = _
      rw [show (x : Int) * 2 ^ 0 = x by omega, ex, key _ _ (by rw [List.take_zero]; show 0 < 18446744073709551616; omega) (by omega)]
      have e0 : val ((toW n).take 0) = 0 := rfl
      rw [e0]
      simp
    · show IntKind.u64.wrap (BitVec.ofInt 64 ((val ((toW n).take 1) : Nat) : Int) ||| BitVec.ofInt 64 (IntKind.u64.wrap ((x : Int) * 4294967296))).toNat = _
      have e1 := val_take_lt hwn 1
      rw [Nat.pow_one] at e1
      generalize val ((toW n).take 1) = y at e1 ⊢
      have ew : IntKind.u64.wrap ((x : Int) * 4294967296) = ((x * 4294967296 : Nat) : Int) := by rw [w64]; omega
      rw [ew, key _ _ (by omega) (by omega), Nat.or_comm, or_cat x y e1]
      omega
  · have hend : i = (toW n).length := by have h : ¬ (i : Int) < (toW n).length := of_decide_eq_false h; omega
    refine ret_intro ?_ rfl
    show V.tup [.d (.int .u64 ((val ((toW n).take i) : Nat) : Int)), .d (.bool true)] = _
    rw [hend, List.take_length, val_toW]
theorem small_spec {x y : Nat} (hx : x < 18446744073709551616) (hy : y < 18446744073709551616) : Runs Tryz.prog g_common_small [.d (.int .u64 x), .d (.int .u64 y)] (.d (.int .u64 (Nat.gcd x y))) := by
  refine run1 [] p_common_small rfl rfl (fun B S F0 w0 V0 => ?_)
  refine loop_intro (fun p : Nat × Nat => st [(0, .d (.int .u64 (p.1 : Int))), (1, .d (.int .u64 (p.2 : Int)))] []) (fun p => p.2) (fun p => p.1 < 18446744073709551616 ∧ p.2 < 18446744073709551616 ∧ Nat.gcd p.1 p.2 = Nat.gcd x y) (x, y) ⟨hx, hy, rfl⟩ (weak_st _ _ ⟨rfl, rfl, trivial⟩ trivial rfl) ?_
  rintro ⟨m, n⟩ ⟨h1, h2, h3⟩
  dsimp only at h1 h2 h3
  refine split_intro (fun h => ?_) (fun h => ?_)
  · have h : (n : Int) ≠ 0 := bne_iff_ne.1 h
    have hn : n ≠ 0 := by omega
    refine side_intro rfl ?_
    refine side_intro h ?_
    have hml : m % n < n := Nat.mod_lt _ (by omega)
    refine ⟨(n, m % n), ⟨h2, by show m % n < _; omega, by rw [← h3]; exact gcd_step m n⟩, hml, weak_st _ _ ⟨rfl, u64_inj ?_, trivial⟩ trivial rfl⟩
    show ((m : Int)).tmod n = _
    rw [Int.tmod_eq_emod_of_nonneg (by omega)]
    exact (Int.natCast_emod _ _).symm
  · have h : (n : Int) = 0 := bne_eq_false_iff_eq.1 h
    have hn : n = 0 := by omega
    subst hn
    rw [Nat.gcd_zero_right] at h3
    refine ret_intro ?_ rfl
    show V.d (.int .u64 (m : Int)) = _
    rw [h3]
theorem Gcd_spec {a b : List Int} (hwa : Wd a) (hwb : Wd b) (ha : a.length ≤ 137438953472) (hb : b.length ≤ 137438953472) : Runs Tryz.prog g_common_Gcd [.d (.words a), .d (.words b)] (.d (.words (toW (Nat.gcd (val a) (val b))))) := by
  refine run1 [] p_common_Gcd rfl rfl (fun B S F0 w0 V0 => ?_)
  refine call_intro _ (norm_spec hwa (by omega)) ?_
  refine call_intro _ (norm_spec hwb (by omega)) ?_
  have la := nw_val hwa ha
  have lb := nw_val hwb hb
  generalize val a = m0 at la ⊢
  generalize val b = n0 at lb ⊢
  refine loop_intro (fun p : Nat × Nat => st [(0, .d (.words (toW p.1))), (1, .d (.words (toW p.2)))] []) (fun p => p.2) (fun p => (toW p.1).length ≤ 137438953472 ∧ (toW p.2).length ≤ 137438953472 ∧ Nat.gcd p.1 p.2 = Nat.gcd m0 n0) (m0, n0) ⟨la, lb, rfl⟩ (weak_st _ _ ⟨rfl, rfl, trivial⟩ trivial rfl) ?_
  rintro ⟨m, n⟩ ⟨h1, h2, h3⟩
  dsimp only at h1 h2 h3
  refine split_intro (fun h => ?_) (fun h => ?_)
  · have h : ((toW n).length : Int) > 2 := of_decide_eq_true h
    have hn : n ≠ 0 := by intro e; have := toW_len_zero.2 e; omega
    have hd := Div_spec (a := toW m) (b := toW n) (Wd.toW _) (Wd.toW _) (by omega) (by omega) (by rw [val_toW]; exact hn)
    rw [val_toW, val_toW] at hd
    refine call_intro _ hd ?_
    have hml : m % n < n := Nat.mod_lt _ (by omega)
    exact ⟨(n, m % n), ⟨h2, nw_le (Nat.le_of_lt hml) h2, by rw [← h3]; exact gcd_step m n⟩, hml, weak_st _ _ ⟨rfl, rfl, trivial⟩ trivial rfl⟩
  have h : ¬ ((toW n).length : Int) > 2 := of_decide_eq_false h
  refine split_intro (fun h0 => ?_) (fun h0 => ?_)
  · have h0 : ((toW n).length : Int) = 0 := eq_of_beq h0
    have hn : n = 0 := toW_len_zero.1 (by omega)
    subst hn
    rw [Nat.gcd_zero_right] at h3
    refine ret_intro ?_ rfl
    show V.d (.words (toW m)) = _
    rw [h3]
  · have h0 : ((toW n).length : Int) ≠ 0 := beq_eq_false_iff_ne.1 h0
    have hn : n ≠ 0 := by intro e; have := toW_len_zero.2 e; omega
    have hd := Div_spec (a := toW m) (b := toW n) (Wd.toW _) (Wd.toW _) (by omega) (by omega) (by rw [val_toW]; exact hn)
    rw [val_toW, val_toW] at hd
    refine call_intro _ hd ?_
    have hml : m % n < n := Nat.mod_lt _ (by omega)
    have hn2 : n < 18446744073709551616 := nw_two.1 (by omega)
    have hs1 := Small_spec (a := toW n) (Wd.toW _) (by omega)
    have hs2 := Small_spec (a := toW (m % n)) (Wd.toW _) (by have := nw_le (Nat.le_of_lt hml) h2; omega)
    rw [val_toW, if_pos hn2] at hs1
    rw [val_toW, if_pos (by omega)] at hs2
    refine call_intro _ hs1 ?_
    refine call_intro _ hs2 ?_
    refine call_intro _ (small_spec hn2 (by omega)) ?_
    have hg : Nat.gcd n (m % n) ≤ n := Nat.le_of_dvd (by omega) (Nat.gcd_dvd_left _ _)
    have hof := Of_spec (n := ((Nat.gcd n (m % n) : Nat) : Int)) (by omega) (by omega)
    rw [show toW ((Nat.gcd n (m % n) : Nat) : Int).toNat = toW (Nat.gcd m0 n0) by rw [Int.toNat_natCast, gcd_step, h3]] at hof
    refine call_intro _ hof ?_
    exact ret_intro rfl rfl
theorem one_spec {n : Nat} (h : (toW n).length ≤ 1099511627776) : Runs Tryz.prog g_common_one [.d (.words (toW n))] (.d (.bool (decide (n = 1)))) := by
  refine run1 [] p_common_one rfl rfl (fun B S F0 w0 V0 => ?_)
  refine split_intro (fun h1 => ?_) (fun h1 => ?_)
  · have h1 : ((toW n).length : Int) = 1 := eq_of_beq h1
    refine idx_w 0 rfl (by omega) ?_
    refine ret_intro (b_inj ?_) rfl
    show ((toW n).getD 0 0 == 1) = _
    by_cases hn : n = 1
    · rw [decide_eq_true hn]; exact beq_iff_eq.2 (toW_is_one.2 hn).2
    · rw [decide_eq_false hn]; exact beq_eq_false_iff_ne.2 (fun e => hn (toW_is_one.1 ⟨by omega, e⟩))
  · have h1 : ((toW n).length : Int) ≠ 1 := beq_eq_false_iff_ne.1 h1
    refine ret_intro (b_inj ?_) rfl
    rw [decide_eq_false (fun e => by have := (toW_is_one.2 e).1; omega)]
theorem nw_gcd {m n k : Nat} (h1 : (toW m).length ≤ k) (h2 : (toW n).length ≤ k) : (toW (Nat.gcd m n)).length ≤ k := by
  rcases Nat.eq_zero_or_pos m with h | h
  · rw [h, Nat.gcd_zero_left]; exact h2
  · exact nw_le (Nat.le_of_dvd h (Nat.gcd_dvd_left _ _)) h1
theorem Cancel_spec {a b : List Int} (hwa : Wd a) (hwb : Wd b) (ha : a.length ≤ 137438953472) (hb : b.length ≤ 137438953472) :
    Runs Tryz.prog g_common_Cancel [.d (.words a), .d (.words b)] (.tup [.d (.words (toW (val a / Nat.gcd (val a) (val b)))), .d (.words (toW (val b / Nat.gcd (val a) (val b))))]) := by
  refine run1 [] p_common_Cancel rfl rfl (fun B S F0 w0 V0 => ?_)
  refine call_intro _ (Gcd_spec hwa hwb ha hb) ?_
  have hg := nw_gcd (nw_val hwa ha) (nw_val hwb hb)
  obtain ⟨g, hgd⟩ : ∃ g, g = Nat.gcd (val a) (val b) := ⟨_, rfl⟩
  rw [← hgd] at hg ⊢
  refine split_intro (fun h => ?_) (fun h => ?_)
  · have h : ((toW g).length : Int) = 0 := eq_of_beq h
    have h0 : g = 0 := toW_len_zero.1 (by omega)
    rw [h0, Nat.div_zero, Nat.div_zero, toW_zero]
    exact ret_intro rfl rfl
  have h : ((toW g).length : Int) ≠ 0 := beq_eq_false_iff_ne.1 h
  have h0 : g ≠ 0 := by intro e; have := toW_len_zero.2 e; omega
  refine call_intro _ (one_spec (by omega)) ?_
  refine split_intro (fun h1 => ?_) (fun h1 => ?_)
  · have h1 : g = 1 := of_decide_eq_true h1
    refine call_intro _ (norm_spec hwa (by omega)) ?_
    refine call_intro _ (norm_spec hwb (by omega)) ?_
    rw [h1, Nat.div_one, Nat.div_one]
    exact ret_intro rfl rfl
  · have hd1 := Div_spec (b := toW g) hwa (Wd.toW _) ha (by omega) (by rw [val_toW]; exact h0)
    have hd2 := Div_spec (b := toW g) hwb (Wd.toW _) hb (by omega) (by rw [val_toW]; exact h0)
    rw [val_toW] at hd1 hd2
    refine call_intro _ hd1 ?_
    refine call_intro _ hd2 ?_
    exact ret_intro rfl rfl
end Go.Proofs.YtolkecnhncbkhaaGreat.Fw

/- How often a number can be halved; common divisors by halving. -/
namespace Go.Proofs.YtolkecnhncbkhaaGreat.Pu
def tz (n : Nat) : Nat := if h : n % 2 = 1 ∨ n = 0 then 0 else tz (n / 2) + 1
termination_by n
decreasing_by omega
def op (n : Nat) : Nat := n / 2 ^ tz n
theorem tz_odd {n : Nat} (h : n % 2 = 1) : tz n = 0 := by rw [tz, dif_pos (.inl h)]
theorem tz_two {n : Nat} (h : n ≠ 0) : tz (2 * n) = tz n + 1 := by
  rw [tz, dif_neg (by omega), show 2 * n / 2 = n by omega]
theorem tz_even {n : Nat} (h : n % 2 = 0) (h0 : n ≠ 0) : tz n = tz (n / 2) + 1 := by rw [tz, dif_neg (by omega)]
theorem tz_pow (k u : Nat) (h : u % 2 = 1) : tz (2 ^ k * u) = k := by
  induction k with
  | zero => rw [Nat.pow_zero, Nat.one_mul]; exact tz_odd h
  | succ k ih =>
    have : 2 ^ k * u ≠ 0 := by
      have := Nat.mul_pos (Nat.two_pow_pos k) (show 0 < u by omega)
      omega
    rw [Nat.pow_succ, Nat.mul_comm (2 ^ k) 2, Nat.mul_assoc, tz_two this, ih]
theorem op_eq {n : Nat} (h : n ≠ 0) : n = 2 ^ tz n * op n ∧ op n % 2 = 1 := by
  induction n using Nat.strongRecOn with
  | _ n ih =>
    by_cases h1 : n % 2 = 1
    · unfold op
      rw [tz_odd h1, Nat.pow_zero, Nat.div_one, Nat.one_mul]
      exact ⟨rfl, h1⟩
    · obtain ⟨e1, e2⟩ := ih (n / 2) (by omega) (by omega)
      have e3 := tz_even (n := n) (by omega) h
      have e4 : n = 2 * (n / 2) := by omega
      have hp : 0 < 2 ^ tz (n / 2) := Nat.two_pow_pos _
      have e5 : op n = op (n / 2) := by
        have : op n = 2 * (n / 2) / (2 ^ tz (n / 2) * 2) := by
          unfold op
          rw [e3, Nat.pow_succ, ← e4]
        rw [this, Nat.mul_comm (2 ^ _) 2, Nat.mul_div_mul_left _ _ (by omega)]
        rfl
      rw [e5, e3]
      refine ⟨?_, e2⟩
      rw [Nat.pow_succ, Nat.mul_assoc, Nat.mul_comm 2, ← Nat.mul_assoc, ← e1]
      omega
theorem op_pos {n : Nat} (h : n ≠ 0) : 0 < op n := by have := (op_eq h).2; omega
theorem op_le (n : Nat) : op n ≤ n := Nat.div_le_self _ _
theorem pow_tz_le {n : Nat} (h : n ≠ 0) : 2 ^ tz n ≤ n := by
  obtain ⟨h1, h2⟩ := op_eq h
  have h3 : 2 ^ tz n * 1 ≤ 2 ^ tz n * op n := Nat.mul_le_mul_left _ (by omega)
  omega
theorem tz_lt {n k : Nat} (h : n ≠ 0) (hk : n < 2 ^ k) : tz n < k := by
  rcases Nat.lt_or_ge (tz n) k with h1 | h1
  · exact h1
  · have h2 := pow_tz_le h
    have h3 : 2 ^ k ≤ 2 ^ tz n := Nat.pow_le_pow_right (by omega) h1
    omega
theorem tz_word {x y : Nat} (hx : x ≠ 0) (hlt : x < 4294967296) : tz (x + 4294967296 * y) = tz x := by
  obtain ⟨h1, h2⟩ := op_eq hx
  have h3 : tz x < 32 := tz_lt hx hlt
  have h4 : 2 ^ tz x * 2 ^ (32 - tz x) = 4294967296 := pow32 (by omega)
  have h5 : 2 ^ (32 - tz x) = 2 * 2 ^ (31 - tz x) := by rw [show 32 - tz x = (31 - tz x) + 1 by omega, Nat.pow_succ, Nat.mul_comm]
  have e : x + 4294967296 * y = 2 ^ tz x * (op x + 2 * (2 ^ (31 - tz x) * y)) := by
    rw [Nat.mul_add, ← h1, ← Nat.mul_assoc 2, ← h5, ← Nat.mul_assoc, h4]
  rw [e, tz_pow _ _ (by omega)]
theorem tz_shift {n : Nat} (h : n ≠ 0) : tz (4294967296 * n) = 32 + tz n := by
  obtain ⟨h1, h2⟩ := op_eq h
  have e : 4294967296 * n = 2 ^ (32 + tz n) * op n := by
    rw [Nat.pow_add, Nat.mul_assoc, ← h1]
  rw [e, tz_pow _ _ h2]
theorem op_shift {n : Nat} (h : n ≠ 0) : op (4294967296 * n) = op n := by
  have h1 : op (4294967296 * n) = 4294967296 * n / (2 ^ 32 * 2 ^ tz n) := by unfold op; rw [tz_shift h, Nat.pow_add]
  rw [h1, show (2 : Nat) ^ 32 = 4294967296 from rfl, Nat.mul_div_mul_left _ _ (by omega)]
  rfl
theorem gcd_two_odd (m n : Nat) (h : n % 2 = 1) : Nat.gcd (2 * m) n = Nat.gcd m n := by
  have h1 : Nat.gcd 2 n = 1 := by rw [Nat.gcd_comm, Nat.gcd_comm, Nat.gcd_rec, h]; rfl
  exact Nat.Coprime.gcd_mul_left_cancel m h1
theorem gcd_pow_odd (k m n : Nat) (h : n % 2 = 1) : Nat.gcd (2 ^ k * m) n = Nat.gcd m n := by
  induction k with
  | zero => rw [Nat.pow_zero, Nat.one_mul]
  | succ k ih => rw [Nat.pow_succ, Nat.mul_comm (2 ^ k) 2, Nat.mul_assoc, gcd_two_odd _ _ h, ih]
theorem gcd_op {m n : Nat} (h : n % 2 = 1) (hm : m ≠ 0) : Nat.gcd (op m) n = Nat.gcd m n := by
  conv => rhs; rw [(op_eq hm).1]
  rw [gcd_pow_odd _ _ _ h]
theorem gcd_both {m n : Nat} (hm : m ≠ 0) (hn : n ≠ 0) : Nat.gcd m n = 2 ^ min (tz m) (tz n) * Nat.gcd (op m) (op n) := by
  obtain ⟨h1, h2⟩ := op_eq hm
  obtain ⟨h3, h4⟩ := op_eq hn
  rcases Nat.le_total (tz m) (tz n) with h | h
  · rw [Nat.min_eq_left h]
    have e : n = 2 ^ tz m * (2 ^ (tz n - tz m) * op n) := by
      rw [← Nat.mul_assoc, ← Nat.pow_add, show tz m + (tz n - tz m) = tz n by omega]; exact h3
    have e2 : Nat.gcd m n = Nat.gcd (2 ^ tz m * op m) (2 ^ tz m * (2 ^ (tz n - tz m) * op n)) := by rw [← h1, ← e]
    rw [e2, Nat.gcd_mul_left, Nat.gcd_comm (op m), gcd_pow_odd _ _ _ h2, Nat.gcd_comm]
  · rw [Nat.min_eq_right h]
    have e : m = 2 ^ tz n * (2 ^ (tz m - tz n) * op m) := by
      rw [← Nat.mul_assoc, ← Nat.pow_add, show tz n + (tz m - tz n) = tz m by omega]; exact h1
    have e2 : Nat.gcd m n = Nat.gcd (2 ^ tz n * (2 ^ (tz m - tz n) * op m)) (2 ^ tz n * op n) := by rw [← h3, ← e]
    rw [e2, Nat.gcd_mul_left, gcd_pow_odd _ _ _ h4]
theorem gcd_less {m n : Nat} (h : n ≤ m) : Nat.gcd (m - n) n = Nat.gcd m n := by
  rw [Nat.gcd_sub_self_left h]
end Go.Proofs.YtolkecnhncbkhaaGreat.Pu

/- A call that turns one own row of words and reads another one. -/
set_option linter.unusedVariables false
namespace Go.Proofs.YtolkecnhncbkhaaGreat.Fw
open Go
variable {P : Program} {T : TT} {c : Ctx} {F : Nat → Prop} {ν : Nat → Value} {s : St} {a : Act} {w : World} {o : Oper} {keep : List Nat}
theorem opp_call_mut_read {K : St → Prop} {cl : Call} {g : FuncId} {e e2 : TypeId} {X X' Y b : List Int} {i j o1 n1 o2 n2 : Nat} (hij : i ≠ j)
    (hr : RunsG P g [.own 1000 o1 n1, .d (.words b)] [(1000, .words e X)] (.tup []) [(1000, .words e X')]) (ho : o.op = .call cl) (hc : cl.callee = .value (.func g)) (hd : dstOk c.N o = true)
    (has : coeL T (cl.args.toList.map s.ev) cl.argTypes.toList = [.own i o1 n1, .own j o2 n2]) (hi : s.mem i = some (.words e X)) (hj : s.mem j = some (.words e2 Y)) (hb : (Y.drop o2).take n2 = b) (hl : X.length = X'.length)
    (hK : K ((s.upd i (.words e X')).put o.dst (.tup []))) : OpP P c o s K := by
  unfold OpP
  rintro Q a w ⟨F, ν, h⟩
  unfold RunsG at hr
  have hrun := enter_run (P := P) h ho hc hr.1
  have hav := coeL_rep T _ _ cl.argTypes.toList s.mem (args_rep h cl.args.toList)
  rw [has, show cl.args.toList.map a.eval = (cl.args.map a.eval).toList by simp] at hav
  have hn1 : ∀ x, memL [(1000, MO.words e X)] x = if x = 1000 then some (MO.words e X) else none := by
    intro x
    simp only [memL]
    by_cases ex : x = 1000
    · subst ex; simp
    · rw [beq_no ex]; simp [ex]
  have hn2 : ∀ x, memL [(1000, MO.words e X')] x = if x = 1000 then some (MO.words e X') else none := by
    intro x
    simp only [memL]
    by_cases ex : x = 1000
    · subst ex; simp
    · rw [beq_no ex]; simp [ex]
  obtain ⟨F1, hF1⟩ : ∃ F1 : Nat → Prop, F1 = fun k => F k ∨ blk (ν j) = some k := ⟨_, rfl⟩
  have hF1F : ∀ k, F k → F1 k := fun k hk => by rw [hF1]; exact .inl hk
  have hav1 : AllR (VR1 w F1 (fun _ => ν i) (memL [(1000, MO.words e X)])) [.own 1000 o1 n1, .d (.words b)] (cl.args.map a.eval).toList := by
    obtain ⟨u0, us, e0, r0, hav'⟩ := hav.head
    obtain ⟨u1, us1, e1, r1, hav''⟩ := hav'.head
    have := hav''.nil_of
    rw [e0, e1, this]
    refine AllR.cons ?_ (AllR.cons ?_ AllR.nil)
    · obtain ⟨obj, e', sz, n, fl, A, n', cc, h1, h2⟩ := r0
      have h1' : s.mem i = some obj := h1
      rw [hi] at h1'
      cases h1'
      exact ⟨_, e', sz, n, fl, A, n', cc, by rw [hn1, if_pos rfl], h2⟩
    · have hs := snap_rep h hj r1 F1 hF1F (fun k hk => by rw [hF1]; exact .inr hk)
      have e3 : snapM (.words e2 Y) o2 n2 = .d (.words b) := by show V.d (.words ((Y.drop o2).take n2)) = _; rw [hb]
      rw [e3] at hs
      exact hs
  have hO : Objs w F1 (fun _ => ν i) (memL [(1000, MO.words e X)]) (fun _ _ => True) := by
    refine ⟨fun x obj hx => ?_, fun x obj k hx hk => ⟨?_, trivial⟩, fun x y obj obj' k hx hy _ _ => ?_⟩
    · rw [hn1] at hx
      split at hx
      · cases hx; exact MRep.frame (h.mem i _ hi) hF1F (fun _ _ => rfl) (fun _ _ => rfl)
      · cases hx
    · rw [hF1]
      rintro (h1 | h1)
      · exact (h.sep i _ k hi hk).1 h1
      · exact hij (h.inj i j _ _ k hi hj hk h1)
    · rw [hn1] at hx hy
      split at hx
      · split at hy
        · omega
        · cases hy
      · cases hx
  have hcall := hr.2 F1 (fun _ => ν i) w _ (fun k hk => by
    rw [hF1] at hk
    rcases hk with h1 | h1
    · exact (h.fin k h1).1
    · exact MRep.lt (h.mem j _ hj) h1) hav1 hO
  unfold Oper.wp
  rw [hrun]
  show Calls P g _ w _
  rw [Array.toArray_toList] at hcall
  refine hcall.mono ?_
  rintro e' w' ⟨v, F', ν', rfl, hv, hO', hF', hν, hk⟩
  have hbk : ∀ k, BlkOf (fun _ => ν i) (memL [(1000, MO.words e X)]) k → blk (ν i) = some k := by
    rintro k ⟨x, obj, _, h2⟩; exact h2
  have hν1 : ν' 1000 = ν i := hν 1000 (.words e X) (by rw [hn1, if_pos rfl])
  have hinjL : ∀ p q x y, memL [(1000, MO.words e X')] p = some x → memL [(1000, MO.words e X')] q = some y → lk [(1000, i)] p = lk [(1000, i)] q → p = q := by
    intro p q x y hp hq _
    rw [hn2] at hp hq
    split at hp
    · split at hq
      · omega
      · cases hq
    · cases hp
  have hlk : lk [(1000, i)] 1000 = i := by simp [lk]
  have hO2 : Objs w' (fun k => F' k ∧ (F k ∨ w.heap.size ≤ k)) ν' (memL [(1000, MO.words e X')]) (fun x k => w.heap.size ≤ k ∨ (BlkOf (fun x => ν (lk [(1000, i)] x)) (memL [(1000, MO.words e X)]) k ∧ ∃ ob, memL [(1000, MO.words e X)] x = some ob)) := by
    refine ⟨fun x obj hx => ?_, fun x obj k hx hk' => ?_, hO'.inj⟩
    · have hx' := hx
      rw [hn2] at hx
      split at hx
      · cases hx
        obtain ⟨e', sz, n, fl, cs, h1, h2, h3, h4⟩ := hO'.rep x _ hx'
        refine ⟨e', sz, n, fl, cs, h1, h2, h3, h4.1, fun q y u hy hu => ?_⟩
        have hy' := hy
        simp only [MO.row?, Option.some.injEq, Prod.mk.injEq] at h1
        obtain ⟨_, _, _, rfl⟩ := h1
        rw [List.getElem?_map] at hy'
        obtain ⟨z, _, rfl⟩ := Option.map_eq_some_iff.1 hy'
        have := h4.2 q _ u hy hu
        have e5 := RepL.int_inv this
        subst e5
        exact RepL.int _ _
      · cases hx
    · obtain ⟨h1, h2⟩ := hO'.sep x obj k hx hk'
      refine ⟨fun h3 => h1 h3.1, ?_⟩
      rcases h2 with h2 | ⟨h2, h3⟩
      · exact .inl h2
      · refine .inr ⟨⟨1000, .words e X, by rw [hn1, if_pos rfl], ?_⟩, h3⟩
        show blk (ν (lk [(1000, i)] 1000)) = some k
        rw [hlk]
        exact hbk k h2
  have hkeep : Keep w.heap.size (BlkOf (fun x => ν (lk [(1000, i)] x)) (memL [(1000, MO.words e X)])) w w' := by
    refine ⟨hk.os, hk.tape, hk.output, hk.size, fun k hk' hS => hk.block k hk' (fun h1 => hS ⟨1000, .words e X, by rw [hn1, if_pos rfl], ?_⟩)⟩
    show blk (ν (lk [(1000, i)] 1000)) = some k
    rw [hlk]
    exact hbk k h1
  have hafter := h.afterG (σ := lk [(1000, i)]) (mi := [(1000, MO.words e X)]) (mo := [(1000, MO.words e X')]) (fun x m hx => by
      rw [hn1] at hx
      split at hx
      · rename_i ex; cases hx; rw [ex, hlk]; exact hi
      · cases hx) (fun x m hx => by
      rw [hn1] at hx
      split at hx
      · rename_i ex; cases hx
        exact ⟨.words e X', by rw [hn2, if_pos ex], .inr ⟨e, 1, X.length, X.map wd, X'.map wd, rfl, by simp only [MO.row?, hl]⟩⟩
      · cases hx) (fun x m hx hn => by
      rw [hn2] at hx
      split at hx
      · rename_i ex; rw [hn1, if_pos ex] at hn; cases hn
      · cases hx) hinjL hO2 (fun k hk' => ⟨(hF' k hk'.1).1, hk'.2⟩) (fun x obj hx => by
      rw [hn1] at hx
      split at hx
      · rename_i ex; rw [ex, hlk]; exact hν1
      · cases hx) hkeep
  have hv' : v = .tuple #[] := by
    obtain ⟨vs, rfl, ha⟩ := hv
    have := ha.nil_of
    have : vs = #[] := by apply Array.ext'; simpa using this
    rw [this]
  have e9 : s.updL (lk [(1000, i)]) [(1000, MO.words e X')] = s.upd i (.words e X') := by
    show (s.updL (lk [(1000, i)]) []).upd (lk [(1000, i)] 1000) (.words e X') = _
    rw [hlk]; rfl
  rw [e9] at hafter
  subst hv'
  have hfin := hafter.put (o := o.dst) (v := .tup []) (x := .tuple #[]) ⟨#[], rfl, AllR.nil⟩ (dst_lt hd)
  exact ⟨_, hK, _, _, hfin⟩
end Go.Proofs.YtolkecnhncbkhaaGreat.Fw

/- The document's common divisor: its parts that turn rows in place. -/
set_option linter.unusedVariables false
namespace Go.Proofs.YtolkecnhncbkhaaGreat.Fw
open Go Pu
theorem Zeros_spec {x : Nat} (h0 : x ≠ 0) (hx : x < 4294967296) : Runs Tryz.prog g_retrospectref01_Zeros [.d (.int .u32 (x : Int))] (.d (.int .i64 (tz x))) := by
  refine run1 [] p_retrospectref01_Zeros rfl rfl (fun B S F0 w0 V0 => ?_)
  have ht := tz_lt (k := 32) h0 hx
  refine split_false (beq_eq_false_iff_ne.2 (by show (x : Int) ≠ 0; omega)) ?_
  refine loop_intro (fun p : Nat × Nat => st [(0, .d (.int .u32 (p.1 : Int))), (3, .d (.int .i64 (p.2 : Int)))] []) (fun p => p.1) (fun p => p.1 ≠ 0 ∧ p.1 < 4294967296 ∧ tz x = p.2 + tz p.1) (x, 0) ⟨h0, hx, (Nat.zero_add _).symm⟩ (weak_st _ _ ⟨rfl, rfl, trivial⟩ trivial rfl) ?_
  rintro ⟨y, n⟩ ⟨h1, h2, h3⟩
  dsimp only at h1 h2 h3
  refine side_intro (by show (2 : Int) ≠ 0; omega) ?_
  have em : ((y : Int)).tmod 2 = ((y % 2 : Nat) : Int) := by rw [Int.tmod_eq_emod_of_nonneg (by omega)]; omega
  refine split_intro (fun h => ?_) (fun h => ?_)
  · have h : ((y : Int)).tmod 2 = 0 := eq_of_beq h
    rw [em] at h
    have he : y % 2 = 0 := by omega
    have ht2 := tz_even he h1
    refine side_intro (by show (2 : Int) ≠ 0; omega) ?_
    refine ⟨(y / 2, n + 1), ⟨by show y / 2 ≠ 0; omega, by show y / 2 < _; omega, by show tz x = n + 1 + tz (y / 2); omega⟩, by show y / 2 < y; omega, weak_st _ _ ⟨u32_inj ?_, i64_inj ?_, trivial⟩ trivial rfl⟩
    · show IntKind.u32.wrap (((y : Int)).tdiv 2) = _
      rw [Int.tdiv_eq_ediv_of_nonneg (by omega), w32]; omega
    · show IntKind.i64.wrap ((n : Int) + 1) = _
      rw [wr (by omega) (by omega)]; rfl
  · have h : ((y : Int)).tmod 2 ≠ 0 := beq_eq_false_iff_ne.1 h
    rw [em] at h
    have := tz_odd (n := y) (by omega)
    refine ret_intro (i64_inj ?_) rfl
    show (n : Int) = _
    omega
theorem dig_toW {n v : Nat} (h : (toW v).length ≤ n) : dig n v = toW v ++ List.replicate (n - (toW v).length) 0 := by
  refine (dig_eq ((Wd.toW v).app (Wd.zeros _)) ?_ ?_).symm
  · rw [List.length_append, List.length_replicate]; omega
  · rw [val_app_zeros, val_toW]
theorem dig_top {n v k : Nat} (h : (toW v).length ≤ k) (hk : k < n) : (dig n v).getD k 0 = 0 := by
  rw [dig_toW (by omega), List.getD_eq_getElem?_getD, List.getElem?_append_right h, List.getElem?_replicate]
  split <;> rfl
theorem dig_last {n v : Nat} (hv : v ≠ 0) (h : (toW v).length ≤ n) : (dig n v).getD ((toW v).length - 1) 0 ≠ 0 := by
  have hl : (toW v).length ≠ 0 := fun e => hv (toW_len_zero.1 e)
  rw [dig_toW h, List.getD_eq_getElem?_getD, List.getElem?_append_left (by omega)]
  intro e
  have h1 : (toW v)[(toW v).length - 1]? = some ((toW v).getD ((toW v).length - 1) 0) := el _ (by omega)
  rw [h1] at e
  refine toW_last (n := v) (x := (toW v).getD ((toW v).length - 1) 0) ?_ e
  rw [List.getLast?_eq_getElem?, h1]
theorem down_spec {L M R : List Int} {n off len : Nat} (hoff : off = L.length) (hlen' : len = M.length) (hwM : Wd M) (hn : n < 32) (hlen : (L ++ (M ++ R)).length ≤ 8796093022208) (hv0 : val M / 2 ^ n ≠ 0) :
    RunsG Tryz.prog g_retrospectref06_down [.own 1000 off len, .d (.int .i64 (n : Int))] [(1000, .words tU32 (L ++ (M ++ R)))] (.own 1000 off (toW (val M / 2 ^ n)).length) [(1000, .words tU32 (L ++ (dig len (val M / 2 ^ n) ++ R)))] := by
  have hN : (L ++ (M ++ R)).length = off + len + R.length := by simp [hoff, hlen']; omega
  rw [hN] at hlen
  have hpp : 0 < 2 ^ n := Nat.two_pow_pos n
  have hvl : val M / 2 ^ n < 4294967296 ^ len := Nat.lt_of_le_of_lt (Nat.div_le_self _ _) (by rw [hlen']; exact val_lt hwM)
  have hwl : (toW (val M / 2 ^ n)).length ≤ len := toW_len_le hvl
  have hwl0 : (toW (val M / 2 ^ n)).length ≠ 0 := fun e => hv0 (toW_len_zero.1 e)
  refine runG [] p_retrospectref06_down rfl rfl rfl rfl (fun B S F0 w0 V0 => ?_)
  refine loop_intro (fun p : Nat × List Int => st [(0, .own 1000 off len), (1, .d (.int .i64 (n : Int))), (5, .d (.int .i64 (p.1 : Int)))] [(1000, .words tU32 (L ++ (p.2 ++ R)))]) (fun p => len - p.1)
    (fun p => p.1 ≤ len ∧ p.2.length = len ∧ Wd p.2 ∧ (∀ j, p.1 ≤ j → p.2.getD j 0 = M.getD j 0) ∧ val (p.2.take p.1) + 4294967296 ^ p.1 * (val (M.drop p.1) / 2 ^ n) = val M / 2 ^ n) (0, M)
    ⟨Nat.zero_le _, hlen'.symm, hwM, fun _ _ => rfl, by simp [val]⟩ (weak_st _ _ ⟨rfl, rfl, rfl, trivial⟩ ⟨rfl, trivial⟩ rfl) ?_
  rintro ⟨i, m⟩ ⟨hi, hl, hwm, hsame, hv⟩
  dsimp only at hi hl hwm hsame hv
  refine split_intro (fun h => ?_) (fun h => ?_)
  · have hlt : i < len := by have h : (i : Int) < (len : Int) := of_decide_eq_true h; omega
    have ei : IntKind.i64.wrap ((i : Int) + 1) = ((i + 1 : Nat) : Int) := by rw [wr (by omega) (by omega)]; omega
    obtain ⟨x, hx, hx'⟩ := mget M hwM i
    obtain ⟨y, hy, hy'⟩ := mget M hwM (i + 1)
    have hmx : m.getD i 0 = (x : Int) := by rw [hsame i (Nat.le_refl _), hx]
    have hvd := val_drop_cons' M i
    have hvm := val_mod M (i + 1) (n := n) (by omega)
    rw [hx, Int.toNat_natCast] at hvd
    rw [hy, Int.toNat_natCast] at hvm
    have hst := down_step (x := x) (n := n) (by omega) (by omega) hvm
    have fin : ∀ (dg : Int), dg = (((x + 4294967296 * y) / 2 ^ n % 4294967296 : Nat) : Int) → W32 dg ∧ val ((m.set i dg).take (i + 1)) + 4294967296 ^ (i + 1) * (val (M.drop (i + 1)) / 2 ^ n) = val M / 2 ^ n := by
      rintro _ rfl
      refine ⟨⟨by omega, by omega⟩, ?_⟩
      rw [val_take_set (by omega), Int.toNat_natCast, Nat.pow_succ, Nat.mul_assoc, Nat.add_assoc, ← Nat.mul_add, hst, ← hvd, hv]
    have fdn : ∀ (z : Nat), ((z : Int)).fdiv (2 ^ (min ((n : Int)).toNat IntKind.u64.bits)) = ((z / 2 ^ n : Nat) : Int) := by
      intro z
      rw [Int.fdiv_eq_ediv_of_nonneg _ (Int.pow_nonneg (by omega)), show min ((n : Int)).toNat IntKind.u64.bits = n by show min n 64 = n; omega]
      norm_cast
    have ex : IntKind.u64.wrap (m.getD i 0) = (x : Int) := by rw [hmx, w64]; omega
    have ed : ∀ nx : Int, nx = (y : Int) → IntKind.u32.wrap ((IntKind.u64.wrap (IntKind.u64.wrap (nx * 4294967296) + IntKind.u64.wrap (m.getD i 0))).fdiv (2 ^ (min ((n : Int)).toNat IntKind.u64.bits))) = (((x + 4294967296 * y) / 2 ^ n % 4294967296 : Nat) : Int) := by
      rintro nx rfl
      rw [ex, show IntKind.u64.wrap (IntKind.u64.wrap ((y : Int) * 4294967296) + (x : Int)) = ((x + 4294967296 * y : Nat) : Int) by rw [w64, w64]; omega, fdn, w32]
      generalize (x + 4294967296 * y) / 2 ^ n = k
      omega
    have getm : ∀ j, j < len → (L ++ (m ++ R))[((off + (j : Int).toNat : Nat) : Int).toNat]? = some (m.getD j 0) := by
      intro j hj
      rw [Int.toNat_natCast, Int.toNat_natCast]
      exact mid_elem (by omega) (by omega)
    have rest : ∀ nx : Int, nx = (y : Int) → ∀ {K : Prop}, ((∃ p : Nat × List Int, (p.1 ≤ len ∧ p.2.length = len ∧ Wd p.2 ∧ (∀ j, p.1 ≤ j → p.2.getD j 0 = M.getD j 0) ∧ val (p.2.take p.1) + 4294967296 ^ p.1 * (val (M.drop p.1) / 2 ^ n) = val M / 2 ^ n) ∧ len - p.1 < len - i ∧ p.1 = i + 1 ∧ p.2 = m.set i (IntKind.u32.wrap ((IntKind.u64.wrap (IntKind.u64.wrap (nx * 4294967296) + IntKind.u64.wrap (m.getD i 0))).fdiv (2 ^ (min ((n : Int)).toNat IntKind.u64.bits))))) → K) → K := by
      intro nx hnx K hK
      obtain ⟨f1, f2⟩ := fin _ (ed nx hnx)
      refine hK ⟨(i + 1, m.set i _), ⟨hlt, by show (m.set i _).length = _; rw [List.length_set]; exact hl, hwm.set i f1.1 f1.2, fun j hj => ?_, f2⟩, by show len - (i + 1) < len - i; omega, rfl, rfl⟩
      have hj : i + 1 ≤ j := hj
      show (m.set i _).getD j 0 = _
      rw [getD_setne (by omega)]
      exact hsame j (by omega)
    refine split_intro (fun h1 => ?_) (fun h1 => ?_)
    · have h1 : IntKind.i64.wrap ((i : Int) + 1) < (len : Int) := of_decide_eq_true h1
      rw [ei] at h1
      refine side_intro (by show 0 ≤ IntKind.i64.wrap ((i : Int) + 1) ∧ IntKind.i64.wrap ((i : Int) + 1) < (len : Int); rw [ei]; omega) ?_
      refine idx_intro (m.getD (i + 1) 0) (Int.natCast_nonneg _) (by
        show (L ++ (m ++ R))[((off + (IntKind.i64.wrap ((i : Int) + 1)).toNat : Nat) : Int).toNat]? = _
        rw [ei]; exact getm (i + 1) (by omega)) ?_
      refine side_intro (by show 0 ≤ (i : Int) ∧ (i : Int) < (len : Int); omega) ?_
      refine idx_intro (m.getD i 0) (Int.natCast_nonneg _) (getm i hlt) ?_
      refine side_intro (by show (0 : Int) ≤ n; omega) ?_
      refine side_intro (by show 0 ≤ (i : Int) ∧ (i : Int) < (len : Int); omega) ?_
      have ey : IntKind.u64.wrap (m.getD (i + 1) 0) = (y : Int) := by rw [hsame (i + 1) (by omega), hy, w64]; omega
      refine rest (IntKind.u64.wrap (m.getD (i + 1) 0)) ey (fun ⟨p, h3, h4, h5, h6⟩ => ?_)
      refine ⟨p, h3, h4, ?_⟩
      refine weak_st _ _ ⟨rfl, rfl, i64_inj (by rw [h5]; exact ei), trivial⟩ ⟨?_, trivial⟩ rfl
      rw [h6]
      show some (MO.words tU32 ((L ++ (m ++ R)).set (off + ((i : Int)).toNat) _)) = _
      rw [mid_set (j := i) (by rw [Int.toNat_natCast]; omega) (by omega)]
    · have h1 : ¬ IntKind.i64.wrap ((i : Int) + 1) < (len : Int) := of_decide_eq_false h1
      rw [ei] at h1
      refine side_intro (by show 0 ≤ (i : Int) ∧ (i : Int) < (len : Int); omega) ?_
      refine idx_intro (m.getD i 0) (Int.natCast_nonneg _) (getm i hlt) ?_
      refine side_intro (by show (0 : Int) ≤ n; omega) ?_
      refine side_intro (by show 0 ≤ (i : Int) ∧ (i : Int) < (len : Int); omega) ?_
      have ey : (0 : Int) = (y : Int) := by rw [← hy, getD_ge (by omega)]
      refine rest 0 ey (fun ⟨p, h3, h4, h5, h6⟩ => ?_)
      refine ⟨p, h3, h4, ?_⟩
      refine weak_st _ _ ⟨rfl, rfl, i64_inj (by rw [h5]; exact ei), trivial⟩ ⟨?_, trivial⟩ rfl
      rw [h6]
      show some (MO.words tU32 ((L ++ (m ++ R)).set (off + ((i : Int)).toNat) _)) = _
      rw [mid_set (j := i) (by rw [Int.toNat_natCast]; omega) (by omega)]
  · have hend : i = len := by have h : ¬ (i : Int) < (len : Int) := of_decide_eq_false h; omega
    subst hend
    have hd0 : val (M.drop i) = 0 := by rw [List.drop_eq_nil_of_le (by omega)]; rfl
    rw [hd0, Nat.zero_div, Nat.mul_zero, Nat.add_zero, ← hl, List.take_length] at hv
    have hme : m = dig i (val M / 2 ^ n) := dig_eq hwm hl hv
    subst hme
    obtain ⟨v, hvd⟩ : ∃ v, v = val M / 2 ^ n := ⟨_, rfl⟩
    rw [← hvd] at hwl hwl0 hv0 ⊢
    have getm : ∀ j, j < i → (L ++ (dig i v ++ R))[((off + (j : Int).toNat : Nat) : Int).toNat]? = some ((dig i v).getD j 0) := by
      intro j hj
      rw [Int.toNat_natCast, Int.toNat_natCast]
      exact mid_elem (by omega) (by rw [dig_len]; omega)
    refine loop_intro (fun k : Nat => st [(0, .own 1000 off k)] [(1000, .words tU32 (L ++ (dig i v ++ R)))]) (fun k => k) (fun k => (toW v).length ≤ k ∧ k ≤ i) i ⟨hwl, Nat.le_refl _⟩ (weak_st _ _ ⟨rfl, trivial⟩ ⟨rfl, trivial⟩ rfl) ?_
    rintro k ⟨hk1, hk2⟩
    refine split_true (decide_eq_true (by show (k : Int) > 0; omega)) ?_
    have ek : IntKind.i64.wrap ((k : Int) - 1) = ((k - 1 : Nat) : Int) := by rw [wr (by omega) (by omega)]; omega
    refine side_intro (by show 0 ≤ IntKind.i64.wrap ((k : Int) - 1) ∧ IntKind.i64.wrap ((k : Int) - 1) < (k : Int); rw [ek]; omega) ?_
    refine idx_intro ((dig i v).getD (k - 1) 0) (Int.natCast_nonneg _) (by
      show (L ++ (dig i v ++ R))[((off + (IntKind.i64.wrap ((k : Int) - 1)).toNat : Nat) : Int).toNat]? = _
      rw [ek]; exact getm (k - 1) (by omega)) ?_
    refine split_intro (fun h1 => ?_) (fun h1 => ?_)
    · have h1 : (dig i v).getD (k - 1) 0 = 0 := eq_of_beq h1
      have hk3 : (toW v).length ≠ k := by
        intro e
        rw [← e] at h1
        exact dig_last hv0 hwl h1
      cases off with
      | zero =>
        refine side_intro (by show 0 ≤ IntKind.i64.wrap ((k : Int) - 1) ∧ IntKind.i64.wrap ((k : Int) - 1) ≤ (k : Int); rw [ek]; omega) ?_
        refine ⟨k - 1, ⟨by omega, by omega⟩, by omega, weak_st _ _ ⟨?_, trivial⟩ ⟨rfl, trivial⟩ rfl⟩
        show V.own 1000 0 (IntKind.i64.wrap ((k : Int) - 1)).toNat = _
        rw [ek, Int.toNat_natCast]
      | succ off =>
        refine side_intro (by show 0 < IntKind.i64.wrap ((k : Int) - 1) ∧ IntKind.i64.wrap ((k : Int) - 1) ≤ (k : Int); rw [ek]; omega) ?_
        refine ⟨k - 1, ⟨by omega, by omega⟩, by omega, weak_st _ _ ⟨?_, trivial⟩ ⟨rfl, trivial⟩ rfl⟩
        show V.own 1000 (off + 1) (IntKind.i64.wrap ((k : Int) - 1)).toNat = _
        rw [ek, Int.toNat_natCast]
    · have h1 : (dig i v).getD (k - 1) 0 ≠ 0 := beq_eq_false_iff_ne.1 h1
      have hk3 : k = (toW v).length := by
        refine Classical.byContradiction fun hne => h1 (dig_top (by omega) (by omega))
      refine retG_intro ?_ rfl ⟨rfl, trivial⟩ rfl
      show V.own 1000 off k = _
      rw [hk3]
end Go.Proofs.YtolkecnhncbkhaaGreat.Fw

/- The document's common divisor: odd parts, differences in place, products. -/
set_option linter.unusedVariables false
namespace Go.Proofs.YtolkecnhncbkhaaGreat.Fw
open Go Pu
theorem hAB (A B : List Int) : (A ++ B).length = A.length + B.length := List.length_append
theorem first_nz {M : List Int} (hw : Wd M) (h : val M ≠ 0) : ∃ z, z < M.length ∧ (∀ j, j < z → M.getD j 0 = 0) ∧ M.getD z 0 ≠ 0 ∧ val M = 4294967296 ^ z * val (M.drop z) := by
  induction M with
  | nil => exact absurd rfl h
  | cons x M ih =>
    by_cases hx : x = 0
    · subst hx
      have hv : val (0 :: M) = 4294967296 * val M := by simp [val]
      obtain ⟨z, h1, h2, h3, h4⟩ := ih hw.tail (by intro e; rw [hv, e] at h; exact h rfl)
      refine ⟨z + 1, by simpa using h1, fun j hj => ?_, by simpa using h3, ?_⟩
      · cases j with
        | zero => rfl
        | succ j => simpa using h2 j (by omega)
      · rw [hv, List.drop_succ_cons, Nat.pow_succ, Nat.mul_comm (4294967296 ^ z) 4294967296, Nat.mul_assoc, ← h4]
    · exact ⟨0, by simp, by intro j hj; omega, by simpa using hx, by simp⟩
theorem tz_pows {z n : Nat} (h : n ≠ 0) : tz (4294967296 ^ z * n) = 32 * z + tz n ∧ op (4294967296 ^ z * n) = op n ∧ 4294967296 ^ z * n ≠ 0 := by
  induction z with
  | zero => rw [Nat.pow_zero, Nat.one_mul]; exact ⟨by omega, rfl, h⟩
  | succ z ih =>
    obtain ⟨h1, h2, h3⟩ := ih
    rw [Nat.pow_succ, Nat.mul_comm (4294967296 ^ z), Nat.mul_assoc]
    exact ⟨by rw [tz_shift h3, h1]; omega, by rw [op_shift h3, h2], by omega⟩
theorem odd_specL {L M R : List Int} {off len : Nat} (hoff : off = L.length) (hlen' : len = M.length) (hwL : Wd L) (hwM : Wd M) (hwR : Wd R) (hlen : (L ++ (M ++ R)).length ≤ 8796093022208) (hv0 : val M ≠ 0) :
    ∃ (X' : List Int) (off' : Nat), X'.length = (L ++ (M ++ R)).length ∧ Wd X' ∧ off' + (toW (op (val M))).length ≤ X'.length ∧ (X'.drop off').take (toW (op (val M))).length = toW (op (val M)) ∧
      RunsG Tryz.prog g_retrospectref06_odd [.own 1000 off len] [(1000, .words tU32 (L ++ (M ++ R)))] (.tup [.own 1000 off' (toW (op (val M))).length, .d (.int .i64 (tz (val M)))]) [(1000, .words tU32 X')] := by
  have hN : (L ++ (M ++ R)).length = off + len + R.length := by simp [hoff, hlen']; omega
  obtain ⟨z, hz, hzz, hznz, hzv⟩ := first_nz hwM hv0
  obtain ⟨x, hx, hx'⟩ := mget M hwM z
  have hx0 : x ≠ 0 := by intro e; rw [hx, e] at hznz; exact hznz rfl
  have hvd := val_drop_cons' M z
  rw [hx, Int.toNat_natCast] at hvd
  have htx := tz_lt (k := 32) hx0 hx'
  have hdz : val (M.drop z) ≠ 0 := by omega
  have htz : tz (val (M.drop z)) = tz x := by rw [hvd]; exact tz_word hx0 hx'
  obtain ⟨hp1, hp2, hp3⟩ := tz_pows (z := z) hdz
  rw [← hzv, htz] at hp1
  rw [← hzv] at hp2
  have hop : val (M.drop z) / 2 ^ tz x = op (val M) := by rw [hp2]; unfold op; rw [htz]
  have hopv : op (val M) ≠ 0 := by have := op_pos hv0; omega
  have hMz : (L ++ M.take z) ++ (M.drop z ++ R) = L ++ (M ++ R) := by rw [List.append_assoc, ← List.append_assoc (M.take z), List.take_append_drop]
  have hlz : (L ++ M.take z).length = off + z := by rw [List.length_append, List.length_take, hoff]; omega
  have hdl : (M.drop z).length = len - z := by rw [List.length_drop, hlen']
  have hdown := down_spec (L := L ++ M.take z) (M := M.drop z) (R := R) (n := tz x) (off := off + z) (len := len - z) hlz.symm hdl.symm (hwM.drop z) htx (by rw [hMz]; exact hlen) (by rw [hop]; exact hopv)
  rw [hMz, hop] at hdown
  have hll : (toW (op (val M))).length ≤ len - z := by
    have h1 : op (val M) ≤ val (M.drop z) := by rw [← hop]; exact Nat.div_le_self _ _
    have h2 := nw_le h1 (nw_val (hwM.drop z) (Nat.le_refl _))
    rw [hdl] at h2
    exact h2
  refine ⟨(L ++ M.take z) ++ (dig (M.drop z).length (op (val M)) ++ R), off + z, ?_, ?_, ?_, ?_, ?_⟩
  · rw [hN, hAB (L ++ M.take z), hlz, hAB (dig _ _), dig_len, hdl]; omega
  · exact (hwL.app (hwM.take z)).app ((Wd.dig _ _).app hwR)
  · rw [hAB (L ++ M.take z), hlz, hAB (dig _ _), dig_len, hdl]; omega
  · rw [List.drop_append_of_le_length (by omega), List.drop_eq_nil_of_le (by omega), List.nil_append, dig_toW (by rw [hdl]; exact hll), List.append_assoc]
    exact List.take_left
  rw [hN] at hlen
  refine runG [] p_retrospectref06_odd rfl rfl rfl rfl (fun B S F0 w0 V0 => ?_)
  have getm : ∀ k, k ≤ z → (L ++ (M ++ R))[((off + k + (0 : Int).toNat : Nat) : Int).toNat]? = some (M.getD k 0) := by
    intro k hk
    rw [Int.toNat_natCast]
    exact mid_elem (by show off + k + 0 = L.length + k; omega) (by omega)
  refine loop_intro (fun k : Nat => st [(0, .own 1000 (off + k) (len - k)), (4, .d (.int .i64 ((32 * k : Nat) : Int)))] [(1000, .words tU32 (L ++ (M ++ R)))]) (fun k => z - k) (fun k => k ≤ z) 0 (Nat.zero_le _) (weak_st _ _ ⟨rfl, rfl, trivial⟩ ⟨rfl, trivial⟩ rfl) ?_
  intro k hk
  refine side_intro (by show 0 ≤ (0 : Int) ∧ (0 : Int) < ((len - k : Nat) : Int); omega) ?_
  refine idx_intro (M.getD k 0) (Int.natCast_nonneg _) (getm k hk) ?_
  refine split_intro (fun h => ?_) (fun h => ?_)
  · have h : M.getD k 0 = 0 := eq_of_beq h
    have hkz : k ≠ z := by intro e; rw [e] at h; exact hznz h
    refine side_intro (by show 0 ≤ (1 : Int) ∧ (1 : Int) < ((len - k : Nat) : Int); omega) ?_
    refine ⟨k + 1, by omega, by omega, weak_st _ _ ⟨?_, i64_inj ?_, trivial⟩ ⟨rfl, trivial⟩ rfl⟩
    · show V.own 1000 (off + k + (1 : Int).toNat) (len - k - (1 : Int).toNat) = V.own 1000 (off + (k + 1)) (len - (k + 1))
      have e1 : (1 : Int).toNat = 1 := rfl
      rw [e1, Nat.add_assoc, Nat.sub_sub]
    · show IntKind.i64.wrap (((32 * k : Nat) : Int) + 32) = _
      rw [wr (by omega) (by omega)]; omega
  · have h : M.getD k 0 ≠ 0 := beq_eq_false_iff_ne.1 h
    have hkz : k = z := by
      refine Classical.byContradiction fun hne => h (hzz k (by omega))
    subst hkz
    refine side_intro (by show 0 ≤ (0 : Int) ∧ (0 : Int) < ((len - k : Nat) : Int); omega) ?_
    refine idx_intro (x : Int) (Int.natCast_nonneg _) (by rw [← hx]; exact getm k hk) ?_
    refine call_intro _ (Zeros_spec hx0 hx') ?_
    refine call_row 1000 hdown rfl rfl rfl rfl rfl rfl (same_words ?_) ?_
    · rw [← hMz, hAB (L ++ M.take k), hAB (L ++ M.take k), hAB (M.drop k), hAB (dig _ _), dig_len, hdl]
    refine retG_intro ?_ rfl ⟨by rw [hdl]; rfl, trivial⟩ rfl
    show V.tup [.own 1000 (off + k) (toW (op (val M))).length, .d (.int .i64 (IntKind.i64.wrap (((32 * k : Nat) : Int) + (tz x : Int))))] = _
    rw [hp1, wr (by omega) (by omega)]
    exact congrArg (fun y => V.tup [V.own 1000 (off + k) (toW (op (val M))).length, V.d (.int .i64 y)]) (by omega)
theorem odd_spec {X : List Int} {off len v : Nat} (hw : Wd X) (hl : off + len ≤ X.length) (hX : X.length ≤ 8796093022208) (hv : val ((X.drop off).take len) = v) (hv0 : v ≠ 0) :
    ∃ (X' : List Int) (off' : Nat), X'.length = X.length ∧ Wd X' ∧ off' + (toW (op v)).length ≤ X'.length ∧ (X'.drop off').take (toW (op v)).length = toW (op v) ∧
      RunsG Tryz.prog g_retrospectref06_odd [.own 1000 off len] [(1000, .words tU32 X)] (.tup [.own 1000 off' (toW (op v)).length, .d (.int .i64 (tz v))]) [(1000, .words tU32 X')] := by
  have h3 := three X off len
  have hL : (X.take off).length = off := by rw [List.length_take]; omega
  have hM : ((X.drop off).take len).length = len := by rw [List.length_take, List.length_drop]; omega
  have := odd_specL (L := X.take off) (M := (X.drop off).take len) (R := X.drop (off + len)) (off := off) (len := len) hL.symm hM.symm (hw.take _) ((hw.drop _).take _) (hw.drop _) (by rw [← h3]; exact hX) (by rw [hv]; exact hv0)
  rw [← h3, hv] at this
  exact this
theorem Less_specL {L M R b : List Int} {off len : Nat} (hoff : off = L.length) (hlen' : len = M.length) (hwa : Wd M) (hwb : Wd b) (hlen : (L ++ (M ++ R)).length ≤ 8796093022208) (hlb : b.length ≤ 1099511627776) (hle : val b ≤ val M) :
    RunsG Tryz.prog g_retrospectref05_Less [.own 1000 off len, .d (.words b)] [(1000, .words tU32 (L ++ (M ++ R)))] (.tup []) [(1000, .words tU32 (L ++ (dig len (val M - val b) ++ R)))] := by
  have hN : (L ++ (M ++ R)).length = off + len + R.length := by simp [hoff, hlen']; omega
  rw [hN] at hlen
  refine runG [] p_retrospectref05_Less rfl rfl rfl rfl (fun B S F0 w0 V0 => ?_)
  refine loop_intro (fun p : Nat × List Int × Nat => st [(0, .own 1000 off len), (1, .d (.words b)), (4, .d (.int .u64 (p.2.2 : Int))), (5, .d (.int .i64 (p.1 : Int)))] [(1000, .words tU32 (L ++ (p.2.1 ++ R)))]) (fun p => len - p.1)
    (fun p => p.1 ≤ len ∧ p.2.1.length = len ∧ Wd p.2.1 ∧ p.2.2 ≤ 1 ∧ (∀ j, p.1 ≤ j → p.2.1.getD j 0 = M.getD j 0) ∧ val (p.2.1.take p.1) + val (b.take p.1) = val (M.take p.1) + 4294967296 ^ p.1 * (p.2.2 + 0)) (0, M, 0)
    ⟨Nat.zero_le _, hlen'.symm, hwa, Nat.zero_le _, fun _ _ => rfl, by simp [val]⟩ (weak_st _ _ ⟨rfl, rfl, rfl, rfl, trivial⟩ ⟨rfl, trivial⟩ rfl) ?_
  rintro ⟨i, m, u⟩ ⟨hi, hl, hwm, hu, hsame, hv⟩
  dsimp only at hi hl hwm hu hsame hv
  refine split_intro (fun h => ?_) (fun h => ?_)
  · have hlt : i < len := by have h : (i : Int) < (len : Int) := of_decide_eq_true h; omega
    have ei : IntKind.i64.wrap ((i : Int) + 1) = ((i + 1 : Nat) : Int) := by rw [wr (by omega) (by omega)]; omega
    obtain ⟨x, hx, hx'⟩ := mget m hwm i
    obtain ⟨y, hy, hy'⟩ := mget b hwb i
    have getm : (L ++ (m ++ R))[((off + (i : Int).toNat : Nat) : Int).toNat]? = some (m.getD i 0) := by
      rw [Int.toNat_natCast, Int.toNat_natCast]
      exact mid_elem (by omega) (by omega)
    refine side_intro (by show (0 : Int) ≤ i ∧ (i : Int) < ((len : Nat) : Int); omega) ?_
    refine idx_intro (m.getD i 0) (Int.natCast_nonneg _) getm ?_
    refine call_intro _ (rAt_spec (a := b) (i := i) hlb) ?_
    have ex : IntKind.u64.wrap (m.getD i 0) = (x : Int) := by rw [hx, w64]; omega
    have ey : IntKind.u64.wrap (IntKind.u64.wrap (b.getD i 0) + (u : Int)) = ((y + u : Nat) : Int) := by rw [hy, w64, w64]; omega
    have fin : ∀ (d w : Nat), d < 4294967296 → w ≤ 1 → d + y + u + 0 = x + 4294967296 * (w + 0) → val ((m.set i (d : Int)).take (i + 1)) + val (b.take (i + 1)) = val (M.take (i + 1)) + 4294967296 ^ (i + 1) * (w + 0) := by
      intro d w hd hw he
      rw [val_take_set (by omega), val_take_succ' (a := b), val_take_succ' (a := M), ← hsame i (Nat.le_refl _), hx, hy, Nat.pow_succ]
      simp only [Int.toNat_natCast]
      exact step_sum hv he
    have same' : ∀ d : Int, ∀ j, i + 1 ≤ j → (m.set i d).getD j 0 = M.getD j 0 := by
      intro d j hj
      rw [getD_setne (by omega)]
      exact hsame j (by omega)
    refine split_intro (fun h1 => ?_) (fun h1 => ?_)
    · have h1 : IntKind.u64.wrap (m.getD i 0) < IntKind.u64.wrap (IntKind.u64.wrap (b.getD i 0) + (u : Int)) := of_decide_eq_true h1
      refine side_intro (by show (0 : Int) ≤ i ∧ (i : Int) < ((len : Nat) : Int); omega) ?_
      have ed : IntKind.u32.wrap (IntKind.u64.wrap (IntKind.u64.wrap (IntKind.u64.wrap (m.getD i 0) + 4294967296) - IntKind.u64.wrap (IntKind.u64.wrap (b.getD i 0) + (u : Int)))) = ((x + 4294967296 - (y + u) : Nat) : Int) := by
        rw [ex, ey, w64 ((x : Int) + 4294967296), w64, w32]; omega
      refine ⟨(i + 1, m.set i ((x + 4294967296 - (y + u) : Nat) : Int), 1), ⟨hlt, by show (m.set i _).length = _; rw [List.length_set]; exact hl, hwm.set i (by omega) (by omega), Nat.le_refl _, same' _, fin _ 1 (by omega) (Nat.le_refl _) (by omega)⟩, by show len - (i + 1) < len - i; omega, ?_⟩
      refine weak_st _ _ ⟨rfl, rfl, rfl, i64_inj ei, trivial⟩ ⟨?_, trivial⟩ rfl
      show some (MO.words tU32 ((L ++ (m ++ R)).set (off + ((i : Int)).toNat) (IntKind.u32.wrap (IntKind.u64.wrap (IntKind.u64.wrap (IntKind.u64.wrap (m.getD i 0) + 4294967296) - IntKind.u64.wrap (IntKind.u64.wrap (b.getD i 0) + (u : Int))))))) = _
      rw [ed, mid_set (j := i) (by rw [Int.toNat_natCast]; omega) (by omega)]
    · have h1 : ¬ IntKind.u64.wrap (m.getD i 0) < IntKind.u64.wrap (IntKind.u64.wrap (b.getD i 0) + (u : Int)) := of_decide_eq_false h1
      refine side_intro (by show (0 : Int) ≤ i ∧ (i : Int) < ((len : Nat) : Int); omega) ?_
      have ed : IntKind.u32.wrap (IntKind.u64.wrap (IntKind.u64.wrap (m.getD i 0) - IntKind.u64.wrap (IntKind.u64.wrap (b.getD i 0) + (u : Int)))) = ((x - (y + u) : Nat) : Int) := by
        rw [ex, ey, w64, w32]; omega
      refine ⟨(i + 1, m.set i ((x - (y + u) : Nat) : Int), 0), ⟨hlt, by show (m.set i _).length = _; rw [List.length_set]; exact hl, hwm.set i (by omega) (by omega), Nat.zero_le _, same' _, fin _ 0 (by omega) (Nat.zero_le _) (by omega)⟩, by show len - (i + 1) < len - i; omega, ?_⟩
      refine weak_st _ _ ⟨rfl, rfl, rfl, i64_inj ei, trivial⟩ ⟨?_, trivial⟩ rfl
      show some (MO.words tU32 ((L ++ (m ++ R)).set (off + ((i : Int)).toNat) (IntKind.u32.wrap (IntKind.u64.wrap (IntKind.u64.wrap (m.getD i 0) - IntKind.u64.wrap (IntKind.u64.wrap (b.getD i 0) + (u : Int))))))) = _
      rw [ed, mid_set (j := i) (by rw [Int.toNat_natCast]; omega) (by omega)]
  · have hend : i = len := by have h : ¬ (i : Int) < (len : Int) := of_decide_eq_false h; omega
    refine retG_intro rfl rfl ⟨?_, trivial⟩ rfl
    show some (MO.words tU32 (L ++ (m ++ R))) = _
    have h2 := val_lt hwm
    have h3 := val_lt hwa
    rw [hl] at h2
    rw [← hlen'] at h3
    rw [hend, ← hl, List.take_length, hl, hlen', List.take_length, ← hlen'] at hv
    have hbt : val (b.take len) = val b := by
      by_cases hj : len ≤ b.length
      · have h4 := val_drop_zero (a := b) (i := len) hj (by omega)
        rw [val_take_drop b len hj, h4, Nat.mul_zero, Nat.add_zero]
      · rw [val_take_ge (by omega)]
    rw [hbt, Nat.add_zero] at hv
    generalize 4294967296 ^ len = q at hv h2 h3
    have hu0 : u = 0 := by
      have : u = 0 ∨ u = 1 := by omega
      rcases this with h | h
      · exact h
      · subst h; omega
    subst hu0
    rw [dig_eq (n := len) (v := val M - val b) hwm hl (by omega)]
theorem LessX_spec {X b : List Int} {off len v : Nat} (hw : Wd X) (hl : off + len ≤ X.length) (hX : X.length ≤ 8796093022208) (hv : val ((X.drop off).take len) = v) (hwb : Wd b) (hlb : b.length ≤ 1099511627776) (hle : val b ≤ v) :
    ∃ X' : List Int, X.length = X'.length ∧ Wd X' ∧ val ((X'.drop off).take len) = v - val b ∧ RunsG Tryz.prog g_retrospectref05_Less [.own 1000 off len, .d (.words b)] [(1000, .words tU32 X)] (.tup []) [(1000, .words tU32 X')] := by
  have h3 := three X off len
  have hL : (X.take off).length = off := by rw [List.length_take]; omega
  have hM : ((X.drop off).take len).length = len := by rw [List.length_take, List.length_drop]; omega
  have := Less_specL (L := X.take off) (M := (X.drop off).take len) (R := X.drop (off + len)) (b := b) (off := off) (len := len) hL.symm hM.symm ((hw.drop _).take _) hwb (by rw [← h3]; exact hX) hlb (by rw [hv]; exact hle)
  rw [← h3, hv] at this
  refine ⟨_, ?_, ?_, ?_, this⟩
  · rw [List.length_append, List.length_append, hL, dig_len, List.length_drop]; omega
  · exact (hw.take _).app ((Wd.dig _ _).app (hw.drop _))
  · rw [List.drop_append_of_le_length (by omega), List.drop_eq_nil_of_le (by omega), List.nil_append, List.take_append_of_le_length (by rw [dig_len]; omega), List.take_of_length_le (by rw [dig_len]; omega), val_dig_lt]
    have h4 := val_lt ((hw.drop off).take len)
    rw [hM, hv] at h4
    omega
end Go.Proofs.YtolkecnhncbkhaaGreat.Fw

/- The document's products, common divisors and multiples. -/
set_option linter.unusedVariables false
namespace Go.Proofs.YtolkecnhncbkhaaGreat.Fw
open Go Pu
theorem u64mul {x y m c : Nat} (hx : x < 4294967296) (hy : y < 4294967296) (hm : m < 4294967296) (hc : c < 4294967296) :
    IntKind.u64.wrap ((c : Int) + IntKind.u64.wrap (IntKind.u64.wrap (IntKind.u64.wrap (x : Int) * IntKind.u64.wrap (y : Int)) + IntKind.u64.wrap (m : Int))) = ((x * y + m + c : Nat) : Int) := by
  have h1 : x * y ≤ 4294967295 * 4294967295 := Nat.mul_le_mul (by omega) (by omega)
  have e : ∀ z : Nat, z < 18446744073709551616 → IntKind.u64.wrap (z : Int) = (z : Int) := fun z hz => by rw [w64]; omega
  rw [e x (by omega), e y (by omega), e m (by omega), show (x : Int) * (y : Int) = ((x * y : Nat) : Int) from (Int.natCast_mul x y).symm]
  generalize x * y = p at h1 ⊢
  rw [e p (by omega), show (p : Int) + (m : Int) = ((p + m : Nat) : Int) by omega, e (p + m) (by omega), show (c : Int) + ((p + m : Nat) : Int) = ((p + m + c : Nat) : Int) by omega, e _ (by omega)]
set_option maxHeartbeats 2000000 in
theorem rMul_specG {a b : List Int} (hwa : Wd a) (hwb : Wd b) (ha : a.length ≤ 274877906944) (hb : b.length ≤ 274877906944) : RunsG Tryz.prog g_retrospectref04_Mul [.d (.words a), .d (.words b)] [] (.own 67 0 (toW (val a * val b)).length) [(67, .words tU32 (toW (val a * val b)))] := by
  refine runG [67] p_retrospectref04_Mul rfl rfl rfl rfl (fun B S F0 w0 V0 => ?_)
  have e1 : IntKind.i64.wrap ((a.length : Int) + (b.length : Int)) = ((a.length + b.length : Nat) : Int) := by rw [wr (by omega) (by omega)]; omega
  refine opp_make hT rfl rfl (Nat.le_of_ble_eq_true rfl) (e := tU32) rfl rfl (Nat.le_of_ble_eq_true rfl) (fun _ => rfl) (k := .i64) (k' := .i64) (n := ((a.length + b.length : Nat) : Int)) (i64_inj e1) (i64_inj e1) rfl (by omega) ?_ ?_ ?_
  · show 4 * ((a.length + b.length : Nat) : Int).toNat ≤ _
    omega
  · unfold maxLen; omega
  rw [Int.toNat_natCast]
  refine loop_intro (fun p : Nat × List Int => st [(0, .d (.words a)), (1, .d (.words b)), (5, .own 14 0 (a.length + b.length)), (6, .d (.int .i64 (p.1 : Int)))] [(14, .words tU32 p.2)]) (fun p => a.length - p.1)
    (fun p => p.1 ≤ a.length ∧ p.2.length = a.length + b.length ∧ Wd p.2 ∧ val p.2 = val (a.take p.1) * val b) (0, List.replicate (a.length + b.length) 0)
    ⟨Nat.zero_le _, by simp, Wd.zeros _, by simp only [val_zeros]; simp [val]⟩ (weak_st _ _ ⟨rfl, rfl, rfl, rfl, trivial⟩ ⟨rfl, trivial⟩ rfl) ?_
  rintro ⟨i, out⟩ ⟨hi, hl, hwo, hv⟩
  dsimp only at hi hl hwo hv
  refine split_intro (fun h => ?_) (fun h => ?_)
  · have hlt : i < a.length := by have h : (i : Int) < a.length := of_decide_eq_true h; omega
    have ei : IntKind.i64.wrap ((i : Int) + 1) = ((i + 1 : Nat) : Int) := by rw [wr (by omega) (by omega)]; omega
    obtain ⟨x, hx, hx'⟩ := mget a hwa i
    have hsp := three out i (b.length + 1)
    have hL : (out.take i).length = i := by rw [List.length_take]; omega
    have hMl : ((out.drop i).take (b.length + 1)).length = b.length + 1 := by rw [List.length_take, List.length_drop]; omega
    have hval := val_lt (hwa.take i)
    have hbt : (a.take i).length = i := by rw [List.length_take]; omega
    rw [hbt] at hval
    have hva := val_lt hwb
    have hout : val out < 4294967296 ^ (i + b.length) := by
      rw [hv, Nat.pow_add]
      exact Nat.mul_lt_mul'' hval hva
    have hz := val_drop_zero (i := i + b.length) (by omega) hout
    have hz2 : val (out.drop (i + (b.length + 1))) = 0 := by
      have h2 : val (out.drop (i + b.length)) = _ := val_take_drop (out.drop (i + b.length)) 1 (by rw [List.length_drop]; omega)
      rw [hz, List.drop_drop, Nat.add_assoc] at h2
      have : 4294967296 ^ 1 * val (out.drop (i + (b.length + 1))) = 0 := by omega
      omega
    have hmid : val (out.drop i) = val ((out.drop i).take b.length) := by
      have h2 := val_take_drop (out.drop i) b.length (by rw [List.length_drop]; omega)
      rw [List.drop_drop, hz] at h2
      omega
    obtain ⟨L, hLd⟩ : ∃ L, L = out.take i := ⟨_, rfl⟩
    obtain ⟨M, hMd⟩ : ∃ M, M = (out.drop i).take (b.length + 1) := ⟨_, rfl⟩
    obtain ⟨R, hRd⟩ : ∃ R, R = out.drop (i + (b.length + 1)) := ⟨_, rfl⟩
    rw [← hLd, ← hMd, ← hRd] at hsp
    rw [← hLd] at hL
    rw [← hMd] at hMl
    rw [← hRd] at hz2
    have hwM : Wd M := by rw [hMd]; exact (hwo.drop i).take _
    have hwL : Wd L := by rw [hLd]; exact hwo.take i
    have hwR : Wd R := by rw [hRd]; exact hwo.drop _
    have htt : val (M.take b.length) = val (out.drop i) := by rw [hMd, List.take_take, Nat.min_eq_left (by omega), ← hmid]
    have hoi : val out = val L + 4294967296 ^ i * val (out.drop i) := by rw [hLd]; exact val_take_drop out i (by omega)
    have hN : a.length + b.length = i + (b.length + 1) + R.length := by rw [← hl, hsp, hAB L, hAB M, hL, hMl]; omega
    refine loop_intro (fun p : Nat × List Int × Nat => st [(0, .d (.words a)), (1, .d (.words b)), (5, .own 14 0 (a.length + b.length)), (6, .d (.int .i64 (i : Int))), (7, .d (.int .u64 (p.2.2 : Int))), (8, .d (.int .i64 (p.1 : Int)))] [(14, .words tU32 (L ++ (p.2.1 ++ R)))]) (fun p => b.length - p.1)
      (fun p => p.1 ≤ b.length ∧ p.2.1.length = b.length + 1 ∧ Wd p.2.1 ∧ p.2.2 < 4294967296 ∧ (∀ j, p.1 ≤ j → p.2.1.getD j 0 = M.getD j 0) ∧ val (p.2.1.take p.1) + 4294967296 ^ p.1 * p.2.2 = x * val (b.take p.1) + val (M.take p.1) + 0) (0, M, 0)
      ⟨Nat.zero_le _, hMl, hwM, by show 0 < 4294967296; omega, fun _ _ => rfl, by simp [val]⟩ (weak_st _ _ ⟨rfl, rfl, rfl, rfl, rfl, rfl, trivial⟩ ⟨congrArg (fun z => some (MO.words tU32 z)) hsp, trivial⟩ rfl) ?_
    rintro ⟨k, m, c⟩ ⟨hk, hml, hwm, hc, hsame, hkv⟩
    dsimp only at hk hml hwm hc hsame hkv
    have getm : ∀ j, j < b.length + 1 → ∀ z : Int, z = ((i + j : Nat) : Int) → (L ++ (m ++ R))[((0 + z.toNat : Nat) : Int).toNat]? = some (m.getD j 0) := by
      rintro j hj z rfl
      rw [Int.toNat_natCast, Int.toNat_natCast, Nat.zero_add]
      exact mid_elem (by omega) (by omega)
    refine split_intro (fun h1 => ?_) (fun h1 => ?_)
    · have hlk : k < b.length := by have h1 : (k : Int) < b.length := of_decide_eq_true h1; omega
      have ek : IntKind.i64.wrap ((k : Int) + 1) = ((k + 1 : Nat) : Int) := by rw [wr (by omega) (by omega)]; omega
      have eik : IntKind.i64.wrap ((i : Int) + (k : Int)) = ((i + k : Nat) : Int) := by rw [wr (by omega) (by omega)]; omega
      obtain ⟨y, hy, hy'⟩ := mget b hwb k
      obtain ⟨u, hu, hu'⟩ := mget m hwm k
      have eu := u64mul hx' hy' hu' hc
      rw [← hx, ← hy, ← hu] at eu
      have hlt2 : x * y + u + c < 18446744073709551616 := by
        have h1 : x * y ≤ 4294967295 * 4294967295 := Nat.mul_le_mul (by omega) (by omega)
        generalize x * y = p at h1 ⊢
        omega
      obtain ⟨q, hq⟩ : ∃ q, q = x * y + u + c := ⟨_, rfl⟩
      rw [← hq] at eu hlt2
      refine side_intro rfl ?_
      refine idx_w i rfl hlt ?_
      refine idx_w k rfl hlk ?_
      refine side_intro (by show 0 ≤ IntKind.i64.wrap ((i : Int) + (k : Int)) ∧ IntKind.i64.wrap ((i : Int) + (k : Int)) < ((a.length + b.length : Nat) : Int); omega) ?_
      refine idx_intro (m.getD k 0) (Int.natCast_nonneg _) (getm k (by omega) _ eik) ?_
      refine side_intro (by show (4294967296 : Int) ≠ 0; omega) ?_
      refine side_intro (by show 0 ≤ IntKind.i64.wrap ((i : Int) + (k : Int)) ∧ IntKind.i64.wrap ((i : Int) + (k : Int)) < ((a.length + b.length : Nat) : Int); omega) ?_
      refine side_intro (by show (4294967296 : Int) ≠ 0; omega) ?_
      refine ⟨(k + 1, m.set k ((q % 4294967296 : Nat) : Int), q / 4294967296), ⟨hlk, by show (m.set k _).length = _; rw [List.length_set]; exact hml, hwm.set k (by omega) (by omega), by show q / 4294967296 < 4294967296; omega, fun j hj => ?_, ?_⟩, by show b.length - (k + 1) < b.length - k; omega, ?_⟩
      · have hj : k + 1 ≤ j := hj
        show (m.set k _).getD j 0 = _
        rw [getD_setne (by omega)]
        exact hsame j (by omega)
      · show val ((m.set k _).take (k + 1)) + 4294967296 ^ (k + 1) * _ = _
        rw [val_take_set (by omega), val_take_succ' (a := b), val_take_succ' (a := M), ← hsame k (Nat.le_refl _), hy, hu, Nat.pow_succ]
        have hrs := row_step (A := val (m.take k)) (q := 4294967296 ^ k) (C := val (b.take k)) (D := val (M.take k)) (K := 0) (x := (x : Int)) (y := (y : Int)) (m := (u : Int)) (c := (c : Int)) (by omega) (by omega) (by omega) (by omega) (by rw [Int.toNat_natCast, Int.toNat_natCast]; exact hkv)
        have e4 : (x : Int) * (y : Int) + (u : Int) + (c : Int) = (q : Int) := by rw [hq, Int.natCast_add, Int.natCast_add, Int.natCast_mul]
        rw [e4] at hrs
        have e5 : ((q : Int) % 4294967296).toNat = q % 4294967296 := by omega
        have e6 : ((q : Int) / 4294967296).toNat = q / 4294967296 := by omega
        rw [e5, e6] at hrs
        simp only [Int.toNat_natCast] at hrs ⊢
        exact hrs
      · refine weak_st _ _ ⟨rfl, rfl, rfl, rfl, u64_inj ?_, i64_inj ek, trivial⟩ ⟨?_, trivial⟩ rfl
        · show IntKind.u64.wrap ((IntKind.u64.wrap ((c : Int) + IntKind.u64.wrap (IntKind.u64.wrap (IntKind.u64.wrap (a.getD i 0) * IntKind.u64.wrap (b.getD k 0)) + IntKind.u64.wrap (m.getD k 0)))).tdiv 4294967296) = ((q / 4294967296 : Nat) : Int)
          rw [eu, Int.tdiv_eq_ediv_of_nonneg (by omega), w64]; omega
        · show some (MO.words tU32 ((L ++ (m ++ R)).set (0 + (IntKind.i64.wrap ((i : Int) + (k : Int))).toNat) (IntKind.u32.wrap ((IntKind.u64.wrap ((c : Int) + IntKind.u64.wrap (IntKind.u64.wrap (IntKind.u64.wrap (a.getD i 0) * IntKind.u64.wrap (b.getD k 0)) + IntKind.u64.wrap (m.getD k 0)))).tmod 4294967296)))) = _
          rw [eu, Int.tmod_eq_emod_of_nonneg (by omega), w32, mid_set (j := k) (by rw [eik]; omega) (by omega)]
          have e7 : ((q : Int) % 4294967296) % 4294967296 = ((q % 4294967296 : Nat) : Int) := by omega
          rw [e7]
    · have hend : k = b.length := by have h1 : ¬ (k : Int) < b.length := of_decide_eq_false h1; omega
      subst hend
      have eib : IntKind.i64.wrap ((i : Int) + (b.length : Int)) = ((i + b.length : Nat) : Int) := by rw [wr (by omega) (by omega)]; omega
      refine side_intro (by show 0 ≤ IntKind.i64.wrap ((i : Int) + (b.length : Int)) ∧ IntKind.i64.wrap ((i : Int) + (b.length : Int)) < ((a.length + b.length : Nat) : Int); omega) ?_
      have ec : IntKind.u32.wrap (c : Int) = (c : Int) := by rw [w32]; omega
      have hwm' : Wd (m.set b.length (c : Int)) := hwm.set _ (by omega) (by omega)
      have hvm : val (m.set b.length (c : Int)) = x * val b + val (out.drop i) := by
        rw [val_set_last (by omega), Int.toNat_natCast, hkv, List.take_length, htt, Nat.add_zero]
      refine ⟨(i + 1, L ++ (m.set b.length (c : Int) ++ R)), ⟨hlt, ?_, hwL.app (hwm'.app hwR), ?_⟩, by show a.length - (i + 1) < a.length - i; omega, ?_⟩
      · show (L ++ (m.set b.length (c : Int) ++ R)).length = _
        rw [hAB L, hAB (m.set _ _), List.length_set, hL, hml]; omega
      · show val (L ++ (m.set b.length (c : Int) ++ R)) = val (a.take (i + 1)) * val b
        rw [val_parts, hz2, Nat.mul_zero, Nat.add_zero, hvm, hL, val_take_succ hlt, hx, Int.toNat_natCast, Nat.add_mul, ← hv, hoi, Nat.mul_add, Nat.mul_assoc]
        omega
      · refine weak_st _ _ ⟨rfl, rfl, rfl, i64_inj ei, trivial⟩ ⟨?_, trivial⟩ rfl
        show some (MO.words tU32 ((L ++ (m ++ R)).set (0 + (IntKind.i64.wrap ((i : Int) + (b.length : Int))).toNat) (IntKind.u32.wrap (c : Int)))) = _
        rw [ec, mid_set (j := b.length) (by rw [eib]; omega) (by omega)]
  · have hend : i = a.length := by have h : ¬ (i : Int) < a.length := of_decide_eq_false h; omega
    rw [hend, List.take_length] at hv
    refine opp_weak _ (weak_freeze (i := 14) (m := .words tU32 out) (Nat.le_of_ble_eq_true rfl) rfl) ?_
    have hn := rNorm_specG (a := out) hwo (by omega)
    rw [hv] at hn
    refine call_new 67 hn rfl rfl rfl rfl rfl ?_ rfl ?_
    · show [snapM (.words tU32 out) 0 (a.length + b.length)] = _
      rw [snap_all tU32 _ hl.symm]
    exact retG_intro rfl rfl ⟨rfl, trivial⟩ rfl
theorem rMul_spec {a b : List Int} (hwa : Wd a) (hwb : Wd b) (ha : a.length ≤ 274877906944) (hb : b.length ≤ 274877906944) : Runs Tryz.prog g_retrospectref04_Mul [.d (.words a), .d (.words b)] (.d (.words (toW (val a * val b)))) := by
  have := runs_of_G (rMul_specG hwa hwb ha hb) rfl rfl
  have e : snapR [(67, MO.words tU32 (toW (val a * val b)))] (.own 67 0 (toW (val a * val b)).length) = .d (.words (toW (val a * val b))) := snap_all tU32 _ rfl
  rw [e] at this
  exact this
end Go.Proofs.YtolkecnhncbkhaaGreat.Fw

/- The document's common divisors and multiples. -/
set_option linter.unusedVariables false
namespace Go.Proofs.YtolkecnhncbkhaaGreat.Fw
open Go Pu
theorem double_spec {a : List Int} {t : Nat} (hwa : Wd a) (ha : a.length ≤ 68719476736) (ht : t ≤ 2199023255552) : Runs Tryz.prog g_retrospectref06_double [.d (.words a), .d (.int .i64 (t : Int))] (.d (.words (toW (2 ^ t * val a)))) := by
  refine run1 [] p_retrospectref06_double rfl rfl (fun B S F0 w0 V0 => ?_)
  have e1 : IntKind.i64.wrap (((t : Int)).tdiv 32) = ((t / 32 : Nat) : Int) := by rw [Int.tdiv_eq_ediv_of_nonneg (by omega), wr (by omega) (by omega)]; omega
  have e2 : ((t : Int)).tmod 32 = ((t % 32 : Nat) : Int) := by rw [Int.tmod_eq_emod_of_nonneg (by omega)]; omega
  refine side_intro (by show (32 : Int) ≠ 0; omega) ?_
  refine opp_make hT rfl rfl (Nat.le_of_ble_eq_true rfl) (e := tU32) rfl rfl (Nat.le_of_ble_eq_true rfl) (fun _ => rfl) (k := .i64) (k' := .i64) (n := ((t / 32 : Nat) : Int)) (i64_inj e1) (i64_inj e1) rfl (by omega) ?_ ?_ ?_
  · show 4 * ((t / 32 : Nat) : Int).toNat ≤ _
    omega
  · unfold maxLen; omega
  rw [Int.toNat_natCast]
  have hzl : (List.replicate (t / 32) (0 : Int)).length = t / 32 := List.length_replicate ..
  refine opp_append_own hT (e := tU32) (i := 8) (j := 10) (obj := .words tU32 (List.replicate (t / 32) 0)) (obj2 := .words tU32 (List.replicate (t / 32) 0 ++ a)) (n := t / 32) (m := a.length) (fl := (List.replicate (t / 32) (0 : Int)).map wd) (fl2 := a.map wd) rfl rfl rfl rfl rfl rfl ?_ rfl rfl ?_ (Nat.le_of_ble_eq_true rfl) (Nat.le_of_ble_eq_true rfl) (.inr rfl) ?_ ?_ ?_
  · show some (tU32, 1, (List.replicate (t / 32) (0 : Int)).length, _) = _
    rw [hzl]; rfl
  · rw [List.length_map]; show a.length = a.length * 1; omega
  · show some (tU32, 1, (List.replicate (t / 32) 0 ++ a).length, (List.replicate (t / 32) 0 ++ a).map wd) = _
    rw [hAB, List.map_append, hzl]; rfl
  · show (t / 32 + a.length) * (4 + 1) ≤ _
    omega
  refine side_intro (by show (32 : Int) ≠ 0; omega) ?_
  refine side_intro (by show 0 ≤ ((t : Int)).tmod 32; rw [e2]; omega) ?_
  have hr32 : t % 32 < 32 := Nat.mod_lt _ (by omega)
  have hp31 : 2 ^ (t % 32) ≤ 2 ^ 31 := Nat.pow_le_pow_right (by omega) (by omega)
  have hp0 : 0 < 2 ^ (t % 32) := Nat.two_pow_pos _
  have es : IntKind.u32.wrap (1 * 2 ^ (min (((t : Int)).tmod 32).toNat IntKind.u32.bits)) = ((2 ^ (t % 32) : Nat) : Int) := by
    rw [e2, Int.toNat_natCast, show min (t % 32) IntKind.u32.bits = t % 32 by show min (t % 32) 32 = _; omega, Int.one_mul, show (2 : Int) ^ (t % 32) = ((2 ^ (t % 32) : Nat) : Int) by rw [Int.natCast_pow]; rfl, w32]
    generalize 2 ^ (t % 32) = z at hp31
    omega
  have hwz : Wd (List.replicate (t / 32) 0 ++ a) := (Wd.zeros _).app hwa
  have hm := rMul_spec (a := List.replicate (t / 32) 0 ++ a) (b := [((2 ^ (t % 32) : Nat) : Int)]) hwz (Wd.cons (by omega) (by generalize 2 ^ (t % 32) = z at hp31; omega) Wd.nil) (by rw [hAB, hzl]; omega) (by show 1 ≤ _; omega)
  have ev : val (List.replicate (t / 32) 0 ++ a) * val [((2 ^ (t % 32) : Nat) : Int)] = 2 ^ t * val a := by
    have h1 : val [((2 ^ (t % 32) : Nat) : Int)] = 2 ^ (t % 32) := by show (((2 ^ (t % 32) : Nat) : Int)).toNat + 4294967296 * 0 = _; rw [Int.toNat_natCast]; omega
    rw [val_app, val_zeros, hzl, Nat.zero_add, h1, Nat.mul_right_comm, ← pow_split, Nat.div_add_mod]
  rw [ev] at hm
  refine opp_frz 10 (.words tU32 (List.replicate (t / 32) 0 ++ a)) rfl (Nat.le_of_ble_eq_true rfl) rfl ?_
  refine call_intro (.d (.words (toW (2 ^ t * val a)))) ?_ ?_
  · rw [← snap_all tU32 (List.replicate (t / 32) 0 ++ a) (n := t / 32 + a.length) (by rw [hAB, hzl]), ← es] at hm
    exact hm
  exact ret_intro rfl rfl
theorem rOne_spec {n : Nat} : Runs Tryz.prog g_retrospectref06_One [.d (.words (toW n))] (.d (.bool (decide (n = 1)))) := by
  refine run1 [] p_retrospectref06_One rfl rfl (fun B S F0 w0 V0 => ?_)
  refine split_intro (fun h1 => ?_) (fun h1 => ?_)
  · have h1 : ((toW n).length : Int) = 1 := eq_of_beq h1
    refine idx_w 0 rfl (by omega) ?_
    refine ret_intro (b_inj ?_) rfl
    show ((toW n).getD 0 0 == 1) = _
    by_cases hn : n = 1
    · rw [decide_eq_true hn]; exact beq_iff_eq.2 (toW_is_one.2 hn).2
    · rw [decide_eq_false hn]; exact beq_eq_false_iff_ne.2 (fun e => hn (toW_is_one.1 ⟨by omega, e⟩))
  · have h1 : ((toW n).length : Int) ≠ 1 := beq_eq_false_iff_ne.1 h1
    refine ret_intro (b_inj ?_) rfl
    rw [decide_eq_false (fun e => by have := (toW_is_one.2 e).1; omega)]
theorem rOver_spec {a : List Int} {g : Nat} (hwa : Wd a) (ha : a.length ≤ 137438953472) (hg : (toW g).length ≤ 137438953472) (h0 : g ≠ 0) : Runs Tryz.prog g_retrospectref06_Over [.d (.words a), .d (.words (toW g))] (.d (.words (toW (val a / g)))) := by
  refine run1 [] p_retrospectref06_Over rfl rfl (fun B S F0 w0 V0 => ?_)
  refine call_intro _ rOne_spec ?_
  refine split_intro (fun h1 => ?_) (fun h1 => ?_)
  · have h1 : g = 1 := of_decide_eq_true h1
    rw [h1, Nat.div_one]
    refine call_intro _ (rNorm_spec hwa (by omega)) ?_
    exact ret_intro rfl rfl
  · have hd := rDiv_spec (b := toW g) hwa (Wd.toW _) ha hg (by rw [val_toW]; exact h0)
    rw [val_toW] at hd
    refine call_intro _ hd ?_
    exact ret_intro rfl rfl
theorem minI (m n : Nat) : (if (n : Int) < (m : Int) then (n : Int) else (m : Int)) = ((min m n : Nat) : Int) := by
  split <;> omega
def gst (sw : Bool) (X Y : List Int) (o1 A o2 B m n : Nat) : St :=
  bif sw then st [(5, .own 14 o1 (toW A).length), (6, .own 12 o2 (toW B).length), (7, .d (.int .i64 (m : Int))), (8, .d (.int .i64 (n : Int)))] [(14, .words tU32 X), (12, .words tU32 Y)]
  else st [(5, .own 12 o1 (toW A).length), (6, .own 14 o2 (toW B).length), (7, .d (.int .i64 (m : Int))), (8, .d (.int .i64 (n : Int)))] [(12, .words tU32 X), (14, .words tU32 Y)]
structure GI (X Y : List Int) (o1 A o2 B G : Nat) : Prop where
  wx : Wd X
  wy : Wd Y
  lx : o1 + (toW A).length ≤ X.length
  ly : o2 + (toW B).length ≤ Y.length
  bx : X.length ≤ 68719476736
  bY : Y.length ≤ 68719476736
  vx : (X.drop o1).take (toW A).length = toW A
  vy : (Y.drop o2).take (toW B).length = toW B
  ox : A % 2 = 1
  oy : B % 2 = 1
  g : Nat.gcd A B = G
theorem GI.next {X Y X1 X2 : List Int} {o1 A o2 B G o' : Nat} (h : GI X Y o1 A o2 B G) (hlt : B < A) (h1 : X.length = X1.length) (h2 : X2.length = X1.length) (hw : Wd X2) (h3 : o' + (toW (op (A - B))).length ≤ X2.length) (h4 : (X2.drop o').take (toW (op (A - B))).length = toW (op (A - B))) : GI X2 Y o' (op (A - B)) o2 B G := by
  have h0 : A - B ≠ 0 := by omega
  exact ⟨hw, h.wy, h3, h.ly, by have := h.bx; omega, h.bY, h4, h.vy, (op_eq h0).2, h.oy, by rw [gcd_op h.oy h0, gcd_less (by omega), h.g]⟩
theorem GI.swap {X Y : List Int} {o1 A o2 B G : Nat} (h : GI X Y o1 A o2 B G) : GI Y X o2 B o1 A G := ⟨h.wy, h.wx, h.ly, h.lx, h.bY, h.bx, h.vy, h.vx, h.oy, h.ox, by rw [Nat.gcd_comm]; exact h.g⟩
set_option maxHeartbeats 2000000 in
theorem rGcd_spec {a b : List Int} (hwa : Wd a) (hwb : Wd b) (ha : a.length ≤ 68719476736) (hb : b.length ≤ 68719476736) : Runs Tryz.prog g_retrospectref06_Gcd [.d (.words a), .d (.words b)] (.d (.words (toW (Nat.gcd (val a) (val b))))) := by
  refine run1 [12, 14] p_retrospectref06_Gcd rfl rfl (fun B S F0 w0 V0 => ?_)
  refine call_new 12 (rNorm_specG hwa (by omega)) rfl rfl rfl rfl rfl rfl rfl ?_
  refine call_new 14 (rNorm_specG hwb (by omega)) rfl rfl rfl rfl rfl rfl rfl ?_
  have la := nw_val hwa ha
  have lb := nw_val hwb hb
  obtain ⟨E, hE⟩ : ∃ E, E = 2199023255552 := ⟨_, rfl⟩
  have ba : val a < 2 ^ E := Nat.lt_of_lt_of_le (val_lt_bits hwa) (Nat.pow_le_pow_right (by omega) (by omega))
  clear hwa hwb ha hb
  obtain ⟨va, hva⟩ : ∃ va, va = val a := ⟨_, rfl⟩
  obtain ⟨vb, hvb⟩ : ∃ vb, vb = val b := ⟨_, rfl⟩
  rw [← hva] at la ba ⊢
  rw [← hvb] at lb ⊢
  clear hva hvb
  refine split_intro (fun h => ?_) (fun h => ?_)
  · have h : ((toW va).length : Int) = 0 := eq_of_beq h
    have h0 : va = 0 := toW_len_zero.1 (by omega)
    rw [h0, Nat.gcd_zero_left]
    exact ret_intro (snap_all tU32 _ rfl) rfl
  have h : ((toW va).length : Int) ≠ 0 := beq_eq_false_iff_ne.1 h
  have a0 : va ≠ 0 := by intro e; have := toW_len_zero.2 e; omega
  refine split_intro (fun h' => ?_) (fun h' => ?_)
  · have h' : ((toW vb).length : Int) = 0 := eq_of_beq h'
    have h0 : vb = 0 := toW_len_zero.1 (by omega)
    rw [h0, Nat.gcd_zero_right]
    exact ret_intro (snap_all tU32 _ rfl) rfl
  have h' : ((toW vb).length : Int) ≠ 0 := beq_eq_false_iff_ne.1 h'
  have b0 : vb ≠ 0 := by intro e; have := toW_len_zero.2 e; omega
  obtain ⟨X, o1, x1, x2, x3, x4, hox⟩ := odd_spec (X := toW va) (off := 0) (len := (toW va).length) (v := va) (Wd.toW _) (by omega) (by omega) (by rw [List.drop_zero, List.take_length, val_toW]) a0
  obtain ⟨Y, o2, y1, y2, y3, y4, hoy⟩ := odd_spec (X := toW vb) (off := 0) (len := (toW vb).length) (v := vb) (Wd.toW _) (by omega) (by omega) (by rw [List.drop_zero, List.take_length, val_toW]) b0
  refine call_row 12 hox rfl rfl rfl rfl rfl rfl (same_words x1.symm) ?_
  refine call_row 14 hoy rfl rfl rfl rfl rfl rfl (same_words y1.symm) ?_
  have htz : tz va < E := tz_lt a0 ba
  have hgb := gcd_both a0 b0
  refine loop_intro (fun p : Bool × (List Int × Nat × Nat) × (List Int × Nat × Nat) => gst p.1 p.2.1.1 p.2.2.1 p.2.1.2.1 p.2.1.2.2 p.2.2.2.1 p.2.2.2.2 (tz va) (tz vb)) (fun p => p.2.1.2.2 + p.2.2.2.2) (fun p => GI p.2.1.1 p.2.2.1 p.2.1.2.1 p.2.1.2.2 p.2.2.2.1 p.2.2.2.2 (Nat.gcd (op va) (op vb))) (false, (X, o1, op va), (Y, o2, op vb))
    ⟨x2, y2, x3, y3, by show X.length ≤ _; omega, by show Y.length ≤ _; omega, x4, y4, (op_eq a0).2, (op_eq b0).2, rfl⟩ (weak_st _ _ ⟨rfl, rfl, rfl, rfl, trivial⟩ ⟨rfl, rfl, trivial⟩ rfl) ?_
  clear hox hoy x1 x2 x3 x4 y1 y2 y3 y4 X Y o1 o2
  rintro ⟨sw, ⟨X, o1, A⟩, ⟨Y, o2, C⟩⟩ hI
  have hI : GI X Y o1 A o2 C (Nat.gcd (op va) (op vb)) := hI
  have lx := hI.lx
  have ly := hI.ly
  have bx := hI.bx
  have bY := hI.bY
  have hcm := rCmp_spec (a := toW A) (b := toW C) (Wd.toW _) (Wd.toW _) (by omega) (by omega)
  rw [val_toW, val_toW] at hcm
  have hox := hI.ox
  have hoy := hI.oy
  have hxs : ∀ k, k = (toW A).length → snapM (.words tU32 X) o1 k = .d (.words (toW A)) := by
    intro k hk
    show V.d (.words ((X.drop o1).take k)) = _
    rw [hk, hI.vx]
  have hys : ∀ k, k = (toW C).length → snapM (.words tU32 Y) o2 k = .d (.words (toW C)) := by
    intro k hk
    show V.d (.words ((Y.drop o2).take k)) = _
    rw [hk, hI.vy]
  cases sw
  · refine opp_callR (T := TB) hcm rfl rfl rfl (by show [snapM (.words tU32 X) o1 (toW A).length, snapM (.words tU32 Y) o2 (toW C).length] = _; rw [hxs _ rfl, hys _ rfl]) rfl rfl ?_
    refine split_intro (fun h => ?_) (fun h => ?_)
    · have h : cmpI A C = 0 := eq_of_beq h
      have hAC : A = C := cmpI_eq.1 h
      have hg := hI.g
      rw [← hAC, Nat.gcd_self] at hg
      rw [hgb, ← hg]
      have hdb := double_spec (a := toW A) (t := min (tz va) (tz vb)) (Wd.toW _) (by omega) (by omega)
      rw [val_toW, ← minI, ← hxs _ rfl] at hdb
      refine opp_frz 12 (.words tU32 X) rfl (Nat.le_of_ble_eq_true rfl) rfl ?_
      refine call_intro _ hdb ?_
      exact ret_intro rfl rfl
    have h : cmpI A C ≠ 0 := beq_eq_false_iff_ne.1 h
    have hne : A ≠ C := fun e => h (cmpI_eq.2 e)
    refine split_intro (fun h1 => ?_) (fun h1 => ?_)
    · have h1 : cmpI A C < 0 := of_decide_eq_true h1
      have hlt : A < C := cmpI_lt.1 h1
      obtain ⟨Y1, q1, q2, q3, hls⟩ := LessX_spec (X := Y) (b := toW A) (off := o2) (len := (toW C).length) (v := C) hI.wy hI.ly (by omega) (by rw [hI.vy, val_toW]) (Wd.toW _) (by omega) (by rw [val_toW]; omega)
      rw [val_toW] at q3
      obtain ⟨Y2, o', r1, r2, r3, r4, hod⟩ := odd_spec (X := Y1) (off := o2) (len := (toW C).length) (v := C - A) q2 (by omega) (by omega) q3 (by omega)
      refine opp_call_mut_read (T := TB) (i := 14) (j := 12) (by decide) hls rfl rfl rfl rfl rfl rfl hI.vx q1 ?_
      refine call_row 14 hod rfl rfl rfl rfl rfl rfl (same_words r1.symm) ?_
      exact ⟨(true, (Y2, o', op (C - A)), (X, o1, A)), hI.swap.next hlt q1 r1 r2 r3 r4, by have := op_le (C - A); show op (C - A) + A < A + C; omega, weak_st _ _ ⟨rfl, rfl, rfl, rfl, trivial⟩ ⟨rfl, rfl, trivial⟩ rfl⟩
    · have h1 : ¬ cmpI A C < 0 := of_decide_eq_false h1
      have hlt : C < A := by
        have := mt cmpI_lt.2 h1
        omega
      obtain ⟨X1, q1, q2, q3, hls⟩ := LessX_spec (X := X) (b := toW C) (off := o1) (len := (toW A).length) (v := A) hI.wx hI.lx (by omega) (by rw [hI.vx, val_toW]) (Wd.toW _) (by omega) (by rw [val_toW]; omega)
      rw [val_toW] at q3
      obtain ⟨X2, o', r1, r2, r3, r4, hod⟩ := odd_spec (X := X1) (off := o1) (len := (toW A).length) (v := A - C) q2 (by omega) (by omega) q3 (by omega)
      refine opp_call_mut_read (T := TB) (i := 12) (j := 14) (by decide) hls rfl rfl rfl rfl rfl rfl hI.vy q1 ?_
      refine call_row 12 hod rfl rfl rfl rfl rfl rfl (same_words r1.symm) ?_
      exact ⟨(false, (X2, o', op (A - C)), (Y, o2, C)), hI.next hlt q1 r1 r2 r3 r4, by have := op_le (A - C); show op (A - C) + C < A + C; omega, weak_st _ _ ⟨rfl, rfl, rfl, rfl, trivial⟩ ⟨rfl, rfl, trivial⟩ rfl⟩
  · refine opp_callR (T := TB) hcm rfl rfl rfl (by show [snapM (.words tU32 X) o1 (toW A).length, snapM (.words tU32 Y) o2 (toW C).length] = _; rw [hxs _ rfl, hys _ rfl]) rfl rfl ?_
    refine split_intro (fun h => ?_) (fun h => ?_)
    · have h : cmpI A C = 0 := eq_of_beq h
      have hAC : A = C := cmpI_eq.1 h
      have hg := hI.g
      rw [← hAC, Nat.gcd_self] at hg
      rw [hgb, ← hg]
      have hdb := double_spec (a := toW A) (t := min (tz va) (tz vb)) (Wd.toW _) (by omega) (by omega)
      rw [val_toW, ← minI, ← hxs _ rfl] at hdb
      refine opp_frz 14 (.words tU32 X) rfl (Nat.le_of_ble_eq_true rfl) rfl ?_
      refine call_intro _ hdb ?_
      exact ret_intro rfl rfl
    have h : cmpI A C ≠ 0 := beq_eq_false_iff_ne.1 h
    have hne : A ≠ C := fun e => h (cmpI_eq.2 e)
    refine split_intro (fun h1 => ?_) (fun h1 => ?_)
    · have h1 : cmpI A C < 0 := of_decide_eq_true h1
      have hlt : A < C := cmpI_lt.1 h1
      obtain ⟨Y1, q1, q2, q3, hls⟩ := LessX_spec (X := Y) (b := toW A) (off := o2) (len := (toW C).length) (v := C) hI.wy hI.ly (by omega) (by rw [hI.vy, val_toW]) (Wd.toW _) (by omega) (by rw [val_toW]; omega)
      rw [val_toW] at q3
      obtain ⟨Y2, o', r1, r2, r3, r4, hod⟩ := odd_spec (X := Y1) (off := o2) (len := (toW C).length) (v := C - A) q2 (by omega) (by omega) q3 (by omega)
      refine opp_call_mut_read (T := TB) (i := 12) (j := 14) (by decide) hls rfl rfl rfl rfl rfl rfl hI.vx q1 ?_
      refine call_row 12 hod rfl rfl rfl rfl rfl rfl (same_words r1.symm) ?_
      exact ⟨(false, (Y2, o', op (C - A)), (X, o1, A)), hI.swap.next hlt q1 r1 r2 r3 r4, by have := op_le (C - A); show op (C - A) + A < A + C; omega, weak_st _ _ ⟨rfl, rfl, rfl, rfl, trivial⟩ ⟨rfl, rfl, trivial⟩ rfl⟩
    · have h1 : ¬ cmpI A C < 0 := of_decide_eq_false h1
      have hlt : C < A := by
        have := mt cmpI_lt.2 h1
        omega
      obtain ⟨X1, q1, q2, q3, hls⟩ := LessX_spec (X := X) (b := toW C) (off := o1) (len := (toW A).length) (v := A) hI.wx hI.lx (by omega) (by rw [hI.vx, val_toW]) (Wd.toW _) (by omega) (by rw [val_toW]; omega)
      rw [val_toW] at q3
      obtain ⟨X2, o', r1, r2, r3, r4, hod⟩ := odd_spec (X := X1) (off := o1) (len := (toW A).length) (v := A - C) q2 (by omega) (by omega) q3 (by omega)
      refine opp_call_mut_read (T := TB) (i := 14) (j := 12) (by decide) hls rfl rfl rfl rfl rfl rfl hI.vy q1 ?_
      refine call_row 14 hod rfl rfl rfl rfl rfl rfl (same_words r1.symm) ?_
      exact ⟨(true, (X2, o', op (A - C)), (Y, o2, C)), hI.next hlt q1 r1 r2 r3 r4, by have := op_le (A - C); show op (A - C) + C < A + C; omega, weak_st _ _ ⟨rfl, rfl, rfl, rfl, trivial⟩ ⟨rfl, rfl, trivial⟩ rfl⟩
end Go.Proofs.YtolkecnhncbkhaaGreat.Fw

/- Numbers with a sign, fractions: what stands for them. -/
namespace Go.Proofs.YtolkecnhncbkhaaGreat.Pu
def sg (s : Bool) (n : Nat) : Int := bif s then -(n : Int) else (n : Int)
theorem sg_abs (s : Bool) (n : Nat) : (sg s n).natAbs = n := by cases s <;> simp [sg]
theorem sg_lt (s : Bool) (n : Nat) : decide (sg s n < 0) = (s && decide (n ≠ 0)) := by
  cases s
  · show decide ((n : Int) < 0) = false
    exact decide_eq_false (by omega)
  · show decide (-(n : Int) < 0) = decide (n ≠ 0)
    by_cases h : n = 0
    · subst h; rfl
    · rw [decide_eq_true h, decide_eq_true (by omega)]
theorem sg_zero (s : Bool) : sg s 0 = 0 := by cases s <;> rfl
theorem sg_eq_zero {s : Bool} {n : Nat} : sg s n = 0 ↔ n = 0 := by cases s <;> simp [sg]
theorem sg_mul (s t : Bool) (m n : Nat) : sg s m * sg t n = sg (s != t) (m * n) := by
  cases s <;> cases t <;> simp [sg, Int.neg_mul, Int.mul_neg]
theorem sg_neg (s : Bool) (n : Nat) : -sg s n = sg (!s) n := by cases s <;> simp [sg]
theorem sg_ediv {s : Bool} {n g : Nat} (h : g ∣ n) : sg s n / (g : Int) = sg s (n / g) := by
  cases s
  · simp [sg]
  · show -(n : Int) / (g : Int) = -((n / g : Nat) : Int)
    rw [Int.neg_ediv_of_dvd (Int.ofNat_dvd.2 h)]; rfl
theorem sg_self (z : Int) : sg (decide (z < 0)) z.natAbs = z := by
  by_cases h : z < 0
  · rw [decide_eq_true h]; show -(z.natAbs : Int) = z; omega
  · rw [decide_eq_false h]; show (z.natAbs : Int) = z; omega
/-- The value of a fraction that stands as it stands; of lower number 0: 0. -/
def rt (s : Bool) (n d : Nat) : Rat := mkRat (sg s n) d
theorem rt_zero (s : Bool) (n : Nat) : rt s n 0 = 0 := Rat.mkRat_zero _
theorem rt_none (s : Bool) (d : Nat) : rt s 0 d = 0 := by unfold rt; rw [sg_zero]; exact Rat.zero_mkRat d
theorem rt_num {s : Bool} {n d : Nat} (hd : d ≠ 0) : (rt s n d).num = sg s (n / Nat.gcd n d) := by
  unfold rt
  rw [Rat.num_mkRat, if_neg hd, sg_abs, Nat.gcd_comm d n, sg_ediv (Nat.gcd_dvd_left n d)]
theorem rt_den {s : Bool} {n d : Nat} (hd : d ≠ 0) : (rt s n d).den = d / Nat.gcd n d := by
  unfold rt
  rw [Rat.den_mkRat, if_neg hd, sg_abs, Nat.gcd_comm d n]
theorem rt_self (q : Rat) : rt (decide (q.num < 0)) q.num.natAbs q.den = q := by
  unfold rt
  rw [sg_self, Rat.mkRat_self]
theorem rt_neg (s : Bool) (n d : Nat) : -rt s n d = rt (!s) n d := by unfold rt; rw [Rat.neg_mkRat, sg_neg]
theorem rt_mul (s t : Bool) (n d m e : Nat) : rt s n d * rt t m e = rt (s != t) (n * m) (d * e) := by
  unfold rt
  rw [Rat.mkRat_mul_mkRat, sg_mul]
theorem rt_add {s t : Bool} {n d m e : Nat} (hd : d ≠ 0) (he : e ≠ 0) : rt s n d + rt t m e = mkRat (sg s (n * e) + sg t (m * d)) (d * e) := by
  unfold rt
  rw [Rat.mkRat_add_mkRat _ _ hd he]
  congr 1
  have h1 : ∀ (s : Bool) (a b : Nat), sg s a * (b : Int) = sg s (a * b) := by
    intro s a b; cases s <;> simp [sg, Int.neg_mul]
  rw [h1, h1]
theorem mkRat_rt (z : Int) (d : Nat) : mkRat z d = rt (decide (z < 0)) z.natAbs d := by unfold rt; rw [sg_self]
theorem rt_eq_zero {s : Bool} {n d : Nat} (hd : d ≠ 0) : rt s n d = 0 ↔ n = 0 := by
  unfold rt
  rw [Rat.mkRat_eq_zero hd, sg_eq_zero]
theorem rt_inv {s : Bool} {n d : Nat} (hn : n ≠ 0) (hd : d ≠ 0) : (rt s n d)⁻¹ = rt s d n := by
  apply Rat.inv_eq_of_mul_eq_one
  rw [rt_mul]
  cases s <;> simp only [bne_self_eq_false] <;> unfold rt <;> show mkRat (((n * d : Nat)) : Int) (d * n) = 1 <;>
    rw [Nat.mul_comm d n] <;> · rw [show (1 : Rat) = mkRat 1 1 from rfl, Rat.mkRat_eq_iff (Nat.mul_ne_zero hn hd) (by omega)]; simp
theorem rt_div {s t : Bool} {n d m e : Nat} (hm : m ≠ 0) (he : e ≠ 0) : rt s n d / rt t m e = rt (s != t) (n * e) (d * m) := by
  rw [Rat.div_def, rt_inv hm he, rt_mul]
/-- The number at which a fraction is rounded down. -/
theorem rt_floor {s : Bool} {n d : Nat} (hd : d ≠ 0) : (rt s n d).floor = sg s n / (d : Int) := by
  have hg : Nat.gcd n d ≠ 0 := by intro e; exact hd (Nat.gcd_eq_zero_iff.1 e).2
  rw [Rat.floor_def, rt_num hd, rt_den hd]
  obtain ⟨n', hn⟩ := Nat.gcd_dvd_left n d
  obtain ⟨d', hd'⟩ := Nat.gcd_dvd_right n d
  generalize Nat.gcd n d = g at hn hd' hg
  subst hn; subst hd'
  rw [Nat.mul_div_cancel_left _ (by omega), Nat.mul_div_cancel_left _ (by omega)]
  have e : sg s (g * n') = (g : Int) * sg s n' := by cases s <;> simp [sg, Int.mul_neg]
  rw [e, Int.natCast_mul, Int.mul_ediv_mul_of_pos _ _ (by omega)]
/-- On which side of 0. -/
def sgn (z : Int) : Int := if z < 0 then -1 else if z = 0 then 0 else 1
theorem sgn_mkRat {z : Int} {d : Nat} (hd : d ≠ 0) : sgn (mkRat z d).num = sgn z := by
  have h := Rat.num_mkRat z d
  rw [if_neg hd] at h
  have hg : Nat.gcd d z.natAbs ≠ 0 := by intro e; exact hd (Nat.gcd_eq_zero_iff.1 e).1
  have hdv : ((Nat.gcd d z.natAbs : Nat) : Int) ∣ z := by
    rw [← Int.dvd_natAbs]
    exact Int.ofNat_dvd.2 (Nat.gcd_dvd_right _ _)
  obtain ⟨y, hy⟩ := hdv
  rw [h]
  generalize Nat.gcd d z.natAbs = g at hy hg ⊢
  subst hy
  rw [Int.mul_ediv_cancel_left _ (by omega)]
  have h1 : (g : Int) * y < 0 ↔ y < 0 := ⟨fun h => by
    refine Classical.byContradiction fun hn => ?_
    have := Int.mul_nonneg (show (0 : Int) ≤ g by omega) (show 0 ≤ y by omega)
    omega, fun h => Int.mul_neg_of_pos_of_neg (by omega) h⟩
  have h2 : (g : Int) * y = 0 ↔ y = 0 := ⟨fun h => by
    rcases Int.mul_eq_zero.1 h with h | h
    · omega
    · exact h, fun h => by rw [h, Int.mul_zero]⟩
  unfold sgn
  simp only [h1, h2]
/-! ### How long -/
structure Sz (k : Nat) (q : Rat) : Prop where
  n : (toW q.num.natAbs).length ≤ k
  d : (toW q.den).length ≤ k
theorem Sz.mono {j k : Nat} {q : Rat} (h : Sz j q) (hk : j ≤ k) : Sz k q := ⟨Nat.le_trans h.n hk, Nat.le_trans h.d hk⟩
theorem nw1 : (toW 1).length = 1 := by rw [nw_one (by omega) (by omega)]; rfl
theorem Sz.pos {k : Nat} {q : Rat} (h : Sz k q) : 1 ≤ k := by
  have h1 := h.d
  have h2 : (toW q.den).length ≠ 0 := fun e => q.den_nz (toW_len_zero.1 e)
  omega
theorem Sz_rt {s : Bool} {n d k : Nat} (hn : (toW n).length ≤ k) (hd : (toW d).length ≤ k) (hk : 1 ≤ k) : Sz k (rt s n d) := by
  by_cases h : d = 0
  · subst h
    rw [rt_zero]
    exact ⟨by show (toW 0).length ≤ k; rw [toW_zero]; exact Nat.zero_le _, by show (toW 1).length ≤ k; rw [nw1]; exact hk⟩
  · refine ⟨?_, ?_⟩
    · rw [rt_num h, sg_abs]; exact nw_le (Nat.div_le_self _ _) hn
    · rw [rt_den h]; exact nw_le (Nat.div_le_self _ _) hd
theorem Sz_mk {z : Int} {d k : Nat} (hn : (toW z.natAbs).length ≤ k) (hd : (toW d).length ≤ k) (hk : 1 ≤ k) : Sz k (mkRat z d) := by
  rw [mkRat_rt]; exact Sz_rt hn hd hk
theorem Sz_mul {j k : Nat} {p q : Rat} (hp : Sz j p) (hq : Sz k q) : Sz (j + k) (p * q) := by
  rw [Rat.mul_def']
  have h1 := nw_mul p.num.natAbs q.num.natAbs
  have h2 := nw_mul p.den q.den
  have a1 := hp.n; have a2 := hp.d; have a3 := hq.n; have a4 := hq.d; have a5 := hp.pos
  exact Sz_mk (by rw [Int.natAbs_mul]; omega) (by omega) (by omega)
theorem nw_natAbs_add {a b : Int} {k : Nat} (h1 : (toW a.natAbs).length ≤ k) (h2 : (toW b.natAbs).length ≤ k) : (toW (a + b).natAbs).length ≤ k + 1 := by
  refine nw_le (Int.natAbs_add_le a b) (nw_add h1 h2)
theorem Sz_add {j k : Nat} {p q : Rat} (hp : Sz j p) (hq : Sz k q) : Sz (j + k + 1) (p + q) := by
  rw [Rat.add_def']
  have h1 := nw_mul p.num.natAbs q.den
  have h2 := nw_mul q.num.natAbs p.den
  have h3 := nw_mul p.den q.den
  have a1 := hp.n; have a2 := hp.d; have a3 := hq.n; have a4 := hq.d; have a5 := hp.pos
  refine Sz_mk (nw_natAbs_add ?_ ?_) (by omega) (by omega)
  · rw [Int.natAbs_mul, Int.natAbs_natCast]; omega
  · rw [Int.natAbs_mul, Int.natAbs_natCast]; omega
theorem Sz_neg {k : Nat} {q : Rat} (h : Sz k q) : Sz k (-q) := ⟨by rw [Rat.neg_num, Int.natAbs_neg]; exact h.n, h.d⟩
theorem Sz_sub {j k : Nat} {p q : Rat} (hp : Sz j p) (hq : Sz k q) : Sz (j + k + 1) (p - q) := by
  rw [Rat.sub_eq_add_neg]; exact Sz_add hp (Sz_neg hq)
theorem Sz_inv {k : Nat} {q : Rat} (h : Sz k q) : Sz k q⁻¹ := by
  refine ⟨?_, ?_⟩
  · rw [Rat.num_inv, Int.natAbs_mul, Int.natAbs_natCast]
    refine nw_le (n := q.den) ?_ h.d
    have : q.num.sign.natAbs ≤ 1 := by
      rcases Int.lt_trichotomy q.num 0 with h | h | h
      · rw [Int.sign_eq_neg_one_of_neg h]; decide
      · rw [h]; decide
      · rw [Int.sign_eq_one_of_pos h]; decide
    calc q.num.sign.natAbs * q.den ≤ 1 * q.den := Nat.mul_le_mul_right _ this
      _ = q.den := Nat.one_mul _
  · rw [Rat.den_inv]
    split
    · rw [nw1]; exact h.pos
    · exact h.n
theorem Sz_div {j k : Nat} {p q : Rat} (hp : Sz j p) (hq : Sz k q) : Sz (j + k) (p / q) := by rw [Rat.div_def]; exact Sz_mul hp (Sz_inv hq)
theorem Sz_int {z : Int} {k : Nat} (h : (toW z.natAbs).length ≤ k) (hk : 1 ≤ k) : Sz k (z : Rat) := ⟨h, by show (toW 1).length ≤ k; rw [nw1]; exact hk⟩
end Go.Proofs.YtolkecnhncbkhaaGreat.Pu

/- Differences, and the document's sums and differences. -/
set_option linter.unusedVariables false
namespace Go.Proofs.YtolkecnhncbkhaaGreat.Fw
open Go Pu
theorem Sub_no {a b : List Int} (hwa : Wd a) (hwb : Wd b) (ha : a.length ≤ 274877906944) (hb : b.length ≤ 274877906944) (hlt : val a < val b) : Runs Tryz.prog g_nat_Sub [.d (.words a), .d (.words b)] (.tup [.d (.words []), .d (.bool false)]) := by
  refine run1 [] p_nat_Sub rfl rfl (fun B S F0 w0 V0 => ?_)
  refine call_intro _ (trim_spec hwa (by omega)) ?_
  refine call_intro _ (trim_spec hwb (by omega)) ?_
  have la := nw_val hwa ha
  have lb := nw_val hwb hb
  have hc := Cmp_spec (a := toW (val a)) (b := toW (val b)) (Wd.toW _) (Wd.toW _) (by omega) (by omega)
  rw [val_toW, val_toW] at hc
  refine call_intro _ hc ?_
  refine split_true (decide_eq_true (by show cmpI (val a) (val b) < 0; exact cmpI_lt.2 hlt)) ?_
  exact ret_intro rfl rfl
set_option maxHeartbeats 1000000 in
theorem Sub_spec {a b : List Int} (hwa : Wd a) (hwb : Wd b) (ha : a.length ≤ 274877906944) (hb : b.length ≤ 274877906944) (hle : val b ≤ val a) : Runs Tryz.prog g_nat_Sub [.d (.words a), .d (.words b)] (.tup [.d (.words (toW (val a - val b))), .d (.bool true)]) := by
  refine run1 [19] p_nat_Sub rfl rfl (fun B S F0 w0 V0 => ?_)
  refine call_intro _ (trim_spec hwa (by omega)) ?_
  refine call_intro _ (trim_spec hwb (by omega)) ?_
  have la := nw_val hwa ha
  have lb := nw_val hwb hb
  have hlm := toW_len_mono hle
  have hc := Cmp_spec (a := toW (val a)) (b := toW (val b)) (Wd.toW _) (Wd.toW _) (by omega) (by omega)
  rw [val_toW, val_toW] at hc
  refine call_intro _ hc ?_
  have hnc : ¬ cmpI (val a) (val b) < 0 := fun h => by have := cmpI_lt.1 h; omega
  refine split_false (decide_eq_false hnc) ?_
  obtain ⟨x, hx⟩ : ∃ x, x = toW (val a) := ⟨_, rfl⟩
  obtain ⟨y, hy⟩ : ∃ y, y = toW (val b) := ⟨_, rfl⟩
  have hwx : Wd x := by rw [hx]; exact Wd.toW _
  have hwy : Wd y := by rw [hy]; exact Wd.toW _
  have hvx : val x = val a := by rw [hx, val_toW]
  have hvy : val y = val b := by rw [hy, val_toW]
  rw [← hx] at la hlm ⊢
  rw [← hy] at lb hlm ⊢
  have hf := fresh_spec (a := x) (k := 0) (by omega) (by omega)
  rw [List.replicate_zero, List.append_nil] at hf
  refine call_new 19 hf rfl rfl rfl rfl rfl rfl rfl ?_
  refine loop_intro (fun p : Nat × List Int × Int => st [(0, .d (.words x)), (1, .d (.words y)), (6, .own 19 0 x.length), (7, .d (.int .u32 p.2.2)), (21, .d (.int .i64 (x.length : Int))), (22, .d (.int .i64 (p.1 : Int)))] [(19, .words tU32 p.2.1)]) (fun p => x.length - p.1)
    (fun p => p.1 ≤ x.length ∧ p.2.1.length = x.length ∧ Wd p.2.1 ∧ 0 ≤ p.2.2 ∧ p.2.2 ≤ 1 ∧ val (p.2.1.take p.1) + val (y.take p.1) = val (x.take p.1) + 4294967296 ^ p.1 * (p.2.2.toNat + 0)) (0, x, 0)
    ⟨Nat.zero_le _, rfl, hwx, Int.le_refl 0, by show (0 : Int) ≤ 1; omega, by simp [val]⟩ (weak_st _ _ ⟨rfl, rfl, rfl, rfl, rfl, rfl, trivial⟩ ⟨rfl, trivial⟩ rfl) ?_
  rintro ⟨i, out, k⟩ ⟨hi, hl, hwo, hk0, hk1, hv⟩
  dsimp only at hi hl hwo hk0 hk1 hv
  refine split_intro (fun h => ?_) (fun h => ?_)
  · have hlt : i < x.length := by have h : (i : Int) < x.length := of_decide_eq_true h; omega
    have ei : IntKind.i64.wrap ((i : Int) + 1) = ((i + 1 : Nat) : Int) := by rw [wr (by omega) (by omega)]; omega
    have hkW : W32 k := ⟨hk0, by omega⟩
    have g1 := hwx.g i
    have step : ∀ (u : Int), W32 u → u = y.getD i 0 → val ((out.set i ((x.getD i 0 - u - k) % 4294967296)).take (i + 1)) + val (y.take (i + 1)) = val (x.take (i + 1)) + 4294967296 ^ (i + 1) * ((-((x.getD i 0 - u - k) / 4294967296)).toNat + 0) := by
      intro u hu heu
      rw [val_take_set (by omega), val_take_succ' (a := x), val_take_succ' (a := y), ← heu, Nat.pow_succ]
      obtain ⟨h2, h3⟩ := hu
      refine step_sum (w := k.toNat) (c := 0) hv ?_
      omega
    have fin : ∀ (u : Int), W32 u → u = y.getD i 0 → ∃ p : Nat × List Int × Int, (p.1 ≤ x.length ∧ p.2.1.length = x.length ∧ Wd p.2.1 ∧ 0 ≤ p.2.2 ∧ p.2.2 ≤ 1 ∧ val (p.2.1.take p.1) + val (y.take p.1) = val (x.take p.1) + 4294967296 ^ p.1 * (p.2.2.toNat + 0)) ∧ x.length - p.1 < x.length - i ∧ p = (i + 1, out.set i ((x.getD i 0 - u - k) % 4294967296), -((x.getD i 0 - u - k) / 4294967296)) := by
      intro u hu heu
      have hs := step u hu heu
      obtain ⟨h2, h3⟩ := hu
      exact ⟨(i + 1, out.set i ((x.getD i 0 - u - k) % 4294967296), -((x.getD i 0 - u - k) / 4294967296)), ⟨hlt, by show (out.set i _).length = _; rw [List.length_set]; exact hl, hwo.set i (by omega) (by omega), by show 0 ≤ -((x.getD i 0 - u - k) / 4294967296); omega, by show -((x.getD i 0 - u - k) / 4294967296) ≤ 1; omega, hs⟩, by show x.length - (i + 1) < x.length - i; omega, rfl⟩
    refine split_intro (fun h' => ?_) (fun h' => ?_)
    · have hlt' : i < y.length := by have h' : (i : Int) < y.length := of_decide_eq_true h'; omega
      refine idx_w i rfl hlt' ?_
      refine idx_w i rfl hlt ?_
      refine call_intro _ (limb_Sub_spec g1 (hwy.g i) hkW) ?_
      refine side_intro (by show (0 : Int) ≤ i ∧ (i : Int) < ((x.length : Nat) : Int); omega) ?_
      obtain ⟨p, h1, h2, rfl⟩ := fin _ (hwy.g i) rfl
      refine ⟨_, h1, h2, weak_st _ _ ⟨rfl, rfl, rfl, rfl, rfl, i64_inj ei, trivial⟩ ⟨?_, trivial⟩ rfl⟩
      show some (MO.words tU32 (out.set (0 + ((i : Int)).toNat) _)) = _
      rw [Nat.zero_add]; rfl
    · have hge : y.length ≤ i := by have h' : ¬ (i : Int) < y.length := of_decide_eq_false h'; omega
      refine idx_w i rfl hlt ?_
      refine call_intro _ (limb_Sub_spec g1 (y := 0) ⟨by omega, by omega⟩ hkW) ?_
      refine side_intro (by show (0 : Int) ≤ i ∧ (i : Int) < ((x.length : Nat) : Int); omega) ?_
      obtain ⟨p, h1, h2, rfl⟩ := fin 0 ⟨by omega, by omega⟩ (getD_ge hge).symm
      refine ⟨_, h1, h2, weak_st _ _ ⟨rfl, rfl, rfl, rfl, rfl, i64_inj ei, trivial⟩ ⟨?_, trivial⟩ rfl⟩
      show some (MO.words tU32 (out.set (0 + ((i : Int)).toNat) _)) = _
      rw [Nat.zero_add]; rfl
  · have hend : i = x.length := by have h : ¬ (i : Int) < x.length := of_decide_eq_false h; omega
    have h2 := val_lt hwo
    have h3 := val_lt hwx
    rw [hl] at h2
    have hbt : val (y.take x.length) = val b := by rw [val_take_ge hlm, hvy]
    rw [hend, ← hl, List.take_length, hl, hbt, List.take_length, hvx, Nat.add_zero] at hv
    rw [hvx] at h3
    have hvo : val out = val a - val b := by
      generalize 4294967296 ^ x.length = q at hv h2 h3
      have hu0 : k.toNat = 0 := by
        have : k.toNat = 0 ∨ k.toNat = 1 := by omega
        rcases this with h | h
        · exact h
        · rw [h] at hv; omega
      rw [hu0] at hv
      omega
    have ht := trim_spec (a := out) hwo (by omega)
    rw [hvo, ← snap_all tU32 out hl.symm] at ht
    refine opp_frz 19 (.words tU32 out) rfl (Nat.le_of_ble_eq_true rfl) rfl ?_
    refine call_intro _ ht ?_
    exact ret_intro rfl rfl
theorem Gap_spec {a b : List Int} (hwa : Wd a) (hwb : Wd b) (ha : a.length ≤ 274877906944) (hb : b.length ≤ 274877906944) : Runs Tryz.prog g_nat_Gap [.d (.words a), .d (.words b)] (.tup [.d (.words (toW (if val a < val b then val b - val a else val a - val b))), .d (.int .i64 (cmpI (val a) (val b)))]) := by
  refine run1 [] p_nat_Gap rfl rfl (fun B S F0 w0 V0 => ?_)
  refine call_intro _ (Cmp_spec hwa hwb (by omega) (by omega)) ?_
  refine split_intro (fun h => ?_) (fun h => ?_)
  · have h : cmpI (val a) (val b) < 0 := of_decide_eq_true h
    have hlt := cmpI_lt.1 h
    rw [if_pos hlt]
    refine call_intro _ (Sub_spec hwb hwa hb ha (by omega)) ?_
    exact ret_intro rfl rfl
  · have h : ¬ cmpI (val a) (val b) < 0 := of_decide_eq_false h
    have hlt : ¬ val a < val b := mt cmpI_lt.2 h
    rw [if_neg hlt]
    refine call_intro _ (Sub_spec hwa hwb ha hb (by omega)) ?_
    exact ret_intro rfl rfl
theorem maxI (m n : Nat) : (if (n : Int) > (m : Int) then (n : Int) else (m : Int)) = ((max m n : Nat) : Int) := by
  split <;> omega
set_option maxHeartbeats 1000000 in
theorem rAdd_spec {a b : List Int} (hwa : Wd a) (hwb : Wd b) (ha : a.length ≤ 274877906944) (hb : b.length ≤ 274877906944) : Runs Tryz.prog g_retrospectref02_Add [.d (.words a), .d (.words b)] (.d (.words (toW (val a + val b)))) := by
  refine run1 [] p_retrospectref02_Add rfl rfl (fun B S F0 w0 V0 => ?_)
  obtain ⟨n, hn⟩ : ∃ n, n = max a.length b.length + 1 := ⟨_, rfl⟩
  have e1 : IntKind.i64.wrap ((if (b.length : Int) > (a.length : Int) then (b.length : Int) else (a.length : Int)) + 1) = (n : Int) := by rw [maxI, wr (by omega) (by omega)]; omega
  refine opp_make hT rfl rfl (Nat.le_of_ble_eq_true rfl) (e := tU32) rfl rfl (Nat.le_of_ble_eq_true rfl) (fun _ => rfl) (k := .i64) (k' := .i64) (n := (n : Int)) (i64_inj e1) (i64_inj e1) rfl (by omega) ?_ ?_ ?_
  · show 4 * ((n : Nat) : Int).toNat ≤ _
    omega
  · unfold maxLen; omega
  rw [Int.toNat_natCast]
  refine loop_intro (fun p : Nat × List Int × Nat => st [(0, .d (.words a)), (1, .d (.words b)), (5, .d (.int .i64 (n : Int))), (6, .own 16 0 n), (7, .d (.int .u64 (p.2.2 : Int))), (8, .d (.int .i64 (p.1 : Int)))] [(16, .words tU32 p.2.1)]) (fun p => n - p.1)
    (fun p => p.1 ≤ n ∧ p.2.1.length = n ∧ Wd p.2.1 ∧ p.2.2 ≤ 1 ∧ val (p.2.1.take p.1) + 4294967296 ^ p.1 * p.2.2 = val (a.take p.1) + val (b.take p.1)) (0, List.replicate n 0, 0)
    ⟨Nat.zero_le _, by simp, Wd.zeros _, Nat.zero_le _, by simp [val]⟩ (weak_st _ _ ⟨rfl, rfl, i64_inj e1, rfl, rfl, rfl, trivial⟩ ⟨rfl, trivial⟩ rfl) ?_
  rintro ⟨i, out, k⟩ ⟨hi, hl, hwo, hk1, hv⟩
  dsimp only at hi hl hwo hk1 hv
  refine split_intro (fun h => ?_) (fun h => ?_)
  · have hlt : i < n := by have h : (i : Int) < (n : Int) := of_decide_eq_true h; omega
    have ei : IntKind.i64.wrap ((i : Int) + 1) = ((i + 1 : Nat) : Int) := by rw [wr (by omega) (by omega)]; omega
    obtain ⟨x, hx, hx'⟩ := mget a hwa i
    obtain ⟨y, hy, hy'⟩ := mget b hwb i
    have hax := rAt_spec (a := a) (i := i) (by omega)
    have hby := rAt_spec (a := b) (i := i) (by omega)
    rw [hx] at hax
    rw [hy] at hby
    refine call_intro _ hax ?_
    refine call_intro _ hby ?_
    have es : IntKind.u64.wrap ((k : Int) + IntKind.u64.wrap (IntKind.u64.wrap (x : Int) + IntKind.u64.wrap (y : Int))) = ((k + x + y : Nat) : Int) := by
      rw [w64 (x : Int), w64 (y : Int), w64, w64]; omega
    refine side_intro (by show (4294967296 : Int) ≠ 0; omega) ?_
    refine side_intro (by show (0 : Int) ≤ i ∧ (i : Int) < ((n : Nat) : Int); omega) ?_
    refine side_intro (by show (4294967296 : Int) ≠ 0; omega) ?_
    refine ⟨(i + 1, out.set i (((k + x + y) % 4294967296 : Nat) : Int), (k + x + y) / 4294967296), ⟨hlt, by show (out.set i _).length = _; rw [List.length_set]; exact hl, hwo.set i (by omega) (by omega), by show (k + x + y) / 4294967296 ≤ 1; omega, ?_⟩, by show n - (i + 1) < n - i; omega, weak_st _ _ ⟨rfl, rfl, rfl, rfl, u64_inj ?_, i64_inj ei, trivial⟩ ⟨?_, trivial⟩ rfl⟩
    · show val ((out.set i _).take (i + 1)) + 4294967296 ^ (i + 1) * ((k + x + y) / 4294967296) = _
      rw [val_take_set (by omega), val_take_succ' (a := a), val_take_succ' (a := b), hx, hy, Nat.pow_succ, Int.toNat_natCast, Int.toNat_natCast, Int.toNat_natCast]
      generalize 4294967296 ^ i = q at hv ⊢
      have h1 : q * ((k + x + y) % 4294967296) + q * 4294967296 * ((k + x + y) / 4294967296) = q * k + q * x + q * y := by
        rw [Nat.mul_assoc, ← Nat.mul_add, Nat.mod_add_div, Nat.mul_add, Nat.mul_add]
      omega
    · show IntKind.u64.wrap ((IntKind.u64.wrap ((k : Int) + IntKind.u64.wrap (IntKind.u64.wrap (x : Int) + IntKind.u64.wrap (y : Int)))).tdiv 4294967296) = (((k + x + y) / 4294967296 : Nat) : Int)
      rw [es, Int.tdiv_eq_ediv_of_nonneg (by omega), w64]; omega
    · show some (MO.words tU32 (out.set (0 + ((i : Int)).toNat) (IntKind.u32.wrap ((IntKind.u64.wrap ((k : Int) + IntKind.u64.wrap (IntKind.u64.wrap (x : Int) + IntKind.u64.wrap (y : Int)))).tmod 4294967296)))) = _
      rw [es, Int.tmod_eq_emod_of_nonneg (by omega), w32, Nat.zero_add, Int.toNat_natCast]
      have e7 : (((k + x + y : Nat) : Int) % 4294967296) % 4294967296 = (((k + x + y) % 4294967296 : Nat) : Int) := by omega
      rw [e7]
  · have hend : i = n := by have h : ¬ (i : Int) < (n : Int) := of_decide_eq_false h; omega
    have h2 := val_lt hwo
    have ha3 := val_lt hwa
    have hb3 := val_lt hwb
    rw [hl] at h2
    rw [hend, ← hl, List.take_length, hl, val_take_ge (by omega), val_take_ge (by omega)] at hv
    have hpa : 4294967296 ^ a.length ≤ 4294967296 ^ (n - 1) := Nat.pow_le_pow_right (by omega) (by omega)
    have hpb : 4294967296 ^ b.length ≤ 4294967296 ^ (n - 1) := Nat.pow_le_pow_right (by omega) (by omega)
    have hpn : 4294967296 ^ n = 4294967296 ^ (n - 1) * 4294967296 := by rw [← Nat.pow_succ, show (n - 1).succ = n by omega]
    have hvo : val out = val a + val b := by
      generalize 4294967296 ^ n = q at hv h2 hpn
      generalize 4294967296 ^ (n - 1) = r at hpa hpb hpn
      generalize 4294967296 ^ a.length = qa at ha3 hpa
      generalize 4294967296 ^ b.length = qb at hb3 hpb
      have : k = 0 ∨ k = 1 := by omega
      rcases this with rfl | rfl <;> omega
    have hnm := rNorm_spec (a := out) hwo (by omega)
    rw [hvo, ← snap_all tU32 out hl.symm] at hnm
    refine opp_frz 16 (.words tU32 out) rfl (Nat.le_of_ble_eq_true rfl) rfl ?_
    refine call_intro _ hnm ?_
    exact ret_intro rfl rfl
set_option maxHeartbeats 1000000 in
theorem rSub_spec {a b : List Int} (hwa : Wd a) (hwb : Wd b) (ha : a.length ≤ 274877906944) (hb : b.length ≤ 274877906944) (hle : val b ≤ val a) : Runs Tryz.prog g_retrospectref02_Sub [.d (.words a), .d (.words b)] (.d (.words (toW (val a - val b)))) := by
  refine run1 [] p_retrospectref02_Sub rfl rfl (fun B S F0 w0 V0 => ?_)
  obtain ⟨n, hn⟩ : ∃ n, n = max a.length b.length := ⟨_, rfl⟩
  have e1 : (if (b.length : Int) > (a.length : Int) then (b.length : Int) else (a.length : Int)) = (n : Int) := by rw [maxI, hn]
  refine opp_make hT rfl rfl (Nat.le_of_ble_eq_true rfl) (e := tU32) rfl rfl (Nat.le_of_ble_eq_true rfl) (fun _ => rfl) (k := .i64) (k' := .i64) (n := (n : Int)) (i64_inj e1) (i64_inj e1) rfl (by omega) ?_ ?_ ?_
  · show 4 * ((n : Nat) : Int).toNat ≤ _
    omega
  · unfold maxLen; omega
  rw [Int.toNat_natCast]
  refine loop_intro (fun p : Nat × List Int × Nat => st [(0, .d (.words a)), (1, .d (.words b)), (5, .d (.int .i64 (n : Int))), (6, .own 17 0 n), (7, .d (.int .u64 (p.2.2 : Int))), (8, .d (.int .i64 (p.1 : Int)))] [(17, .words tU32 p.2.1)]) (fun p => n - p.1)
    (fun p => p.1 ≤ n ∧ p.2.1.length = n ∧ Wd p.2.1 ∧ p.2.2 ≤ 1 ∧ val (p.2.1.take p.1) + val (b.take p.1) = val (a.take p.1) + 4294967296 ^ p.1 * (p.2.2 + 0)) (0, List.replicate n 0, 0)
    ⟨Nat.zero_le _, by simp, Wd.zeros _, Nat.zero_le _, by simp [val]⟩ (weak_st _ _ ⟨rfl, rfl, i64_inj e1, rfl, rfl, rfl, trivial⟩ ⟨rfl, trivial⟩ rfl) ?_
  rintro ⟨i, out, k⟩ ⟨hi, hl, hwo, hk1, hv⟩
  dsimp only at hi hl hwo hk1 hv
  refine split_intro (fun h => ?_) (fun h => ?_)
  · have hlt : i < n := by have h : (i : Int) < (n : Int) := of_decide_eq_true h; omega
    have ei : IntKind.i64.wrap ((i : Int) + 1) = ((i + 1 : Nat) : Int) := by rw [wr (by omega) (by omega)]; omega
    obtain ⟨x, hx, hx'⟩ := mget a hwa i
    obtain ⟨y, hy, hy'⟩ := mget b hwb i
    have hax := rAt_spec (a := a) (i := i) (by omega)
    have hby := rAt_spec (a := b) (i := i) (by omega)
    rw [hx] at hax
    rw [hy] at hby
    have ex : IntKind.u64.wrap (x : Int) = (x : Int) := by rw [w64]; omega
    have ey : IntKind.u64.wrap (IntKind.u64.wrap (y : Int) + (k : Int)) = ((y + k : Nat) : Int) := by rw [w64, w64]; omega
    have fin : ∀ (d w : Nat), d < 4294967296 → w ≤ 1 → d + y + k + 0 = x + 4294967296 * (w + 0) → val ((out.set i (d : Int)).take (i + 1)) + val (b.take (i + 1)) = val (a.take (i + 1)) + 4294967296 ^ (i + 1) * (w + 0) := by
      intro d w hd hw he
      rw [val_take_set (by omega), val_take_succ' (a := b), val_take_succ' (a := a), hx, hy, Nat.pow_succ]
      simp only [Int.toNat_natCast]
      exact step_sum hv he
    refine call_intro _ hax ?_
    refine call_intro _ hby ?_
    refine split_intro (fun h1 => ?_) (fun h1 => ?_)
    · have h1 : IntKind.u64.wrap (x : Int) < IntKind.u64.wrap (IntKind.u64.wrap (y : Int) + (k : Int)) := of_decide_eq_true h1
      refine side_intro (by show (0 : Int) ≤ i ∧ (i : Int) < ((n : Nat) : Int); omega) ?_
      have ed : IntKind.u32.wrap (IntKind.u64.wrap (IntKind.u64.wrap (IntKind.u64.wrap (x : Int) + 4294967296) - IntKind.u64.wrap (IntKind.u64.wrap (y : Int) + (k : Int)))) = ((x + 4294967296 - (y + k) : Nat) : Int) := by
        rw [ex, ey, w64 ((x : Int) + 4294967296), w64, w32]; omega
      refine ⟨(i + 1, out.set i ((x + 4294967296 - (y + k) : Nat) : Int), 1), ⟨hlt, by show (out.set i _).length = _; rw [List.length_set]; exact hl, hwo.set i (by omega) (by omega), Nat.le_refl _, fin _ 1 (by omega) (Nat.le_refl _) (by omega)⟩, by show n - (i + 1) < n - i; omega, ?_⟩
      refine weak_st _ _ ⟨rfl, rfl, rfl, rfl, rfl, i64_inj ei, trivial⟩ ⟨?_, trivial⟩ rfl
      show some (MO.words tU32 (out.set (0 + ((i : Int)).toNat) (IntKind.u32.wrap (IntKind.u64.wrap (IntKind.u64.wrap (IntKind.u64.wrap (x : Int) + 4294967296) - IntKind.u64.wrap (IntKind.u64.wrap (y : Int) + (k : Int))))))) = _
      rw [ed, Nat.zero_add, Int.toNat_natCast]
    · have h1 : ¬ IntKind.u64.wrap (x : Int) < IntKind.u64.wrap (IntKind.u64.wrap (y : Int) + (k : Int)) := of_decide_eq_false h1
      refine side_intro (by show (0 : Int) ≤ i ∧ (i : Int) < ((n : Nat) : Int); omega) ?_
      have ed : IntKind.u32.wrap (IntKind.u64.wrap (IntKind.u64.wrap (x : Int) - IntKind.u64.wrap (IntKind.u64.wrap (y : Int) + (k : Int)))) = ((x - (y + k) : Nat) : Int) := by
        rw [ex, ey, w64, w32]; omega
      refine ⟨(i + 1, out.set i ((x - (y + k) : Nat) : Int), 0), ⟨hlt, by show (out.set i _).length = _; rw [List.length_set]; exact hl, hwo.set i (by omega) (by omega), Nat.zero_le _, fin _ 0 (by omega) (Nat.zero_le _) (by omega)⟩, by show n - (i + 1) < n - i; omega, ?_⟩
      refine weak_st _ _ ⟨rfl, rfl, rfl, rfl, rfl, i64_inj ei, trivial⟩ ⟨?_, trivial⟩ rfl
      show some (MO.words tU32 (out.set (0 + ((i : Int)).toNat) (IntKind.u32.wrap (IntKind.u64.wrap (IntKind.u64.wrap (x : Int) - IntKind.u64.wrap (IntKind.u64.wrap (y : Int) + (k : Int))))))) = _
      rw [ed, Nat.zero_add, Int.toNat_natCast]
  · have hend : i = n := by have h : ¬ (i : Int) < (n : Int) := of_decide_eq_false h; omega
    have h2 := val_lt hwo
    rw [hl] at h2
    have ha3 := Nat.lt_of_lt_of_le (val_lt hwa) (Nat.pow_le_pow_right (n := 4294967296) (by omega) (show a.length ≤ n by omega))
    rw [hend, ← hl, List.take_length, hl, val_take_ge (by omega), val_take_ge (by omega), Nat.add_zero] at hv
    have hvo : val out = val a - val b := by
      generalize 4294967296 ^ n = q at hv h2 ha3
      have : k = 0 ∨ k = 1 := by omega
      rcases this with rfl | rfl <;> omega
    have hnm := rNorm_spec (a := out) hwo (by omega)
    rw [hvo, ← snap_all tU32 out hl.symm] at hnm
    refine opp_frz 17 (.words tU32 out) rfl (Nat.le_of_ble_eq_true rfl) rfl ?_
    refine call_intro _ hnm ?_
    exact ret_intro rfl rfl
theorem rOf_spec {n : Nat} (h : n < 18446744073709551616) : Runs Tryz.prog g_retrospectref02_Of [.d (.int .u64 (n : Int))] (.d (.words (toW n))) := by
  refine run1 [] p_retrospectref02_Of rfl rfl (fun B S F0 w0 V0 => ?_)
  refine side_intro (by show (4294967296 : Int) ≠ 0; omega) ?_
  refine side_intro (by show (4294967296 : Int) ≠ 0; omega) ?_
  have e1 : IntKind.u32.wrap (((n : Int)).tmod 4294967296) = ((n % 4294967296 : Nat) : Int) := by rw [Int.tmod_eq_emod_of_nonneg (by omega), w32]; omega
  have e2 : IntKind.u32.wrap (IntKind.u64.wrap (((n : Int)).tdiv 4294967296)) = ((n / 4294967296 : Nat) : Int) := by rw [Int.tdiv_eq_ediv_of_nonneg (by omega), w64, w32]; omega
  have hn := rNorm_spec (a := [IntKind.u32.wrap (((n : Int)).tmod 4294967296), IntKind.u32.wrap (IntKind.u64.wrap (((n : Int)).tdiv 4294967296))]) (by rw [e1, e2]; exact Wd.cons (by omega) (by omega) (Wd.cons (by omega) (by omega) Wd.nil)) (by show 2 ≤ _; omega)
  have ev : val [IntKind.u32.wrap (((n : Int)).tmod 4294967296), IntKind.u32.wrap (IntKind.u64.wrap (((n : Int)).tdiv 4294967296))] = n := by
    rw [e1, e2]
    show (((n % 4294967296 : Nat) : Int)).toNat + 4294967296 * ((((n / 4294967296 : Nat) : Int)).toNat + 4294967296 * 0) = n
    rw [Int.toNat_natCast, Int.toNat_natCast]; omega
  rw [ev] at hn
  refine call_intro _ hn ?_
  exact ret_intro rfl rfl
end Go.Proofs.YtolkecnhncbkhaaGreat.Fw

/- Whole numbers with a sign. -/
set_option linter.unusedVariables false
namespace Go.Proofs.YtolkecnhncbkhaaGreat.Fw
open Go Pu
def wv (s : Bool) (a : List Int) : V := .agg 2 [.bool s, .words a]
def wh (z : Int) : V := wv (decide (z < 0)) (toW z.natAbs)
theorem wh_sg (s : Bool) (n : Nat) : wh (sg s n) = .agg 2 [.bool (s && decide (n ≠ 0)), .words (toW n)] := by unfold wh wv; rw [sg_lt, sg_abs]
theorem len_pos (n : Nat) : decide (((toW n).length : Int) > 0) = decide (n ≠ 0) := by
  have := toW_len_zero (n := n)
  by_cases h : n = 0
  · rw [decide_eq_false (by omega), decide_eq_false (by omega)]
  · rw [decide_eq_true (by omega), decide_eq_true h]
theorem signed_spec (s : Bool) {n : Nat} : Runs Tryz.prog g_whole_signed [.d (.bool s), .d (.words (toW n))] (wh (sg s n)) := by
  refine run1 [] p_whole_signed rfl rfl (fun B S F0 w0 V0 => ?_)
  rw [wh_sg]
  cases s
  · refine split_false rfl ?_
    exact ret_intro rfl rfl
  · refine split_true rfl ?_
    refine ret_intro ?_ rfl
    show V.agg 2 [.bool (decide (((toW n).length : Int) > 0)), .words (toW n)] = _
    rw [len_pos]; rfl
theorem wNorm_spec {s : Bool} {a : List Int} (hw : Wd a) (ha : a.length ≤ 1099511627776) : Runs Tryz.prog g_whole_Norm [wv s a] (wh (sg s (val a))) := by
  refine run1 [] p_whole_Norm rfl rfl (fun B S F0 w0 V0 => ?_)
  refine side_intro rfl ?_
  refine call_intro _ (norm_spec hw ha) ?_
  refine call_intro _ (signed_spec s) ?_
  exact ret_intro rfl rfl
theorem wOf_spec {n : Int} (h0 : -9223372036854775808 ≤ n) (h1 : n < 9223372036854775808) : Runs Tryz.prog g_whole_Of [.d (.int .i64 n)] (wh n) := by
  refine run1 [] p_whole_Of rfl rfl (fun B S F0 w0 V0 => ?_)
  refine split_intro (fun h => ?_) (fun h => ?_)
  · have h : n < 0 := of_decide_eq_true h
    have e : IntKind.u64.wrap (0 - IntKind.u64.wrap n) = (n.natAbs : Int) := by rw [w64, w64]; omega
    have hof := Of_spec (n := (n.natAbs : Int)) (by omega) (by omega)
    rw [Int.toNat_natCast, ← e] at hof
    refine call_intro _ hof ?_
    refine call_intro _ (signed_spec true) ?_
    have e2 : sg true n.natAbs = n := by show -(n.natAbs : Int) = n; omega
    rw [e2]
    exact ret_intro rfl rfl
  · have h : ¬ n < 0 := of_decide_eq_false h
    have e : IntKind.u64.wrap n = (n.natAbs : Int) := by rw [w64]; omega
    have hof := Of_spec (n := (n.natAbs : Int)) (by omega) (by omega)
    rw [Int.toNat_natCast, ← e] at hof
    refine call_intro _ hof ?_
    refine call_intro _ (signed_spec false) ?_
    have e2 : sg false n.natAbs = n := by show (n.natAbs : Int) = n; omega
    rw [e2]
    exact ret_intro rfl rfl
theorem wSign_spec {s : Bool} {a : List Int} (hw : Wd a) (ha : a.length ≤ 1099511627776) : Runs Tryz.prog g_whole_Sign [wv s a] (.d (.int .i64 (sgn (sg s (val a))))) := by
  refine run1 [] p_whole_Sign rfl rfl (fun B S F0 w0 V0 => ?_)
  refine call_intro _ (Zero_spec hw ha) ?_
  refine split_intro (fun h => ?_) (fun h => ?_)
  · have h : val a = 0 := of_decide_eq_true h
    rw [h, sg_zero]
    exact ret_intro rfl rfl
  have h : val a ≠ 0 := of_decide_eq_false h
  cases s
  · refine split_false rfl ?_
    refine ret_intro (i64_inj ?_) rfl
    show (1 : Int) = sgn (val a : Int)
    unfold sgn
    rw [if_neg (by omega), if_neg (by omega)]
  · refine split_true rfl ?_
    refine ret_intro (i64_inj ?_) rfl
    show (-1 : Int) = sgn (-(val a : Int))
    unfold sgn
    rw [if_pos (by omega)]
theorem wNeg_spec {s : Bool} {a : List Int} (hw : Wd a) (ha : a.length ≤ 1099511627776) : Runs Tryz.prog g_whole_Neg [wv s a] (wh (-sg s (val a))) := by
  refine run1 [] p_whole_Neg rfl rfl (fun B S F0 w0 V0 => ?_)
  rw [sg_neg]
  refine side_intro rfl ?_
  refine call_intro _ (norm_spec hw ha) ?_
  refine call_intro _ (signed_spec (!s)) ?_
  exact ret_intro rfl rfl
theorem sg_add_same (s : Bool) (m n : Nat) : sg s m + sg s n = sg s (m + n) := by
  cases s
  · show (m : Int) + n = ((m + n : Nat) : Int); omega
  · show -(m : Int) + -(n : Int) = -((m + n : Nat) : Int); omega
theorem sg_add_lt {s t : Bool} {m n : Nat} (h : (s == t) = false) (hlt : m < n) : sg s m + sg t n = sg t (n - m) := by
  cases s <;> cases t
  · cases h
  · show (m : Int) + -(n : Int) = -((n - m : Nat) : Int); omega
  · show -(m : Int) + (n : Int) = ((n - m : Nat) : Int); omega
  · cases h
theorem sg_add_ge {s t : Bool} {m n : Nat} (h : (s == t) = false) (hlt : ¬ m < n) : sg s m + sg t n = sg s (m - n) := by
  cases s <;> cases t
  · cases h
  · show (m : Int) + -(n : Int) = ((m - n : Nat) : Int); omega
  · show -(m : Int) + (n : Int) = -((m - n : Nat) : Int); omega
  · cases h
theorem wAdd_spec {s t : Bool} {a b : List Int} (hwa : Wd a) (hwb : Wd b) (ha : a.length ≤ 274877906944) (hb : b.length ≤ 274877906944) : Runs Tryz.prog g_whole_Add [wv s a, wv t b] (wh (sg s (val a) + sg t (val b))) := by
  refine run1 [] p_whole_Add rfl rfl (fun B S F0 w0 V0 => ?_)
  refine split_intro (fun h => ?_) (fun h => ?_)
  · have h : s = t := eq_of_beq h
    subst h
    rw [sg_add_same]
    refine side_intro rfl ?_
    refine call_intro _ (AddTwo_spec hwa hwb ha hb) ?_
    refine call_intro _ (signed_spec s) ?_
    exact ret_intro rfl rfl
  have h : (s == t) = false := h
  refine call_intro _ (Gap_spec hwa hwb ha hb) ?_
  refine split_intro (fun h1 => ?_) (fun h1 => ?_)
  · have h1 : cmpI (val a) (val b) < 0 := of_decide_eq_true h1
    have hlt := cmpI_lt.1 h1
    rw [sg_add_lt h hlt]
    refine call_intro _ (signed_spec t) ?_
    rw [if_pos hlt]
    exact ret_intro rfl rfl
  · have h1 : ¬ cmpI (val a) (val b) < 0 := of_decide_eq_false h1
    have hlt : ¬ val a < val b := mt cmpI_lt.2 h1
    rw [sg_add_ge h hlt]
    refine call_intro _ (signed_spec s) ?_
    rw [if_neg hlt]
    exact ret_intro rfl rfl
theorem wAddZ_spec {y z : Int} (hy : (toW y.natAbs).length ≤ 274877906944) (hz : (toW z.natAbs).length ≤ 274877906944) : Runs Tryz.prog g_whole_Add [wh y, wh z] (wh (y + z)) := by
  have := wAdd_spec (s := decide (y < 0)) (t := decide (z < 0)) (Wd.toW y.natAbs) (Wd.toW z.natAbs) hy hz
  rw [val_toW, val_toW, sg_self, sg_self] at this
  exact this
theorem wSub_spec {s t : Bool} {a b : List Int} (hwa : Wd a) (hwb : Wd b) (ha : a.length ≤ 274877906944) (hb : b.length ≤ 274877906944) : Runs Tryz.prog g_whole_Sub [wv s a, wv t b] (wh (sg s (val a) - sg t (val b))) := by
  refine run1 [] p_whole_Sub rfl rfl (fun B S F0 w0 V0 => ?_)
  refine side_intro rfl ?_
  refine call_intro _ (wNeg_spec hwb (by omega)) ?_
  have := wAdd_spec (s := s) (t := decide (-sg t (val b) < 0)) (a := a) hwa (Wd.toW (-sg t (val b)).natAbs) ha (by rw [Int.natAbs_neg, sg_abs]; exact nw_val hwb hb)
  rw [val_toW, sg_self, ← Int.sub_eq_add_neg] at this
  refine call_intro _ this ?_
  exact ret_intro rfl rfl
theorem wSubZ_spec {y z : Int} (hy : (toW y.natAbs).length ≤ 274877906944) (hz : (toW z.natAbs).length ≤ 274877906944) : Runs Tryz.prog g_whole_Sub [wh y, wh z] (wh (y - z)) := by
  have := wSub_spec (s := decide (y < 0)) (t := decide (z < 0)) (Wd.toW y.natAbs) (Wd.toW z.natAbs) hy hz
  rw [val_toW, val_toW, sg_self, sg_self] at this
  exact this
theorem wMul_spec {s t : Bool} {a b : List Int} (hwa : Wd a) (hwb : Wd b) (ha : a.length ≤ 274877906944) (hb : b.length ≤ 274877906944) : Runs Tryz.prog g_whole_Mul [wv s a, wv t b] (wh (sg s (val a) * sg t (val b))) := by
  refine run1 [] p_whole_Mul rfl rfl (fun B S F0 w0 V0 => ?_)
  rw [sg_mul]
  refine side_intro rfl ?_
  refine call_intro _ (Mul_spec hwa hwb ha hb) ?_
  refine call_intro _ (signed_spec (s != t)) ?_
  exact ret_intro rfl rfl
theorem wCmpZ_spec {y z : Int} (hy : (toW y.natAbs).length ≤ 137438953472) (hz : (toW z.natAbs).length ≤ 137438953472) : Runs Tryz.prog g_whole_Cmp [wh y, wh z] (.d (.int .i64 (sgn (y - z)))) := by
  refine run1 [] p_whole_Cmp rfl rfl (fun B S F0 w0 V0 => ?_)
  refine call_intro _ (wSubZ_spec (by omega) (by omega)) ?_
  have hl : (toW (y - z).natAbs).length ≤ 137438953473 := by
    have := nw_natAbs_add (a := y) (b := -z) hy (by rw [Int.natAbs_neg]; exact hz)
    rw [← Int.sub_eq_add_neg] at this
    exact this
  have := wSign_spec (s := decide (y - z < 0)) (Wd.toW (y - z).natAbs) (by omega)
  rw [val_toW, sg_self] at this
  refine call_intro _ this ?_
  exact ret_intro rfl rfl
/-! The document's. -/
theorem r8Norm_spec {s : Bool} {a : List Int} (hw : Wd a) (ha : a.length ≤ 1099511627776) : Runs Tryz.prog g_retrospectref08_Norm [wv s a] (wh (sg s (val a))) := by
  refine run1 [] p_retrospectref08_Norm rfl rfl (fun B S F0 w0 V0 => ?_)
  rw [wh_sg]
  refine call_intro _ (rNorm_spec hw ha) ?_
  cases s
  · refine split_false rfl ?_
    exact ret_intro rfl rfl
  · refine split_true rfl ?_
    refine ret_intro ?_ rfl
    show V.agg 2 [.bool (decide (((toW (val a)).length : Int) > 0)), .words (toW (val a))] = _
    rw [len_pos]; rfl
theorem r8NormN_spec {s : Bool} {n : Nat} (h : (toW n).length ≤ 1099511627776) : Runs Tryz.prog g_retrospectref08_Norm [wv s (toW n)] (wh (sg s n)) := by
  have := r8Norm_spec (s := s) (Wd.toW n) h
  rw [val_toW] at this
  exact this
theorem r8Add_spec {s t : Bool} {a b : List Int} (hwa : Wd a) (hwb : Wd b) (ha : a.length ≤ 137438953472) (hb : b.length ≤ 137438953472) : Runs Tryz.prog g_retrospectref08_Add [wv s a, wv t b] (wh (sg s (val a) + sg t (val b))) := by
  refine run1 [] p_retrospectref08_Add rfl rfl (fun B S F0 w0 V0 => ?_)
  have la := nw_val hwa ha
  have lb := nw_val hwb hb
  refine split_intro (fun h => ?_) (fun h => ?_)
  · have h : s = t := eq_of_beq h
    subst h
    rw [sg_add_same]
    refine side_intro rfl ?_
    refine call_intro _ (rAdd_spec hwa hwb (by omega) (by omega)) ?_
    refine call_intro _ (r8NormN_spec (s := s) (by have := nw_add la lb; omega)) ?_
    exact ret_intro rfl rfl
  have h : (s == t) = false := h
  refine call_intro _ (rCmp_spec hwa hwb (by omega) (by omega)) ?_
  refine split_intro (fun h1 => ?_) (fun h1 => ?_)
  · have h1 : cmpI (val a) (val b) < 0 := of_decide_eq_true h1
    have hlt := cmpI_lt.1 h1
    rw [sg_add_lt h hlt]
    refine side_intro rfl ?_
    refine call_intro _ (rSub_spec hwb hwa (by omega) (by omega) (by omega)) ?_
    refine call_intro _ (r8NormN_spec (s := t) (by have := nw_le (Nat.sub_le (val b) (val a)) lb; omega)) ?_
    exact ret_intro rfl rfl
  · have h1 : ¬ cmpI (val a) (val b) < 0 := of_decide_eq_false h1
    have hlt : ¬ val a < val b := mt cmpI_lt.2 h1
    rw [sg_add_ge h hlt]
    refine side_intro rfl ?_
    refine call_intro _ (rSub_spec hwa hwb (by omega) (by omega) (by omega)) ?_
    refine call_intro _ (r8NormN_spec (s := s) (by have := nw_le (Nat.sub_le (val a) (val b)) la; omega)) ?_
    exact ret_intro rfl rfl
/-! Rounded down, by a divisor above 0. -/
theorem ediv_of {z q r B : Int} (h : z = q * B + r) (h0 : 0 ≤ r) (h1 : r < B) : z / B = q := by
  rw [h, Int.add_comm, Int.add_mul_ediv_right _ _ (by omega), Int.ediv_eq_zero_of_lt h0 h1, Int.zero_add]
theorem floor_pos (A B : Nat) : sg false A / (B : Int) = ((A / B : Nat) : Int) := (Int.natCast_ediv A B).symm
theorem floor_neg {A B : Nat} (hB : 0 < B) : sg true A / (B : Int) = if A % B = 0 then -((A / B : Nat) : Int) else -((A / B : Nat) : Int) - 1 := by
  have h := Nat.div_add_mod A B
  have hlt := Nat.mod_lt A hB
  have hc : (A : Int) = (B : Int) * ((A / B : Nat) : Int) + ((A % B : Nat) : Int) := by
    rw [← Int.natCast_mul, ← Int.natCast_add, h]
  generalize A / B = q at hc ⊢
  generalize A % B = r at hc hlt ⊢
  have hs : sg true A = -(A : Int) := rfl
  split
  · rename_i hr
    refine ediv_of (r := 0) ?_ (by omega) (by omega)
    rw [hs, hc, hr, Int.neg_mul, Int.mul_comm (q : Int)]; simp
  · rename_i hr
    refine ediv_of (r := (B : Int) - r) ?_ (by omega) (by omega)
    rw [hs, hc, Int.sub_mul, Int.neg_mul, Int.mul_comm (q : Int)]
    omega
theorem sg_mod (s : Bool) (A B : Nat) : sg s A - sg s (A / B) * (B : Int) = sg s (A % B) := by
  have h := Nat.div_add_mod A B
  have hc : (A : Int) = (B : Int) * ((A / B : Nat) : Int) + ((A % B : Nat) : Int) := by
    rw [← Int.natCast_mul, ← Int.natCast_add, h]
  cases s
  · show (A : Int) - ((A / B : Nat) : Int) * B = ((A % B : Nat) : Int)
    rw [Int.mul_comm]; omega
  · show -(A : Int) - -((A / B : Nat) : Int) * B = -((A % B : Nat) : Int)
    rw [Int.neg_mul, Int.mul_comm]; omega
end Go.Proofs.YtolkecnhncbkhaaGreat.Fw

/- Fractions: the program's. -/
set_option linter.unusedVariables false
namespace Go.Proofs.YtolkecnhncbkhaaGreat.Fw
open Go Pu
def fq (s : Bool) (n d : List Int) : V := .agg 3 [.bool s, .words n, .words d]
def fr (q : Rat) : V := fq (decide (q.num < 0)) (toW q.num.natAbs) (toW q.den)
/-- A fraction as it stands, of at most k words. -/
structure Fk (k : Nat) (n d : List Int) : Prop where
  wn : Wd n
  wd : Wd d
  ln : n.length ≤ k
  ld : d.length ≤ k
def rv (s : Bool) (n d : List Int) : Rat := rt s (val n) (val d)
theorem Fk.mono {j k : Nat} {n d : List Int} (h : Fk j n d) (hk : j ≤ k) : Fk k n d := ⟨h.wn, h.wd, Nat.le_trans h.ln hk, Nat.le_trans h.ld hk⟩
theorem Fk.fr {k : Nat} {q : Rat} (h : Sz k q) : Fk k (toW q.num.natAbs) (toW q.den) := ⟨Wd.toW _, Wd.toW _, h.n, h.d⟩
theorem rv_fr (q : Rat) : rv (decide (q.num < 0)) (toW q.num.natAbs) (toW q.den) = q := by unfold rv; rw [val_toW, val_toW, rt_self]
theorem Fk.sz {k : Nat} {s : Bool} {n d : List Int} (h : Fk k n d) (hk : 1 ≤ k) : Sz k (rv s n d) := Sz_rt (nw_val h.wn h.ln) (nw_val h.wd h.ld) hk
theorem fr_of {z : Int} {e : Nat} {q : Rat} (h1 : q.num = z) (h2 : q.den = e) : fr q = .agg 3 [.bool (decide (z < 0)), .words (toW z.natAbs), .words (toW e)] := by unfold fr fq; rw [h1, h2]
theorem cancel_spec {s : Bool} {n d : List Int} (hn : Wd n) (hd : Wd d) (ln : n.length ≤ 137438953472) (ld : d.length ≤ 137438953472) (h0 : val d ≠ 0) : Runs Tryz.prog g_frac_cancel [wv s n, .d (.words d)] (fr (rv s n d)) := by
  refine run1 [] p_frac_cancel rfl rfl (fun B S F0 w0 V0 => ?_)
  refine call_intro _ (Cancel_spec hn hd ln ld) ?_
  have hq := wNorm_spec (s := s) (a := toW (val n / Nat.gcd (val n) (val d))) (Wd.toW _) (by have := nw_le (Nat.div_le_self (val n) (Nat.gcd (val n) (val d))) (nw_val hn ln); omega)
  rw [val_toW] at hq
  refine call_intro _ hq ?_
  refine ret_intro (Eq.trans ?_ (fr_of (q := rv s n d) (rt_num h0) (rt_den h0)).symm) rfl
  rfl
theorem cancelZ_spec {z : Int} {d : Nat} (ln : (toW z.natAbs).length ≤ 137438953472) (ld : (toW d).length ≤ 137438953472) (h0 : d ≠ 0) : Runs Tryz.prog g_frac_cancel [wh z, .d (.words (toW d))] (fr (mkRat z d)) := by
  have := cancel_spec (s := decide (z < 0)) (Wd.toW z.natAbs) (Wd.toW d) ln ld (by rw [val_toW]; exact h0)
  unfold rv at this
  rw [val_toW, val_toW, ← mkRat_rt] at this
  exact this
theorem parts_spec {k : Nat} {s : Bool} {n d : List Int} (h : Fk k n d) (hk1 : 1 ≤ k) (hk : k ≤ 1099511627776) : ∃ s' n' d', Fk k n' d' ∧ val d' ≠ 0 ∧ rv s' n' d' = rv s n d ∧ Runs Tryz.prog g_frac_parts [fq s n d] (.tup [wv s' n', .d (.words d')]) := by
  by_cases h0 : val d = 0
  · refine ⟨false, [], toW 1, ⟨Wd.nil, Wd.toW _, Nat.zero_le _, by rw [nw1]; exact hk1⟩, by rw [val_toW]; omega, ?_, ?_⟩
    · unfold rv; rw [h0, rt_zero]; exact rt_none _ _
    · refine run1 [] p_frac_parts rfl rfl (fun B S F0 w0 V0 => ?_)
      refine call_intro _ (Zero_spec h.wd (by have := h.ld; omega)) ?_
      refine split_true (decide_eq_true h0) ?_
      have hof := Of_spec (n := 1) (by omega) (by omega)
      refine call_intro _ hof ?_
      exact ret_intro rfl rfl
  · refine ⟨s, n, d, h, h0, rfl, ?_⟩
    refine run1 [] p_frac_parts rfl rfl (fun B S F0 w0 V0 => ?_)
    refine call_intro _ (Zero_spec h.wd (by have := h.ld; omega)) ?_
    refine split_false (decide_eq_false h0) ?_
    refine side_intro rfl ?_
    exact ret_intro rfl rfl
theorem cross_spec {s : Bool} {n e : List Int} (hn : Wd n) (he : Wd e) (ln : n.length ≤ 274877906944) (le : e.length ≤ 274877906944) : Runs Tryz.prog g_frac_cross [wv s n, .d (.words e)] (wh (sg s (val n * val e))) := by
  refine run1 [] p_frac_cross rfl rfl (fun B S F0 w0 V0 => ?_)
  have hm := wMul_spec (s := s) (t := false) hn he ln le
  have e2 : sg s (val n) * sg false (val e) = sg s (val n * val e) := by rw [sg_mul]; cases s <;> rfl
  rw [e2] at hm
  refine call_intro _ hm ?_
  exact ret_intro rfl rfl
theorem fNorm_spec {k : Nat} {s : Bool} {n d : List Int} (h : Fk k n d) (hk1 : 1 ≤ k) (hk : k ≤ 137438953472) : Runs Tryz.prog g_frac_Norm [fq s n d] (fr (rv s n d)) := by
  obtain ⟨s', n', d', h', h0, hv, hp⟩ := parts_spec (s := s) h hk1 (by omega)
  refine run1 [] p_frac_Norm rfl rfl (fun B S F0 w0 V0 => ?_)
  refine call_intro _ hp ?_
  have := h'.ln
  have := h'.ld
  have hc := cancel_spec (s := s') h'.wn h'.wd (by omega) (by omega) h0
  rw [hv] at hc
  refine call_intro _ hc ?_
  exact ret_intro rfl rfl
theorem fOf_spec {z : Int} (h0 : -9223372036854775808 ≤ z) (h1 : z < 9223372036854775808) : Runs Tryz.prog g_frac_Of [.d (.int .i64 z)] (fr (z : Rat)) := by
  refine run1 [] p_frac_Of rfl rfl (fun B S F0 w0 V0 => ?_)
  refine call_intro _ (wOf_spec h0 h1) ?_
  refine call_intro _ (Of_spec (n := 1) (by omega) (by omega)) ?_
  exact ret_intro rfl rfl
theorem sgn_sg (s : Bool) {n d : Nat} (hd : d ≠ 0) : sgn (rt s n d).num = sgn (sg s n) := sgn_mkRat hd
theorem fSign_spec {k : Nat} {s : Bool} {n d : List Int} (h : Fk k n d) (hk1 : 1 ≤ k) (hk : k ≤ 1099511627776) : Runs Tryz.prog g_frac_Sign [fq s n d] (.d (.int .i64 (sgn (rv s n d).num))) := by
  obtain ⟨s', n', d', h', h0, hv, hp⟩ := parts_spec (s := s) h hk1 (by omega)
  refine run1 [] p_frac_Sign rfl rfl (fun B S F0 w0 V0 => ?_)
  refine call_intro _ hp ?_
  have := h'.ln
  have hs := wSign_spec (s := s') h'.wn (by omega)
  rw [← sgn_sg s' h0] at hs
  rw [← hv]
  refine call_intro _ hs ?_
  exact ret_intro rfl rfl
theorem sgc (s : Bool) (a b : Nat) : (toW (sg s (a * b)).natAbs).length ≤ (toW a).length + (toW b).length := by rw [sg_abs]; exact nw_mul a b
theorem fCmp_spec {k : Nat} {s t : Bool} {n d m e : List Int} (h : Fk k n d) (g : Fk k m e) (hk1 : 1 ≤ k) (hk : k ≤ 34359738368) : Runs Tryz.prog g_frac_Cmp [fq s n d, fq t m e] (.d (.int .i64 (sgn (rv s n d - rv t m e).num))) := by
  obtain ⟨s', n', d', h', h0, hv, hp⟩ := parts_spec (s := s) h hk1 (by omega)
  obtain ⟨t', m', e', g', g0, gv, gp⟩ := parts_spec (s := t) g hk1 (by omega)
  refine run1 [] p_frac_Cmp rfl rfl (fun B S F0 w0 V0 => ?_)
  refine call_intro _ hp ?_
  refine call_intro _ gp ?_
  have a1 := nw_val h'.wn h'.ln
  have a2 := nw_val h'.wd h'.ld
  have a3 := nw_val g'.wn g'.ln
  have a4 := nw_val g'.wd g'.ld
  have b1 := h'.ln
  have b2 := h'.ld
  have b3 := g'.ln
  have b4 := g'.ld
  refine side_intro rfl ?_
  refine call_intro _ (cross_spec (s := s') h'.wn g'.wd (by omega) (by omega)) ?_
  refine call_intro _ (cross_spec (s := t') g'.wn h'.wd (by omega) (by omega)) ?_
  have c1 := sgc s' (val n') (val e')
  have c2 := sgc t' (val m') (val d')
  have hc := wCmpZ_spec (y := sg s' (val n' * val e')) (z := sg t' (val m' * val d')) (by omega) (by omega)
  have ev : sgn (rv s n d - rv t m e).num = sgn (sg s' (val n' * val e') - sg t' (val m' * val d')) := by
    rw [← hv, ← gv, Rat.sub_eq_add_neg]
    unfold rv
    rw [rt_neg, rt_add h0 g0, sgn_mkRat (Nat.mul_ne_zero h0 g0), ← sg_neg, ← Int.sub_eq_add_neg]
  rw [ev]
  refine call_intro _ hc ?_
  exact ret_intro rfl rfl
theorem sgn_zero {z : Int} : sgn z = 0 ↔ z = 0 := by unfold sgn; split <;> (try split) <;> omega
theorem num_zero {q : Rat} : q.num = 0 ↔ q = 0 := Rat.num_eq_zero
theorem fSame_spec {k : Nat} {s t : Bool} {n d m e : List Int} (h : Fk k n d) (g : Fk k m e) (hk1 : 1 ≤ k) (hk : k ≤ 34359738368) : Runs Tryz.prog g_frac_Same [fq s n d, fq t m e] (.d (.bool (decide (rv s n d = rv t m e)))) := by
  refine run1 [] p_frac_Same rfl rfl (fun B S F0 w0 V0 => ?_)
  refine call_intro _ (fCmp_spec h g hk1 hk) ?_
  refine ret_intro (b_inj ?_) rfl
  show (sgn (rv s n d - rv t m e).num == 0) = _
  have : sgn (rv s n d - rv t m e).num = 0 ↔ rv s n d = rv t m e := by
    rw [sgn_zero, num_zero]
    constructor
    · intro h
      have := Rat.sub_add_cancel (a := rv s n d) (b := rv t m e)
      rw [h, Rat.zero_add] at this
      exact this.symm
    · intro h; rw [h, Rat.sub_self]
  by_cases hh : rv s n d = rv t m e
  · rw [decide_eq_true hh]; exact beq_iff_eq.2 (this.2 hh)
  · rw [decide_eq_false hh]; exact beq_eq_false_iff_ne.2 (fun e => hh (this.1 e))
theorem neg_num_lt (z : Int) : decide (-z < 0) = ((!decide (z < 0)) && decide (z.natAbs ≠ 0)) := by
  by_cases h : z < 0
  · rw [decide_eq_true h, decide_eq_false (by omega)]; rfl
  · rw [decide_eq_false h]
    by_cases h2 : z = 0
    · subst h2; rfl
    · rw [decide_eq_true (by omega), decide_eq_true (by omega)]; rfl
theorem abs_num (q : Rat) : (if q.num < 0 then -q else q).num = (q.num.natAbs : Int) := by
  split
  · rw [Rat.neg_num]; omega
  · omega
theorem abs_den (q : Rat) : (if q.num < 0 then -q else q).den = q.den := by split <;> rfl
def absQ (q : Rat) : Rat := if q.num < 0 then -q else q
theorem fr_abs (q : Rat) : fr (absQ q) = .agg 3 [.bool false, .words (toW q.num.natAbs), .words (toW q.den)] := by
  rw [fr_of (q := absQ q) (abs_num q) (abs_den q), Int.natAbs_natCast, decide_eq_false (by omega)]
/-- Sum, difference, product, quotient. -/
theorem fAdd_spec {k : Nat} {s t : Bool} {n d m e : List Int} (h : Fk k n d) (g : Fk k m e) (hk1 : 1 ≤ k) (hk : k ≤ 34359738368) : Runs Tryz.prog g_frac_Add [fq s n d, fq t m e] (fr (rv s n d + rv t m e)) := by
  obtain ⟨s', n', d', h', h0, hv, hp⟩ := parts_spec (s := s) h hk1 (by omega)
  obtain ⟨t', m', e', g', g0, gv, gp⟩ := parts_spec (s := t) g hk1 (by omega)
  refine run1 [] p_frac_Add rfl rfl (fun B S F0 w0 V0 => ?_)
  refine call_intro _ hp ?_
  refine call_intro _ gp ?_
  have a1 := nw_val h'.wn h'.ln
  have a2 := nw_val h'.wd h'.ld
  have a3 := nw_val g'.wn g'.ln
  have a4 := nw_val g'.wd g'.ld
  have b1 := h'.ln
  have b2 := h'.ld
  have b3 := g'.ln
  have b4 := g'.ld
  refine side_intro rfl ?_
  refine call_intro _ (cross_spec (s := s') h'.wn g'.wd (by omega) (by omega)) ?_
  refine call_intro _ (cross_spec (s := t') g'.wn h'.wd (by omega) (by omega)) ?_
  have c1 := sgc s' (val n') (val e')
  have c2 := sgc t' (val m') (val d')
  have c3 := nw_mul (val d') (val e')
  refine call_intro _ (wAddZ_spec (y := sg s' (val n' * val e')) (z := sg t' (val m' * val d')) (by omega) (by omega)) ?_
  refine call_intro _ (Mul_spec h'.wd g'.wd (by omega) (by omega)) ?_
  have c4 := nw_natAbs_add (a := sg s' (val n' * val e')) (b := sg t' (val m' * val d')) (k := 68719476736) (by omega) (by omega)
  have hc := cancelZ_spec (z := sg s' (val n' * val e') + sg t' (val m' * val d')) (d := val d' * val e') (by omega) (by omega) (Nat.mul_ne_zero h0 g0)
  rw [← rt_add h0 g0, show rt s' (val n') (val d') = rv s n d from hv, show rt t' (val m') (val e') = rv t m e from gv] at hc
  refine call_intro _ hc ?_
  exact ret_intro rfl rfl
theorem fSub_spec {k : Nat} {s t : Bool} {n d m e : List Int} (h : Fk k n d) (g : Fk k m e) (hk1 : 1 ≤ k) (hk : k ≤ 34359738368) : Runs Tryz.prog g_frac_Sub [fq s n d, fq t m e] (fr (rv s n d - rv t m e)) := by
  obtain ⟨s', n', d', h', h0, hv, hp⟩ := parts_spec (s := s) h hk1 (by omega)
  obtain ⟨t', m', e', g', g0, gv, gp⟩ := parts_spec (s := t) g hk1 (by omega)
  refine run1 [] p_frac_Sub rfl rfl (fun B S F0 w0 V0 => ?_)
  refine call_intro _ hp ?_
  refine call_intro _ gp ?_
  have a1 := nw_val h'.wn h'.ln
  have a2 := nw_val h'.wd h'.ld
  have a3 := nw_val g'.wn g'.ln
  have a4 := nw_val g'.wd g'.ld
  have b1 := h'.ln
  have b2 := h'.ld
  have b3 := g'.ln
  have b4 := g'.ld
  refine side_intro rfl ?_
  refine call_intro _ (cross_spec (s := s') h'.wn g'.wd (by omega) (by omega)) ?_
  refine call_intro _ (cross_spec (s := t') g'.wn h'.wd (by omega) (by omega)) ?_
  have c1 := sgc s' (val n') (val e')
  have c2 := sgc t' (val m') (val d')
  have c3 := nw_mul (val d') (val e')
  refine call_intro _ (wSubZ_spec (y := sg s' (val n' * val e')) (z := sg t' (val m' * val d')) (by omega) (by omega)) ?_
  refine call_intro _ (Mul_spec h'.wd g'.wd (by omega) (by omega)) ?_
  have c4 := nw_natAbs_add (a := sg s' (val n' * val e')) (b := -sg t' (val m' * val d')) (k := 68719476736) (by omega) (by rw [Int.natAbs_neg]; omega)
  rw [← Int.sub_eq_add_neg] at c4
  have hc := cancelZ_spec (z := sg s' (val n' * val e') - sg t' (val m' * val d')) (d := val d' * val e') (by omega) (by omega) (Nat.mul_ne_zero h0 g0)
  rw [Int.sub_eq_add_neg, sg_neg, ← rt_add h0 g0, ← rt_neg, ← Rat.sub_eq_add_neg, show rt s' (val n') (val d') = rv s n d from hv, show rt t' (val m') (val e') = rv t m e from gv, ← sg_neg, ← Int.sub_eq_add_neg] at hc
  refine call_intro _ hc ?_
  exact ret_intro rfl rfl
theorem fMul_spec {k : Nat} {s t : Bool} {n d m e : List Int} (h : Fk k n d) (g : Fk k m e) (hk1 : 1 ≤ k) (hk : k ≤ 34359738368) : Runs Tryz.prog g_frac_Mul [fq s n d, fq t m e] (fr (rv s n d * rv t m e)) := by
  obtain ⟨s', n', d', h', h0, hv, hp⟩ := parts_spec (s := s) h hk1 (by omega)
  obtain ⟨t', m', e', g', g0, gv, gp⟩ := parts_spec (s := t) g hk1 (by omega)
  refine run1 [] p_frac_Mul rfl rfl (fun B S F0 w0 V0 => ?_)
  refine call_intro _ hp ?_
  refine call_intro _ gp ?_
  have a1 := nw_val h'.wn h'.ln
  have a2 := nw_val h'.wd h'.ld
  have a3 := nw_val g'.wn g'.ln
  have a4 := nw_val g'.wd g'.ld
  have b1 := h'.ln
  have b2 := h'.ld
  have b3 := g'.ln
  have b4 := g'.ld
  have c1 := nw_mul (val n') (val m')
  have c3 := nw_mul (val d') (val e')
  have hm := wMul_spec (s := s') (t := t') h'.wn g'.wn (by omega) (by omega)
  rw [sg_mul] at hm
  refine call_intro _ hm ?_
  refine call_intro _ (Mul_spec h'.wd g'.wd (by omega) (by omega)) ?_
  have hc := cancelZ_spec (z := sg (s' != t') (val n' * val m')) (d := val d' * val e') (by rw [sg_abs]; omega) (by omega) (Nat.mul_ne_zero h0 g0)
  rw [show mkRat (sg (s' != t') (val n' * val m')) (val d' * val e') = rv s n d * rv t m e from by rw [← hv, ← gv]; unfold rv; rw [rt_mul]; rfl] at hc
  refine call_intro _ hc ?_
  exact ret_intro rfl rfl
theorem fQuo_zero {k : Nat} {s t : Bool} {n d m e : List Int} (h : Fk k n d) (g : Fk k m e) (hk1 : 1 ≤ k) (hk : k ≤ 34359738368) (hz : rv t m e = 0) : Runs Tryz.prog g_frac_Quo [fq s n d, fq t m e] (.tup [fr 0, .d (.bool false)]) := by
  obtain ⟨s', n', d', h', h0, hv, hp⟩ := parts_spec (s := s) h hk1 (by omega)
  obtain ⟨t', m', e', g', g0, gv, gp⟩ := parts_spec (s := t) g hk1 (by omega)
  refine run1 [] p_frac_Quo rfl rfl (fun B S F0 w0 V0 => ?_)
  refine call_intro _ hp ?_
  refine call_intro _ gp ?_
  have b3 := g'.ln
  have hs := wSign_spec (s := t') g'.wn (by omega)
  have hm0 : val m' = 0 := by
    rw [← gv] at hz
    exact (rt_eq_zero g0).1 hz
  rw [hm0, sg_zero] at hs
  refine call_intro _ hs ?_
  refine split_true rfl ?_
  refine call_intro _ (fOf_spec (z := 0) (by omega) (by omega)) ?_
  exact ret_intro rfl rfl
theorem fQuo_spec {k : Nat} {s t : Bool} {n d m e : List Int} (h : Fk k n d) (g : Fk k m e) (hk1 : 1 ≤ k) (hk : k ≤ 34359738368) (hz : rv t m e ≠ 0) : Runs Tryz.prog g_frac_Quo [fq s n d, fq t m e] (.tup [fr (rv s n d / rv t m e), .d (.bool true)]) := by
  obtain ⟨s', n', d', h', h0, hv, hp⟩ := parts_spec (s := s) h hk1 (by omega)
  obtain ⟨t', m', e', g', g0, gv, gp⟩ := parts_spec (s := t) g hk1 (by omega)
  refine run1 [] p_frac_Quo rfl rfl (fun B S F0 w0 V0 => ?_)
  refine call_intro _ hp ?_
  refine call_intro _ gp ?_
  have a1 := nw_val h'.wn h'.ln
  have a2 := nw_val h'.wd h'.ld
  have a3 := nw_val g'.wn g'.ln
  have a4 := nw_val g'.wd g'.ld
  have b1 := h'.ln
  have b2 := h'.ld
  have b3 := g'.ln
  have b4 := g'.ld
  have hm0 : val m' ≠ 0 := by
    rw [← gv] at hz
    exact fun e => hz ((rt_eq_zero g0).2 e)
  refine call_intro _ (wSign_spec (s := t') g'.wn (by omega)) ?_
  refine split_false (beq_eq_false_iff_ne.2 (fun e => hm0 (sg_eq_zero.1 (sgn_zero.1 e)))) ?_
  refine call_intro _ (cross_spec (s := s') h'.wn g'.wd (by omega) (by omega)) ?_
  refine side_intro rfl ?_
  refine call_intro _ (Mul_spec h'.wd g'.wn (by omega) (by omega)) ?_
  have c1 := sgc s' (val n') (val e')
  have c3 := nw_mul (val d') (val m')
  have hc := cancel_spec (s := (decide (sg s' (val n' * val e') < 0) != t')) (n := toW (sg s' (val n' * val e')).natAbs) (d := toW (val d' * val m')) (Wd.toW _) (Wd.toW _) (by omega) (by omega) (by rw [val_toW]; exact Nat.mul_ne_zero h0 hm0)
  have ev : rv (decide (sg s' (val n' * val e') < 0) != t') (toW (sg s' (val n' * val e')).natAbs) (toW (val d' * val m')) = rv s n d / rv t m e := by
    rw [← hv, ← gv]
    unfold rv
    rw [val_toW, val_toW, sg_abs, rt_div hm0 g0]
    by_cases hn : val n' * val e' = 0
    · rw [hn, rt_none, rt_none]
    · rw [sg_lt, decide_eq_true hn, Bool.and_true]
  rw [ev] at hc
  refine call_intro _ hc ?_
  exact ret_intro rfl rfl
end Go.Proofs.YtolkecnhncbkhaaGreat.Fw

/- The document's fractions. -/
set_option linter.unusedVariables false
namespace Go.Proofs.YtolkecnhncbkhaaGreat.Fw
open Go Pu
theorem toW1 : toW 1 = [1] := nw_one (by omega) (by omega)
theorem fr_zero : fr 0 = .agg 3 [.bool false, .words [], .words [1]] := by
  show fq (decide ((0 : Int) < 0)) (toW 0) (toW 1) = _
  rw [toW_zero, toW1]; rfl
theorem fr_rt {s : Bool} {n d : Nat} (hn : n ≠ 0) (hd : d ≠ 0) : fr (rt s n d) = .agg 3 [.bool s, .words (toW (n / Nat.gcd n d)), .words (toW (d / Nat.gcd n d))] := by
  have hg : n / Nat.gcd n d ≠ 0 := by
    have := Nat.div_pos (Nat.le_of_dvd (by omega) (Nat.gcd_dvd_left n d)) (Nat.gcd_pos_of_pos_left d (by omega))
    omega
  rw [fr_of (rt_num hd) (rt_den hd), sg_abs, sg_lt, decide_eq_true hg, Bool.and_true]
theorem r9Norm_spec {k : Nat} {s : Bool} {n d : List Int} (h : Fk k n d) (hk : k ≤ 68719476736) : Runs Tryz.prog g_retrospectref09_Norm [fq s n d] (fr (rv s n d)) := by
  refine run1 [] p_retrospectref09_Norm rfl rfl (fun B S F0 w0 V0 => ?_)
  have b1 := h.ln
  have b2 := h.ld
  have l1 := nw_val h.wn b1
  have l2 := nw_val h.wd b2
  refine call_intro _ (rNorm_spec h.wd (by omega)) ?_
  refine call_intro _ (rNorm_spec h.wn (by omega)) ?_
  have hd0 := toW_len_zero (n := val d)
  have hn0 := toW_len_zero (n := val n)
  refine split_intro (fun h1 => ?_) (fun h1 => ?_)
  · have h1 : ((toW (val d)).length : Int) = 0 := eq_of_beq h1
    have e0 : val d = 0 := by omega
    refine split_true rfl ?_
    refine ret_intro (Eq.trans ?_ (show V.agg 3 [.bool false, .words [], .words [1]] = fr (rv s n d) by unfold rv; rw [e0, rt_zero, fr_zero])) rfl
    rfl
  have h1 : ((toW (val d)).length : Int) ≠ 0 := beq_eq_false_iff_ne.1 h1
  have d0 : val d ≠ 0 := by omega
  refine split_intro (fun h2 => ?_) (fun h2 => ?_)
  · have h2 : ((toW (val n)).length : Int) = 0 := eq_of_beq h2
    have e0 : val n = 0 := by omega
    refine ret_intro (Eq.trans ?_ (show V.agg 3 [.bool false, .words [], .words [1]] = fr (rv s n d) by unfold rv; rw [e0, rt_none, fr_zero])) rfl
    rfl
  have h2 : ((toW (val n)).length : Int) ≠ 0 := beq_eq_false_iff_ne.1 h2
  have n0 : val n ≠ 0 := by omega
  refine call_intro _ rOne_spec ?_
  have hgl := nw_gcd l1 l2
  have hg0 : Nat.gcd (val n) (val d) ≠ 0 := fun e => d0 (Nat.gcd_eq_zero_iff.1 e).2
  refine split_intro (fun h3 => ?_) (fun h3 => ?_)
  · have hg := rGcd_spec (a := toW (val n)) (b := toW (val d)) (Wd.toW _) (Wd.toW _) (by omega) (by omega)
    rw [val_toW, val_toW] at hg
    refine call_intro _ hg ?_
    have ho1 := rOver_spec (a := toW (val n)) (g := Nat.gcd (val n) (val d)) (Wd.toW _) (by omega) (by omega) hg0
    have ho2 := rOver_spec (a := toW (val d)) (g := Nat.gcd (val n) (val d)) (Wd.toW _) (by omega) (by omega) hg0
    rw [val_toW] at ho1 ho2
    refine call_intro _ ho1 ?_
    refine call_intro _ ho2 ?_
    refine ret_intro (Eq.trans ?_ (fr_rt (s := s) n0 d0).symm) rfl
    rfl
  · have h3 : val d = 1 := by
      have h3 : (!decide (val d = 1)) = false := h3
      simpa using h3
    have e1 : V.agg 3 [.bool s, .words (toW (val n)), .words (toW (val d))] = fr (rv s n d) := by
      show _ = fr (rt s (val n) (val d))
      rw [fr_rt n0 d0, h3, Nat.gcd_one_right, Nat.div_one, Nat.div_one]
    refine ret_intro (Eq.trans ?_ e1) rfl
    rfl
theorem r9NormQ_spec {k n d : Nat} {s : Bool} (hn : (toW n).length ≤ k) (hd : (toW d).length ≤ k) (hk : k ≤ 68719476736) : Runs Tryz.prog g_retrospectref09_Norm [fq s (toW n) (toW d)] (fr (rt s n d)) := by
  have := r9Norm_spec (k := k) (s := s) ⟨Wd.toW n, Wd.toW d, hn, hd⟩ hk
  unfold rv at this
  rw [val_toW, val_toW] at this
  exact this
theorem intRt (z : Int) : rt (decide (z < 0)) z.natAbs 1 = (z : Rat) := by
  rw [← mkRat_rt]
  exact Rat.mkRat_self (z : Rat)
theorem r9Int_spec {z : Int} (h0 : -9223372036854775808 ≤ z) (h1 : z < 9223372036854775808) : Runs Tryz.prog g_retrospectref09_Int [.d (.int .i64 z)] (fr (z : Rat)) := by
  refine run1 [] p_retrospectref09_Int rfl rfl (fun B S F0 w0 V0 => ?_)
  have hz := intRt z
  have hl2 : (toW z.natAbs).length ≤ 2 := nw_two.2 (by omega)
  have hnm := r9NormQ_spec (k := 2) (s := decide (z < 0)) (n := z.natAbs) (d := 1) hl2 (by rw [nw1]; omega) (by omega)
  rw [hz] at hnm
  refine split_intro (fun h => ?_) (fun h => ?_)
  · have h : z < 0 := of_decide_eq_true h
    have e : IntKind.u64.wrap (IntKind.i64.wrap (0 - IntKind.i64.wrap (z + 1))) = ((z.natAbs - 1 : Nat) : Int) := by rw [wr (x := z + 1) (by omega) (by omega), wr (by omega) (by omega), w64]; omega
    have hof := rOf_spec (n := z.natAbs - 1) (by omega)
    rw [← e] at hof
    refine call_intro _ hof ?_
    have hm1 : (toW (z.natAbs - 1)).length ≤ 2 := nw_two.2 (by omega)
    have ha := rAdd_spec (a := toW (z.natAbs - 1)) (b := [1]) (Wd.toW _) (Wd.cons (by omega) (by omega) Wd.nil) (by omega) (by show 1 ≤ _; omega)
    rw [val_toW, show val [1] = 1 from rfl, show z.natAbs - 1 + 1 = z.natAbs by omega] at ha
    refine call_intro _ ha ?_
    rw [toW1, decide_eq_true h] at hnm
    refine call_intro _ hnm ?_
    exact ret_intro rfl rfl
  · have h : ¬ z < 0 := of_decide_eq_false h
    have e : IntKind.u64.wrap z = (z.natAbs : Int) := by rw [w64]; omega
    have hof := rOf_spec (n := z.natAbs) (by omega)
    rw [← e] at hof
    refine call_intro _ hof ?_
    rw [toW1, decide_eq_false h] at hnm
    refine call_intro _ hnm ?_
    exact ret_intro rfl rfl
theorem r9Same_spec {s s' : Bool} {n n' d d' : List Int} (hn : n.length ≤ 1099511627776) (hd : d.length ≤ 1099511627776) : Runs Tryz.prog g_retrospectref09_Same [fq s n d, fq s' n' d'] (.d (.bool (decide (s = s' ∧ n = n' ∧ d = d')))) := by
  refine run1 [] p_retrospectref09_Same rfl rfl (fun B S F0 w0 V0 => ?_)
  refine split_intro (fun h => ?_) (fun h => ?_)
  · have h : s = s' := eq_of_beq h
    refine call_intro _ (rSame_spec (a := n) (b := n') hn) ?_
    refine split_intro (fun h2 => ?_) (fun h2 => ?_)
    · have h2 : n = n' := of_decide_eq_true h2
      refine call_intro _ (rSame_spec (a := d) (b := d') hd) ?_
      refine ret_intro (b_inj ?_) rfl
      show decide (d = d') = _
      exact decide_eq_decide.2 ⟨fun e => ⟨h, h2, e⟩, fun e => e.2.2⟩
    · have h2 : n ≠ n' := of_decide_eq_false h2
      refine ret_intro (b_inj ?_) rfl
      rw [decide_eq_false (fun e => h2 e.2.1)]
  · have h : s ≠ s' := beq_eq_false_iff_ne.1 h
    refine split_false rfl ?_
    refine ret_intro (b_inj ?_) rfl
    rw [decide_eq_false (fun e => h e.1)]
theorem q_zero_len (q : Rat) : ((toW q.num.natAbs).length : Int) = 0 ↔ q = 0 := by
  have h1 := toW_len_zero (n := q.num.natAbs)
  rw [← num_zero]
  omega
theorem r9Zero_spec (q : Rat) : Runs Tryz.prog g_retrospectref09_Zero [fr q] (.d (.bool (decide (q = 0)))) := by
  refine run1 [] p_retrospectref09_Zero rfl rfl (fun B S F0 w0 V0 => ?_)
  refine ret_intro (b_inj ?_) rfl
  show (((toW q.num.natAbs).length : Int) == 0) = _
  by_cases h : q = 0
  · rw [decide_eq_true h]; exact beq_iff_eq.2 ((q_zero_len q).2 h)
  · rw [decide_eq_false h]; exact beq_eq_false_iff_ne.2 (fun e => h ((q_zero_len q).1 e))
theorem r9Add_spec {k : Nat} {p q : Rat} (hp : Sz k p) (hq : Sz k q) (hk : k ≤ 34359738367) : Runs Tryz.prog g_retrospectref09_Add [fr p, fr q] (fr (p + q)) := by
  refine run1 [] p_retrospectref09_Add rfl rfl (fun B S F0 w0 V0 => ?_)
  have a1 := hp.n
  have a2 := hp.d
  have a3 := hq.n
  have a4 := hq.d
  have c1 := nw_mul p.num.natAbs q.den
  have c2 := nw_mul q.num.natAbs p.den
  have c3 := nw_mul p.den q.den
  have m1 := rMul_spec (a := toW p.num.natAbs) (b := toW q.den) (Wd.toW _) (Wd.toW _) (by omega) (by omega)
  have m2 := rMul_spec (a := toW q.num.natAbs) (b := toW p.den) (Wd.toW _) (Wd.toW _) (by omega) (by omega)
  have m3 := rMul_spec (a := toW p.den) (b := toW q.den) (Wd.toW _) (Wd.toW _) (by omega) (by omega)
  rw [val_toW, val_toW] at m1 m2 m3
  refine side_intro rfl ?_
  refine call_intro _ m1 ?_
  refine side_intro rfl ?_
  refine call_intro _ m2 ?_
  have ha := r8Add_spec (s := decide (p.num < 0)) (t := decide (q.num < 0)) (a := toW (p.num.natAbs * q.den)) (b := toW (q.num.natAbs * p.den)) (Wd.toW _) (Wd.toW _) (by omega) (by omega)
  rw [val_toW, val_toW] at ha
  refine call_intro _ ha ?_
  refine side_intro rfl ?_
  refine call_intro _ m3 ?_
  have c4 := nw_natAbs_add (a := sg (decide (p.num < 0)) (p.num.natAbs * q.den)) (b := sg (decide (q.num < 0)) (q.num.natAbs * p.den)) (k := 68719476734) (by rw [sg_abs]; omega) (by rw [sg_abs]; omega)
  have hn := r9NormQ_spec (k := 68719476735) (s := decide (sg (decide (p.num < 0)) (p.num.natAbs * q.den) + sg (decide (q.num < 0)) (q.num.natAbs * p.den) < 0)) (d := p.den * q.den) c4 (by omega) (by omega)
  rw [← mkRat_rt, ← rt_add p.den_nz q.den_nz, rt_self, rt_self] at hn
  refine call_intro _ hn ?_
  exact ret_intro rfl rfl
theorem r9Mul_spec {k : Nat} {p q : Rat} (hp : Sz k p) (hq : Sz k q) (hk : k ≤ 34359738367) : Runs Tryz.prog g_retrospectref09_Mul [fr p, fr q] (fr (p * q)) := by
  refine run1 [] p_retrospectref09_Mul rfl rfl (fun B S F0 w0 V0 => ?_)
  have a1 := hp.n
  have a2 := hp.d
  have a3 := hq.n
  have a4 := hq.d
  have c1 := nw_mul p.num.natAbs q.num.natAbs
  have c3 := nw_mul p.den q.den
  have m1 := rMul_spec (a := toW p.num.natAbs) (b := toW q.num.natAbs) (Wd.toW _) (Wd.toW _) (by omega) (by omega)
  have m3 := rMul_spec (a := toW p.den) (b := toW q.den) (Wd.toW _) (Wd.toW _) (by omega) (by omega)
  rw [val_toW, val_toW] at m1 m3
  refine side_intro rfl ?_
  refine call_intro _ m1 ?_
  refine call_intro _ m3 ?_
  have hn := r9NormQ_spec (k := 68719476735) (s := decide (p.num < 0) != decide (q.num < 0)) (n := p.num.natAbs * q.num.natAbs) (d := p.den * q.den) (by omega) (by omega) (by omega)
  rw [← rt_mul, rt_self, rt_self] at hn
  refine call_intro _ hn ?_
  exact ret_intro rfl rfl
theorem r9Quo_spec {k : Nat} {p q : Rat} (hp : Sz k p) (hq : Sz k q) (hk : k ≤ 34359738367) (h0 : q ≠ 0) : Runs Tryz.prog g_retrospectref09_Quo [fr p, fr q] (fr (p / q)) := by
  refine run1 [] p_retrospectref09_Quo rfl rfl (fun B S F0 w0 V0 => ?_)
  have a1 := hp.n
  have a2 := hp.d
  have a3 := hq.n
  have a4 := hq.d
  have c1 := nw_mul p.num.natAbs q.den
  have c3 := nw_mul p.den q.num.natAbs
  have m1 := rMul_spec (a := toW p.num.natAbs) (b := toW q.den) (Wd.toW _) (Wd.toW _) (by omega) (by omega)
  have m3 := rMul_spec (a := toW p.den) (b := toW q.num.natAbs) (Wd.toW _) (Wd.toW _) (by omega) (by omega)
  rw [val_toW, val_toW] at m1 m3
  refine side_intro rfl ?_
  refine call_intro _ m1 ?_
  refine call_intro _ m3 ?_
  have hq0 : q.num.natAbs ≠ 0 := fun e => h0 (num_zero.1 (Int.natAbs_eq_zero.1 e))
  have hn := r9NormQ_spec (k := 68719476735) (s := decide (p.num < 0) != decide (q.num < 0)) (n := p.num.natAbs * q.den) (d := p.den * q.num.natAbs) (by omega) (by omega) (by omega)
  rw [← rt_div hq0 q.den_nz, rt_self, rt_self] at hn
  refine call_intro _ hn ?_
  exact ret_intro rfl rfl
theorem bits_len {a : List Int} (hw : Wd a) : bits (val a) ≤ 32 * a.length := by
  unfold bits
  split
  · omega
  · rename_i h
    have := (Nat.log2_lt h).2 (val_lt_bits hw)
    omega
theorem r9Long_spec {s : Bool} {n d : List Int} {m : Int} : Runs Tryz.prog g_retrospectref09_Long [fq s n d, .d (.int .i64 m)] (.d (.bool (decide ((n.length : Int) > m) || decide ((d.length : Int) > m)))) := by
  refine run1 [] p_retrospectref09_Long rfl rfl (fun B S F0 w0 V0 => ?_)
  refine split_intro (fun h => ?_) (fun h => ?_)
  · have h : decide ((n.length : Int) > m) = true := h
    rw [h]
    exact ret_intro rfl rfl
  · have h : decide ((n.length : Int) > m) = false := h
    rw [h]
    exact ret_intro rfl rfl
end Go.Proofs.YtolkecnhncbkhaaGreat.Fw

/- Fractions: powers, sizes, rounded down, the greatest; as the statements hand them over. -/
set_option linter.unusedVariables false
namespace Go.Proofs.YtolkecnhncbkhaaGreat.Fw
open Go Pu
theorem To_spec {s : Bool} {n d : List Int} : Runs Tryz.prog g_retrospectlaw09_To [fq s n d] (fq s n d) := by
  refine run1 [] p_retrospectlaw09_To rfl rfl (fun B S F0 w0 V0 => ?_)
  exact ret_intro rfl rfl
theorem lOf_spec {s : Bool} {n d : List Int} : Runs Tryz.prog g_retrospectlaw09_Of [fq s n d] (fq s n d) := by
  refine run1 [] p_retrospectlaw09_Of rfl rfl (fun B S F0 w0 V0 => ?_)
  exact ret_intro rfl rfl
theorem Is_spec {s s' : Bool} {n n' d d' : List Int} (hn : n.length ≤ 1099511627776) (hd : d.length ≤ 1099511627776) : Runs Tryz.prog g_retrospectlaw09_Is [fq s n d, fq s' n' d'] (.d (.bool (decide (s = s' ∧ n = n' ∧ d = d')))) := by
  refine run1 [] p_retrospectlaw09_Is rfl rfl (fun B S F0 w0 V0 => ?_)
  refine side_intro rfl ?_
  refine call_intro _ lOf_spec ?_
  refine call_intro _ (r9Same_spec hn hd) ?_
  exact ret_intro rfl rfl
theorem Is_true {k : Nat} {p q : Rat} (h : Sz k p) (hk : k ≤ 1099511627776) (e : p = q) : Runs Tryz.prog g_retrospectlaw09_Is [fr p, fr q] (.d (.bool true)) := by
  subst e
  have := Is_spec (s := decide (p.num < 0)) (s' := decide (p.num < 0)) (n := toW p.num.natAbs) (n' := toW p.num.natAbs) (d := toW p.den) (d' := toW p.den) (Nat.le_trans h.n hk) (Nat.le_trans h.d hk)
  rw [show decide (decide (p.num < 0) = decide (p.num < 0) ∧ toW p.num.natAbs = toW p.num.natAbs ∧ toW p.den = toW p.den) = true from decide_eq_true ⟨rfl, rfl, rfl⟩] at this
  exact this
theorem bits_top {v : Nat} (h : v ≠ 0) : bits v = 32 * ((toW v).length - 1) + bits ((toW v).getD ((toW v).length - 1) 0).toNat := by
  have hl0 : (toW v).length ≠ 0 := fun e => h (toW_len_zero.1 e)
  obtain ⟨l, hl⟩ : ∃ l, (toW v).length = l + 1 := ⟨(toW v).length - 1, by omega⟩
  rw [hl, Nat.add_sub_cancel]
  have h1 := val_div_pow (Wd.toW v) (j := l) (by omega)
  have h2 := val_drop_cons' (toW v) l
  rw [List.drop_eq_nil_of_le (show (toW v).length ≤ l + 1 by omega)] at h2
  have h3 : val (toW v) / 4294967296 ^ l = ((toW v).getD l 0).toNat := by rw [h1, h2]; simp [val]
  rw [val_toW] at h3
  have h4 : ((toW v).getD l 0).toNat ≠ 0 := by
    rcases Nat.eq_zero_or_pos ((toW v).getD l 0).toNat with h0 | h0
    · exfalso
      have hlt : (toW v).getD l 0 = 0 := by
        have := (Wd.toW v).g l
        omega
      refine toW_last (n := v) (x := (toW v).getD l 0) ?_ hlt
      rw [List.getLast?_eq_getElem?, hl, Nat.add_sub_cancel, el _ (by omega)]
    · omega
  have h5 : (2 : Nat) ^ (32 * l) = 4294967296 ^ l := by rw [Nat.pow_mul]
  have h6 := bits_shift (x := v) (k := 32 * l) (by rw [h5, h3]; exact h4)
  rw [h5, h3] at h6
  omega
theorem is_toW {a : List Int} {v : Nat} (hw : Wd a) (hl : a.length = (toW v).length) (hv : cmpI (val a) v = 0) : a = toW v := val_inj hw (Wd.toW v) hl (by rw [val_toW]; exact cmpI_eq.1 hv)
theorem fRatio_spec {x y : Int} (hx0 : -9223372036854775808 ≤ x) (hx1 : x < 9223372036854775808) (hy0 : -9223372036854775808 ≤ y) (hy1 : y < 9223372036854775808) :
    Runs Tryz.prog g_frac_Ratio [.d (.int .i64 x), .d (.int .i64 y)] (if y = 0 then .tup [fr 0, .d (.bool false)] else .tup [fr ((x : Rat) / (y : Rat)), .d (.bool true)]) := by
  have hsz : ∀ z : Int, -9223372036854775808 ≤ z → z < 9223372036854775808 → Sz 2 (z : Rat) := fun z h0 h1 => Sz_int (nw_two.2 (by omega)) (by omega)
  refine run1 [] p_frac_Ratio rfl rfl (fun B S F0 w0 V0 => ?_)
  refine call_intro _ (fOf_spec hx0 hx1) ?_
  refine call_intro _ (fOf_spec hy0 hy1) ?_
  have fx := Fk.fr (hsz x hx0 hx1)
  have fy := Fk.fr (hsz y hy0 hy1)
  by_cases h : y = 0
  · rw [if_pos h]
    have := fQuo_zero (s := decide ((x : Rat).num < 0)) (t := decide ((y : Rat).num < 0)) fx fy (by omega) (by omega) (by rw [rv_fr, h]; rfl)
    refine call_intro _ this ?_
    exact ret_intro rfl rfl
  · rw [if_neg h]
    have := fQuo_spec (s := decide ((x : Rat).num < 0)) (t := decide ((y : Rat).num < 0)) fx fy (by omega) (by omega) (by rw [rv_fr]; intro e; exact h (by have := congrArg Rat.num e; exact this))
    rw [rv_fr, rv_fr] at this
    refine call_intro _ this ?_
    exact ret_intro rfl rfl
end Go.Proofs.YtolkecnhncbkhaaGreat.Fw

/- From the typed readings to data. -/
set_option linter.unusedVariables false
namespace Go.Proofs.YtolkecnhncbkhaaGreat.Fw
open Go Pu Go.RowKit
def IsRow (k : IntKind) (w : World) (a : Option Addr) (len cap : Nat) (zs : List Int) : Prop :=
  (a = none ∧ len = 0 ∧ cap = 0 ∧ zs = []) ∨
  ∃ x, a = some x ∧ len ≤ cap ∧ cap ≤ maxLen ∧ zs.length = cap ∧ (∀ i, i < zs.length → w.cell? (x.add i) = some (.int k (zs.getD i 0))) ∧ ∀ n ∈ zs, (Lit.int k n).wf = true
theorem wf_u32 {n : Int} (h : (Lit.int .u32 n).wf = true) : 0 ≤ n ∧ n < 4294967296 := by
  simp [Lit.wf, IntKind.min, IntKind.max, IntKind.signed, IntKind.bits] at h
  omega
def Fall (w : World) : Nat → Prop := fun b => b < w.heap.size
theorem row_words {w : World} {a : Option Addr} {len cap : Nat} {zs : List Int} (h : IsRow .u32 w a len cap zs) : ∃ l : List Int, Wd l ∧ l.length ≤ maxLen ∧ RepL w (Fall w) (.words l) (.slice a len cap) := by
  rcases h with ⟨rfl, rfl, rfl, rfl⟩ | ⟨x, rfl, h1, h2, h3, h4, h5⟩
  · exact ⟨[], Wd.nil, Nat.zero_le _, RepL.nilW _ _⟩
  · have hl : (zs.take len).length = len := by rw [List.length_take]; omega
    refine ⟨zs.take len, fun n hn => wf_u32 (h5 n (List.mem_of_mem_take hn)), by omega, RepL.sl (d := .words (zs.take len)) (sz := 1) (n := len) (fl := (zs.take len).map wd) (by simp only [D.sl?, hl]) (some x) cap ((zs.take len).map fun n => .int .u32 n) h1 h2 (by simp) (fun j u hu => ?_) (fun j d u hd hu => ?_)⟩
    · rw [List.getElem?_map] at hu
      cases hj : (zs.take len)[j]? with
      | none => rw [hj] at hu; cases hu
      | some n =>
        rw [hj] at hu
        simp only [Option.map_some, Option.some.injEq] at hu
        subst hu
        rw [List.getElem?_take] at hj
        split at hj
        · have hlt := (List.getElem?_eq_some_iff.1 hj).1
          have hc := h4 j hlt
          rw [List.getD_eq_getElem?_getD, hj] at hc
          have hb := World.block_lt_of_cell? w _ hc
          rw [add_block] at hb
          exact ⟨x, rfl, hb, hc⟩
        · cases hj
    · rw [List.getElem?_map] at hd hu
      cases hj : (zs.take len)[j]? with
      | none => rw [hj] at hu; cases hu
      | some n =>
        rw [hj] at hd hu
        simp only [Option.map_some, Option.some.injEq] at hd hu
        subst hd; subst hu
        exact RepL.int _ _
theorem law_calls {P : Program} {g : FuncId} {args : List V} {w : World} {vals : List Value} (h : Runs P g args (.d (.bool true))) (ha : AllR (VR1 w (Fall w) (fun _ => undef) (fun _ => none)) args vals) :
    Calls P g vals.toArray w fun e w' => e = .returned (.bool true) ∧ Below w.heap.size w w' := by
  unfold Runs at h
  refine (h.2 (Fall w) w vals (fun b hb => hb) ha).mono ?_
  rintro e w' ⟨v, F', rfl, hv, _, hk⟩
  have : v = .bool true := boolV hv
  exact ⟨by rw [this], ⟨hk.os, hk.tape, hk.output, hk.size, fun k hk' => hk.block k hk' (fun x => x)⟩⟩
end Go.Proofs.YtolkecnhncbkhaaGreat.Fw

/- From the typed readings to data, for all types. -/
set_option linter.unusedVariables false
namespace Go.Proofs.YtolkecnhncbkhaaGreat.Fw
open Go Pu Go.RowKit Go.ChangeShapes Go.WideShapes
inductive Sh where
  | bool
  | int (k : IntKind)
  | ws
  | rows (e : List Sh)
inductive OkD : Sh → D → Prop where
  | bool (b : Bool) : OkD .bool (.bool b)
  | int (k : IntKind) (n : Int) (h : (Lit.int k n).wf = true) : OkD (.int k) (.int k n)
  | ws (l : List Int) (h : Wd l) (hl : l.length ≤ maxLen) : OkD .ws (.words l)
  | rows (e : List Sh) (l : List (List D)) (h : ∀ x ∈ l, x.length = e.length) (h2 : ∀ x ∈ l, ∀ (j : Nat) s d, e[j]? = some s → x[j]? = some d → OkD s d) (hl : l.length ≤ maxLen) : OkD (.rows e) (.rows e.length l)
inductive HasSh (P : Program) : TypeId → List Sh → Prop where
  | bool {t : TypeId} (h : P.underlying t = some .bool) (hc : P.cellsOf t = 1) : HasSh P t [.bool]
  | int {t : TypeId} {k : IntKind} (h : P.underlying t = some (.int k)) (hc : P.cellsOf t = 1) : HasSh P t [.int k]
  | ws {t e : TypeId} (h : P.underlying t = some (.slice e)) (he : P.underlying e = some (.int .u32)) (hc : P.cellsOf e = 1) (hct : P.cellsOf t = 1) : HasSh P t [.ws]
  | rows {t e : TypeId} {es : List Sh} (h : P.underlying t = some (.slice e)) (he : HasSh P e es) (hz : 0 < es.length) (hct : P.cellsOf t = 1) : HasSh P t [.rows es]
  | st {t : TypeId} {fs : Array Field} (l : List (List Sh)) (h : P.underlying t = some (.struct fs)) (hl : l.length = fs.size) (hc : P.cellsOf t = l.flatten.length)
      (ho : ∀ (i : Nat) f, fs[i]? = some f → f.offset = ((l.take i).flatten).length) (hf : ∀ (i : Nat) f s, fs[i]? = some f → l[i]? = some s → HasSh P f.type s) : HasSh P t l.flatten
  | arr {t e : TypeId} {n : Nat} {es : List Sh} (h : P.underlying t = some (.array n e)) (he : HasSh P e es) (hc : P.cellsOf t = (List.replicate n es).flatten.length) : HasSh P t (List.replicate n es).flatten
theorem HasSh.cells {P : Program} {t : TypeId} {s : List Sh} (h : HasSh P t s) : P.cellsOf t = s.length := by
  cases h with
  | bool _ hc => exact hc
  | int _ hc => exact hc
  | ws _ _ _ hct => exact hct
  | rows _ _ _ hct => exact hct
  | st l _ _ hc => exact hc
  | arr _ _ hc => exact hc
theorem segs {R : D → Value → Prop} : ∀ (l : List (List Sh)) (cs : List Value), cs.length = l.flatten.length →
    (∀ (i : Nat) s, l[i]? = some s → ∃ ds, AllR R ds ((cs.drop ((l.take i).flatten.length)).take s.length) ∧ AllR OkD s ds) → ∃ ds, AllR R ds cs ∧ AllR OkD l.flatten ds := by
  intro l
  induction l with
  | nil =>
    intro cs h _
    have : cs = [] := List.eq_nil_of_length_eq_zero (by simpa using h)
    subst this
    exact ⟨[], AllR.nil, AllR.nil⟩
  | cons s l ih =>
    intro cs hl h
    have hl' : cs.length = s.length + l.flatten.length := by rw [hl, List.flatten_cons, List.length_append]
    obtain ⟨d0, h1, h2⟩ := h 0 s rfl
    obtain ⟨d1, h3, h4⟩ := ih (cs.drop s.length) (by rw [List.length_drop]; omega) (fun i x hx => by
      obtain ⟨ds, h5, h6⟩ := h (i + 1) x (by simpa using hx)
      refine ⟨ds, ?_, h6⟩
      rw [List.take_succ_cons, List.flatten_cons, List.length_append, ← List.drop_drop] at h5
      exact h5)
    refine ⟨d0 ++ d1, ?_, ?_⟩
    · have h7 : AllR R (d0 ++ d1) (cs.take s.length ++ cs.drop s.length) := AllR.app (by simpa using h1) h3
      rw [List.take_append_drop] at h7
      exact h7
    · rw [List.flatten_cons]
      exact h2.app h4
theorem pick2 {α β : Type} {Q : Nat → α → β → Prop} : ∀ n, (∀ i, i < n → ∃ a b, Q i a b) → ∃ (l : List α) (m : List β), l.length = n ∧ m.length = n ∧ ∀ (i : Nat) a b, l[i]? = some a → m[i]? = some b → Q i a b := by
  intro n
  induction n with
  | zero => intro _; exact ⟨[], [], rfl, rfl, fun i a b h => by simp at h⟩
  | succ n ih =>
    intro h
    obtain ⟨l, m, h1, h2, h3⟩ := ih (fun i hi => h i (by omega))
    obtain ⟨a, b, hq⟩ := h n (by omega)
    refine ⟨l ++ [a], m ++ [b], by simp [h1], by simp [h2], fun i x y hx hy => ?_⟩
    by_cases hi : i < n
    · rw [List.getElem?_append_left (by omega)] at hx
      rw [List.getElem?_append_left (by omega)] at hy
      exact h3 i x y hx hy
    · have hlt := (List.getElem?_eq_some_iff.1 hx).1
      simp only [List.length_append, List.length_singleton] at hlt
      have : i = n := by omega
      subst this
      rw [List.getElem?_append_right (by omega), h1, Nat.sub_self] at hx
      rw [List.getElem?_append_right (by omega), h2, Nat.sub_self] at hy
      simp at hx hy
      subst hx; subst hy
      exact hq
theorem flat_get {α : Type} {k : Nat} (hk : 0 < k) : ∀ (l : List (List α)) (j : Nat) (u : α), (∀ x ∈ l, x.length = k) → l.flatten[j]? = some u → ∃ x, l[j / k]? = some x ∧ x[j % k]? = some u := by
  intro l
  induction l with
  | nil => intro j u _ h; simp at h
  | cons x l ih =>
    intro j u hl h
    have hx : x.length = k := hl x (by simp)
    rw [List.flatten_cons] at h
    by_cases hj : j < k
    · rw [List.getElem?_append_left (by omega)] at h
      exact ⟨x, by rw [Nat.div_eq_of_lt hj]; rfl, by rw [Nat.mod_eq_of_lt hj]; exact h⟩
    · rw [List.getElem?_append_right (by omega), hx] at h
      obtain ⟨y, h1, h2⟩ := ih (j - k) u (fun y hy => hl y (by simp [hy])) h
      have e1 : j / k = (j - k) / k + 1 := by rw [Nat.div_eq_sub_div hk (by omega)]
      have e2 : j % k = (j - k) % k := by rw [Nat.mod_eq_sub_mod (by omega)]
      exact ⟨y, by rw [e1]; simpa using h1, by rw [e2]; exact h2⟩
theorem flat_allR {R : D → Value → Prop} : ∀ (l : List (List D)) (m : List (List Value)), l.length = m.length → (∀ (i : Nat) x y, l[i]? = some x → m[i]? = some y → AllR R x y) → AllR R l.flatten m.flatten := by
  intro l
  induction l with
  | nil =>
    intro m h _
    have : m = [] := List.eq_nil_of_length_eq_zero (by simpa using h.symm)
    subst this
    exact AllR.nil
  | cons x l ih =>
    intro m h hr
    cases m with
    | nil => simp at h
    | cons y m =>
      rw [List.flatten_cons, List.flatten_cons]
      exact (hr 0 x y rfl rfl).app (ih m (by simpa using h) (fun i x y hx hy => hr (i + 1) x y (by simpa using hx) (by simpa using hy)))
theorem hasSh_read {P : Program} {H : Type} {enc : TypeId × Value → H} {w : World} {sp : Nat → Bool} {t : TypeId} {shs : List Sh} (h : HasSh P t shs) :
    ∀ (fuel : Nat) (cs : List Value) (x : DataW H × List MemPlace), DataW.trod enc P w 0 sp true fuel t cs = some x → ∃ ds, AllR (RepL w (Fall w)) ds cs ∧ AllR OkD shs ds := by
  induction h with
  | bool hu hc =>
    intro fuel cs x hx
    obtain ⟨b, rfl, _⟩ := DataW.trod_bool hu hx
    exact ⟨[.bool b], AllR.cons (.bool b) AllR.nil, AllR.cons (.bool b) AllR.nil⟩
  | int hu hc =>
    intro fuel cs x hx
    obtain ⟨n, rfl, _, hw⟩ := DataW.trod_int hu hx
    exact ⟨[.int _ n], AllR.cons (.int _ n) AllR.nil, AllR.cons (.int _ n hw) AllR.nil⟩
  | ws hu he hc hct =>
    intro fuel cs x hx
    have key : ∀ {a : Option Addr} {len cap : Nat} {zs : List Int}, cs = [.slice a len cap] → IsRow .u32 w a len cap zs → ∃ ds, AllR (RepL w (Fall w)) ds cs ∧ AllR OkD [Sh.ws] ds := by
      intro a len cap zs e hr
      obtain ⟨l, h1, h2, h3⟩ := row_words hr
      exact ⟨[.words l], by rw [e]; exact AllR.cons h3 AllR.nil, AllR.cons (.ws l h1 h2) AllR.nil⟩
    rcases open_ints hu he hc hx with ⟨hcs, _⟩ | ⟨a, l, c, zs, hcs, _, hl, hm, hz, _, hcell, hwz⟩
    · exact key hcs (zs := []) (.inl ⟨rfl, rfl, rfl, rfl⟩)
    · rcases Nat.le_total l zs.length with hlz | hlz
      · -- the cells up to the length are all that is asked
        refine ⟨[.words (zs.take l)], ?_, AllR.cons (.ws _ (fun n hn => wf_u32 (hwz n (List.mem_of_mem_take hn))) (by rw [List.length_take]; omega)) AllR.nil⟩
        rw [hcs]
        have hlen : (zs.take l).length = l := by rw [List.length_take]; omega
        refine AllR.cons (RepL.sl (d := .words (zs.take l)) (sz := 1) (n := l) (fl := (zs.take l).map wd) (by simp only [D.sl?, hlen]) (some a) c ((zs.take l).map fun n => .int .u32 n) hl hm (by simp) (fun j u hu => ?_) (fun j d u hd hu => ?_)) AllR.nil
        · rw [List.getElem?_map] at hu
          cases hj : (zs.take l)[j]? with
          | none => rw [hj] at hu; cases hu
          | some n =>
            rw [hj] at hu
            simp only [Option.map_some, Option.some.injEq] at hu
            subst hu
            rw [List.getElem?_take] at hj
            split at hj
            · have hlt := (List.getElem?_eq_some_iff.1 hj).1
              have hc := hcell j hlt
              rw [List.getD_eq_getElem?_getD, hj] at hc
              have hb := World.block_lt_of_cell? w _ hc
              rw [add_block] at hb
              exact ⟨a, rfl, hb, hc⟩
            · cases hj
        · rw [List.getElem?_map] at hd hu
          cases hj : (zs.take l)[j]? with
          | none => rw [hj] at hu; cases hu
          | some n =>
            rw [hj] at hd hu
            simp only [Option.map_some, Option.some.injEq] at hd hu
            subst hd; subst hu
            exact RepL.int _ _
      · have e : zs.length = l := by
          rw [hz] at hlz ⊢
          split at hlz <;> split <;> first | omega | (exfalso; simp_all; done)
        have e2 : zs.take l = zs := List.take_of_length_le (by omega)
        refine ⟨[.words zs], ?_, AllR.cons (.ws _ (fun n hn => wf_u32 (hwz n hn)) (by omega)) AllR.nil⟩
        rw [hcs]
        refine AllR.cons (RepL.sl (d := .words zs) (sz := 1) (n := l) (fl := zs.map wd) (by simp only [D.sl?, e]) (some a) c (zs.map fun n => .int .u32 n) hl hm (by simp) (fun j u hu => ?_) (fun j d u hd hu => ?_)) AllR.nil
        · rw [List.getElem?_map] at hu
          cases hj : zs[j]? with
          | none => rw [hj] at hu; cases hu
          | some n =>
            rw [hj] at hu
            simp only [Option.map_some, Option.some.injEq] at hu
            subst hu
            have hlt := (List.getElem?_eq_some_iff.1 hj).1
            have hc := hcell j hlt
            rw [List.getD_eq_getElem?_getD, hj] at hc
            have hb := World.block_lt_of_cell? w _ hc
            rw [add_block] at hb
            exact ⟨a, rfl, hb, hc⟩
        · rw [List.getElem?_map] at hd hu
          cases hj : zs[j]? with
          | none => rw [hj] at hu; cases hu
          | some n =>
            rw [hj] at hd hu
            simp only [Option.map_some, Option.some.injEq] at hd hu
            subst hd; subst hu
            exact RepL.int _ _
  | @rows t e es hu he hz hct ih =>
    intro fuel cs x hx
    rcases DataW.trod_slice hu hx with ⟨hcs, _⟩ | ⟨a, len, cap, elems, rest, n, _, hcs, _, _, hl, hm, hlen, hel, _, _⟩
    · refine ⟨[.rows es.length []], ?_, AllR.cons (.rows es [] (by simp) (by simp) (Nat.zero_le _)) AllR.nil⟩
      rw [hcs]
      exact AllR.cons (RepL.nilR w (Fall w) es.length) AllR.nil
    · have hcl := he.cells
      have each : ∀ i, i < len → ∃ (ds : List D) (cv : List Value), (AllR (RepL w (Fall w)) ds cv ∧ AllR OkD es ds) ∧ ∀ (j : Nat) u, cv[j]? = some u → w.cell? (a.add (i * es.length + j)) = some u := by
        intro i hi
        have h1 := hel i hi
        rw [List.getElem?_eq_getElem (by omega), Option.bind_eq_some_iff] at h1
        obtain ⟨cv, h2, h3⟩ := h1
        obtain ⟨ds, h4, h5⟩ := ih n cv _ h3
        refine ⟨ds, cv, ⟨h4, h5⟩, fun j u hu => ?_⟩
        obtain ⟨_, h6, h7⟩ := World.cells?_some h2
        rw [hcl] at h6 h7
        have hj := (List.getElem?_eq_some_iff.1 hu).1
        have := h7 j (by omega)
        rw [add_add] at this
        rw [this, hu]
      obtain ⟨l, m, h1, h2, h3⟩ := pick2 len each
      have hall : ∀ x ∈ l, x.length = es.length := by
        intro y hy
        obtain ⟨i, hi⟩ := List.getElem?_of_mem hy
        have hlt := (List.getElem?_eq_some_iff.1 hi).1
        have := (h3 i y (m[i]'(by omega)) hi (List.getElem?_eq_getElem (by omega))).1.2.1
        exact this.symm
      have hallm : ∀ x ∈ m, x.length = es.length := by
        intro y hy
        obtain ⟨i, hi⟩ := List.getElem?_of_mem hy
        have hlt := (List.getElem?_eq_some_iff.1 hi).1
        have h4 := h3 i (l[i]'(by omega)) y (List.getElem?_eq_getElem (by omega)) hi
        have := h4.1.1.1
        rw [← this]
        exact h4.1.2.1.symm
      refine ⟨[.rows es.length l], ?_, AllR.cons (.rows es l hall (fun y hy j s d hs hd => ?_) (by omega)) AllR.nil⟩
      · rw [hcs]
        have hfl := flat_allR (R := RepL w (Fall w)) l m (by omega) (fun i x y hx hy => (h3 i x y hx hy).1.1)
        refine AllR.cons (RepL.sl (d := .rows es.length l) (sz := es.length) (n := len) (fl := l.flatten) ?_ (some a) cap m.flatten hl hm hfl.1.symm (fun j u hu => ?_) (fun j d u hd hu => hfl.2 j d u hd hu)) AllR.nil
        · have : l.all (fun x => x.length == es.length) = true := List.all_eq_true.2 (fun y hy => beq_iff_eq.2 (hall y hy))
          simp only [D.sl?, this, if_true, h1]
        · obtain ⟨y, h4, h5⟩ := flat_get hz m j u hallm hu
          have hlt := (List.getElem?_eq_some_iff.1 h4).1
          have h6 := (h3 (j / es.length) (l[j / es.length]'(by omega)) y (List.getElem?_eq_getElem (by omega)) h4).2 (j % es.length) u h5
          rw [Nat.div_add_mod'] at h6
          have hb := World.block_lt_of_cell? w _ h6
          rw [add_block] at hb
          exact ⟨a, rfl, hb, h6⟩
      · obtain ⟨i, hi⟩ := List.getElem?_of_mem hy
        have hlt := (List.getElem?_eq_some_iff.1 hi).1
        exact (h3 i y (m[i]'(by omega)) hi (List.getElem?_eq_getElem (by omega))).1.2.2 j s d hs hd
  | @st t fs' l hu hl hc ho hf ih =>
    intro fuel cs x hx
    obtain ⟨xs, n, _, _, hlen, hxs, hall⟩ := DataW.trod_struct hu hx
    refine segs l cs (by rw [hlen, hc]) (fun i s hs => ?_)
    have hi := (List.getElem?_eq_some_iff.1 hs).1
    have hfi : fs'[i]? = some (fs'[i]'(by omega)) := by simp [show i < fs'.size by omega]
    have h1 := hall i _ hfi
    rw [List.getElem?_eq_getElem (by omega), ho i _ hfi, (hf i _ s hfi hs).cells] at h1
    exact ih i _ s hfi hs n _ _ h1
  | @arr t e n es hu he hc ih =>
    intro fuel cs x hx
    obtain ⟨xs, m, _, _, hlen, hxs, hall⟩ := DataW.trod_array hu hx
    refine segs _ cs (by rw [hlen, hc]) (fun i s hs => ?_)
    have hi := (List.getElem?_eq_some_iff.1 hs).1
    rw [List.length_replicate] at hi
    rw [List.getElem?_replicate, if_pos hi] at hs
    injection hs with hs
    subst hs
    have h1 := hall i hi
    rw [List.getElem?_eq_getElem (show i < xs.length by omega), he.cells] at h1
    have e1 : ((List.replicate n es).take i).flatten.length = i * es.length := by
      rw [List.take_replicate, Nat.min_eq_left (Nat.le_of_lt hi)]; simp
    rw [e1]
    exact ih m _ _ h1
/-- An argument of one cell. -/
theorem read_one {P : Program} {H : Type} {enc : TypeId × Value → H} {w : World} {sp : Nat → Bool} {t : TypeId} {s : Sh} {v : Value} {d : DataW H} {p : List MemPlace} (h : HasSh P t [s]) (ht : DataW.Trod enc P w 0 sp true t v d p) (hv : v.cells = #[v]) :
    ∃ x, OkD s x ∧ VR1 w (Fall w) (fun _ => undef) (fun _ => none) (.d x) v := by
  obtain ⟨fuel, hf⟩ := ht
  obtain ⟨ds, h1, h2⟩ := hasSh_read h fuel _ _ hf
  rw [hv] at h1
  obtain ⟨u, us, e, h3, h4⟩ := h2.head
  obtain rfl := h4.nil_of
  subst e
  exact ⟨u, h3, h1.2 0 u v rfl rfl⟩
/-- An argument of many cells. -/
theorem read_agg {P : Program} {H : Type} {enc : TypeId × Value → H} {w : World} {sp : Nat → Bool} {t : TypeId} {s : List Sh} {cs : Array Value} {d : DataW H} {p : List MemPlace} (h : HasSh P t s) (ht : DataW.Trod enc P w 0 sp true t (.agg cs) d p) :
    ∃ ds, AllR OkD s ds ∧ VR1 w (Fall w) (fun _ => undef) (fun _ => none) (.agg s.length ds) (.agg cs) := by
  obtain ⟨fuel, hf⟩ := ht
  obtain ⟨ds, h1, h2⟩ := hasSh_read h fuel _ _ hf
  exact ⟨ds, h2, h2.1.symm, cs, rfl, h1⟩
theorem okWide_agg {P : Program} {W : World} {base : Nat} {r : Reach} {t : TypeId} {v : Value} {n : Nat} {e : TypeId} {fs : Array Field} (ht : P.underlying t = some (.struct fs) ∨ P.underlying t = some (.array n e)) (h : Value.okWide P W r base t v) : ∃ cs, v = .agg cs := by
  rcases ht with ht | ht <;> simp only [Value.okWide, ht] at h <;> obtain ⟨cs, h1, _⟩ := h <;> exact ⟨cs, h1⟩
theorem okWide_st {P : Program} {W : World} {base : Nat} {r : Reach} {t : TypeId} {v : Value} {fs : Array Field} (ht : P.underlying t = some (.struct fs)) (h : Value.okWide P W r base t v) : ∃ cs, v = .agg cs := okWide_agg (n := 0) (e := 0) (.inl ht) h
theorem okWide_ar {P : Program} {W : World} {base : Nat} {r : Reach} {t : TypeId} {v : Value} {n : Nat} {e : TypeId} (ht : P.underlying t = some (.array n e)) (h : Value.okWide P W r base t v) : ∃ cs, v = .agg cs := okWide_agg (fs := #[]) (.inr ht) h
theorem inv_ws {x : D} (h : OkD .ws x) : ∃ l, x = .words l ∧ Wd l ∧ l.length ≤ maxLen := by cases h; exact ⟨_, rfl, by assumption, by assumption⟩
theorem inv_bool {x : D} (h : OkD .bool x) : ∃ b, x = .bool b := by cases h; exact ⟨_, rfl⟩
theorem inv_int {k : IntKind} {x : D} (h : OkD (.int k) x) : ∃ n, x = .int k n ∧ (Lit.int k n).wf = true := by cases h; exact ⟨_, rfl, by assumption⟩
theorem inv_rows {e : List Sh} {x : D} (h : OkD (.rows e) x) : ∃ l, x = .rows e.length l ∧ (∀ y ∈ l, AllR OkD e y) ∧ l.length ≤ maxLen := by
  cases h with
  | rows _ l h1 h2 hl => exact ⟨l, rfl, fun y hy => ⟨(h1 y hy).symm, fun j s d => h2 y hy j s d⟩, hl⟩
end Go.Proofs.YtolkecnhncbkhaaGreat.Fw

/- The shapes of the types of the arguments. -/
set_option linter.unusedVariables false
set_option linter.unusedSimpArgs false
namespace Go.Proofs.YtolkecnhncbkhaaGreat.Fw
open Go
abbrev shF : List Sh := [.bool, .ws, .ws]
abbrev shR : Sh := .rows shF
theorem sh_int : HasSh Tryz.prog 3 [.int .i64] := .int Tryz.underlying3 (by kernel_rfl)
theorem sh_bool : HasSh Tryz.prog 4 [.bool] := .bool Tryz.underlying4 (by kernel_rfl)
theorem sh_u32 : HasSh Tryz.prog 85 [.int .u32] := .int Tryz.underlying85 (by kernel_rfl)
theorem sh_ws : HasSh Tryz.prog 35 [.ws] := .ws Tryz.underlying35 Tryz.underlying85 (by kernel_rfl) (by kernel_rfl)
theorem sh_wss : HasSh Tryz.prog 149 [.rows [.ws]] := .rows Tryz.underlying149 sh_ws (by decide) (by kernel_rfl)
theorem sh_frac : HasSh Tryz.prog 37 shF := by
  refine HasSh.st (l := [[.bool], [.ws], [.ws]]) Tryz.underlying37 rfl (by kernel_rfl) ?_ ?_
  · intro i f h
    rcases i with _ | _ | _ | i
    · cases h; rfl
    · cases h; rfl
    · cases h; rfl
    · have h := (Array.getElem?_eq_some_iff.1 h).1; exact absurd h (by simp)
  · intro i f s h hs
    rcases i with _ | _ | _ | i
    · cases h; cases hs; exact sh_bool
    · cases h; cases hs; exact sh_ws
    · cases h; cases hs; exact sh_ws
    · have h := (Array.getElem?_eq_some_iff.1 h).1; exact absurd h (by simp)
theorem sh_rs : HasSh Tryz.prog 22 [shR] := .rows Tryz.underlying22 sh_frac (by decide) (by kernel_rfl)
theorem sh_fun : HasSh Tryz.prog 24 [shR, shR] := by
  refine HasSh.st (l := [[shR], [shR]]) Tryz.underlying24 rfl (by kernel_rfl) ?_ ?_
  · intro i f h
    rcases i with _ | _ | i
    · cases h; rfl
    · cases h; rfl
    · have h := (Array.getElem?_eq_some_iff.1 h).1; exact absurd h (by simp)
  · intro i f s h hs
    rcases i with _ | _ | i
    · cases h; cases hs; exact sh_rs
    · cases h; cases hs; exact sh_rs
    · have h := (Array.getElem?_eq_some_iff.1 h).1; exact absurd h (by simp)
end Go.Proofs.YtolkecnhncbkhaaGreat.Fw

/- The document's powers; rows of fractions. -/
set_option linter.unusedVariables false
namespace Go.Proofs.YtolkecnhncbkhaaGreat.Fw
open Go Pu
/-! ### Rows of fractions -/
structure FD where
  s : Bool
  n : List Int
  d : List Int
def FD.c (x : FD) : List D := [.bool x.s, .words x.n, .words x.d]
def FD.v (x : FD) : V := fq x.s x.n x.d
def FD.q (x : FD) : Rat := rv x.s x.n x.d
def FD.ok (k : Nat) (x : FD) : Prop := Fk k x.n x.d
def FD.of (q : Rat) : FD := ⟨decide (q.num < 0), toW q.num.natAbs, toW q.den⟩
def FD.none : FD := ⟨false, [], []⟩
theorem FD.q_of (q : Rat) : (FD.of q).q = q := rv_fr q
theorem FD.v_of (q : Rat) : (FD.of q).v = fr q := rfl
def rowsF (l : List FD) : D := .rows 3 (l.map FD.c)
theorem rowsF_get {l : List FD} {i : Nat} (h : i < l.length) : (l.map FD.c)[i]? = some (l.getD i FD.none).c := by
  rw [List.getElem?_map, List.getElem?_eq_getElem h, List.getD_eq_getElem?_getD, List.getElem?_eq_getElem h]; rfl
theorem idx_F {l : List FD} {x : Int} {k : List D → Prop} (i : Nat) (hx : x = (i : Int)) (h : i < l.length) (hk : k (l.getD i FD.none).c) : IdxP (l.map FD.c) x k :=
  idx_intro _ (by omega) (by rw [hx, Int.toNat_natCast]; exact rowsF_get h) hk
theorem FD.getD_mem {l : List FD} {i : Nat} (h : i < l.length) : l.getD i FD.none ∈ l := by
  rw [List.getD_eq_getElem?_getD, List.getElem?_eq_getElem h]; exact List.getElem_mem h
theorem inv_frac {ds : List D} (h : AllR OkD shF ds) : ∃ x : FD, ds = x.c ∧ Wd x.n ∧ Wd x.d ∧ x.n.length ≤ maxLen ∧ x.d.length ≤ maxLen := by
  obtain ⟨u0, us, e0, h0, h1⟩ := h.head
  obtain ⟨u1, us1, e1, h2, h3⟩ := h1.head
  obtain ⟨u2, us2, e2, h4, h5⟩ := h3.head
  obtain rfl := h5.nil_of
  obtain ⟨b, rfl⟩ := inv_bool h0
  obtain ⟨n, rfl, hn, ln⟩ := inv_ws h2
  obtain ⟨d, rfl, hd, ld⟩ := inv_ws h4
  exact ⟨⟨b, n, d⟩, by rw [e0, e1, e2]; rfl, hn, hd, ln, ld⟩
theorem inv_fracs {x : D} (h : OkD shR x) : ∃ l : List FD, x = rowsF l ∧ (∀ y ∈ l, Wd y.n ∧ Wd y.d ∧ y.n.length ≤ maxLen ∧ y.d.length ≤ maxLen) ∧ l.length ≤ maxLen := by
  obtain ⟨l, rfl, h1, h2⟩ := inv_rows h
  have : ∀ (l : List (List D)), (∀ y ∈ l, AllR OkD shF y) → ∃ m : List FD, l = m.map FD.c ∧ ∀ y ∈ m, Wd y.n ∧ Wd y.d ∧ y.n.length ≤ maxLen ∧ y.d.length ≤ maxLen := by
    intro l
    induction l with
    | nil => intro _; exact ⟨[], rfl, by simp⟩
    | cons y l ih =>
      intro h
      obtain ⟨m, rfl, hm⟩ := ih (fun z hz => h z (by simp [hz]))
      obtain ⟨w, e, hw⟩ := inv_frac (h y (by simp))
      refine ⟨w :: m, by rw [e]; rfl, fun z hz => ?_⟩
      rcases List.mem_cons.1 hz with rfl | hz
      · exact hw
      · exact hm z hz
  obtain ⟨m, rfl, hm⟩ := this l h1
  exact ⟨m, rfl, hm, by simpa using h2⟩
theorem wf_i64 {n : Int} (h : (Lit.int .i64 n).wf = true) : -9223372036854775808 ≤ n ∧ n < 9223372036854775808 := by
  simp [Lit.wf, IntKind.min, IntKind.max, IntKind.signed, IntKind.bits] at h
  omega
/-- The greatest of some. -/
def mx (f : Nat → Rat) : Nat → Rat
  | 0 => 0
  | i + 1 => if i = 0 ∨ 0 < sgn (f i - mx f i).num then f i else mx f i
theorem Sz_mx {k : Nat} {f : Nat → Rat} (h1 : 1 ≤ k) : ∀ n, (∀ i, i < n → Sz k (f i)) → Sz k (mx f n) := by
  intro n
  induction n with
  | zero => intro _; exact ⟨by show (toW 0).length ≤ k; rw [toW_zero]; exact Nat.zero_le _, by show (toW 1).length ≤ k; rw [nw1]; exact h1⟩
  | succ n ih =>
    intro h
    unfold mx
    split
    · exact h n (by omega)
    · exact ih (fun i hi => h i (by omega))
end Go.Proofs.YtolkecnhncbkhaaGreat.Fw

/- Fractions as data: short names. -/
set_option linter.unusedVariables false
namespace Go.Proofs.YtolkecnhncbkhaaGreat.Fw
open Go Pu
section
variable {k : Nat} {x y : FD}
theorem fr_inj {p q : Rat} : (decide (p.num < 0) = decide (q.num < 0) ∧ toW p.num.natAbs = toW q.num.natAbs ∧ toW p.den = toW q.den) ↔ p = q := by
  constructor
  · rintro ⟨h1, h2, h3⟩
    apply Rat.ext
    · rw [← sg_self p.num, ← sg_self q.num, h1, toW_inj h2]
    · exact toW_inj h3
  · rintro rfl; exact ⟨rfl, rfl, rfl⟩
theorem dAdd (hx : x.ok k) (hy : y.ok k) (h1 : 1 ≤ k) (hk : k ≤ 34359738368) : Runs Tryz.prog g_frac_Add [x.v, y.v] (fr (x.q + y.q)) := fAdd_spec hx hy h1 hk
theorem dMul (hx : x.ok k) (hy : y.ok k) (h1 : 1 ≤ k) (hk : k ≤ 34359738368) : Runs Tryz.prog g_frac_Mul [x.v, y.v] (fr (x.q * y.q)) := fMul_spec hx hy h1 hk
theorem dCmp (hx : x.ok k) (hy : y.ok k) (h1 : 1 ≤ k) (hk : k ≤ 34359738368) : Runs Tryz.prog g_frac_Cmp [x.v, y.v] (.d (.int .i64 (sgn (x.q - y.q).num))) := fCmp_spec hx hy h1 hk
theorem dSame (hx : x.ok k) (hy : y.ok k) (h1 : 1 ≤ k) (hk : k ≤ 34359738368) : Runs Tryz.prog g_frac_Same [x.v, y.v] (.d (.bool (decide (x.q = y.q)))) := fSame_spec hx hy h1 hk
theorem dSign (hx : x.ok k) (h1 : 1 ≤ k) (hk : k ≤ 34359738368) : Runs Tryz.prog g_frac_Sign [x.v] (.d (.int .i64 (sgn x.q.num))) := fSign_spec hx h1 (by omega)
theorem dNorm (hx : x.ok k) (h1 : 1 ≤ k) (hk : k ≤ 34359738368) : Runs Tryz.prog g_frac_Norm [x.v] (fr x.q) := fNorm_spec hx h1 (by omega)
theorem rNormD (hx : x.ok k) (hk : k ≤ 34359738368) : Runs Tryz.prog g_retrospectref09_Norm [x.v] (fr x.q) := r9Norm_spec hx (by omega)
theorem ToD : Runs Tryz.prog g_retrospectlaw09_To [x.v] x.v := To_spec
theorem FD.ok_of {q : Rat} (h : Sz k q) : (FD.of q).ok k := Fk.fr h
theorem FD.ok.mono {j : Nat} (h : x.ok j) (hk : j ≤ k) : x.ok k := Fk.mono h hk
theorem FD.ok.sz (h : x.ok k) (h1 : 1 ≤ k) : Sz k x.q := Fk.sz h h1
end
theorem half : ((1 : Int) : Rat) / ((2 : Int) : Rat) = rt false 1 2 := by decide +kernel
theorem six4 : ((6 : Int) : Rat) / ((-4 : Int) : Rat) = rt true 3 2 := by decide +kernel
theorem fr_six4 : fr (rt true 3 2) = fq true [3] [2] := by
  rw [fr_rt (by omega) (by omega)]
  show V.agg 3 [.bool true, .words (toW 3), .words (toW 2)] = _
  rw [nw_one (n := 3) (by omega) (by omega), nw_one (n := 2) (by omega) (by omega)]; rfl
theorem fr_half : fr (rt false 1 2) = fq false [1] [2] := by
  rw [fr_rt (by omega) (by omega)]
  show V.agg 3 [.bool false, .words (toW 1), .words (toW 2)] = _
  rw [nw_one (n := 1) (by omega) (by omega), nw_one (n := 2) (by omega) (by omega)]; rfl
theorem longOr {x : FD} {m : Int} (h : (decide ((x.n.length : Int) > m) || decide ((x.d.length : Int) > m)) = false) : (x.n.length : Int) ≤ m ∧ (x.d.length : Int) ≤ m := by
  simp only [Bool.or_eq_false_iff, decide_eq_false_iff_not] at h
  omega
theorem LongD {x : FD} {m : Int} : Runs Tryz.prog g_retrospectref09_Long [x.v, .d (.int .i64 m)] (.d (.bool (decide ((x.n.length : Int) > m) || decide ((x.d.length : Int) > m)))) := r9Long_spec
def FD.sz (x : FD) : Nat := bits (val x.n) + bits (val x.d)
theorem FD.sz_le {k : Nat} {x : FD} (h : x.ok k) : x.sz ≤ 64 * k := by
  have h1 := bits_len h.wn
  have h2 := bits_len h.wd
  have h3 := h.ln
  have h4 := h.ld
  unfold FD.sz
  omega
end Go.Proofs.YtolkecnhncbkhaaGreat.Fw

/- nil as a row of the call's own, that is empty; rows of fractions. -/
set_option linter.unusedVariables false
namespace Go.Proofs.YtolkecnhncbkhaaGreat.Fw
open Go
theorem weak_nil_own {c : Ctx} {s : St} (t d : Nat) (m : MO) {e sz : Nat} (ht : s.env t = .nils) (hd : s.mem d = none) (hdN : Nat.blt d c.N = true) (hr : m.row? = some (e, sz, 0, [])) (hz : 0 < sz) : Weak c ((s.upd d m).put (some t) (.own d 0 0)) s := by
  unfold Weak
  rintro a w ⟨F, ν, h⟩
  have hnew := h.new (w' := w) (i := d) (obj := m) (Nat.le_of_ble_eq_true hdN) hd (v := .slice none 0 0) (fun b hb => by simp [blk] at hb) rfl rfl rfl (Nat.le_refl _) (fun _ _ => rfl) (MRep.ofRow hr hz (World.ownsRow_nil w 0 e sz) AllR.nil)
  refine ⟨F, nuSet ν d (.slice none 0 0), hnew.sz, hnew.dfr, fun x => ?_, hnew.mem, hnew.sep, hnew.inj, hnew.fin, hnew.keep, hnew.base, hnew.nu⟩
  rw [put_env]
  by_cases hx : x = t
  · rw [if_pos hx, hx]
    have he := h.env t
    rw [ht] at he
    have he : a.tmps.getD t undef = .slice none 0 0 := he
    rw [he]
    exact ⟨m, e, sz, 0, [], none, 0, 0, by show (s.upd d m).mem d = some m; rw [upd_mem, if_pos rfl], hr, Nat.le_refl _, .inl rfl, by simp [nuSet], rfl⟩
  · rw [if_neg hx]
    exact hnew.env x
end Go.Proofs.YtolkecnhncbkhaaGreat.Fw

/- Rows of fractions. -/
set_option linter.unusedVariables false
namespace Go.Proofs.YtolkecnhncbkhaaGreat.Fw
open Go Pu
theorem rowsF_all (l : List FD) : (l.map FD.c).all (fun x => x.length == 3) = true := by
  induction l with
  | nil => rfl
  | cons x l ih => rw [List.map_cons, List.all_cons, ih]; rfl
theorem rowsF_row (e : TypeId) (l : List FD) : (MO.rows e 3 (l.map FD.c)).row? = some (e, 3, l.length, (l.map FD.c).flatten) := by
  simp only [MO.row?, rowsF_all, if_true, List.length_map]
theorem rowsF_len (l : List FD) : (l.map FD.c).flatten.length = l.length * 3 := by
  induction l with
  | nil => rfl
  | cons x l ih => rw [List.map_cons, List.flatten_cons, List.length_append, ih]; show 3 + l.length * 3 = (l.length + 1) * 3; omega
theorem snap_F (e : TypeId) (l : List FD) {n : Nat} (h : n = l.length) : snapM (.rows e 3 (l.map FD.c)) 0 n = .d (rowsF l) := by
  show V.d (.rows 3 (((l.map FD.c).drop 0).take n)) = _
  rw [List.drop_zero, List.take_of_length_le (by rw [List.length_map]; omega)]; rfl
theorem take_succF {l : List FD} {i : Nat} (h : i < l.length) : (l.take (i + 1)).map FD.c = (l.take i).map FD.c ++ [(l.getD i FD.none).c] := by
  rw [List.take_succ_eq_append_getElem h, List.map_append, List.getD_eq_getElem?_getD, List.getElem?_eq_getElem h]; rfl
def qs (l : List FD) (i : Nat) : Rat := (l.getD i FD.none).q
end Go.Proofs.YtolkecnhncbkhaaGreat.Fw

/- Polynomials: plain law over rows of fractions. -/
set_option linter.unusedVariables false
set_option linter.unusedSimpArgs false
namespace Go.Proofs.YtolkecnhncbkhaaGreat.Fw
open Go Pu
def sumTo : Nat → (Nat → Rat) → Rat
  | 0, _ => 0
  | n + 1, h => sumTo n h + h n
theorem sumTo_congr {f g : Nat → Rat} : ∀ {n : Nat}, (∀ i, i < n → f i = g i) → sumTo n f = sumTo n g
  | 0, _ => rfl
  | n + 1, h => by
    show sumTo n f + f n = sumTo n g + g n
    rw [sumTo_congr (n := n) (fun i hi => h i (by omega)), h n (by omega)]
theorem sumTo_zero {f : Nat → Rat} : ∀ {n : Nat}, (∀ i, i < n → f i = 0) → sumTo n f = 0
  | 0, _ => rfl
  | n + 1, h => by
    show sumTo n f + f n = 0
    rw [sumTo_zero (n := n) (fun i hi => h i (by omega)), h n (by omega)]; grind
theorem sumTo_add (f g : Nat → Rat) : ∀ n : Nat, sumTo n (fun i => f i + g i) = sumTo n f + sumTo n g
  | 0 => by show (0 : Rat) = 0 + 0; grind
  | n + 1 => by
    show sumTo n (fun i => f i + g i) + (f n + g n) = (sumTo n f + f n) + (sumTo n g + g n)
    rw [sumTo_add f g n]; grind
theorem sumTo_mul (c : Rat) (f : Nat → Rat) : ∀ n : Nat, sumTo n (fun i => c * f i) = c * sumTo n f
  | 0 => (Rat.mul_zero c).symm
  | n + 1 => by
    show sumTo n (fun i => c * f i) + c * f n = c * (sumTo n f + f n)
    rw [sumTo_mul c f n]; grind
theorem sumTo_shift (f : Nat → Rat) : ∀ n : Nat, sumTo (n + 1) f = f 0 + sumTo n (fun i => f (i + 1))
  | 0 => by show 0 + f 0 = f 0 + 0; grind
  | n + 1 => by
    show sumTo (n + 1) f + f (n + 1) = f 0 + (sumTo n (fun i => f (i + 1)) + f (n + 1))
    rw [sumTo_shift f n]; grind
theorem sumTo_more {f : Nat → Rat} {m : Nat} : ∀ {n : Nat}, m ≤ n → (∀ i, m ≤ i → i < n → f i = 0) → sumTo n f = sumTo m f
  | 0, h, _ => by have : m = 0 := by omega
                  rw [this]
  | n + 1, h, hz => by
    rcases Nat.lt_or_ge n m with h1 | h1
    · have : m = n + 1 := by omega
      rw [this]
    · show sumTo n f + f n = _
      rw [hz n h1 (by omega), sumTo_more h1 (fun i h2 h3 => hz i h2 (by omega))]; grind
theorem sumTo_one {f : Nat → Rat} {n k : Nat} (hk : k < n) (h : ∀ i, i < n → i ≠ k → f i = 0) : sumTo n f = f k := by
  induction n with
  | zero => omega
  | succ n ih =>
    show sumTo n f + f n = f k
    by_cases hkn : k = n
    · subst hkn
      rw [sumTo_zero (fun i hi => h i (by omega) (by omega))]; grind
    · rw [ih (by omega) (fun i hi hn => h i (by omega) hn), h n (by omega) (by omega)]; grind
def conv (f g : Nat → Rat) (n : Nat) : Rat := sumTo (n + 1) (fun i => f i * g (n - i))
theorem conv_zero (f g : Nat → Rat) : conv f g 0 = f 0 * g 0 := by show 0 + f 0 * g (0 - 0) = _; rw [Nat.sub_zero]; grind
theorem conv_succ (f g : Nat → Rat) (n : Nat) : conv f g (n + 1) = f 0 * g (n + 1) + conv (fun i => f (i + 1)) g n := by
  unfold conv
  rw [sumTo_shift, Nat.sub_zero]
  congr 1
  exact sumTo_congr (fun i hi => by rw [Nat.add_sub_add_right])
theorem conv_congr {f f' g g' : Nat → Rat} (h1 : ∀ i, f i = f' i) (h2 : ∀ i, g i = g' i) (n : Nat) : conv f g n = conv f' g' n := sumTo_congr (fun i hi => by rw [h1, h2])
theorem conv_add_left (f f' g : Nat → Rat) (n : Nat) : conv (fun i => f i + f' i) g n = conv f g n + conv f' g n := by
  unfold conv
  rw [← sumTo_add]
  exact sumTo_congr (fun i hi => by grind)
theorem conv_smul (c : Rat) (f g : Nat → Rat) (n : Nat) : conv (fun i => c * f i) g n = c * conv f g n := by
  unfold conv
  rw [← sumTo_mul]
  exact sumTo_congr (fun i hi => by grind)
theorem conv_comm (f g : Nat → Rat) : ∀ n, conv f g n = conv g f n := by
  have rev : ∀ (n : Nat) (h : Nat → Rat), sumTo (n + 1) h = sumTo (n + 1) (fun i => h (n - i)) := by
    intro n
    induction n with
    | zero => intro h; rfl
    | succ n ih =>
      intro h
      rw [sumTo_shift (fun i => h (n + 1 - i)) (n + 1)]
      show sumTo (n + 1) h + h (n + 1) = _
      rw [ih h, Nat.sub_zero]
      have : sumTo (n + 1) (fun i => h (n - i)) = sumTo (n + 1) (fun i => h (n + 1 - (i + 1))) := sumTo_congr (fun i hi => by rw [Nat.add_sub_add_right])
      rw [this]; grind
  intro n
  unfold conv
  rw [rev n (fun i => f i * g (n - i))]
  exact sumTo_congr (fun i hi => by
    show f (n - i) * g (n - (n - i)) = g i * f (n - i)
    rw [show n - (n - i) = i by omega]; grind)
theorem conv_add_right (f g g' : Nat → Rat) (n : Nat) : conv f (fun i => g i + g' i) n = conv f g n + conv f g' n := by
  rw [conv_comm, conv_add_left, conv_comm g, conv_comm g']
theorem conv_smul_right (c : Rat) (f g : Nat → Rat) (n : Nat) : conv f (fun i => c * g i) n = c * conv f g n := by
  rw [conv_comm, conv_smul, conv_comm g]
theorem conv_null {f g : Nat → Rat} (h : ∀ i, f i = 0) (n : Nat) : conv f g n = 0 := sumTo_zero (fun i hi => by rw [h]; grind)
theorem conv_assoc (f g h : Nat → Rat) : ∀ n, conv (conv f g) h n = conv f (conv g h) n := by
  intro n
  induction n generalizing f with
  | zero => rw [conv_zero, conv_zero, conv_zero, conv_zero]; grind
  | succ n ih =>
    rw [conv_succ, conv_succ f (conv g h), conv_zero]
    have e : conv (fun i => conv f g (i + 1)) h n = f 0 * conv (fun i => g (i + 1)) h n + conv (conv (fun i => f (i + 1)) g) h n := by
      rw [conv_congr (f' := fun i => f 0 * g (i + 1) + conv (fun i => f (i + 1)) g i) (g' := h) (fun i => conv_succ f g i) (fun i => rfl), conv_add_left, conv_smul]
    rw [e, ih, conv_succ g h]; grind
/-- Values. -/
def ev' (f : Nat → Rat) (x : Rat) (n : Nat) : Rat := sumTo n (fun i => f i * x ^ i)
theorem vl_succ (f : Nat → Rat) (x : Rat) (n : Nat) : ev' f x (n + 1) = f 0 + x * ev' (fun i => f (i + 1)) x n := by
  unfold ev'
  rw [sumTo_shift, ← sumTo_mul, Rat.pow_zero, Rat.mul_one]
  congr 1
  exact sumTo_congr (fun i hi => by rw [Rat.pow_succ]; grind)
theorem vl_more {f : Nat → Rat} {x : Rat} {m n : Nat} (h : m ≤ n) (hz : ∀ i, m ≤ i → f i = 0) : ev' f x n = ev' f x m := sumTo_more h (fun i h1 _ => by rw [hz i h1]; grind)
theorem vl_add (f g : Nat → Rat) (x : Rat) (n : Nat) : ev' (fun i => f i + g i) x n = ev' f x n + ev' g x n := by
  unfold ev'
  rw [← sumTo_add]
  exact sumTo_congr (fun i hi => by grind)
theorem vl_smul (c : Rat) (f : Nat → Rat) (x : Rat) (n : Nat) : ev' (fun i => c * f i) x n = c * ev' f x n := by
  unfold ev'
  rw [← sumTo_mul]
  exact sumTo_congr (fun i hi => by grind)
theorem vl_congr {f g : Nat → Rat} {x : Rat} {n : Nat} (h : ∀ i, i < n → f i = g i) : ev' f x n = ev' g x n := sumTo_congr (fun i hi => by rw [h i hi])
theorem vl_conv (x : Rat) (g : Nat → Rat) (n : Nat) (hg : ∀ i, n ≤ i → g i = 0) : ∀ (m : Nat) (f : Nat → Rat), (∀ i, m ≤ i → f i = 0) → ev' (conv f g) x (m + n) = ev' f x m * ev' g x n := by
  intro m
  induction m with
  | zero =>
    intro f hf
    have h1 : ev' (conv f g) x (0 + n) = 0 := sumTo_zero (fun i hi => by rw [conv_null (fun j => hf j (Nat.zero_le _))]; grind)
    have h2 : ev' f x 0 = 0 := rfl
    rw [h1, h2]; grind
  | succ m ih =>
    intro f hf
    rw [show m + 1 + n = (m + n) + 1 by omega, vl_succ, vl_succ f x m, conv_zero]
    have e : ev' (fun i => conv f g (i + 1)) x (m + n) = f 0 * ev' (fun i => g (i + 1)) x (m + n) + ev' (conv (fun i => f (i + 1)) g) x (m + n) := by
      rw [vl_congr (g := fun i => f 0 * g (i + 1) + conv (fun i => f (i + 1)) g i) (fun i _ => conv_succ f g i), vl_add, vl_smul]
    have h2 : ev' g x n = g 0 + x * ev' (fun i => g (i + 1)) x (m + n) := by
      rw [← vl_succ, vl_more (m := n) (n := m + n + 1) (by omega) hg]
    rw [e, ih (fun i => f (i + 1)) (fun i hi => hf (i + 1) (by omega)), h2]; grind
/-- Derivatives. -/
def dif (f : Nat → Rat) (n : Nat) : Rat := ((n + 1 : Nat) : Int) * f (n + 1)
theorem cast_succ (n : Nat) : (((n + 1 : Nat) : Int) : Rat) = ((n : Int) : Rat) + 1 := by
  rw [show ((n + 1 : Nat) : Int) = (n : Int) + 1 by omega, Rat.intCast_add]; rfl
theorem dif_conv (f g : Nat → Rat) (n : Nat) : dif (conv f g) n = conv (dif f) g n + conv f (dif g) n := by
  induction n generalizing f with
  | zero =>
    unfold dif
    rw [conv_succ, conv_zero, conv_zero, conv_zero]
    grind
  | succ n ih =>
    have h1 := ih (fun i => f (i + 1))
    unfold dif at h1 ⊢
    rw [conv_succ f g, conv_succ (fun n => ((n + 1 : Nat) : Int) * f (n + 1)) g, conv_succ f (fun n => ((n + 1 : Nat) : Int) * g (n + 1))]
    have e : conv (fun i => (((i + 1 + 1 : Nat) : Int) : Rat) * f (i + 1 + 1)) g n = conv (fun i => (((i + 1 : Nat) : Int) : Rat) * f (i + 1 + 1)) g n + conv (fun i => f (i + 1 + 1)) g n := by
      rw [← conv_add_left]
      exact conv_congr (fun i => by rw [cast_succ (i + 1)]; grind) (fun i => rfl) n
    have e2 := conv_succ (fun i => f (i + 1)) g n
    have c0 : (((0 + 1 : Nat) : Int) : Rat) = 1 := rfl
    rw [e, c0, cast_succ (n + 1)]
    grind
end Go.Proofs.YtolkecnhncbkhaaGreat.Fw

/- Polynomials: rows of coefficients, right ones. -/
set_option linter.unusedVariables false
set_option linter.unusedSimpArgs false
namespace Go.Proofs.YtolkecnhncbkhaaGreat.Fw
open Go Pu
def co (l : List Rat) (i : Nat) : Rat := l.getD i 0
theorem co_nil (i : Nat) : co [] i = 0 := rfl
theorem co_zero (a : Rat) (l : List Rat) : co (a :: l) 0 = a := rfl
theorem co_succ (a : Rat) (l : List Rat) (i : Nat) : co (a :: l) (i + 1) = co l i := rfl
theorem co_ge {l : List Rat} {i : Nat} (h : l.length ≤ i) : co l i = 0 := by
  unfold co
  rw [List.getD_eq_getElem?_getD, List.getElem?_eq_none h]; rfl
theorem co_mem {l : List Rat} {i : Nat} (h : i < l.length) : co l i ∈ l := by
  unfold co
  rw [List.getD_eq_getElem?_getD, List.getElem?_eq_getElem h]; exact List.getElem_mem h
theorem ext_co {a b : List Rat} (hl : a.length = b.length) (h : ∀ i, co a i = co b i) : a = b := by
  apply List.ext_getElem hl
  intro i h1 h2
  have := h i
  unfold co at this
  rw [List.getD_eq_getElem?_getD, List.getD_eq_getElem?_getD, List.getElem?_eq_getElem h1, List.getElem?_eq_getElem h2] at this
  exact this
theorem co_mk (f : Nat → Rat) (n i : Nat) : co ((List.range n).map f) i = if i < n then f i else 0 := by
  unfold co
  rw [List.getD_eq_getElem?_getD, List.getElem?_map]
  split
  · rename_i h; rw [List.getElem?_range h]; rfl
  · rename_i h; rw [List.getElem?_eq_none (by rw [List.length_range]; omega)]; rfl
def trim : List Rat → List Rat
  | [] => []
  | a :: l => if trim l = [] ∧ a = 0 then [] else a :: trim l
theorem co_trim : ∀ (l : List Rat) (i : Nat), co (trim l) i = co l i
  | [], _ => rfl
  | a :: l, i => by
    unfold trim
    split
    · rename_i h
      cases i with
      | zero => rw [co_zero, h.2]; rfl
      | succ i => rw [co_succ, ← co_trim l i, h.1]; rfl
    · cases i with
      | zero => rfl
      | succ i => rw [co_succ, co_succ, co_trim l i]
theorem trim_len : ∀ l : List Rat, (trim l).length ≤ l.length
  | [] => Nat.le_refl _
  | a :: l => by
    unfold trim
    have := trim_len l
    split <;> simp only [List.length_cons, List.length_nil] <;> omega
theorem trim_mem {q : Rat} : ∀ {l : List Rat}, q ∈ trim l → q ∈ l
  | [], h => h
  | a :: l, h => by
    unfold trim at h
    split at h
    · cases h
    · rcases List.mem_cons.1 h with h | h
      · rw [h]; exact List.mem_cons_self
      · exact List.mem_cons_of_mem _ (trim_mem h)
theorem trim_top : ∀ {l : List Rat}, trim l ≠ [] → co (trim l) ((trim l).length - 1) ≠ 0
  | [], h => absurd rfl h
  | a :: l, h => by
    unfold trim at h ⊢
    split at h
    · exact absurd rfl h
    · rename_i h1
      rw [if_neg h1]
      by_cases h2 : trim l = []
      · rw [h2]
        show a ≠ 0
        intro h3; exact h1 ⟨h2, h3⟩
      · have h3 := trim_top h2
        have h4 : (trim l).length ≠ 0 := fun e => h2 (List.eq_nil_of_length_eq_zero e)
        rw [List.length_cons, show (trim l).length + 1 - 1 = ((trim l).length - 1) + 1 by omega, co_succ]
        exact h3
theorem trim_null : ∀ {l : List Rat}, (∀ i, co l i = 0) → trim l = []
  | [], _ => rfl
  | a :: l, h => by
    unfold trim
    rw [if_pos ⟨trim_null (fun i => h (i + 1)), h 0⟩]
theorem trim_inj : ∀ {a b : List Rat}, (∀ i, co a i = co b i) → trim a = trim b
  | [], b, h => (trim_null (fun i => (h i).symm)).symm
  | a :: l, [], h => trim_null h
  | a :: l, b :: m, h => by
    have h0 : a = b := h 0
    have h1 : trim l = trim m := trim_inj (fun i => h (i + 1))
    unfold trim
    rw [h0, h1]
theorem trim_iff {a b : List Rat} : trim a = trim b ↔ ∀ i, co a i = co b i := ⟨fun h i => by rw [← co_trim a, ← co_trim b, h], trim_inj⟩
theorem trim_self : ∀ {l : List Rat}, (l = [] ∨ co l (l.length - 1) ≠ 0) → trim l = l
  | [], _ => rfl
  | a :: l, h => by
    rcases h with h | h
    · cases h
    · unfold trim
      by_cases h2 : l = []
      · subst h2
        rw [if_neg (by intro h3; exact h h3.2)]; rfl
      · have h4 : l.length ≠ 0 := fun e => h2 (List.eq_nil_of_length_eq_zero e)
        rw [List.length_cons, show l.length + 1 - 1 = (l.length - 1) + 1 by omega, co_succ] at h
        have h5 := trim_self (.inr h)
        rw [h5, if_neg (fun h6 => h2 h6.1)]
theorem trim_trim (l : List Rat) : trim (trim l) = trim l := trim_inj (co_trim l)
theorem trim_take {l : List Rat} {n : Nat} (hn : n ≤ l.length) (hz : ∀ i, n ≤ i → co l i = 0) (ht : n = 0 ∨ co l (n - 1) ≠ 0) : trim l = l.take n := by
  have hc : ∀ i, co (l.take n) i = co l i := by
    intro i
    rcases Nat.lt_or_ge i n with h | h
    · unfold co
      rw [List.getD_eq_getElem?_getD, List.getD_eq_getElem?_getD, List.getElem?_take, if_pos h]
    · rw [hz i h, co_ge (by rw [List.length_take]; omega)]
  have hlen : (l.take n).length = n := by rw [List.length_take]; omega
  rw [← trim_inj hc]
  apply trim_self
  rcases ht with h | h
  · left
    exact List.eq_nil_of_length_eq_zero (by rw [hlen]; exact h)
  · right
    rw [hlen, hc]; exact h
/-- The sum, a multiple, the product, the derivative: coefficients as rows. -/
def padd (a b : List Rat) : List Rat := (List.range (max a.length b.length)).map (fun i => co a i + co b i)
def pscale (c : Rat) (a : List Rat) : List Rat := a.map (c * ·)
def pmul (a b : List Rat) : List Rat := (List.range (a.length + b.length)).map (conv (co a) (co b))
def pdif (a : List Rat) : List Rat := (List.range (a.length - 1)).map (dif (co a))
def pev (a : List Rat) (x : Rat) : Rat := ev' (co a) x a.length
theorem co_padd (a b : List Rat) (i : Nat) : co (padd a b) i = co a i + co b i := by
  unfold padd
  rw [co_mk]
  split
  · rfl
  · rw [co_ge (l := a) (by omega), co_ge (l := b) (by omega)]; grind
theorem co_pscale (c : Rat) : ∀ (a : List Rat) (i : Nat), co (pscale c a) i = c * co a i
  | [], i => by show (0 : Rat) = c * 0; grind
  | a :: l, 0 => rfl
  | a :: l, i + 1 => co_pscale c l i
theorem co_pmul (a b : List Rat) (n : Nat) : co (pmul a b) n = conv (co a) (co b) n := by
  unfold pmul
  rw [co_mk]
  split
  · rfl
  · rename_i h
    refine (sumTo_zero (fun i hi => ?_)).symm
    rcases Nat.lt_or_ge i a.length with h1 | h1
    · rw [co_ge (l := b) (by omega)]; grind
    · rw [co_ge h1]; grind
theorem co_pdif (a : List Rat) (n : Nat) : co (pdif a) n = dif (co a) n := by
  unfold pdif
  rw [co_mk]
  split
  · rfl
  · unfold dif
    rw [co_ge (l := a) (by omega)]; grind
theorem pev_any {a : List Rat} {x : Rat} {n : Nat} (h : a.length ≤ n) : ev' (co a) x n = pev a x := vl_more h (fun i hi => co_ge hi)
theorem pev_trim (a : List Rat) (x : Rat) : pev (trim a) x = pev a x := by
  rw [← pev_any (a := trim a) (trim_len a)]
  exact vl_congr (fun i _ => co_trim a i)
theorem pev_nil (x : Rat) : pev [] x = 0 := rfl
theorem pev_cons (c : Rat) (l : List Rat) (x : Rat) : pev (c :: l) x = c + x * pev l x := by
  show ev' (co (c :: l)) x (l.length + 1) = _
  rw [vl_succ]; rfl
theorem pev_pmul (a b : List Rat) (x : Rat) : pev (pmul a b) x = pev a x * pev b x := by
  have h := vl_conv x (co b) b.length (fun i hi => co_ge hi) a.length (co a) (fun i hi => co_ge hi)
  have hl : (pmul a b).length = a.length + b.length := by unfold pmul; rw [List.length_map, List.length_range]
  show ev' (co (pmul a b)) x (pmul a b).length = _
  rw [hl, vl_congr (fun i _ => co_pmul a b i), h]; rfl
theorem pev_padd (a b : List Rat) (x : Rat) : pev (padd a b) x = pev a x + pev b x := by
  have hl : (padd a b).length = max a.length b.length := by unfold padd; rw [List.length_map, List.length_range]
  show ev' (co (padd a b)) x (padd a b).length = _
  rw [hl, vl_congr (fun i _ => co_padd a b i), vl_add, pev_any (by omega), pev_any (by omega)]
/-- The derivative of a product. -/
theorem pdif_pmul (a b : List Rat) : trim (pdif (pmul a b)) = trim (padd (pmul (pdif a) b) (pmul a (pdif b))) := by
  refine trim_inj (fun i => ?_)
  rw [co_pdif, co_padd, co_pmul, co_pmul]
  have h1 : dif (co (pmul a b)) i = dif (conv (co a) (co b)) i := by unfold dif; rw [co_pmul]
  rw [h1, dif_conv, conv_congr (f := co (pdif a)) (f' := dif (co a)) (g := co b) (g' := co b) (co_pdif a) (fun _ => rfl), conv_congr (f := co a) (f' := co a) (g := co (pdif b)) (g' := dif (co b)) (fun _ => rfl) (co_pdif b)]
end Go.Proofs.YtolkecnhncbkhaaGreat.Fw

/- Signs and order. -/
set_option linter.unusedVariables false
namespace Go.Proofs.YtolkecnhncbkhaaGreat.Fw
open Go Pu
theorem num_pos {q : Rat} : 0 < q.num ↔ 0 < q := by
  have h1 := Rat.num_nonneg (q := q)
  have h2 := num_zero (q := q)
  constructor
  · intro h
    have h3 := h1.1 (by omega)
    rcases Rat.le_iff_lt_or_eq.1 h3 with h4 | h4
    · exact h4
    · exfalso; rw [← h4] at h; exact absurd h (by decide)
  · intro h
    have h3 := h1.2 (Rat.le_of_lt h)
    have h4 : q.num ≠ 0 := fun e => Rat.ne_of_gt h (h2.1 e)
    omega
theorem num_neg {q : Rat} : q.num < 0 ↔ q < 0 := by
  have h := num_pos (q := -q)
  rw [Rat.neg_num] at h
  have e : (0 < -q) ↔ q < 0 := by rw [Rat.lt_neg_iff]; exact Iff.rfl
  rw [← e, ← h]
  omega
theorem sgn_cases (q : Rat) : (0 < q ∧ sgn q.num = 1) ∨ (q = 0 ∧ sgn q.num = 0) ∨ (q < 0 ∧ sgn q.num = -1) := by
  unfold sgn
  by_cases h1 : q.num < 0
  · rw [if_pos h1]; exact .inr (.inr ⟨num_neg.1 h1, rfl⟩)
  · rw [if_neg h1]
    by_cases h2 : q.num = 0
    · rw [if_pos h2]; exact .inr (.inl ⟨num_zero.1 h2, rfl⟩)
    · rw [if_neg h2]; exact .inl ⟨num_pos.1 (by omega), rfl⟩
theorem sgn_neg' (q : Rat) : sgn (-q).num = -sgn q.num := by rw [Rat.neg_num]; unfold sgn; split <;> split <;> (try split) <;> (try split) <;> omega
theorem sgn_pos {q : Rat} : sgn q.num = 1 ↔ 0 < q := by
  rw [← num_pos]; unfold sgn; split <;> (try split) <;> omega
theorem sgn_negi {q : Rat} : sgn q.num = -1 ↔ q < 0 := by
  rw [← num_neg]; unfold sgn; split <;> (try split) <;> omega
theorem sgn_zeroq {q : Rat} : sgn q.num = 0 ↔ q = 0 := by rw [sgn_zero, num_zero]
theorem neg_pos' {q : Rat} : q < 0 ↔ 0 < -q := by rw [Rat.lt_neg_iff]; exact Iff.rfl
theorem sgn_mul (p q : Rat) : sgn (p * q).num = sgn p.num * sgn q.num := by
  rcases sgn_cases p with ⟨h1, e1⟩ | ⟨h1, e1⟩ | ⟨h1, e1⟩ <;> rcases sgn_cases q with ⟨h2, e2⟩ | ⟨h2, e2⟩ | ⟨h2, e2⟩ <;> rw [e1, e2]
  · exact sgn_pos.2 (Rat.mul_pos h1 h2)
  · rw [h2, Rat.mul_zero]; rfl
  · refine sgn_negi.2 (neg_pos'.2 ?_)
    rw [← Rat.mul_neg]; exact Rat.mul_pos h1 (neg_pos'.1 h2)
  · rw [h1, Rat.zero_mul]; rfl
  · rw [h1, Rat.zero_mul]; rfl
  · rw [h1, Rat.zero_mul]; rfl
  · refine sgn_negi.2 (neg_pos'.2 ?_)
    rw [← Rat.neg_mul]; exact Rat.mul_pos (neg_pos'.1 h1) h2
  · rw [h2, Rat.mul_zero]; rfl
  · refine sgn_pos.2 ?_
    have := Rat.mul_pos (neg_pos'.1 h1) (neg_pos'.1 h2)
    rw [Rat.neg_mul, Rat.mul_neg, Rat.neg_neg] at this
    exact this
theorem sgn_bd (z : Int) : -1 ≤ sgn z ∧ sgn z ≤ 1 := by unfold sgn; split <;> (try split) <;> omega
theorem sub_eq (p q : Rat) : p - q = p + -q := Rat.sub_eq_add_neg p q
end Go.Proofs.YtolkecnhncbkhaaGreat.Fw
