/- Quotient and rest. -/
import Derived.Test.YthefflmebkcilaaSG
set_option linter.unusedVariables false
namespace Go.Proofs.Ythefflmebkcilaa.Fw
open Go Pu
theorem Up_spec {a : List Int} {n : Nat} (hwa : Wd a) (ha : a.length ≤ 274877906944) (hn : n < 32) : Runs Try.prog g_twos_Up [.d (.words a), .d (.int .i64 (n : Int))] (.d (.words (toW (val a * 2 ^ n)))) := by
  have := runs_of_G (Up_specG hwa ha hn) rfl rfl
  have e : snapR [(56, MO.words tU32 (toW (val a * 2 ^ n)))] (.own 56 0 (toW (val a * 2 ^ n)).length) = .d (.words (toW (val a * 2 ^ n))) := by
    show V.d (.words (((toW (val a * 2 ^ n)).drop 0).take (toW (val a * 2 ^ n)).length)) = _
    rw [List.drop_zero, List.take_length]
  rw [e] at this
  exact this
theorem bits_le {x : Nat} (h : x < 4294967296) : bits x ≤ 32 := by
  unfold bits
  split
  · omega
  · rename_i h0
    have := (Nat.log2_lt h0).2 (show x < 2 ^ 32 from h)
    omega
theorem bits_pos {x : Nat} (h : x ≠ 0) : 0 < bits x := by
  unfold bits
  rw [if_neg h]; omega
theorem snap_all (e : TypeId) (l : List Int) {n : Nat} (h : n = l.length) : snapM (.words e l) 0 n = .d (.words l) := by
  show V.d (.words ((l.drop 0).take n)) = _
  rw [List.drop_zero, h, List.take_length]
theorem Div_zero {a b : List Int} (hwb : Wd b) (hb : b.length ≤ 274877906944) (h0 : val b = 0) : Runs Try.prog g_quot_Div [.d (.words a), .d (.words b)] (.tup [.d (.words []), .d (.words []), .d (.bool false)]) := by
  refine run1 [52] p_quot_Div rfl rfl (fun B S F0 w0 V0 => ?_)
  refine call_intro _ (norm_spec hwb (by omega)) ?_
  rw [h0, toW_zero]
  refine split_true rfl ?_
  exact ret_intro rfl rfl
set_option maxHeartbeats 2000000 in
theorem Div_spec {a b : List Int} (hwa : Wd a) (hwb : Wd b) (ha : a.length ≤ 137438953472) (hb : b.length ≤ 274877906944) (h0 : val b ≠ 0) : Runs Try.prog g_quot_Div [.d (.words a), .d (.words b)] (.tup [.d (.words (toW (val a / val b))), .d (.words (toW (val a % val b))), .d (.bool true)]) := by
  refine run1 [52] p_quot_Div rfl rfl (fun B S F0 w0 V0 => ?_)
  refine call_intro _ (norm_spec hwb (by omega)) ?_
  have hbl := toW_len_val_le hwb
  obtain ⟨vb, hvb⟩ : ∃ vb, vb = val b := ⟨_, rfl⟩
  have hw : Wd (toW vb) := Wd.toW vb
  have hbl' : (toW vb).length ≤ 274877906944 := by rw [hvb]; omega
  have hpos : 0 < vb := by omega
  have hlen0 : (toW vb).length ≠ 0 := by rw [Ne, toW_len_zero]; omega
  rw [← hvb]
  refine split_false (beq_eq_false_iff_ne.2 (by show ((toW vb).length : Int) ≠ 0; omega)) ?_
  refine call_intro _ (Cmp_spec hwa hw (by omega) (by omega)) ?_
  rw [val_toW]
  refine split_intro (fun h => ?_) (fun h => ?_)
  · have h : val a < vb := cmpI_lt.1 (of_decide_eq_true h)
    refine call_intro _ (norm_spec hwa (by omega)) ?_
    refine ret_intro (tup3 (ws_inj ?_) (ws_inj ?_) rfl) rfl
    · rw [Nat.div_eq_of_lt h, toW_zero]
    · rw [Nat.mod_eq_of_lt h]
  have h : ¬ val a < vb := fun hh => absurd (cmpI_lt.2 hh) (of_decide_eq_false h)
  refine split_intro (fun h1 => ?_) (fun h1 => ?_)
  · have h1 : ((toW vb).length : Int) = 1 := eq_of_beq h1
    have hone : toW vb = [(vb : Int)] ∧ vb < 4294967296 := by
      have hlt := val_lt hw
      rw [val_toW, show (toW vb).length = 1 by omega] at hlt
      refine ⟨?_, by omega⟩
      rw [toW_pos (by omega), Nat.div_eq_of_lt (by omega), toW_zero, Nat.mod_eq_of_lt (by omega)]
    rw [hone.1]
    refine idx_w 0 rfl (by show 0 < 1; omega) ?_
    have hwd := Word_spec (x := (vb : Int)) hwa (by omega) ⟨by omega, by omega⟩ (by omega)
    rw [Int.toNat_natCast] at hwd
    refine call_intro _ hwd ?_
    have hmlt : val a % vb < vb := Nat.mod_lt _ hpos
    have ec : IntKind.u64.wrap ((val a % vb : Nat) : Int) = ((val a % vb : Nat) : Int) := by rw [w64]; generalize val a % vb = z at hmlt ⊢; omega
    have hof := Of_spec (n := IntKind.u64.wrap ((val a % vb : Nat) : Int)) (by rw [ec]; omega) (by rw [ec]; generalize val a % vb = z at hmlt ⊢; omega)
    refine call_intro _ hof ?_
    refine ret_intro (tup3 rfl (ws_inj ?_) rfl) rfl
    rw [ec, Int.toNat_natCast]
  have h1 : ¬ ((toW vb).length : Int) = 1 := beq_eq_false_iff_ne.1 h1
  have e1 : IntKind.i64.wrap (((toW vb).length : Int) - 1) = (((toW vb).length - 1 : Nat) : Int) := by rw [wr (by omega) (by omega)]; omega
  refine idx_w ((toW vb).length - 1) e1 (by omega) ?_
  obtain ⟨t, ht, ht'⟩ := mget (toW vb) hw ((toW vb).length - 1)
  have ht0 : t ≠ 0 := by
    intro e
    refine toW_last (n := vb) (x := (t : Int)) ?_ (by omega)
    rw [List.getLast?_eq_getElem?, el _ (by omega), ht]
  refine call_intro (.d (.int .i64 ((bits t : Nat) : Int))) ?_ ?_
  · have := limb_Len_spec (x := (t : Int)) ⟨by omega, by omega⟩
    rw [Int.toNat_natCast, ← ht] at this
    exact this
  have hb1 := bits_pos ht0
  have hb2 := bits_le ht'
  obtain ⟨s, hs⟩ : ∃ s, s = 32 - bits t := ⟨_, rfl⟩
  have es : IntKind.i64.wrap (32 - ((bits t : Nat) : Int)) = (s : Int) := by rw [wr (by omega) (by omega)]; omega
  have hup := Up_specG hwa (by omega) (n := s) (by omega)
  refine call_new 52 hup rfl rfl rfl rfl rfl (by show [V.d (.words a), V.d (.int .i64 (IntKind.i64.wrap (32 - ((bits t : Nat) : Int))))] = _; rw [es]) rfl ?_
  obtain ⟨A, hA⟩ : ∃ A, A = val a * 2 ^ s := ⟨_, rfl⟩
  rw [← hA]
  have h32 := pow32 (n := s) (by omega)
  have hs31 : 2 ^ s ≤ 2 ^ 31 := Nat.pow_le_pow_right (by omega) (by omega)
  have hs32 : 2 ^ s ≤ 4294967296 := by omega
  have hAl : (toW A).length ≤ 137438953473 := by
    have := toW_len_mul hwa hs32
    rw [← hA] at this
    omega
  refine opp_append_own hT (e := 32) (i := 52) (j := 54) (obj := .words 32 (toW A)) (obj2 := .words 32 (toW A ++ [0])) (n := (toW A).length) (m := 1) rfl rfl rfl rfl rfl rfl rfl rfl rfl rfl (Nat.le_of_ble_eq_true rfl) (Nat.le_of_ble_eq_true rfl) (.inr rfl) ?_ ?_ ?_
  · show some ((32 : TypeId), 1, (toW A ++ [0]).length, (toW A ++ [0]).map wd) = _
    rw [List.length_append, List.map_append]; rfl
  · show ((toW A).length + 1) * (4 + 1) ≤ _
    omega
  have hup2 := Up_spec hw hbl' (n := s) (by omega)
  rw [val_toW] at hup2
  refine call_intro (.d (.words (toW (vb * 2 ^ s)))) ?_ ?_
  · rw [← es] at hup2
    exact hup2
  have hD2 : 2 ≤ (toW (vb * 2 ^ s)).length := by
    have := toW_len_mono (m := vb) (n := vb * 2 ^ s) (Nat.le_mul_of_pos_right _ (Nat.two_pow_pos s))
    omega
  obtain ⟨n, hn⟩ : ∃ n, (toW (vb * 2 ^ s)).length = n + 2 := ⟨(toW (vb * 2 ^ s)).length - 2, by omega⟩
  have hDA : vb * 2 ^ s ≤ A := by rw [hA]; exact Nat.mul_le_mul_right _ (by omega)
  have hq : A / (vb * 2 ^ s) = val a / vb := by rw [hA]; exact Nat.mul_div_mul_right _ _ (Nat.two_pow_pos s)
  have hr : A % (vb * 2 ^ s) = (val a % vb) * 2 ^ s := by rw [hA]; exact Nat.mul_mod_mul_right _ _ _
  obtain ⟨DD, hDD⟩ : ∃ DD, DD = vb * 2 ^ s := ⟨_, rfl⟩
  rw [← hDD] at hn hDA hq hr hD2 ⊢
  obtain ⟨g1, g2, g3, g4, g5, g6⟩ := div_frame hn hDA
  have hla : (toW A ++ [0]).length ≤ 137438953474 := by omega
  have hlg := long_spec (a := toW A ++ [0]) (b := toW DD) (n := n) ((Wd.toW A).app (Wd.zeros 1)) (Wd.toW DD) hn g2 (by omega) (by
    obtain ⟨x, hx, _⟩ := mget (toW DD) (Wd.toW DD) (n + 1)
    rw [hx, Int.toNat_natCast]
    rcases Nat.eq_zero_or_pos x with h0 | h0
    · exfalso
      subst h0
      refine toW_last (n := DD) (x := 0) ?_ rfl
      rw [List.getLast?_eq_getElem?, hn, show n + 2 - 1 = n + 1 by omega, el _ (by omega), hx]
      rfl
    · exact h0) (by rw [val_toW]; exact g3)
  rw [val_toW, g6, hq, hr] at hlg
  rw [hq] at g4
  rw [hr] at g5
  rw [g1] at hlg g4 g5
  refine call_G [(1000, 54), (15, 59)] hlg rfl rfl rfl rfl rfl ⟨rfl, trivial⟩ ⟨same_words (by rw [dig_len, g1]), trivial⟩ ⟨trivial, ⟨rfl, Nat.le_of_ble_eq_true rfl⟩, trivial⟩ rfl ?_
  refine opp_frz 59 (.words 32 (dig ((toW A).length + 1 - (n + 2)) (val a / vb))) rfl (Nat.le_of_ble_eq_true rfl) rfl ?_
  refine call_intro (.d (.words (toW (val a / vb)))) ?_ ?_
  · have := norm_spec (a := dig ((toW A).length + 1 - (n + 2)) (val a / vb)) (Wd.dig _ _) (by rw [dig_len]; omega)
    rw [val_dig_lt g4, ← snap_all 32 _ (dig_len _ _).symm] at this
    exact this
  refine opp_frz 54 (.words 32 (dig ((toW A).length + 1) (val a % vb * 2 ^ s))) rfl (Nat.le_of_ble_eq_true rfl) rfl ?_
  refine call_intro (.d (.words (toW (val a % vb)))) ?_ ?_
  · have := Down_spec (a := dig ((toW A).length + 1) (val a % vb * 2 ^ s)) (n := s) (Wd.dig _ _) (by rw [dig_len]; omega) (by omega)
    rw [val_dig_lt g5, Nat.mul_div_cancel _ (Nat.two_pow_pos s), ← snap_all 32 _ (dig_len _ _).symm, ← es] at this
    exact this
  exact ret_intro rfl rfl
theorem Exact_spec {a b : List Int} (hwa : Wd a) (hwb : Wd b) (ha : a.length ≤ 137438953472) (hb : b.length ≤ 137438953472) : Runs Try.prog g_quot_Exact [.d (.words a), .d (.words b)] (if val b ≠ 0 ∧ val a % val b = 0 then .tup [.d (.words (toW (val a / val b))), .d (.bool true)] else .tup [.d (.words []), .d (.bool false)]) := by
  refine run1 [] p_quot_Exact rfl rfl (fun B S F0 w0 V0 => ?_)
  by_cases h0 : val b = 0
  · rw [if_neg (fun h => h.1 h0)]
    refine call_intro _ (Div_zero hwb (by omega) h0) ?_
    refine split_true rfl ?_
    refine split_true rfl ?_
    refine split_true rfl ?_
    exact ret_intro rfl rfl
  · refine call_intro _ (Div_spec hwa hwb ha (by omega) h0) ?_
    refine split_false rfl ?_
    have hql : (toW (val a / val b)).length ≤ a.length := Nat.le_trans (toW_len_mono (Nat.div_le_self _ _)) (toW_len_val_le hwa)
    have hrl : (toW (val a % val b)).length ≤ a.length := Nat.le_trans (toW_len_mono (Nat.mod_le _ _)) (toW_len_val_le hwa)
    refine call_intro _ (Zero_spec (Wd.toW _) (by omega)) ?_
    rw [val_toW]
    by_cases hr : val a % val b = 0
    · rw [if_pos ⟨h0, hr⟩]
      refine split_false (by show (!decide (val a % val b = 0)) = false; rw [decide_eq_true hr]; rfl) ?_
      have hm := Mul_spec (Wd.toW (val a / val b)) hwb (by omega) (by omega)
      rw [val_toW, Nat.div_mul_cancel (Nat.dvd_of_mod_eq_zero hr)] at hm
      refine call_intro _ hm ?_
      refine call_intro _ (Cmp_spec (Wd.toW (val a)) hwa (by have := toW_len_val_le hwa; omega) (by omega)) ?_
      rw [val_toW]
      refine split_false (by show (cmpI (val a) (val a) != 0) = false; rw [cmpI_eq.2 rfl]; rfl) ?_
      exact ret_intro rfl rfl
    · rw [if_neg (fun h => hr h.2)]
      refine split_true (by show (!decide (val a % val b = 0)) = true; rw [decide_eq_false hr]; rfl) ?_
      refine split_true rfl ?_
      exact ret_intro rfl rfl
end Go.Proofs.Ythefflmebkcilaa.Fw
