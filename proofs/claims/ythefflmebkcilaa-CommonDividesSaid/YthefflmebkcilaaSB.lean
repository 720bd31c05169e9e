/- Numbers: what is normed, copied, compared, added. -/
import Derived.Test.YthefflmebkcilaaSA
import Derived.Test.YthefflmebkcilaaPB
set_option linter.unusedVariables false
namespace Go.Proofs.Ythefflmebkcilaa.Fw
open Go Pu
theorem trim_spec {a : List Int} (hw : Wd a) (ha : a.length ≤ 1099511627776) : Runs Try.prog g_nat_trim [.d (.words a)] (.d (.words (toW (val a)))) := by
  refine run1 [] p_nat_trim rfl rfl (fun B S F0 w0 V0 => ?_)
  refine loop_intro (fun i : Nat => st [(0, .d (.words a)), (3, .d (.int .i64 (i : Int)))] []) (fun i => i) (fun i => i ≤ a.length ∧ ∀ j, i ≤ j → j < a.length → a[j]? = some 0) a.length ⟨Nat.le_refl _, by intro j h1 h2; omega⟩ ?_ ?_
  · exact weak_st _ _ ⟨rfl, rfl, trivial⟩ trivial rfl
  · rintro i ⟨hi, hz⟩
    refine split_intro (fun h => ?_) (fun h => ?_)
    · have h := of_decide_eq_true h
      have h : (i : Int) > 0 := h
      have e1 : IntKind.i64.wrap ((i : Int) - 1) = ((i - 1 : Nat) : Int) := by rw [wr (by omega) (by omega)]; omega
      refine idx_w (i - 1) e1 (by omega) ?_
      refine split_intro (fun h => ?_) (fun h => ?_)
      · have h : (a.getD (i - 1) 0 == 0) = true := h
        have h := eq_of_beq h
        refine ⟨i - 1, ⟨by omega, fun j h1 h2 => ?_⟩, by show i - 1 < i; omega, weak_st _ _ ⟨rfl, i64_inj e1, trivial⟩ trivial rfl⟩
        by_cases hj : j = i - 1
        · subst hj; rw [el a (by omega), h]
        · exact hz j (by omega) h2
      · refine side_intro ?_ ?_
        · show 0 ≤ (i : Int) ∧ (i : Int) ≤ a.length
          omega
        · refine ret_intro (ws_inj ?_) rfl
          refine take_trim hw hi hz (.inr ?_)
          have h : (a.getD (i - 1) 0 == 0) = false := h
          exact beq_eq_false_iff_ne.1 h
    · have h := of_decide_eq_false h
      have h : ¬ (i : Int) > 0 := h
      refine split_false rfl ?_
      refine side_intro ?_ ?_
      · show 0 ≤ (i : Int) ∧ (i : Int) ≤ a.length
        omega
      · refine ret_intro (ws_inj ?_) rfl
        exact take_trim hw hi hz (.inl (by omega))
theorem fresh_spec {a : List Int} {k : Nat} (ha : a.length ≤ 1099511627776) (hk : k ≤ 1099511627776) : RunsG Try.prog g_nat_fresh [.d (.words a), .d (.int .i64 k)] [] (.own 10 0 (a.length + k)) [(10, .words tU32 (a ++ List.replicate k 0))] := by
  refine runG [] p_nat_fresh rfl rfl rfl rfl (fun B S F0 w0 V0 => ?_)
  have e1 : IntKind.i64.wrap ((a.length : Int) + (k : Int)) = ((a.length + k : Nat) : Int) := by rw [wr (by omega) (by omega)]; omega
  refine opp_make hT rfl rfl (Nat.le_of_ble_eq_true rfl) (e := 32) rfl rfl (Nat.le_of_ble_eq_true rfl) (fun _ => rfl) (k := .i64) (k' := .i64) (n := ((a.length + k : Nat) : Int)) (i64_inj e1) (i64_inj e1) rfl (by omega) ?_ ?_ ?_
  · show 4 * ((a.length + k : Nat) : Int).toNat ≤ _
    omega
  · unfold maxLen; omega
  rw [Int.toNat_natCast]
  refine opp_copy hT rfl rfl (e := 32) rfl rfl rfl (i := 10) (len := a.length + k) (l := List.replicate (a.length + k) 0) (m := a) rfl rfl (by simp) rfl (by simp) ?_
  refine retG_intro rfl rfl ⟨?_, trivial⟩ rfl
  show some (MO.words 32 (a ++ (List.replicate (a.length + k) 0).drop a.length)) = _
  rw [List.drop_replicate, Nat.add_sub_cancel_left]
theorem norm_specG {a : List Int} (hw : Wd a) (ha : a.length ≤ 1099511627776) : RunsG Try.prog g_nat_Norm [.d (.words a)] [] (.own 5 0 (toW (val a)).length) [(5, .words tU32 (toW (val a)))] := by
  refine runG [5] p_nat_Norm rfl rfl rfl rfl (fun B S F0 w0 V0 => ?_)
  refine call_intro _ (trim_spec hw ha) ?_
  have hr := fresh_spec (a := toW (val a)) (k := 0) (Nat.le_trans (toW_len_val_le hw) ha) (by omega)
  rw [List.replicate_zero, List.append_nil] at hr
  refine call_new 5 hr rfl rfl rfl rfl rfl rfl rfl ?_
  exact retG_intro rfl rfl ⟨rfl, trivial⟩ rfl
theorem norm_spec {a : List Int} (hw : Wd a) (ha : a.length ≤ 1099511627776) : Runs Try.prog g_nat_Norm [.d (.words a)] (.d (.words (toW (val a)))) := by
  have := runs_of_G (norm_specG hw ha) rfl rfl
  have e : snapR [(5, MO.words tU32 (toW (val a)))] (.own 5 0 (toW (val a)).length) = .d (.words (toW (val a))) := by
    show V.d (.words (((toW (val a)).drop 0).take (toW (val a)).length)) = _
    rw [List.drop_zero, List.take_length]
  rw [e] at this
  exact this
theorem Zero_spec {a : List Int} (hw : Wd a) (ha : a.length ≤ 1099511627776) : Runs Try.prog g_nat_Zero [.d (.words a)] (.d (.bool (decide (val a = 0)))) := by
  refine run1 [] p_nat_Zero rfl rfl (fun B S F0 w0 V0 => ?_)
  refine call_intro _ (trim_spec hw ha) ?_
  refine ret_intro (b_inj ?_) rfl
  have := toW_len_zero (n := val a)
  by_cases h : val a = 0
  · rw [decide_eq_true h, toW_nil_iff.2 h]; rfl
  · rw [decide_eq_false h]
    refine beq_eq_false_iff_ne.2 ?_
    show ((toW (val a)).length : Int) ≠ 0
    omega
theorem Of_spec {n : Int} (h0 : 0 ≤ n) (h1 : n < 18446744073709551616) : Runs Try.prog g_nat_Of [.d (.int .u64 n)] (.d (.words (toW n.toNat))) := by
  refine run1 [] p_nat_Of rfl rfl (fun B S F0 w0 V0 => ?_)
  refine side_intro (by show (0 : Int) ≤ 32; omega) ?_
  have e1 : IntKind.u32.wrap n = n % 4294967296 := w32 n
  have e2 : IntKind.u32.wrap (n.fdiv (2 ^ min (Int.toNat 32) IntKind.u64.bits)) = n / 4294967296 := by
    rw [w32, show (2 : Int) ^ min (Int.toNat 32) IntKind.u64.bits = 4294967296 from rfl, Int.fdiv_eq_ediv_of_nonneg _ (by omega)]
    omega
  have hw : Wd [IntKind.u32.wrap n, IntKind.u32.wrap (n.fdiv (2 ^ min (Int.toNat 32) IntKind.u64.bits))] := by
    rw [e1, e2]
    exact Wd.cons (by omega) (by omega) (Wd.cons (by omega) (by omega) Wd.nil)
  refine call_intro _ (trim_spec hw (by simp)) ?_
  refine ret_intro (ws_inj ?_) rfl
  rw [e1, e2]
  simp only [val]
  congr 1
  omega
theorem Cmp_spec {a b : List Int} (hwa : Wd a) (hwb : Wd b) (ha : a.length ≤ 1099511627776) (hb : b.length ≤ 1099511627776) : Runs Try.prog g_nat_Cmp [.d (.words a), .d (.words b)] (.d (.int .i64 (cmpI (val a) (val b)))) := by
  refine run1 [] p_nat_Cmp rfl rfl (fun B S F0 w0 V0 => ?_)
  refine call_intro _ (trim_spec hwa ha) ?_
  refine call_intro _ (trim_spec hwb hb) ?_
  have la := toW_len_val_le hwa
  have lb := toW_len_val_le hwb
  generalize val a = m at la ⊢
  generalize val b = n at lb ⊢
  have lt_len : (toW m).length < (toW n).length → m < n := fun h => by
    rcases Nat.lt_or_ge m n with h1 | h1
    · exact h1
    · have := toW_len_mono h1; omega
  have gt_len : (toW n).length < (toW m).length → n < m := fun h => by
    rcases Nat.lt_or_ge n m with h1 | h1
    · exact h1
    · have := toW_len_mono h1; omega
  refine split_intro (fun h => ?_) (fun h => ?_)
  · have h := of_decide_eq_true h
    refine ret_intro (i64_inj ?_) rfl
    have := lt_len (by have h : ((toW m).length : Int) < (toW n).length := h; omega)
    unfold cmpI
    rw [if_pos this]
  refine split_intro (fun h' => ?_) (fun h' => ?_)
  · have h' := of_decide_eq_true h'
    refine ret_intro (i64_inj ?_) rfl
    have := gt_len (by have h : ((toW m).length : Int) > (toW n).length := h'; omega)
    unfold cmpI
    rw [if_neg (by omega), if_pos this]
  have hl : (toW m).length = (toW n).length := by
    have h := of_decide_eq_false h
    have h' := of_decide_eq_false h'
    have h : ¬ ((toW m).length : Int) < (toW n).length := h
    have h' : ¬ ((toW m).length : Int) > (toW n).length := h'
    omega
  have e0 : IntKind.i64.wrap (((toW m).length : Int) - 1) = ((toW m).length : Int) - 1 := wr (by omega) (by omega)
  refine loop_intro (fun k : Nat => st [(0, .d (.words (toW m))), (1, .d (.words (toW n))), (5, .d (.int .i64 ((k : Int) - 1)))] []) (fun k => k) (fun k => k ≤ (toW m).length ∧ val ((toW m).drop k) = val ((toW n).drop k)) (toW m).length
    ⟨Nat.le_refl _, by rw [List.drop_length, hl, List.drop_length]⟩ (weak_st _ _ ⟨rfl, rfl, i64_inj e0, trivial⟩ trivial rfl) ?_
  rintro k ⟨hk, hd⟩
  refine split_intro (fun h => ?_) (fun h => ?_)
  · have h := of_decide_eq_true h
    have h : (k : Int) - 1 ≥ 0 := h
    have e1 : (k : Int) - 1 = ((k - 1 : Nat) : Int) := by omega
    have e2 : IntKind.i64.wrap ((k : Int) - 1 - 1) = ((k - 1 : Nat) : Int) - 1 := by rw [wr (by omega) (by omega)]; omega
    have hd' : val ((toW m).drop (k - 1 + 1)) = val ((toW n).drop (k - 1 + 1)) := by rw [show k - 1 + 1 = k by omega]; exact hd
    have key := lt_top (i := k - 1) (Wd.toW m) (Wd.toW n) (by omega) (by omega) hd'
    have key' := lt_top (i := k - 1) (Wd.toW n) (Wd.toW m) (by omega) (by omega) hd'.symm
    simp only [val_toW] at key key'
    refine side_intro rfl ?_
    refine idx_w (k - 1) e1 (by omega) ?_
    refine idx_w (k - 1) e1 (by omega) ?_
    refine split_intro (fun h1 => ?_) (fun h1 => ?_)
    · have h1 := of_decide_eq_true h1
      refine ret_intro (i64_inj ?_) rfl
      unfold cmpI
      rw [if_pos (key h1)]
    refine side_intro rfl ?_
    refine idx_w (k - 1) e1 (by omega) ?_
    refine idx_w (k - 1) e1 (by omega) ?_
    refine split_intro (fun h2 => ?_) (fun h2 => ?_)
    · have h2 := of_decide_eq_true h2
      refine ret_intro (i64_inj ?_) rfl
      have := key' h2
      unfold cmpI
      rw [if_neg (by omega), if_pos this]
    have h1 := of_decide_eq_false h1
    have h2 := of_decide_eq_false h2
    refine ⟨k - 1, ⟨by omega, ?_⟩, by show k - 1 < k; omega, weak_st _ _ ⟨rfl, rfl, i64_inj e2, trivial⟩ trivial rfl⟩
    have heq : (toW m).getD (k - 1) 0 = (toW n).getD (k - 1) 0 := by omega
    have x1 : (toW m).drop (k - 1) = (toW m).getD (k - 1) 0 :: (toW m).drop (k - 1 + 1) := by
      rw [List.drop_eq_getElem_cons (by omega), List.getD_eq_getElem?_getD, List.getElem?_eq_getElem (by omega)]; rfl
    have x2 : (toW n).drop (k - 1) = (toW n).getD (k - 1) 0 :: (toW n).drop (k - 1 + 1) := by
      rw [List.drop_eq_getElem_cons (by omega), List.getD_eq_getElem?_getD, List.getElem?_eq_getElem (by omega)]; rfl
    rw [x1, x2, heq]
    simp only [val, hd']
  · have h := of_decide_eq_false h
    have h : ¬ (k : Int) - 1 ≥ 0 := h
    have : k = 0 := by omega
    subst this
    simp only [List.drop_zero, val_toW] at hd
    refine ret_intro (i64_inj ?_) rfl
    exact (cmpI_eq.2 hd).symm
theorem plus_spec {a b : List Int} (hwa : Wd a) (hwb : Wd b) (ha : a.length ≤ 549755813888) (hb : b.length ≤ 549755813888) : Runs Try.prog g_nat_plus [.d (.words a), .d (.words b)] (.d (.words (toW (val a + val b)))) := by
  refine run1 [17] p_nat_plus rfl rfl (fun B S F0 w0 V0 => ?_)
  refine split_intro (fun h => ?_) (fun h => ?_)
  case' refine_1 =>
    have hle : a.length ≤ b.length := by have h1 : (a.length : Int) < b.length := of_decide_eq_true h; omega
    generalize hr : val a + val b = r
    have hsum : val b + val a = r := by omega
    clear hr h ha
    revert a b
    intro y x hwy hwx hx hle hsum
  case' refine_2 =>
    have hle : b.length ≤ a.length := by have h1 : ¬ (a.length : Int) < b.length := of_decide_eq_false h; omega
    generalize hsum : val a + val b = r
    clear h hb
    revert a b
    intro x y hwx hwy hx hle hsum
  all_goals
    have hf := fresh_spec (a := x) (k := 1) (by omega) (by omega)
    refine call_new 17 hf rfl rfl rfl rfl rfl rfl rfl ?_
    refine loop_intro (fun p : Nat × List Int × Int => st [(0, .d (.words x)), (1, .d (.words y)), (5, .own 17 0 (x.length + 1)), (6, .d (.int .u32 p.2.2)), (19, .d (.int .i64 (x.length : Int))), (20, .d (.int .i64 (p.1 : Int)))] [(17, .words 32 p.2.1)]) (fun p => x.length - p.1)
      (fun p => p.1 ≤ x.length ∧ p.2.1.length = x.length + 1 ∧ Wd p.2.1 ∧ W32 p.2.2 ∧ (p.2.2 : Int) ≤ 1 ∧ val (p.2.1.take p.1) + 4294967296 ^ p.1 * p.2.2.toNat = val (x.take p.1) + val (y.take p.1)) (0, x ++ List.replicate 1 0, 0)
      ⟨Nat.zero_le _, by simp, hwx.app (Wd.zeros 1), ⟨Int.le_refl 0, by show (0 : Int) < 4294967296; omega⟩, by show (0 : Int) ≤ 1; omega, by simp [val]⟩ (weak_st _ _ ⟨rfl, rfl, rfl, rfl, rfl, rfl, trivial⟩ ⟨rfl, trivial⟩ rfl) ?_
    rintro ⟨i, out, k⟩ ⟨hi, hl, hwo, hk, hk1, hv⟩
    dsimp only at hi hl hwo hk hk1 hv
    refine split_intro (fun h => ?_) (fun h => ?_)
    · have hlt : i < x.length := by have h : (i : Int) < x.length := of_decide_eq_true h; omega
      have ei : IntKind.i64.wrap ((i : Int) + 1) = ((i + 1 : Nat) : Int) := by rw [wr (by omega) (by omega)]; omega
      have step : ∀ (u : Int), W32 u → u = y.getD i 0 → val ((out.set i ((x.getD i 0 + u + k) % 4294967296)).take (i + 1)) + 4294967296 ^ (i + 1) * ((x.getD i 0 + u + k) / 4294967296).toNat = val (x.take (i + 1)) + val (y.take (i + 1)) := by
        intro u hu heu
        rw [val_take_set (by omega), val_take_succ' (a := x), val_take_succ' (a := y), ← heu, Nat.pow_succ]
        have h1 := (hwx.g i)
        obtain ⟨h2, h3⟩ := hu
        obtain ⟨h4, h5⟩ := hk
        have e : x.getD i 0 + u + k = ((x.getD i 0).toNat + u.toNat + k.toNat : Nat) := by omega
        have e1 : ((x.getD i 0 + u + k) % 4294967296).toNat + 4294967296 * ((x.getD i 0 + u + k) / 4294967296).toNat = (x.getD i 0).toNat + u.toNat + k.toNat := by omega
        generalize ((x.getD i 0 + u + k) % 4294967296).toNat = p1 at e1 ⊢
        generalize ((x.getD i 0 + u + k) / 4294967296).toNat = p2 at e1 ⊢
        generalize 4294967296 ^ i = q at hv ⊢
        have : q * p1 + q * 4294967296 * p2 = q * (x.getD i 0).toNat + q * u.toNat + q * k.toNat := by
          rw [Nat.mul_assoc, ← Nat.mul_add, e1, Nat.mul_add, Nat.mul_add]
        omega
      refine split_intro (fun h' => ?_) (fun h' => ?_)
      · have hlt' : i < y.length := by have h' : (i : Int) < y.length := of_decide_eq_true h'; omega
        refine idx_w i rfl hlt' ?_
        refine idx_w i rfl hlt ?_
        refine call_intro _ (limb_Add_spec (hwx.g i) (hwy.g i) hk) ?_
        refine side_intro (by show (0 : Int) ≤ i ∧ (i : Int) < ((x.length + 1 : Nat) : Int); omega) ?_
        have hs := step _ (hwy.g i) rfl
        have g1 := hwx.g i
        have g2 := hwy.g i
        have g3 := hk.1
        refine ⟨(i + 1, out.set i ((x.getD i 0 + y.getD i 0 + k) % 4294967296), (x.getD i 0 + y.getD i 0 + k) / 4294967296), ⟨hlt, by show (out.set i _).length = _; rw [List.length_set]; exact hl, hwo.set i (by omega) (by omega), ⟨by dsimp only; omega, by dsimp only; omega⟩, by dsimp only; omega, hs⟩, by show x.length - (i + 1) < x.length - i; omega, ?_⟩
        exact weak_st _ _ ⟨rfl, rfl, rfl, rfl, rfl, i64_inj ei, trivial⟩ ⟨by show some (MO.words 32 (out.set (0 + ((i : Int)).toNat) _)) = _; rw [Nat.zero_add]; rfl, trivial⟩ rfl
      · have hge : y.length ≤ i := by have h' : ¬ (i : Int) < y.length := of_decide_eq_false h'; omega
        refine idx_w i rfl hlt ?_
        refine call_intro _ (limb_Add_spec (hwx.g i) (y := 0) ⟨by omega, by omega⟩ hk) ?_
        refine side_intro (by show (0 : Int) ≤ i ∧ (i : Int) < ((x.length + 1 : Nat) : Int); omega) ?_
        have hs := step 0 ⟨by omega, by omega⟩ (getD_ge hge).symm
        have g1 := hwx.g i
        have g3 := hk.1
        refine ⟨(i + 1, out.set i ((x.getD i 0 + 0 + k) % 4294967296), (x.getD i 0 + 0 + k) / 4294967296), ⟨hlt, by show (out.set i _).length = _; rw [List.length_set]; exact hl, hwo.set i (by omega) (by omega), ⟨by dsimp only; omega, by dsimp only; omega⟩, by dsimp only; omega, hs⟩, by show x.length - (i + 1) < x.length - i; omega, ?_⟩
        exact weak_st _ _ ⟨rfl, rfl, rfl, rfl, rfl, i64_inj ei, trivial⟩ ⟨by show some (MO.words 32 (out.set (0 + ((i : Int)).toNat) _)) = _; rw [Nat.zero_add]; rfl, trivial⟩ rfl
    · have hend : i = x.length := by have h : ¬ (i : Int) < x.length := of_decide_eq_false h; omega
      subst hend
      refine side_intro (by show (0 : Int) ≤ x.length ∧ (x.length : Int) < ((x.length + 1 : Nat) : Int); omega) ?_
      refine opp_frz 17 (.words 32 (out.set (0 + ((x.length : Int)).toNat) k)) rfl (Nat.le_of_ble_eq_true rfl) rfl ?_
      have hw2 : Wd (out.set x.length k) := hwo.set _ hk.1 hk.2
      have hl2 : (out.set x.length k).length = x.length + 1 := by rw [List.length_set]; exact hl
      refine call_intro (.d (.words (toW (val (out.set x.length k))))) ?_ ?_
      · have := trim_spec hw2 (by omega)
        have e : snapM (.words 32 (out.set (0 + ((x.length : Int)).toNat) k)) 0 (x.length + 1) = .d (.words (out.set x.length k)) := by
          show V.d (.words (((out.set (0 + ((x.length : Int)).toNat) k).drop 0).take (x.length + 1))) = _
          rw [Nat.zero_add, Int.toNat_natCast, List.drop_zero, List.take_of_length_le (by omega)]
        rw [← e] at this
        exact this
      · refine ret_intro (ws_inj ?_) rfl
        rw [val_set_last (by omega), hv, List.take_length, List.take_of_length_le hle, hsum]
end Go.Proofs.Ythefflmebkcilaa.Fw
