/- The document's numbers: normed, at, the same, compared. -/
import Derived.Test.YthefflmebkcilaaSH
set_option linter.unusedVariables false
namespace Go.Proofs.Ythefflmebkcilaa.Fw
open Go Pu
theorem rNorm_specG {a : List Int} (hw : Wd a) (ha : a.length ≤ 1099511627776) : RunsG Try.prog g_retrospectref02_Norm [.d (.words a)] [] (.own 22 0 (toW (val a)).length) [(22, .words tU32 (toW (val a)))] := by
  refine runG [18] p_retrospectref02_Norm rfl rfl rfl rfl (fun B S F0 w0 V0 => ?_)
  refine loop_intro (fun i : Nat => st [(0, .d (.words a)), (3, .d (.int .i64 (i : Int)))] []) (fun i => i) (fun i => i ≤ a.length ∧ ∀ j, i ≤ j → j < a.length → a[j]? = some 0) a.length ⟨Nat.le_refl _, by intro j h1 h2; omega⟩ ?_ ?_
  · exact weak_st _ _ ⟨rfl, rfl, trivial⟩ trivial rfl
  · rintro i ⟨hi, hz⟩
    have fin : (i = 0 ∨ a.getD (i - 1) 0 ≠ 0) → a.take i = toW (val a) := take_trim hw hi hz
    refine split_intro (fun h => ?_) (fun h => ?_)
    case' refine_1 =>
      have h : (i : Int) > 0 := of_decide_eq_true h
      have e1 : IntKind.i64.wrap ((i : Int) - 1) = ((i - 1 : Nat) : Int) := by rw [wr (by omega) (by omega)]; omega
      refine idx_w (i - 1) e1 (by omega) ?_
      refine split_intro (fun h => ?_) (fun h => ?_)
      case' refine_1 =>
        have h : a.getD (i - 1) 0 = 0 := eq_of_beq h
        refine ⟨i - 1, ⟨by omega, fun j h1 h2 => ?_⟩, by show i - 1 < i; omega, weak_st _ _ ⟨rfl, i64_inj e1, trivial⟩ trivial rfl⟩
        by_cases hj : j = i - 1
        · subst hj; rw [el a (by omega), h]
        · exact hz j (by omega) h2
      have h : a.getD (i - 1) 0 ≠ 0 := beq_eq_false_iff_ne.1 h
      have hfin := fin (.inr h)
    case' refine_2 =>
      have h : ¬ (i : Int) > 0 := of_decide_eq_false h
      refine split_false rfl ?_
      have hfin := fin (.inl (by omega))
    all_goals
      refine opp_lit hT (e := 32) (l := []) (obj := .words 32 []) rfl rfl (Nat.le_of_ble_eq_true rfl) rfl rfl (Nat.le_of_ble_eq_true rfl) rfl rfl (Nat.zero_le _) rfl rfl ?_
      refine side_intro (by show 0 ≤ (i : Int) ∧ (i : Int) ≤ a.length; omega) ?_
      have hil : (a.take i).length = i := by rw [List.length_take]; omega
      refine opp_append_own hT (e := 32) (i := 18) (j := 22) (obj := .words 32 []) (obj2 := .words 32 (a.take i)) (n := 0) (m := i) (fl2 := (a.take i).map wd) rfl rfl rfl rfl rfl rfl rfl rfl ?_ ?_ (Nat.le_of_ble_eq_true rfl) (Nat.le_of_ble_eq_true rfl) (.inr rfl) ?_ ?_ ?_
      · show srcOf TB 32 (.d (.words (a.take i))) = _
        show some ((a.take i).length, (a.take i).map wd) = _
        rw [hil]
      · rw [List.length_map, hil]; show i = i * 1; omega
      · show some ((32 : TypeId), 1, (a.take i).length, (a.take i).map wd) = _
        rw [hil]; show _ = some ((32 : TypeId), 1, 0 + i, [] ++ (a.take i).map wd); rw [Nat.zero_add, List.nil_append]
      · show (0 + i) * (4 + 1) ≤ _
        omega
      refine retG_intro ?_ rfl ⟨?_, trivial⟩ rfl
      · show V.own 22 0 (0 + i) = _
        rw [Nat.zero_add, ← hfin, hil]
      · show some (MO.words 32 (a.take i)) = _
        rw [hfin]
theorem rNorm_spec {a : List Int} (hw : Wd a) (ha : a.length ≤ 1099511627776) : Runs Try.prog g_retrospectref02_Norm [.d (.words a)] (.d (.words (toW (val a)))) := by
  have := runs_of_G (rNorm_specG hw ha) rfl rfl
  have e : snapR [(22, MO.words tU32 (toW (val a)))] (.own 22 0 (toW (val a)).length) = .d (.words (toW (val a))) := snap_all 32 _ rfl
  rw [e] at this
  exact this
theorem rAt_spec {a : List Int} {i : Nat} (ha : a.length ≤ 1099511627776) : Runs Try.prog g_retrospectref02_At [.d (.words a), .d (.int .i64 (i : Int))] (.d (.int .u32 (a.getD i 0))) := by
  refine run1 [] p_retrospectref02_At rfl rfl (fun B S F0 w0 V0 => ?_)
  refine split_intro (fun h => ?_) (fun h => ?_)
  · have h : (i : Int) < a.length := of_decide_eq_true h
    refine idx_w i rfl (by omega) ?_
    exact ret_intro rfl rfl
  · have h : ¬ (i : Int) < a.length := of_decide_eq_false h
    refine ret_intro (u32_inj ?_) rfl
    rw [getD_ge (by omega)]
theorem rSame_spec {a b : List Int} (ha : a.length ≤ 1099511627776) : Runs Try.prog g_retrospectref02_Same [.d (.words a), .d (.words b)] (.d (.bool (decide (a = b)))) := by
  refine run1 [] p_retrospectref02_Same rfl rfl (fun B S F0 w0 V0 => ?_)
  refine split_intro (fun h => ?_) (fun h => ?_)
  · have h : (a.length : Int) ≠ b.length := bne_iff_ne.1 h
    refine ret_intro (b_inj ?_) rfl
    rw [decide_eq_false (fun e => h (by rw [e]))]
  have h : (a.length : Int) = b.length := by simpa using h
  refine loop_intro (fun i : Nat => st [(0, .d (.words a)), (1, .d (.words b)), (5, .d (.int .i64 (i : Int)))] []) (fun i => a.length - i) (fun i => i ≤ a.length ∧ ∀ j, j < i → a[j]? = b[j]?) 0 ⟨Nat.zero_le _, by intro j h1; omega⟩ (weak_st _ _ ⟨rfl, rfl, rfl, trivial⟩ trivial rfl) ?_
  rintro i ⟨hi, hz⟩
  refine split_intro (fun h1 => ?_) (fun h1 => ?_)
  · have h1 : (i : Int) < a.length := of_decide_eq_true h1
    have ei : IntKind.i64.wrap ((i : Int) + 1) = ((i + 1 : Nat) : Int) := by rw [wr (by omega) (by omega)]; omega
    refine side_intro rfl ?_
    refine idx_w i rfl (by omega) ?_
    refine idx_w i rfl (by omega) ?_
    refine split_intro (fun h2 => ?_) (fun h2 => ?_)
    · have h2 : a.getD i 0 ≠ b.getD i 0 := bne_iff_ne.1 h2
      refine ret_intro (b_inj ?_) rfl
      rw [decide_eq_false (fun e => h2 (by rw [e]))]
    · have h2 : a.getD i 0 = b.getD i 0 := bne_eq_false_iff_eq.1 h2
      refine ⟨i + 1, ⟨by omega, fun j hj => ?_⟩, by show a.length - (i + 1) < a.length - i; omega, weak_st _ _ ⟨rfl, rfl, i64_inj ei, trivial⟩ trivial rfl⟩
      by_cases hj2 : j = i
      · subst hj2; rw [el a (by omega), el b (by omega), h2]
      · exact hz j (by omega)
  · have h1 : ¬ (i : Int) < a.length := of_decide_eq_false h1
    refine ret_intro (b_inj ?_) rfl
    symm
    refine decide_eq_true ?_
    apply List.ext_getElem?
    intro j
    by_cases hj : j < i
    · exact hz j hj
    · rw [List.getElem?_eq_none (by omega), List.getElem?_eq_none (by omega)]
theorem lt_top' {a b : List Int} {i : Nat} (ha : Wd a) (hb : Wd b) (hd : val (a.drop (i + 1)) = val (b.drop (i + 1))) (hlt : a.getD i 0 < b.getD i 0) : val (a.drop i) < val (b.drop i) := by
  rw [val_drop_cons' a i, val_drop_cons' b i, hd]
  have := (ha.g i).1
  omega
theorem lt_drop {a b : List Int} {i : Nat} (ha : Wd a) (hb : Wd b) (h : val (a.drop i) < val (b.drop i)) : val a < val b := by
  by_cases hj : i ≤ b.length
  · by_cases hi : i ≤ a.length
    · rw [val_take_drop a i hi, val_take_drop b i hj]
      have h1 := val_take_lt ha i
      generalize 4294967296 ^ i = p at h1 ⊢
      have := Nat.mul_le_mul_left p h
      rw [Nat.mul_succ] at this
      omega
    · rw [val_take_drop b i hj]
      have h1 := val_lt ha
      have h2 : 4294967296 ^ a.length ≤ 4294967296 ^ i := Nat.pow_le_pow_right (by omega) (by omega)
      have h3 : 4294967296 ^ i * 1 ≤ 4294967296 ^ i * val (b.drop i) := Nat.mul_le_mul_left _ (by omega)
      omega
  · have hd : b.drop i = [] := List.drop_eq_nil_of_le (by omega)
    rw [hd] at h
    exact absurd h (Nat.not_lt_zero _)
theorem rCmp_spec {a b : List Int} (hwa : Wd a) (hwb : Wd b) (ha : a.length ≤ 1099511627776) (hb : b.length ≤ 1099511627776) : Runs Try.prog g_retrospectref02_Cmp [.d (.words a), .d (.words b)] (.d (.int .i64 (cmpI (val a) (val b)))) := by
  refine run1 [] p_retrospectref02_Cmp rfl rfl (fun B S F0 w0 V0 => ?_)
  obtain ⟨m, hm⟩ : ∃ m : Nat, m = max a.length b.length := ⟨_, rfl⟩
  have e0 : IntKind.i64.wrap ((if (b.length : Int) > (a.length : Int) then (b.length : Int) else (a.length : Int)) - 1) = (m : Int) - 1 := by
    rw [hm]; split <;> rw [wr (by omega) (by omega)] <;> omega
  refine loop_intro (fun k : Nat => st [(0, .d (.words a)), (1, .d (.words b)), (5, .d (.int .i64 ((k : Int) - 1)))] []) (fun k => k) (fun k => k ≤ m ∧ val (a.drop k) = val (b.drop k)) m
    ⟨Nat.le_refl _, by rw [List.drop_eq_nil_of_le (by omega), List.drop_eq_nil_of_le (by omega)]⟩ (weak_st _ _ ⟨rfl, rfl, i64_inj e0, trivial⟩ trivial rfl) ?_
  rintro k ⟨hk, hd⟩
  refine split_intro (fun h => ?_) (fun h => ?_)
  · have h : (k : Int) - 1 ≥ 0 := of_decide_eq_true h
    obtain ⟨i, rfl⟩ : ∃ i, k = i + 1 := ⟨k - 1, by omega⟩
    have e1 : ((i + 1 : Nat) : Int) - 1 = (i : Int) := by omega
    have e2 : IntKind.i64.wrap (((i + 1 : Nat) : Int) - 1 - 1) = (i : Int) - 1 := by rw [e1, wr (by omega) (by omega)]
    refine call_intro (.d (.int .u32 (a.getD i 0))) (by have := rAt_spec (a := a) (i := i) ha; rw [← e1] at this; exact this) ?_
    refine call_intro (.d (.int .u32 (b.getD i 0))) (by have := rAt_spec (a := b) (i := i) hb; rw [← e1] at this; exact this) ?_
    refine split_intro (fun h1 => ?_) (fun h1 => ?_)
    · have h1 : a.getD i 0 < b.getD i 0 := of_decide_eq_true h1
      refine ret_intro (i64_inj ?_) rfl
      unfold cmpI
      rw [if_pos (lt_drop hwa hwb (lt_top' hwa hwb hd h1))]
    have h1 : ¬ a.getD i 0 < b.getD i 0 := of_decide_eq_false h1
    refine split_intro (fun h2 => ?_) (fun h2 => ?_)
    · have h2 : a.getD i 0 > b.getD i 0 := of_decide_eq_true h2
      refine ret_intro (i64_inj ?_) rfl
      have := lt_drop hwb hwa (lt_top' hwb hwa hd.symm h2)
      unfold cmpI
      rw [if_neg (by omega), if_pos this]
    have h2 : ¬ a.getD i 0 > b.getD i 0 := of_decide_eq_false h2
    refine ⟨i, ⟨by omega, ?_⟩, by show i < i + 1; omega, weak_st _ _ ⟨rfl, rfl, i64_inj e2, trivial⟩ trivial rfl⟩
    rw [val_drop_cons' a i, val_drop_cons' b i, hd, show a.getD i 0 = b.getD i 0 by omega]
  · have h : ¬ (k : Int) - 1 ≥ 0 := of_decide_eq_false h
    have : k = 0 := by omega
    subst this
    simp only [List.drop_zero] at hd
    refine ret_intro (i64_inj ?_) rfl
    exact (cmpI_eq.2 hd).symm
end Go.Proofs.Ythefflmebkcilaa.Fw
