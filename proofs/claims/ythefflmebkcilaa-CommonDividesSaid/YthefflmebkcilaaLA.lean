/- The law QuotDivides, walked. -/
import Derived.Test.YthefflmebkcilaaSK
set_option linter.unusedVariables false
namespace Go.Proofs.Ythefflmebkcilaa.Fw
open Go Pu
theorem toW_one {n : Nat} (h0 : n ≠ 0) (h : n < 4294967296) : toW n = [(n : Int)] := by
  rw [toW_pos h0, Nat.div_eq_of_lt h, toW_zero, Nat.mod_eq_of_lt h]
theorem same_true {a b : List Int} (h : a = b) (ha : a.length ≤ 1099511627776) : Runs Try.prog g_retrospectref02_Same [.d (.words a), .d (.words b)] (.d (.bool true)) := by
  have := rSame_spec (a := a) (b := b) ha
  rw [decide_eq_true h] at this
  exact this
theorem works05 : Runs Try.prog g_retrospectlaw05_works [] (.d (.bool true)) := by
  refine run1 [] p_retrospectlaw05_works rfl rfl (fun B S F0 w0 V0 => ?_)
  have o7 : toW (7 : Int).toNat = [7] := toW_one (n := 7) (by omega) (by omega)
  have o2 : toW (2 : Int).toNat = [2] := toW_one (n := 2) (by omega) (by omega)
  have o6 : toW (6 : Int).toNat = [6] := toW_one (n := 6) (by omega) (by omega)
  have o3 : toW (3 : Int).toNat = [3] := toW_one (n := 3) (by omega) (by omega)
  have w1 : ∀ x : Int, 0 ≤ x → x < 4294967296 → Wd [x] := fun x h0 h1 => Wd.cons h0 h1 Wd.nil
  have hd := Div_spec (a := [7]) (b := [2]) (w1 7 (by omega) (by omega)) (w1 2 (by omega) (by omega)) (by decide) (by decide) (by decide)
  have e1 : toW (val [7] / val [2]) = [3] := toW_one (n := 3) (by omega) (by omega)
  have e2 : toW (val [7] % val [2]) = [1] := toW_one (n := 1) (by omega) (by omega)
  have hx := Exact_spec (a := [6]) (b := [3]) (w1 6 (by omega) (by omega)) (w1 3 (by omega) (by omega)) (by decide) (by decide)
  have e3 : toW (val [6] / val [3]) = [2] := toW_one (n := 2) (by omega) (by omega)
  rw [if_pos ⟨by decide, by decide⟩, e3] at hx
  rw [e1, e2] at hd
  refine call_intro (.d (.words [7])) (by rw [← o7]; exact Of_spec (by omega) (by omega)) ?_
  refine call_intro (.d (.words [2])) (by rw [← o2]; exact Of_spec (by omega) (by omega)) ?_
  refine call_intro _ hd ?_
  refine call_intro (.d (.words [6])) (by rw [← o6]; exact Of_spec (by omega) (by omega)) ?_
  refine call_intro (.d (.words [3])) (by rw [← o3]; exact Of_spec (by omega) (by omega)) ?_
  refine call_intro _ hx ?_
  refine call_intro _ (same_true rfl (by decide)) ?_
  refine split_true rfl ?_
  refine call_intro _ (same_true rfl (by decide)) ?_
  refine split_true rfl ?_
  refine split_true rfl ?_
  refine call_intro _ (same_true rfl (by decide)) ?_
  refine split_true rfl ?_
  exact ret_intro rfl rfl
theorem QuotDivides_runs {a b : List Int} (hwa : Wd a) (hwb : Wd b) (ha : a.length ≤ 9223372036854775807) (hb : b.length ≤ 9223372036854775807) : Runs Try.prog g_retrospectlaw05_QuotDivides [.d (.words a), .d (.words b)] (.d (.bool true)) := by
  refine run1 [] p_retrospectlaw05_QuotDivides rfl rfl (fun B S F0 w0 V0 => ?_)
  refine split_intro (fun h => ?_) (fun h => ?_)
  · refine split_true rfl ?_
    refine call_intro _ works05 ?_
    exact ret_intro rfl rfl
  have h : ¬ (a.length : Int) > 40 := of_decide_eq_false h
  refine split_intro (fun h' => ?_) (fun h' => ?_)
  · refine call_intro _ works05 ?_
    exact ret_intro rfl rfl
  have h' : ¬ (b.length : Int) > 40 := of_decide_eq_false h'
  have hx := Exact_spec hwa hwb (by omega) (by omega)
  by_cases h0 : val b = 0
  · rw [if_neg (fun hh => hh.1 h0)] at hx
    refine call_intro _ (Div_zero hwb (by omega) h0) ?_
    refine call_intro _ hx ?_
    refine call_intro _ (rNorm_spec hwb (by omega)) ?_
    rw [h0, toW_zero]
    refine split_true rfl ?_
    refine split_true rfl ?_
    refine split_true rfl ?_
    refine split_true rfl ?_
    refine split_true rfl ?_
    refine split_true rfl ?_
    refine call_intro _ works05 ?_
    exact ret_intro rfl rfl
  · refine call_intro _ (Div_spec hwa hwb (by omega) (by omega) h0) ?_
    have hq : (toW (val a / val b)).length ≤ a.length := Nat.le_trans (toW_len_mono (Nat.div_le_self _ _)) (toW_len_val_le hwa)
    have hr : (toW (val a % val b)).length ≤ a.length := Nat.le_trans (toW_len_mono (Nat.mod_le _ _)) (toW_len_val_le hwa)
    by_cases hz : val a % val b = 0
    · rw [if_pos ⟨h0, hz⟩] at hx
      refine call_intro _ hx ?_
      refine call_intro _ (rNorm_spec hwb (by omega)) ?_
      refine split_false (beq_eq_false_iff_ne.2 (by have := toW_len_zero (n := val b); show ((toW (val b)).length : Int) ≠ 0; omega)) ?_
      refine call_intro _ (rDiv_spec hwa hwb (by omega) (by omega) h0) ?_
      refine call_intro _ (same_true rfl (by omega)) ?_
      refine split_false rfl ?_
      refine call_intro _ (same_true rfl (by omega)) ?_
      refine split_false rfl ?_
      refine split_false rfl ?_
      rw [hz, toW_zero]
      refine split_false rfl ?_
      refine split_true rfl ?_
      refine call_intro _ (same_true rfl (by omega)) ?_
      refine split_true rfl ?_
      refine split_true rfl ?_
      refine call_intro _ works05 ?_
      exact ret_intro rfl rfl
    · rw [if_neg (fun hh => hz hh.2)] at hx
      refine call_intro _ hx ?_
      refine call_intro _ (rNorm_spec hwb (by omega)) ?_
      refine split_false (beq_eq_false_iff_ne.2 (by have := toW_len_zero (n := val b); show ((toW (val b)).length : Int) ≠ 0; omega)) ?_
      refine call_intro _ (rDiv_spec hwa hwb (by omega) (by omega) h0) ?_
      refine call_intro _ (same_true rfl (by omega)) ?_
      refine split_false rfl ?_
      refine call_intro _ (same_true rfl (by omega)) ?_
      refine split_false rfl ?_
      refine split_false rfl ?_
      have hl0 : (((toW (val a % val b)).length : Int) == 0) = false := beq_eq_false_iff_ne.2 (by have := toW_len_zero (n := val a % val b); omega)
      refine split_false (by show (!(false == (((toW (val a % val b)).length : Int) == 0))) = false; rw [hl0]; rfl) ?_
      refine split_false rfl ?_
      refine split_false rfl ?_
      refine split_true rfl ?_
      refine split_true rfl ?_
      refine call_intro _ works05 ?_
      exact ret_intro rfl rfl
end Go.Proofs.Ythefflmebkcilaa.Fw
