/- The law QuotBack, walked. -/
import Derived.Test.YthefflmebkcilaaLA
import Derived.Test.YthefflmebkcilaaSL
import Derived.Test.YthefflmebkcilaaRB
set_option linter.unusedVariables false
namespace Go.Proofs.Ythefflmebkcilaa.Fw
open Go Pu
theorem cmpI_self (n : Nat) : cmpI n n = 0 := cmpI_eq.2 rfl
theorem QuotBack_runs {a b c : List Int} (hwa : Wd a) (hwb : Wd b) (hwc : Wd c) (ha : a.length ≤ 9223372036854775807) (hb : b.length ≤ 9223372036854775807) (hc : c.length ≤ 9223372036854775807) :
    Runs Try.prog g_retrospectlaw05_QuotBack [.d (.words a), .d (.words b), .d (.words c)] (.d (.bool true)) := by
  refine run1 [] p_retrospectlaw05_QuotBack rfl rfl (fun B S F0 w0 V0 => ?_)
  refine split_intro (fun h => ?_) (fun h => ?_)
  · refine split_true rfl ?_
    refine split_true rfl ?_
    refine split_true rfl ?_
    refine call_intro _ works05 ?_
    exact ret_intro rfl rfl
  have h1 : ¬ (a.length : Int) > 40 := of_decide_eq_false h
  refine split_intro (fun h => ?_) (fun h => ?_)
  · refine split_true rfl ?_
    refine split_true rfl ?_
    refine call_intro _ works05 ?_
    exact ret_intro rfl rfl
  have h2 : ¬ (b.length : Int) > 40 := of_decide_eq_false h
  refine split_intro (fun h => ?_) (fun h => ?_)
  · refine split_true rfl ?_
    refine call_intro _ works05 ?_
    exact ret_intro rfl rfl
  have h3 : ¬ (c.length : Int) > 40 := of_decide_eq_false h
  refine call_intro _ (Zero_spec hwb (by omega)) ?_
  refine split_intro (fun h => ?_) (fun h => ?_)
  · refine call_intro _ works05 ?_
    exact ret_intro rfl rfl
  have h0 : val b ≠ 0 := of_decide_eq_false h
  refine call_intro _ (Div_spec hwa hwb (by omega) (by omega) h0) ?_
  have la := nw_val hwa (Nat.le_refl _)
  have lb := nw_val hwb (Nat.le_refl _)
  have lc := nw_val hwc (Nat.le_refl _)
  have hq : (toW (val a / val b)).length ≤ a.length := nw_le (Nat.div_le_self _ _) la
  have hr : (toW (val a % val b)).length ≤ a.length := nw_le (Nat.mod_le _ _) la
  have hlt : val a % val b < val b := Nat.mod_lt _ (by omega)
  refine split_false rfl ?_
  have hm1 := Mul_spec (a := toW (val a / val b)) (Wd.toW _) hwb (by omega) (by omega)
  rw [val_toW] at hm1
  refine call_intro _ hm1 ?_
  have hmb : (toW (val a / val b * val b)).length ≤ a.length := nw_le (Nat.div_mul_le_self _ _) la
  have ha1 := AddTwo_spec (a := toW (val a / val b * val b)) (b := toW (val a % val b)) (Wd.toW _) (Wd.toW _) (by omega) (by omega)
  rw [val_toW, val_toW, Nat.mul_comm, Nat.div_add_mod] at ha1
  rw [Nat.mul_comm] at ha1
  refine call_intro _ ha1 ?_
  have hc1 := Cmp_spec (a := toW (val a)) (Wd.toW _) hwa (by omega) (by omega)
  rw [val_toW, cmpI_self] at hc1
  refine call_intro _ hc1 ?_
  refine split_false rfl ?_
  have hc2 := Cmp_spec (a := toW (val a % val b)) (Wd.toW _) hwb (by omega) (by omega)
  rw [val_toW] at hc2
  refine call_intro _ hc2 ?_
  have hneg : cmpI (val a % val b) (val b) < 0 := cmpI_lt.2 hlt
  refine split_false (decide_eq_false (by show ¬ cmpI (val a % val b) (val b) ≥ 0; omega)) ?_
  have hm2 := Mul_spec hwc hwb (by omega) (by omega)
  refine call_intro _ hm2 ?_
  have hcb := nw_mul (val c) (val b)
  have ha2 := AddTwo_spec (a := toW (val c * val b)) (b := toW (val a % val b)) (Wd.toW _) (Wd.toW _) (by omega) (by omega)
  rw [val_toW, val_toW] at ha2
  refine call_intro _ ha2 ?_
  have hs : (toW (val c * val b + val a % val b)).length ≤ 200 := by
    have := nw_add (m := val c * val b) (n := val a % val b) (k := 100) (by omega) (by omega)
    omega
  have hd2 := Div_spec (a := toW (val c * val b + val a % val b)) (Wd.toW _) hwb (by omega) (by omega) h0
  have e1 : (val c * val b + val a % val b) / val b = val c := by
    rw [Nat.mul_comm, Nat.mul_add_div (by omega), Nat.div_eq_of_lt hlt, Nat.add_zero]
  have e2 : (val c * val b + val a % val b) % val b = val a % val b := by
    rw [Nat.mul_comm, Nat.mul_add_mod, Nat.mod_eq_of_lt hlt]
  rw [val_toW, e1, e2] at hd2
  refine call_intro _ hd2 ?_
  refine call_intro _ hm2 ?_
  have hx := Exact_spec (a := toW (val c * val b)) (Wd.toW _) hwb (by omega) (by omega)
  rw [val_toW, if_pos ⟨h0, Nat.mul_mod_left _ _⟩, Nat.mul_div_cancel _ (by omega)] at hx
  refine call_intro _ hx ?_
  refine split_true rfl ?_
  have hc3 := Cmp_spec (a := toW (val c)) (Wd.toW _) hwc (by omega) (by omega)
  rw [val_toW, cmpI_self] at hc3
  refine call_intro _ hc3 ?_
  refine split_true rfl ?_
  have hc4 := Cmp_spec (a := toW (val a % val b)) (b := toW (val a % val b)) (Wd.toW _) (Wd.toW _) (by omega) (by omega)
  rw [cmpI_self] at hc4
  refine call_intro _ hc4 ?_
  refine split_true rfl ?_
  refine split_true rfl ?_
  refine call_intro _ hc3 ?_
  refine split_true rfl ?_
  refine call_intro _ works05 ?_
  exact ret_intro rfl rfl
theorem QuotBack_typed {x y z : D} (h0 : OkD .ws x) (h1 : OkD .ws y) (h2 : OkD .ws z) : Runs Try.prog g_retrospectlaw05_QuotBack [.d x, .d y, .d z] (.d (.bool true)) := by
  obtain ⟨a, rfl, hwa, ha⟩ := inv_ws h0
  obtain ⟨b, rfl, hwb, hb⟩ := inv_ws h1
  obtain ⟨c, rfl, hwc, hc⟩ := inv_ws h2
  exact QuotBack_runs hwa hwb hwc ha hb hc
end Go.Proofs.Ythefflmebkcilaa.Fw
