/- The laws CommonBoth and CommonDivides, walked. -/
import Derived.Test.YthefflmebkcilaaLA
import Derived.Test.YthefflmebkcilaaSL
import Derived.Test.YthefflmebkcilaaRB
set_option linter.unusedVariables false
namespace Go.Proofs.Ythefflmebkcilaa.Fw
open Go Pu
theorem OfN_spec (n : Nat) (h : n < 18446744073709551616) : Runs Try.prog g_nat_Of [.d (.int .u64 (n : Int))] (.d (.words (toW n))) := by
  have := Of_spec (n := (n : Int)) (by omega) (by omega)
  rw [Int.toNat_natCast] at this
  exact this
theorem nwS {n : Nat} (h : n < 18446744073709551616) : (toW n).length ≤ 137438953472 := by have := nw_two.2 h; omega
theorem CancelN_spec {m n : Nat} (hm : (toW m).length ≤ 137438953472) (hn : (toW n).length ≤ 137438953472) :
    Runs Try.prog g_common_Cancel [.d (.words (toW m)), .d (.words (toW n))] (.tup [.d (.words (toW (m / Nat.gcd m n))), .d (.words (toW (n / Nat.gcd m n)))]) := by
  have := Cancel_spec (Wd.toW m) (Wd.toW n) hm hn
  rw [val_toW, val_toW] at this
  exact this
theorem GcdN_spec {m n : Nat} (hm : (toW m).length ≤ 137438953472) (hn : (toW n).length ≤ 137438953472) : Runs Try.prog g_common_Gcd [.d (.words (toW m)), .d (.words (toW n))] (.d (.words (toW (Nat.gcd m n)))) := by
  have := Gcd_spec (Wd.toW m) (Wd.toW n) hm hn
  rw [val_toW, val_toW] at this
  exact this
theorem LcmN_spec {m n : Nat} (hm : (toW m).length ≤ 137438953472) (hn : (toW n).length ≤ 137438953472) : Runs Try.prog g_common_Lcm [.d (.words (toW m)), .d (.words (toW n))] (.d (.words (toW (m / Nat.gcd m n * n)))) := by
  have := Lcm_spec (Wd.toW m) (Wd.toW n) hm hn
  rw [val_toW, val_toW] at this
  exact this
theorem MulN_spec {m n : Nat} (hm : (toW m).length ≤ 274877906944) (hn : (toW n).length ≤ 274877906944) : Runs Try.prog g_prod_Mul [.d (.words (toW m)), .d (.words (toW n))] (.d (.words (toW (m * n)))) := by
  have := Mul_spec (Wd.toW m) (Wd.toW n) hm hn
  rw [val_toW, val_toW] at this
  exact this
theorem works06 : Runs Try.prog g_retrospectlaw06_works [] (.d (.bool true)) := by
  refine run1 [] p_retrospectlaw06_works rfl rfl (fun B S F0 w0 V0 => ?_)
  have one : ∀ n : Nat, n ≠ 0 → n < 4294967296 → toW n = [(n : Int)] := fun n h0 h => nw_one h0 h
  have hcn := CancelN_spec (m := 12) (n := 18) (nwS (by omega)) (nwS (by omega))
  have hg := GcdN_spec (m := 12) (n := 18) (nwS (by omega)) (nwS (by omega))
  have hl := LcmN_spec (m := 4) (n := 6) (nwS (by omega)) (nwS (by omega))
  rw [show toW (12 / Nat.gcd 12 18) = [2] from one 2 (by omega) (by omega), show toW (18 / Nat.gcd 12 18) = [3] from one 3 (by omega) (by omega)] at hcn
  rw [show toW (Nat.gcd 12 18) = [6] from one 6 (by omega) (by omega)] at hg
  rw [show toW (4 / Nat.gcd 4 6 * 6) = [12] from one 12 (by omega) (by omega)] at hl
  refine call_intro _ (OfN_spec 12 (by omega)) ?_
  refine call_intro _ (OfN_spec 18 (by omega)) ?_
  refine call_intro _ hcn ?_
  refine call_intro _ (OfN_spec 12 (by omega)) ?_
  refine call_intro _ (OfN_spec 18 (by omega)) ?_
  refine call_intro _ hg ?_
  refine call_intro _ (same_true rfl (by decide)) ?_
  refine split_true rfl ?_
  refine call_intro _ (OfN_spec 4 (by omega)) ?_
  refine call_intro _ (OfN_spec 6 (by omega)) ?_
  refine call_intro _ hl ?_
  refine call_intro _ (same_true rfl (by decide)) ?_
  refine split_true rfl ?_
  refine call_intro _ (same_true rfl (by decide)) ?_
  refine split_true rfl ?_
  refine call_intro _ (same_true rfl (by decide)) ?_
  exact ret_intro rfl rfl
theorem lcm_times (a b : Nat) : Nat.gcd a b * (a / Nat.gcd a b * b) = a * b := by
  rw [← Nat.mul_assoc, Nat.mul_div_cancel' (Nat.gcd_dvd_left a b)]
theorem lcm_left (a b : Nat) : a ∣ a / Nat.gcd a b * b := by
  refine ⟨b / Nat.gcd a b, ?_⟩
  rcases Nat.eq_zero_or_pos (Nat.gcd a b) with h | h
  · rw [h, Nat.div_zero, Nat.div_zero, Nat.zero_mul, Nat.mul_zero]
  · apply Nat.eq_of_mul_eq_mul_left h
    rw [lcm_times, ← Nat.mul_assoc, Nat.mul_comm (Nat.gcd a b) a, Nat.mul_assoc, Nat.mul_div_cancel' (Nat.gcd_dvd_right a b)]
theorem ZeroN_spec {n : Nat} (h : (toW n).length ≤ 1099511627776) : Runs Try.prog g_nat_Zero [.d (.words (toW n))] (.d (.bool (decide (n = 0)))) := by
  have := Zero_spec (Wd.toW n) h
  rw [val_toW] at this
  exact this
theorem CommonBoth_runs {a b : List Int} (hwa : Wd a) (hwb : Wd b) (ha : a.length ≤ 9223372036854775807) (hb : b.length ≤ 9223372036854775807) :
    Runs Try.prog g_retrospectlaw06_CommonBoth [.d (.words a), .d (.words b)] (.d (.bool true)) := by
  refine run1 [] p_retrospectlaw06_CommonBoth rfl rfl (fun B S F0 w0 V0 => ?_)
  refine split_intro (fun h => ?_) (fun h => ?_)
  · refine split_true rfl ?_
    refine call_intro _ works06 ?_
    exact ret_intro rfl rfl
  have h1 : ¬ (a.length : Int) > 20 := of_decide_eq_false h
  refine split_intro (fun h => ?_) (fun h => ?_)
  · refine call_intro _ works06 ?_
    exact ret_intro rfl rfl
  have h2 : ¬ (b.length : Int) > 20 := of_decide_eq_false h
  have la := nw_val hwa (k := 20) (by omega)
  have lb := nw_val hwb (k := 20) (by omega)
  refine call_intro _ (Lcm_spec hwa hwb (by omega) (by omega)) ?_
  have lm : (toW (val a / Nat.gcd (val a) (val b) * val b)).length ≤ 40 := by
    have := nw_mul (val a / Nat.gcd (val a) (val b)) (val b)
    have := nw_le (Nat.div_le_self (val a) (Nat.gcd (val a) (val b))) la
    omega
  obtain ⟨m, hm⟩ : ∃ m, m = val a / Nat.gcd (val a) (val b) * val b := ⟨_, rfl⟩
  rw [← hm] at lm ⊢
  refine call_intro _ (Zero_spec hwa (by omega)) ?_
  have zcase : m = 0 → Runs Try.prog g_nat_Zero [.d (.words (toW m))] (.d (.bool true)) := fun h => by
    have := ZeroN_spec (n := m) (by omega)
    rw [decide_eq_true h] at this
    exact this
  refine split_intro (fun h => ?_) (fun h => ?_)
  · have h : val a = 0 := of_decide_eq_true h
    refine split_true rfl ?_
    refine call_intro _ (zcase (by rw [hm, h, Nat.zero_div, Nat.zero_mul])) ?_
    refine split_true rfl ?_
    refine call_intro _ works06 ?_
    exact ret_intro rfl rfl
  have ha0 : val a ≠ 0 := of_decide_eq_false h
  refine call_intro _ (Zero_spec hwb (by omega)) ?_
  refine split_intro (fun h => ?_) (fun h => ?_)
  · have h : val b = 0 := of_decide_eq_true h
    refine call_intro _ (zcase (by rw [hm, h, Nat.mul_zero])) ?_
    refine split_true rfl ?_
    refine call_intro _ works06 ?_
    exact ret_intro rfl rfl
  have hb0 : val b ≠ 0 := of_decide_eq_false h
  have hx1 := Exact_spec (a := toW m) (Wd.toW _) hwa (by omega) (by omega)
  have hx2 := Exact_spec (a := toW m) (Wd.toW _) hwb (by omega) (by omega)
  rw [val_toW, if_pos ⟨ha0, Nat.mod_eq_zero_of_dvd (by rw [hm]; exact lcm_left _ _)⟩] at hx1
  rw [val_toW, if_pos ⟨hb0, Nat.mod_eq_zero_of_dvd (by rw [hm]; exact Nat.dvd_mul_left _ _)⟩] at hx2
  refine call_intro _ hx1 ?_
  refine call_intro _ hx2 ?_
  refine call_intro _ (Gcd_spec hwa hwb (by omega) (by omega)) ?_
  have lg := nw_gcd la lb
  have hmu := MulN_spec (m := Nat.gcd (val a) (val b)) (n := m) (by omega) (by omega)
  rw [show Nat.gcd (val a) (val b) * m = val a * val b by rw [hm, lcm_times]] at hmu
  refine call_intro _ hmu ?_
  refine call_intro _ (Mul_spec hwa hwb (by omega) (by omega)) ?_
  have lab := nw_mul (val a) (val b)
  refine call_intro _ (same_true rfl (by omega)) ?_
  refine split_true rfl ?_
  refine split_true rfl ?_
  refine split_true rfl ?_
  refine call_intro _ works06 ?_
  exact ret_intro rfl rfl
theorem gcd_over {m n : Nat} (h : Nat.gcd m n ≠ 0) : Nat.gcd (m / Nat.gcd m n) (n / Nat.gcd m n) = 1 := by
  rw [Nat.gcd_div (Nat.gcd_dvd_left _ _) (Nat.gcd_dvd_right _ _), Nat.div_self (by omega)]
theorem CommonDivides_runs {a b c : List Int} (hwa : Wd a) (hwb : Wd b) (hwc : Wd c) (ha : a.length ≤ 9223372036854775807) (hb : b.length ≤ 9223372036854775807) (hc : c.length ≤ 9223372036854775807) :
    Runs Try.prog g_retrospectlaw06_CommonDivides [.d (.words a), .d (.words b), .d (.words c)] (.d (.bool true)) := by
  refine run1 [] p_retrospectlaw06_CommonDivides rfl rfl (fun B S F0 w0 V0 => ?_)
  refine split_intro (fun h => ?_) (fun h => ?_)
  · refine split_true rfl ?_
    refine split_true rfl ?_
    refine call_intro _ works06 ?_
    exact ret_intro rfl rfl
  have h1 : ¬ (a.length : Int) > 20 := of_decide_eq_false h
  refine split_intro (fun h => ?_) (fun h => ?_)
  · refine split_true rfl ?_
    refine call_intro _ works06 ?_
    exact ret_intro rfl rfl
  have h2 : ¬ (b.length : Int) > 20 := of_decide_eq_false h
  refine split_intro (fun h => ?_) (fun h => ?_)
  · refine call_intro _ works06 ?_
    exact ret_intro rfl rfl
  have h3 : ¬ (c.length : Int) > 20 := of_decide_eq_false h
  have la := nw_val hwa (k := 20) (by omega)
  have lb := nw_val hwb (k := 20) (by omega)
  have lc := nw_val hwc (k := 20) (by omega)
  refine call_intro _ (Gcd_spec hwa hwb (by omega) (by omega)) ?_
  have lg := nw_gcd la lb
  obtain ⟨g, hg⟩ : ∃ g, g = Nat.gcd (val a) (val b) := ⟨_, rfl⟩
  rw [← hg] at lg ⊢
  refine call_intro _ (Mul_spec hwa hwc (by omega) (by omega)) ?_
  refine call_intro _ (Mul_spec hwb hwc (by omega) (by omega)) ?_
  have lac := nw_mul (val a) (val c)
  have lbc := nw_mul (val b) (val c)
  have hgg := GcdN_spec (m := val a * val c) (n := val b * val c) (by omega) (by omega)
  rw [Nat.gcd_mul_right, ← hg] at hgg
  refine call_intro _ hgg ?_
  have hm := Mul_spec (a := toW g) (b := c) (Wd.toW _) hwc (by omega) (by omega)
  rw [val_toW] at hm
  refine call_intro _ hm ?_
  have lgc := nw_mul g (val c)
  refine call_intro _ (same_true rfl (by omega)) ?_
  refine split_false rfl ?_
  have hg2 := Gcd_spec hwb hwa (by omega) (by omega)
  rw [Nat.gcd_comm, ← hg] at hg2
  refine call_intro _ hg2 ?_
  refine call_intro _ (same_true rfl (by omega)) ?_
  refine split_false rfl ?_
  have hxa : g ≠ 0 → Runs Try.prog g_quot_Exact [.d (.words a), .d (.words (toW g))] (.tup [.d (.words (toW (val a / g))), .d (.bool true)]) := fun h0 => by
    have := Exact_spec (a := a) (b := toW g) hwa (Wd.toW _) (by omega) (by omega)
    rw [val_toW, if_pos ⟨h0, Nat.mod_eq_zero_of_dvd (by rw [hg]; exact Nat.gcd_dvd_left _ _)⟩] at this
    exact this
  have hxb : g ≠ 0 → Runs Try.prog g_quot_Exact [.d (.words b), .d (.words (toW g))] (.tup [.d (.words (toW (val b / g))), .d (.bool true)]) := fun h0 => by
    have := Exact_spec (a := b) (b := toW g) hwb (Wd.toW _) (by omega) (by omega)
    rw [val_toW, if_pos ⟨h0, Nat.mod_eq_zero_of_dvd (by rw [hg]; exact Nat.gcd_dvd_right _ _)⟩] at this
    exact this
  have hpr : g ≠ 0 → Runs Try.prog g_common_Prime [.d (.words (toW (val a / g))), .d (.words (toW (val b / g)))] (.d (.bool true)) := fun h0 => by
    have := Prime_spec (a := toW (val a / g)) (b := toW (val b / g)) (Wd.toW _) (Wd.toW _) (by have := nw_le (Nat.div_le_self (val a) g) la; omega) (by have := nw_le (Nat.div_le_self (val b) g) lb; omega)
    rw [val_toW, val_toW, decide_eq_true (by rw [hg]; exact gcd_over (by rw [← hg]; exact h0))] at this
    exact this
  refine call_intro _ (Zero_spec hwa (by omega)) ?_
  refine split_intro (fun h => ?_) (fun h => ?_)
  · have h : val a = 0 := of_decide_eq_true h
    refine call_intro _ (Zero_spec hwb (by omega)) ?_
    refine split_intro (fun h' => ?_) (fun h' => ?_)
    · have h' : val b = 0 := of_decide_eq_true h'
      have hz := ZeroN_spec (n := g) (by omega)
      rw [decide_eq_true (by rw [hg, h, h']; rfl)] at hz
      refine call_intro _ hz ?_
      refine split_true rfl ?_
      refine call_intro _ works06 ?_
      exact ret_intro rfl rfl
    · have h' : val b ≠ 0 := of_decide_eq_false h'
      have g0 : g ≠ 0 := by rw [hg]; intro e; exact h' (Nat.gcd_eq_zero_iff.1 e).2
      refine call_intro _ (hxa g0) ?_
      refine call_intro _ (hxb g0) ?_
      refine split_true rfl ?_
      refine split_true rfl ?_
      refine call_intro _ (hpr g0) ?_
      refine split_true rfl ?_
      refine call_intro _ works06 ?_
      exact ret_intro rfl rfl
  · have h : val a ≠ 0 := of_decide_eq_false h
    have g0 : g ≠ 0 := by rw [hg]; intro e; exact h (Nat.gcd_eq_zero_iff.1 e).1
    refine split_false rfl ?_
    refine call_intro _ (hxa g0) ?_
    refine call_intro _ (hxb g0) ?_
    refine split_true rfl ?_
    refine split_true rfl ?_
    refine call_intro _ (hpr g0) ?_
    refine split_true rfl ?_
    refine call_intro _ works06 ?_
    exact ret_intro rfl rfl
theorem CommonBoth_typed {x y : D} (h0 : OkD .ws x) (h1 : OkD .ws y) : Runs Try.prog g_retrospectlaw06_CommonBoth [.d x, .d y] (.d (.bool true)) := by
  obtain ⟨a, rfl, hwa, ha⟩ := inv_ws h0
  obtain ⟨b, rfl, hwb, hb⟩ := inv_ws h1
  exact CommonBoth_runs hwa hwb ha hb
theorem CommonDivides_typed {x y z : D} (h0 : OkD .ws x) (h1 : OkD .ws y) (h2 : OkD .ws z) : Runs Try.prog g_retrospectlaw06_CommonDivides [.d x, .d y, .d z] (.d (.bool true)) := by
  obtain ⟨a, rfl, hwa, ha⟩ := inv_ws h0
  obtain ⟨b, rfl, hwb, hb⟩ := inv_ws h1
  obtain ⟨c, rfl, hwc, hc⟩ := inv_ws h2
  exact CommonDivides_runs hwa hwb hwc ha hb hc
end Go.Proofs.Ythefflmebkcilaa.Fw
