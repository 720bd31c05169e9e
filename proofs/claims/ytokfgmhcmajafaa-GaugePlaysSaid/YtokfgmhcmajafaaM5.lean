/- Texts of the proof, one after the other: LF FY LI FZ TG LJ LK. -/
import Derived.DeepKeys
import Derived.Test.YtokfgmhcmajafaaM4
set_option linter.unusedSimpArgs false
set_option linter.unusedVariables false
/- The laws of fractions, walked. -/
set_option linter.unusedVariables false
namespace Go.Proofs.Ytokfgmhcmajafaa.Fw
open Go Pu
theorem fr_inj {p q : Rat} : (decide (p.num < 0) = decide (q.num < 0) ∧ toW p.num.natAbs = toW q.num.natAbs ∧ toW p.den = toW q.den) ↔ p = q := by
  constructor
  · rintro ⟨h1, h2, h3⟩
    apply Rat.ext
    · rw [← sg_self p.num, ← sg_self q.num, h1, toW_inj h2]
    · exact toW_inj h3
  · rintro rfl; exact ⟨rfl, rfl, rfl⟩
theorem alike_true {k : Nat} {p q : Rat} (h : Sz k p) (hk : k ≤ 1099511627776) (e : p = q) : Runs Try.prog g_retrospectlaw09_alike [fr p, fr q] (.d (.bool true)) := by
  subst e
  refine run1 [] p_retrospectlaw09_alike rfl rfl (fun B S F0 w0 V0 => ?_)
  refine side_intro rfl ?_
  refine call_intro _ lOf_spec ?_
  refine call_intro _ lOf_spec ?_
  have := r9Same_spec (s := decide (p.num < 0)) (s' := decide (p.num < 0)) (n := toW p.num.natAbs) (n' := toW p.num.natAbs) (d := toW p.den) (d' := toW p.den) (Nat.le_trans h.n hk) (Nat.le_trans h.d hk)
  rw [show decide (decide (p.num < 0) = decide (p.num < 0) ∧ toW p.num.natAbs = toW p.num.natAbs ∧ toW p.den = toW p.den) = true from decide_eq_true ⟨rfl, rfl, rfl⟩] at this
  refine call_intro _ this ?_
  exact ret_intro rfl rfl
section
variable {k : Nat} {x y : FD}
theorem dAdd (hx : x.ok k) (hy : y.ok k) (h1 : 1 ≤ k) (hk : k ≤ 34359738368) : Runs Try.prog g_frac_Add [x.v, y.v] (fr (x.q + y.q)) := fAdd_spec hx hy h1 hk
theorem dMul (hx : x.ok k) (hy : y.ok k) (h1 : 1 ≤ k) (hk : k ≤ 34359738368) : Runs Try.prog g_frac_Mul [x.v, y.v] (fr (x.q * y.q)) := fMul_spec hx hy h1 hk
theorem dCmp (hx : x.ok k) (hy : y.ok k) (h1 : 1 ≤ k) (hk : k ≤ 34359738368) : Runs Try.prog g_frac_Cmp [x.v, y.v] (.d (.int .i64 (sgn (x.q - y.q).num))) := fCmp_spec hx hy h1 hk
theorem dSame (hx : x.ok k) (hy : y.ok k) (h1 : 1 ≤ k) (hk : k ≤ 34359738368) : Runs Try.prog g_frac_Same [x.v, y.v] (.d (.bool (decide (x.q = y.q)))) := fSame_spec hx hy h1 hk
theorem dSign (hx : x.ok k) (h1 : 1 ≤ k) (hk : k ≤ 34359738368) : Runs Try.prog g_frac_Sign [x.v] (.d (.int .i64 (sgn x.q.num))) := fSign_spec hx h1 (by omega)
theorem dNorm (hx : x.ok k) (h1 : 1 ≤ k) (hk : k ≤ 34359738368) : Runs Try.prog g_frac_Norm [x.v] (fr x.q) := fNorm_spec hx h1 (by omega)
theorem rNormD (hx : x.ok k) (hk : k ≤ 34359738368) : Runs Try.prog g_retrospectref09_Norm [x.v] (fr x.q) := r9Norm_spec hx (by omega)
theorem ToD : Runs Try.prog g_retrospectlaw09_To [x.v] x.v := To_spec
theorem FD.ok_of {q : Rat} (h : Sz k q) : (FD.of q).ok k := Fk.fr h
theorem FD.ok.mono {j : Nat} (h : x.ok j) (hk : j ≤ k) : x.ok k := Fk.mono h hk
theorem FD.ok.sz (h : x.ok k) (h1 : 1 ≤ k) : Sz k x.q := Fk.sz h h1
end
theorem half : ((1 : Int) : Rat) / ((2 : Int) : Rat) = rt false 1 2 := by decide +kernel
theorem six4 : ((6 : Int) : Rat) / ((-4 : Int) : Rat) = rt true 3 2 := by decide +kernel
theorem fr_six4 : fr (rt true 3 2) = fq true [3] [2] := by
  rw [fr_rt (by omega) (by omega)]
  show V.agg 3 [.bool true, .words (toW 3), .words (toW 2)] = _
  rw [nw_one (n := 3) (by omega) (by omega), nw_one (n := 2) (by omega) (by omega)]; rfl
theorem fr_half : fr (rt false 1 2) = fq false [1] [2] := by
  rw [fr_rt (by omega) (by omega)]
  show V.agg 3 [.bool false, .words (toW 1), .words (toW 2)] = _
  rw [nw_one (n := 1) (by omega) (by omega), nw_one (n := 2) (by omega) (by omega)]; rfl
theorem works09 : Runs Try.prog g_retrospectlaw09_works [] (.d (.bool true)) := by
  refine run1 [] p_retrospectlaw09_works rfl rfl (fun B S F0 w0 V0 => ?_)
  have h1 := fRatio_spec (x := 6) (y := -4) (by omega) (by omega) (by omega) (by omega)
  rw [if_neg (by omega), six4, fr_six4] at h1
  have h2 := fRatio_spec (x := 1) (y := 2) (by omega) (by omega) (by omega) (by omega)
  rw [if_neg (by omega), half, fr_half] at h2
  have s1 : Sz 1 ((1 : Int) : Rat) := Sz_int (by show (toW 1).length ≤ 1; rw [nw1]; omega) (by omega)
  have s0 : Sz 1 ((0 : Int) : Rat) := Sz_int (by show (toW 0).length ≤ 1; rw [toW_zero]; exact Nat.zero_le _) (by omega)
  refine call_intro _ h1 ?_
  refine call_intro _ (fOf_spec (z := 1) (by omega) (by omega)) ?_
  refine call_intro _ (fOf_spec (z := 0) (by omega) (by omega)) ?_
  have h3 := fQuo_zero (s := decide (((1 : Int) : Rat).num < 0)) (t := decide (((0 : Int) : Rat).num < 0)) (Fk.fr s1) (Fk.fr s0) (by omega) (by omega) (by rw [rv_fr]; rfl)
  refine call_intro _ h3 ?_
  refine call_intro _ h2 ?_
  refine split_true rfl ?_
  refine split_true rfl ?_
  refine split_true rfl ?_
  have hi := Is_spec (s := true) (s' := true) (n := [3]) (n' := [3]) (d := [2]) (d' := [2]) (by decide) (by decide)
  rw [show decide (true = true ∧ ([3] : List Int) = [3] ∧ ([2] : List Int) = [2]) = true from decide_eq_true ⟨rfl, rfl, rfl⟩] at hi
  refine call_intro _ hi ?_
  refine split_true rfl ?_
  have hs := fSize_spec (s := false) (n := [1]) (d := [2]) (Wd.cons (by omega) (by omega) Wd.nil) (Wd.cons (by omega) (by omega) Wd.nil) (by decide) (by decide)
  rw [show bits (val [1]) + bits (val [2]) = 3 by decide +kernel] at hs
  refine call_intro _ hs ?_
  exact ret_intro rfl rfl
theorem longOr {x : FD} {m : Int} (h : (decide ((x.n.length : Int) > m) || decide ((x.d.length : Int) > m)) = false) : (x.n.length : Int) ≤ m ∧ (x.d.length : Int) ≤ m := by
  simp only [Bool.or_eq_false_iff, decide_eq_false_iff_not] at h
  omega
theorem LongD {x : FD} {m : Int} : Runs Try.prog g_retrospectref09_Long [x.v, .d (.int .i64 m)] (.d (.bool (decide ((x.n.length : Int) > m) || decide ((x.d.length : Int) > m)))) := r9Long_spec
theorem FracPowers_runs {x : FD} {e : Int} (hn : Wd x.n) (hd : Wd x.d) (h0 : -9223372036854775808 ≤ e) (h1 : e < 9223372036854775808) : Runs Try.prog g_retrospectlaw09_FracPowers [x.v, .d (.int .i64 e)] (.d (.bool true)) := by
  refine run1 [] p_retrospectlaw09_FracPowers rfl rfl (fun B S F0 w0 V0 => ?_)
  refine call_intro _ (LongD (x := x)) ?_
  refine split_intro (fun h => ?_) (fun h => ?_)
  · refine call_intro _ works09 ?_
    exact ret_intro rfl rfl
  obtain ⟨l1, l2⟩ := longOr h
  have hx : x.ok 4 := ⟨hn, hd, by omega, by omega⟩
  have hz := hx.sz (by omega)
  refine call_intro _ (ToD (x := x)) ?_
  by_cases hb : e < -8 ∨ 8 < e ∨ (e < 0 ∧ x.q = 0)
  · refine call_intro _ (fPow_bad hx (by omega) (by omega) hb) ?_
    refine call_intro _ (rNormD hx (by omega)) ?_
    refine call_intro _ (r9Pow_bad hb) ?_
    refine call_intro _ (Is_true (k := 1) ⟨by show (toW 0).length ≤ 1; rw [toW_zero]; exact Nat.zero_le _, by show (toW 1).length ≤ 1; rw [nw1]; omega⟩ (by omega) rfl) ?_
    refine split_true rfl ?_
    refine split_true rfl ?_
    refine call_intro _ works09 ?_
    exact ret_intro rfl rfl
  · have hb1 : -8 ≤ e := by
      refine Classical.byContradiction fun hh => hb (.inl (by omega))
    have hb2 : e ≤ 8 := by
      refine Classical.byContradiction fun hh => hb (.inr (.inl (by omega)))
    have hb3 : ¬ (e < 0 ∧ x.q = 0) := fun hh => hb (.inr (.inr hh))
    refine call_intro _ (fPow_spec hx (by omega) (by omega) hb1 hb2 hb3) ?_
    refine call_intro _ (rNormD hx (by omega)) ?_
    refine call_intro _ (r9Pow_spec hz (by omega) hb1 hb2 hb3) ?_
    refine call_intro _ (Is_true (Sz_zpow hz hb1 hb2) (by omega) rfl) ?_
    refine split_true rfl ?_
    refine split_true rfl ?_
    refine call_intro _ works09 ?_
    exact ret_intro rfl rfl
theorem FracExponents_runs {x : FD} {a b : Int} (hn : Wd x.n) (hd : Wd x.d) (a0 : -9223372036854775808 ≤ a) (a1 : a < 9223372036854775808) (b0 : -9223372036854775808 ≤ b) (b1 : b < 9223372036854775808) : Runs Try.prog g_retrospectlaw09_FracExponents [x.v, .d (.int .i64 a), .d (.int .i64 b)] (.d (.bool true)) := by
  refine run1 [] p_retrospectlaw09_FracExponents rfl rfl (fun B S F0 w0 V0 => ?_)
  refine call_intro _ (ToD (x := x)) ?_
  refine call_intro _ (LongD (x := x)) ?_
  refine split_intro (fun h => ?_) (fun h => ?_)
  · refine split_true rfl ?_
    refine split_true rfl ?_
    refine split_true rfl ?_
    refine split_true rfl ?_
    refine split_true rfl ?_
    refine call_intro _ works09 ?_
    exact ret_intro rfl rfl
  obtain ⟨l1, l2⟩ := longOr h
  refine split_intro (fun h => ?_) (fun h => ?_)
  · refine split_true rfl ?_
    refine split_true rfl ?_
    refine split_true rfl ?_
    refine split_true rfl ?_
    refine call_intro _ works09 ?_
    exact ret_intro rfl rfl
  have ha0 : ¬ a < -4 := of_decide_eq_false h
  refine split_intro (fun h => ?_) (fun h => ?_)
  · refine split_true rfl ?_
    refine split_true rfl ?_
    refine split_true rfl ?_
    refine call_intro _ works09 ?_
    exact ret_intro rfl rfl
  have ha1 : ¬ a > 4 := of_decide_eq_false h
  refine split_intro (fun h => ?_) (fun h => ?_)
  · refine split_true rfl ?_
    refine split_true rfl ?_
    refine call_intro _ works09 ?_
    exact ret_intro rfl rfl
  have hb0 : ¬ b < -4 := of_decide_eq_false h
  refine split_intro (fun h => ?_) (fun h => ?_)
  · refine split_true rfl ?_
    refine call_intro _ works09 ?_
    exact ret_intro rfl rfl
  have hb1 : ¬ b > 4 := of_decide_eq_false h
  have hx : x.ok 3 := ⟨hn, hd, by omega, by omega⟩
  have hz := hx.sz (by omega)
  refine call_intro _ (dSign hx (by omega) (by omega)) ?_
  refine split_intro (fun h => ?_) (fun h => ?_)
  · refine call_intro _ works09 ?_
    exact ret_intro rfl rfl
  have hq0 : x.q ≠ 0 := fun e => (beq_eq_false_iff_ne.1 h) (sgn_zero.2 (num_zero.2 e))
  refine call_intro _ (fPow_spec hx (by omega) (by omega) (by omega) (by omega) (fun e => hq0 e.2)) ?_
  refine call_intro _ (fPow_spec hx (by omega) (by omega) (by omega) (by omega) (fun e => hq0 e.2)) ?_
  have hab : IntKind.i64.wrap (a + b) = a + b := wr (by omega) (by omega)
  have h3 := fPow_spec (s := x.s) (e := a + b) hx (by omega) (by omega) (by omega) (by omega) (fun e => hq0 e.2)
  refine call_intro (.tup [fr (x.q ^ (a + b)), .d (.bool true)]) (by rw [← hab] at h3; rw [hab] at h3; show Runs Try.prog g_frac_Pow [x.v, .d (.int .i64 (IntKind.i64.wrap (a + b)))] _; rw [hab]; exact h3) ?_
  refine side_intro rfl ?_
  refine split_true rfl ?_
  refine split_true rfl ?_
  refine split_true rfl ?_
  have sa := Sz_zpow hz (e := a) (by omega) (by omega)
  have sb := Sz_zpow hz (e := b) (by omega) (by omega)
  have hm := fMul_spec (s := decide ((x.q ^ a).num < 0)) (t := decide ((x.q ^ b).num < 0)) (Fk.fr sa) (Fk.fr sb) (by omega) (by omega)
  rw [rv_fr, rv_fr] at hm
  refine call_intro _ hm ?_
  refine call_intro _ (alike_true (Sz_mul sa sb) (by omega) (Rat.zpow_add hq0 a b).symm) ?_
  refine split_true rfl ?_
  refine call_intro _ works09 ?_
  exact ret_intro rfl rfl
theorem FracSums_runs {x y : FD} (hn : Wd x.n) (hd : Wd x.d) (gn : Wd y.n) (gd : Wd y.d) : Runs Try.prog g_retrospectlaw09_FracSums [x.v, y.v] (.d (.bool true)) := by
  refine run1 [] p_retrospectlaw09_FracSums rfl rfl (fun B S F0 w0 V0 => ?_)
  refine call_intro _ (LongD (x := x)) ?_
  refine split_intro (fun h => ?_) (fun h => ?_)
  · refine split_true rfl ?_
    refine call_intro _ works09 ?_
    exact ret_intro rfl rfl
  obtain ⟨l1, l2⟩ := longOr h
  refine call_intro _ (LongD (x := y)) ?_
  refine split_intro (fun h => ?_) (fun h => ?_)
  · refine call_intro _ works09 ?_
    exact ret_intro rfl rfl
  obtain ⟨m1, m2⟩ := longOr h
  have hx : x.ok 20 := ⟨hn, hd, by omega, by omega⟩
  have hy : y.ok 20 := ⟨gn, gd, by omega, by omega⟩
  have zx := hx.sz (by omega)
  have zy := hy.sz (by omega)
  have z0 : Sz 40 (0 : Rat) := ⟨by show (toW 0).length ≤ 40; rw [toW_zero]; exact Nat.zero_le _, by show (toW 1).length ≤ 40; rw [nw1]; omega⟩
  refine call_intro _ (ToD (x := x)) ?_
  refine call_intro _ (ToD (x := y)) ?_
  refine call_intro _ (rNormD hx (by omega)) ?_
  refine call_intro _ (rNormD hy (by omega)) ?_
  by_cases h0 : y.q = 0
  case' pos =>
    refine call_intro _ (fQuo_zero hx hy (by omega) (by omega) h0) ?_
    refine call_intro _ (r9Int_spec (z := 0) (by omega) (by omega)) ?_
    refine call_intro _ (r9Zero_spec y.q) ?_
    refine split_false (by show (!decide (y.q = 0)) = false; rw [decide_eq_true h0]; rfl) ?_
    refine side_intro rfl ?_
    refine call_intro _ (Is_true z0 (by omega) rfl) ?_
    refine split_false rfl ?_
    refine call_intro _ (r9Zero_spec y.q) ?_
    refine split_false (by show (false == decide (y.q = 0)) = false; rw [decide_eq_true h0]; rfl) ?_
  case' neg =>
    refine call_intro _ (fQuo_spec hx hy (by omega) (by omega) h0) ?_
    refine call_intro _ (r9Int_spec (z := 0) (by omega) (by omega)) ?_
    refine call_intro _ (r9Zero_spec y.q) ?_
    refine split_true (by show (!decide (y.q = 0)) = true; rw [decide_eq_false h0]; rfl) ?_
    refine call_intro _ (r9Quo_spec zx zy (by omega) h0) ?_
    refine side_intro rfl ?_
    refine call_intro _ (Is_true (Sz_div zx zy) (by omega) rfl) ?_
    refine split_false rfl ?_
    refine call_intro _ (r9Zero_spec y.q) ?_
    refine split_false (by show (true == decide (y.q = 0)) = false; rw [decide_eq_false h0]; rfl) ?_
  all_goals
    refine call_intro _ (fNeg_spec hx (by omega) (by omega)) ?_
    refine call_intro _ (r9Neg_spec zx (by omega)) ?_
    refine call_intro _ (Is_true (Sz_neg zx) (by omega) rfl) ?_
    refine split_false rfl ?_
    refine call_intro _ (fAbs_spec hx (by omega) (by omega)) ?_
    refine call_intro _ (r9Abs_spec x.q) ?_
    refine call_intro _ (Is_true (k := 20) (by unfold absQ; split; exact Sz_neg zx; exact zx) (by omega) rfl) ?_
    refine split_false rfl ?_
    refine side_intro rfl ?_
    refine call_intro _ (dAdd hx hy (by omega) (by omega)) ?_
    refine call_intro _ (r9Add_spec zx zy (by omega)) ?_
    refine call_intro _ (Is_true (Sz_add zx zy) (by omega) rfl) ?_
    refine split_true rfl ?_
    refine call_intro _ (fSub_spec hx hy (by omega) (by omega)) ?_
    refine call_intro _ (r9Sub_spec zx zy (by omega)) ?_
    refine call_intro _ (Is_true (Sz_sub zx zy) (by omega) rfl) ?_
    refine split_true rfl ?_
    refine call_intro _ (dMul hx hy (by omega) (by omega)) ?_
    refine call_intro _ (r9Mul_spec zx zy (by omega)) ?_
    refine call_intro _ (Is_true (Sz_mul zx zy) (by omega) rfl) ?_
    refine split_true rfl ?_
    refine call_intro _ works09 ?_
    exact ret_intro rfl rfl
theorem FracTells_runs {x y : FD} (hn : Wd x.n) (hd : Wd x.d) (gn : Wd y.n) (gd : Wd y.d) : Runs Try.prog g_retrospectlaw09_FracTells [x.v, y.v] (.d (.bool true)) := by
  refine run1 [] p_retrospectlaw09_FracTells rfl rfl (fun B S F0 w0 V0 => ?_)
  refine call_intro _ (LongD (x := x)) ?_
  refine split_intro (fun h => ?_) (fun h => ?_)
  · refine split_true rfl ?_
    refine call_intro _ works09 ?_
    exact ret_intro rfl rfl
  obtain ⟨l1, l2⟩ := longOr h
  refine call_intro _ (LongD (x := y)) ?_
  refine split_intro (fun h => ?_) (fun h => ?_)
  · refine call_intro _ works09 ?_
    exact ret_intro rfl rfl
  obtain ⟨m1, m2⟩ := longOr h
  have hx : x.ok 30 := ⟨hn, hd, by omega, by omega⟩
  have hy : y.ok 30 := ⟨gn, gd, by omega, by omega⟩
  have zx := hx.sz (by omega)
  have zy := hy.sz (by omega)
  refine call_intro _ (ToD (x := x)) ?_
  refine call_intro _ (ToD (x := y)) ?_
  refine call_intro _ (rNormD hx (by omega)) ?_
  refine call_intro _ (rNormD hy (by omega)) ?_
  refine call_intro _ (fFloor_spec hx (by omega) (by omega)) ?_
  refine side_intro rfl ?_
  refine call_intro _ (r9Floor_spec zx (by omega)) ?_
  have hfl : x.q.floor.natAbs ≤ x.q.num.natAbs := by
    rw [Rat.floor_def]
    exact Int.natAbs_ediv_le_natAbs _ _
  have hsm := r8Same_spec (s := decide (x.q.floor < 0)) (t := decide (x.q.floor < 0)) (a := toW x.q.floor.natAbs) (b := toW x.q.floor.natAbs) (by have := nw_le hfl zx.n; omega)
  rw [show decide (decide (x.q.floor < 0) = decide (x.q.floor < 0) ∧ toW x.q.floor.natAbs = toW x.q.floor.natAbs) = true from decide_eq_true ⟨rfl, rfl⟩] at hsm
  refine call_intro _ hsm ?_
  refine split_false rfl ?_
  refine call_intro _ (fSize_spec (s := x.s) hn hd (by omega) (by omega)) ?_
  refine call_intro _ (r9Size_spec (s := x.s) hn hd (by omega) (by omega)) ?_
  refine split_false (by show (((bits (val x.n) + bits (val x.d) : Nat) : Int) != ((bits (val x.n) + bits (val x.d) : Nat) : Int)) = false; rw [bne_self_eq_false]) ?_
  refine call_intro _ (fRight_spec (s := x.s) hx (by omega) (by omega)) ?_
  refine call_intro _ (r9Same_spec (s := x.s) (s' := decide (x.q.num < 0)) (n' := toW x.q.num.natAbs) (d' := toW x.q.den) (n := x.n) (d := x.d) (by omega) (by omega)) ?_
  refine split_false (by
    show (!((decide (x.s = decide (x.q.num < 0) ∧ x.n = toW x.q.num.natAbs ∧ x.d = toW x.q.den)) == (decide (x.s = decide (x.q.num < 0) ∧ x.n = toW x.q.num.natAbs ∧ x.d = toW x.q.den)))) = false
    rw [beq_self_eq_true]; rfl) ?_
  refine side_intro rfl ?_
  refine call_intro _ (dNorm hx (by omega) (by omega)) ?_
  refine call_intro _ (Is_true zx (by omega) rfl) ?_
  refine split_true rfl ?_
  refine call_intro _ (dSign hx (by omega) (by omega)) ?_
  refine call_intro _ (r9Sign_spec x.q) ?_
  refine split_true (beq_iff_eq.2 rfl) ?_
  refine call_intro _ (dCmp hx hy (by omega) (by omega)) ?_
  refine call_intro _ (r9Cmp_spec zx zy (by omega)) ?_
  refine split_true (beq_iff_eq.2 rfl) ?_
  refine call_intro _ (dSame hx hy (by omega) (by omega)) ?_
  have h3 := r9Same_spec (s := decide (x.q.num < 0)) (s' := decide (y.q.num < 0)) (n := toW x.q.num.natAbs) (n' := toW y.q.num.natAbs) (d := toW x.q.den) (d' := toW y.q.den) (by have := zx.n; omega) (by have := zx.d; omega)
  rw [show decide (decide (x.q.num < 0) = decide (y.q.num < 0) ∧ toW x.q.num.natAbs = toW y.q.num.natAbs ∧ toW x.q.den = toW y.q.den) = decide (x.q = y.q) from decide_eq_decide.2 fr_inj] at h3
  refine call_intro _ h3 ?_
  refine split_true (beq_self_eq_true _) ?_
  refine call_intro _ works09 ?_
  exact ret_intro rfl rfl
end Go.Proofs.Ytokfgmhcmajafaa.Fw

/- nil as a row of the call's own, that is empty; rows of fractions. -/
set_option linter.unusedVariables false
namespace Go.Proofs.Ytokfgmhcmajafaa.Fw
open Go
theorem weak_nil_own {c : Ctx} {s : St} (t d : Nat) (m : MO) {e sz : Nat} (ht : s.env t = .nils) (hd : s.mem d = none) (hdN : Nat.blt d c.N = true) (hr : m.row? = some (e, sz, 0, [])) (hz : 0 < sz) : Weak c ((s.upd d m).put (some t) (.own d 0 0)) s := by
  unfold Weak
  rintro a w ⟨F, ν, h⟩
  have hnew := h.new (w' := w) (i := d) (obj := m) (Nat.le_of_ble_eq_true hdN) hd (v := .slice none 0 0) (fun b hb => by simp [blk] at hb) rfl rfl rfl (Nat.le_refl _) (fun _ _ => rfl) (MRep.ofRow hr hz (World.ownsRow_nil w 0 e sz) AllR.nil)
  refine ⟨F, nuSet ν d (.slice none 0 0), hnew.sz, hnew.dfr, fun x => ?_, hnew.mem, hnew.sep, hnew.inj, hnew.fin, hnew.keep, hnew.base, hnew.nu⟩
  rw [put_env]
  by_cases hx : x = t
  · rw [if_pos hx, hx]
    have he := h.env t
    rw [ht] at he
    have he : a.tmps.getD t undef = .slice none 0 0 := he
    rw [he]
    exact ⟨m, e, sz, 0, [], none, 0, 0, by show (s.upd d m).mem d = some m; rw [upd_mem, if_pos rfl], hr, Nat.le_refl _, .inl rfl, by simp [nuSet], rfl⟩
  · rw [if_neg hx]
    exact hnew.env x
end Go.Proofs.Ytokfgmhcmajafaa.Fw

/- The law FracMakes, walked. -/
set_option linter.unusedVariables false
namespace Go.Proofs.Ytokfgmhcmajafaa.Fw
open Go Pu
theorem rowsF_all (l : List FD) : (l.map FD.c).all (fun x => x.length == 3) = true := by
  induction l with
  | nil => rfl
  | cons x l ih => rw [List.map_cons, List.all_cons, ih]; rfl
theorem rowsF_row (e : TypeId) (l : List FD) : (MO.rows e 3 (l.map FD.c)).row? = some (e, 3, l.length, (l.map FD.c).flatten) := by
  simp only [MO.row?, rowsF_all, if_true, List.length_map]
theorem rowsF_len (l : List FD) : (l.map FD.c).flatten.length = l.length * 3 := by
  induction l with
  | nil => rfl
  | cons x l ih => rw [List.map_cons, List.flatten_cons, List.length_append, ih]; show 3 + l.length * 3 = (l.length + 1) * 3; omega
theorem snap_F (e : TypeId) (l : List FD) {n : Nat} (h : n = l.length) : snapM (.rows e 3 (l.map FD.c)) 0 n = .d (rowsF l) := by
  show V.d (.rows 3 (((l.map FD.c).drop 0).take n)) = _
  rw [List.drop_zero, List.take_of_length_le (by rw [List.length_map]; omega)]; rfl
theorem take_succF {l : List FD} {i : Nat} (h : i < l.length) : (l.take (i + 1)).map FD.c = (l.take i).map FD.c ++ [(l.getD i FD.none).c] := by
  rw [List.take_succ_eq_append_getElem h, List.map_append, List.getD_eq_getElem?_getD, List.getElem?_eq_getElem h]; rfl
def qs (l : List FD) (i : Nat) : Rat := (l.getD i FD.none).q
theorem Max_spec {k : Nat} {l : List FD} (h : ∀ x ∈ l, x.ok k) (h1 : 1 ≤ k) (hk : k ≤ 34359738368) (hl : l.length ≤ 1000000) : Runs Try.prog g_frac_Max [.d (rowsF l)] (fr (mx (qs l) l.length)) := by
  refine run1 [] p_frac_Max rfl rfl (fun B S F0 w0 V0 => ?_)
  have s0 : fr ((0 : Int) : Rat) = fr (mx (qs l) 0) := rfl
  refine call_intro _ (fOf_spec (z := 0) (by omega) (by omega)) ?_
  refine loop_intro (fun i : Nat => st [(2, .addr 2 0), (3, .addr 3 0), (7, .d (rowsF l)), (8, .d (.int .i64 (l.length : Int))), (9, .d (.int .i64 (i : Int)))] [(2, .box [.bool false, .words [], .words []]), (3, .box (FD.of (mx (qs l) i)).c)]) (fun i => l.length - i) (fun i => i ≤ l.length) 0 (Nat.zero_le _)
    (weak_st _ _ ⟨rfl, rfl, rfl, i64_inj (by show ((l.map FD.c).length : Int) = _; rw [List.length_map]), rfl, trivial⟩ ⟨rfl, rfl, trivial⟩ rfl) ?_
  intro i hi
  refine split_intro (fun hh => ?_) (fun hh => ?_)
  · have hlt : i < l.length := by have hh : (i : Int) < l.length := of_decide_eq_true hh; omega
    have ei : IntKind.i64.wrap ((i : Int) + 1) = ((i + 1 : Nat) : Int) := by rw [wr (by omega) (by omega)]; omega
    have hx := h _ (FD.getD_mem hlt)
    have hm : Sz k (mx (qs l) i) := Sz_mx h1 i (fun j hj => (h _ (FD.getD_mem (by omega))).sz h1)
    have hnx := dNorm hx h1 hk
    refine idx_F i rfl hlt ?_
    by_cases h0 : i = 0
    · refine split_true (beq_iff_eq.2 (by show (i : Int) = 0; omega)) ?_
      refine split_true rfl ?_
      refine call_intro _ hnx ?_
      have e : mx (qs l) (i + 1) = (l.getD i FD.none).q := by unfold mx; rw [if_pos (.inl h0)]; rfl
      refine ⟨i + 1, hlt, by omega, weak_st _ _ ⟨rfl, rfl, rfl, rfl, i64_inj ei, trivial⟩ ⟨rfl, ?_, trivial⟩ rfl⟩
      rw [e]; rfl
    · refine split_false (beq_eq_false_iff_ne.2 (by show (i : Int) ≠ 0; omega)) ?_
      have hc := dCmp hx (FD.ok_of hm) h1 hk
      rw [FD.q_of] at hc
      refine call_intro _ hc ?_
      refine split_intro (fun hg => ?_) (fun hg => ?_)
      · have hg : sgn ((l.getD i FD.none).q - mx (qs l) i).num > 0 := of_decide_eq_true hg
        refine call_intro _ hnx ?_
        have e : mx (qs l) (i + 1) = (l.getD i FD.none).q := by
          show (if i = 0 ∨ 0 < sgn (qs l i - mx (qs l) i).num then qs l i else mx (qs l) i) = _
          rw [if_pos (.inr hg)]; rfl
        refine ⟨i + 1, hlt, by omega, weak_st _ _ ⟨rfl, rfl, rfl, rfl, i64_inj ei, trivial⟩ ⟨rfl, ?_, trivial⟩ rfl⟩
        rw [e]; rfl
      · have hg : ¬ sgn ((l.getD i FD.none).q - mx (qs l) i).num > 0 := of_decide_eq_false hg
        have e : mx (qs l) (i + 1) = mx (qs l) i := by
          show (if i = 0 ∨ 0 < sgn (qs l i - mx (qs l) i).num then qs l i else mx (qs l) i) = _
          rw [if_neg (by
            rintro (h2 | h2)
            · exact h0 h2
            · exact hg h2)]
        refine ⟨i + 1, hlt, by omega, weak_st _ _ ⟨rfl, rfl, rfl, rfl, i64_inj ei, trivial⟩ ⟨rfl, ?_, trivial⟩ rfl⟩
        rw [e]; rfl
  · have hend : i = l.length := by have hh : ¬ (i : Int) < l.length := of_decide_eq_false hh; omega
    subst hend
    exact ret_intro rfl rfl
def mst (x : FD) (a b : Int) (l : List FD) : Option Nat → St
  | some i => st [(2, .d (rowsF l)), (3, .addr 3 0), (4, .addr 4 0), (7, .own 43 0 i), (8, .addr 8 0), (9, .d (.int .i64 (i : Int)))] [(3, .box x.c), (4, .box [.int .i64 a, .int .i64 b]), (8, .box (FD.of (mx (qs l) i)).c), (43, .rows tFrac 3 ((l.take i).map FD.c))]
  | none => st [(2, .d (rowsF l)), (3, .addr 3 0), (4, .addr 4 0), (7, .d (rowsF l)), (8, .addr 8 0), (9, .d (.int .i64 (l.length : Int)))] [(3, .box x.c), (4, .box [.int .i64 a, .int .i64 b]), (8, .box (FD.of (mx (qs l) l.length)).c)]
def mmu (n : Nat) : Option Nat → Nat
  | some i => n - i
  | none => 0
def minv (l : List FD) : Option Nat → Prop
  | some i => i < l.length ∧ ∀ j, j < i → (l.getD j FD.none).n.length ≤ 30 ∧ (l.getD j FD.none).d.length ≤ 30
  | none => ∀ j, j < l.length → (l.getD j FD.none).n.length ≤ 30 ∧ (l.getD j FD.none).d.length ≤ 30
set_option maxHeartbeats 2000000 in
theorem FracMakes_runs {x : FD} {a b : Int} {l : List FD} (hn : Wd x.n) (hd : Wd x.d) (a0 : -9223372036854775808 ≤ a) (a1 : a < 9223372036854775808) (b0 : -9223372036854775808 ≤ b) (b1 : b < 9223372036854775808) (hl : ∀ y ∈ l, Wd y.n ∧ Wd y.d) :
    Runs Try.prog g_retrospectlaw09_FracMakes [x.v, .agg 2 [.int .i64 a, .int .i64 b], .d (rowsF l)] (.d (.bool true)) := by
  refine run1 [] p_retrospectlaw09_FracMakes rfl rfl (fun B S F0 w0 V0 => ?_)
  refine call_intro _ (LongD (x := x)) ?_
  refine split_intro (fun h => ?_) (fun h => ?_)
  · refine split_true rfl ?_
    refine call_intro _ works09 ?_
    exact ret_intro rfl rfl
  obtain ⟨l1, l2⟩ := longOr h
  refine split_intro (fun h => ?_) (fun h => ?_)
  · refine call_intro _ works09 ?_
    exact ret_intro rfl rfl
  have hL : l.length ≤ 20 := by
    have h : ¬ ((l.map FD.c).length : Int) > 20 := of_decide_eq_false h
    rw [List.length_map] at h; omega
  have hx : x.ok 30 := ⟨hn, hd, by omega, by omega⟩
  have zx := hx.sz (by omega)
  refine call_intro _ (r9Int_spec (z := 0) (by omega) (by omega)) ?_
  refine loop_intro (mst x a b l) (mmu (l.length + 1)) (minv l) (if l.length = 0 then none else some 0) ?_ ?_ ?_
  · split
    · intro j hj; omega
    · exact ⟨by omega, fun j hj => by omega⟩
  · split
    · rename_i h0
      have e0 : l = [] := List.eq_nil_of_length_eq_zero h0
      subst e0
      exact weak_trans (weak_st _ _ ⟨rfl, rfl, rfl, rfl, rfl, rfl, trivial⟩ ⟨rfl, rfl, rfl, trivial⟩ rfl) (weak_nilR 7 3 rfl)
    · exact weak_trans (weak_st _ _ ⟨rfl, rfl, rfl, rfl, rfl, rfl, trivial⟩ ⟨rfl, rfl, rfl, rfl, trivial⟩ rfl) (weak_nil_own 7 43 (.rows tFrac 3 []) (e := tFrac) (sz := 3) rfl rfl rfl rfl (by omega))
  · intro oi hI
    cases oi with
    | some i =>
      obtain ⟨hlt, hj⟩ := hI
      have ei : IntKind.i64.wrap ((i : Int) + 1) = ((i + 1 : Nat) : Int) := by rw [wr (by omega) (by omega)]; omega
      refine split_true (decide_eq_true (by show (i : Int) < ((l.map FD.c).length : Int); rw [List.length_map]; omega)) ?_
      refine idx_F i rfl hlt ?_
      refine call_intro _ (LongD (x := l.getD i FD.none)) ?_
      refine split_intro (fun h => ?_) (fun h => ?_)
      · refine call_intro _ works09 ?_
        exact ret_intro rfl rfl
      obtain ⟨k1, k2⟩ := longOr h
      obtain ⟨g1, g2⟩ := hl _ (FD.getD_mem hlt)
      have hy : (l.getD i FD.none).ok 30 := ⟨g1, g2, by omega, by omega⟩
      have hj' : ∀ j, j < i + 1 → (l.getD j FD.none).n.length ≤ 30 ∧ (l.getD j FD.none).d.length ≤ 30 := by
        intro j hjj
        rcases Nat.lt_or_ge j i with h1 | h1
        · exact hj j h1
        · have : j = i := by omega
          subst this
          exact ⟨by omega, by omega⟩
      have hm : Sz 30 (mx (qs l) i) := Sz_mx (by omega) i (fun j hjj => by
        obtain ⟨p1, p2⟩ := hl _ (FD.getD_mem (i := j) (by omega))
        exact FD.ok.sz (x := l.getD j FD.none) ⟨p1, p2, (hj j hjj).1, (hj j hjj).2⟩ (by omega))
      have hnx := rNormD hy (by omega)
      refine idx_F i rfl hlt ?_
      refine call_intro _ (ToD (x := l.getD i FD.none)) ?_
      have htl : (l.take i).length = i := by rw [List.length_take]; omega
      have htl1 : (l.take (i + 1)).length = i + 1 := by rw [List.length_take]; omega
      refine opp_append_own hT (e := tFrac) (i := 43) (j := 43) (obj := .rows tFrac 3 ((l.take i).map FD.c)) (obj2 := .rows tFrac 3 ((l.take (i + 1)).map FD.c)) (n := i) (m := 1) (fl := ((l.take i).map FD.c).flatten) (fl2 := (l.getD i FD.none).c) rfl rfl rfl rfl rfl rfl ?_ rfl rfl rfl (Nat.le_of_ble_eq_true rfl) (Nat.le_of_ble_eq_true rfl) (.inl rfl) ?_ ?_ ?_
      · rw [rowsF_row, htl]; rfl
      · rw [rowsF_row, htl1, take_succF hlt, List.flatten_append]
        show some (tFrac, 3, i + 1, ((l.take i).map FD.c).flatten ++ ((l.getD i FD.none).c ++ [])) = _
        rw [List.append_nil]; rfl
      · show (i + 1) * (56 + 1) ≤ _
        omega
      refine side_intro rfl ?_
      have fin : ∀ {q : Rat}, mx (qs l) (i + 1) = q → ∀ {s : St}, s.env 2 = .d (rowsF l) → s.env 3 = .addr 3 0 → s.env 4 = .addr 4 0 → s.env 7 = .own 43 0 (i + 1) → s.env 8 = .addr 8 0 → s.env 9 = .d (.int .i64 (IntKind.i64.wrap ((i : Int) + 1))) → s.mem 3 = some (.box x.c) → s.mem 4 = some (.box [.int .i64 a, .int .i64 b]) → s.mem 8 = some (.box (FD.of q).c) → s.mem 43 = some (.rows tFrac 3 ((l.take (i + 1)).map FD.c)) →
          ∃ y, minv l y ∧ mmu (l.length + 1) y < mmu (l.length + 1) (some i) ∧ Weak ⟨f_retrospectlaw09_FracMakes.ntmps, B, S, F0, w0, V0⟩ (mst x a b l y) s := by
        rintro q hq s e2 e3 e4 e7 e8 e9 m3 m4 m8 m43
        rw [ei] at e9
        by_cases hlast : i + 1 < l.length
        · exact ⟨some (i + 1), ⟨hlast, hj'⟩, by show l.length + 1 - (i + 1) < l.length + 1 - i; omega, weak_st _ _ ⟨e2, e3, e4, e7, e8, e9, trivial⟩ ⟨m3, m4, by rw [hq]; exact m8, m43, trivial⟩ rfl⟩
        · have hil : i + 1 = l.length := by omega
          refine ⟨none, fun j hjl => hj' j (by omega), by show 0 < l.length + 1 - i; omega, ?_⟩
          refine weak_trans (weak_st _ _ ⟨?_, ?_, ?_, ?_, ?_, ?_, trivial⟩ ⟨?_, ?_, ?_, trivial⟩ rfl) (weak_freeze (i := 43) (m := .rows tFrac 3 ((l.take (i + 1)).map FD.c)) (Nat.le_of_ble_eq_true rfl) m43)
          · show frzV 43 _ (s.env 2) = _; rw [e2]; rfl
          · show frzV 43 _ (s.env 3) = _; rw [e3]; rfl
          · show frzV 43 _ (s.env 4) = _; rw [e4]; rfl
          · show frzV 43 _ (s.env 7) = _
            rw [e7]
            show snapM (.rows tFrac 3 ((l.take (i + 1)).map FD.c)) 0 (i + 1) = .d (rowsF l)
            rw [hil, List.take_length, snap_F _ _ rfl]
          · show frzV 43 _ (s.env 8) = _; rw [e8]; rfl
          · show frzV 43 _ (s.env 9) = _; rw [e9, hil]; rfl
          · show (bif Nat.beq 3 43 then (Option.none : Option MO) else s.mem 3) = _; rw [m3]; rfl
          · show (bif Nat.beq 4 43 then (Option.none : Option MO) else s.mem 4) = _; rw [m4]; rfl
          · show (bif Nat.beq 8 43 then (Option.none : Option MO) else s.mem 8) = _; rw [m8, ← hq, hil]; rfl
      by_cases h0 : i = 0
      · refine split_true (beq_iff_eq.2 (by show (i : Int) = 0; omega)) ?_
        refine split_true rfl ?_
        refine idx_F i rfl hlt ?_
        refine call_intro _ hnx ?_
        exact fin (q := (l.getD i FD.none).q) (by unfold mx; rw [if_pos (.inl h0)]; rfl) rfl rfl rfl rfl rfl rfl rfl rfl rfl rfl
      · refine split_false (beq_eq_false_iff_ne.2 (by show (i : Int) ≠ 0; omega)) ?_
        refine idx_F i rfl hlt ?_
        refine call_intro _ hnx ?_
        refine call_intro _ (r9Cmp_spec (hy.sz (by omega)) hm (by omega)) ?_
        refine split_intro (fun hg => ?_) (fun hg => ?_)
        · have hg : sgn ((l.getD i FD.none).q - mx (qs l) i).num > 0 := of_decide_eq_true hg
          refine idx_F i rfl hlt ?_
          refine call_intro _ hnx ?_
          refine fin (q := (l.getD i FD.none).q) ?_ rfl rfl rfl rfl rfl rfl rfl rfl rfl rfl
          show (if i = 0 ∨ 0 < sgn (qs l i - mx (qs l) i).num then qs l i else mx (qs l) i) = _
          rw [if_pos (.inr hg)]; rfl
        · have hg : ¬ sgn ((l.getD i FD.none).q - mx (qs l) i).num > 0 := of_decide_eq_false hg
          refine fin (q := mx (qs l) i) ?_ rfl rfl rfl rfl rfl rfl rfl rfl rfl rfl
          show (if i = 0 ∨ 0 < sgn (qs l i - mx (qs l) i).num then qs l i else mx (qs l) i) = _
          rw [if_neg (by
            rintro (h2 | h2)
            · exact h0 h2
            · exact hg h2)]
    | none =>
      have hall : ∀ y ∈ l, y.ok 30 := by
        intro y hy
        obtain ⟨i, hi⟩ := List.getElem?_of_mem hy
        have hlt := (List.getElem?_eq_some_iff.1 hi).1
        obtain ⟨p1, p2⟩ := hl y hy
        have h3 := hI i hlt
        rw [List.getD_eq_getElem?_getD, hi] at h3
        exact ⟨p1, p2, h3.1, h3.2⟩
      have hmx := Max_spec hall (by omega) (by omega) (by omega)
      have smx : Sz 30 (mx (qs l) l.length) := Sz_mx (by omega) _ (fun j hjj => (hall _ (FD.getD_mem hjj)).sz (by omega))
      refine split_false (decide_eq_false (by show ¬ (l.length : Int) < ((l.map FD.c).length : Int); rw [List.length_map]; omega)) ?_
      refine side_intro rfl ?_
      refine call_intro _ (ToD (x := x)) ?_
      refine call_intro _ (fNew_spec (s := x.s) hn hd (by omega) (by omega)) ?_
      have sa : Sz 2 (a : Rat) := Sz_int (nw_two.2 (by omega)) (by omega)
      have sb : Sz 2 (b : Rat) := Sz_int (nw_two.2 (by omega)) (by omega)
      have hrt := fRatio_spec a0 a1 b0 b1
      have hszd : Runs Try.prog g_retrospectref09_Size [fq false [] x.d] (.d (.int .i64 ((bits (val []) + bits (val x.d) : Nat) : Int))) := r9Size_spec Wd.nil hd (by show 0 ≤ _; omega) (by omega)
      have hszb : (decide (val x.d ≠ 0) == decide ((((bits (val []) + bits (val x.d) : Nat) : Int)) > 0)) = true := by
        have e0 : bits (val []) = 0 := rfl
        rw [e0, Nat.zero_add]
        by_cases h0 : val x.d = 0
        · rw [h0]; rfl
        · have := bits_pos h0
          rw [decide_eq_true h0, decide_eq_true (by omega)]; rfl
      by_cases hb : b = 0
      case' pos =>
        rw [if_pos hb] at hrt
        refine call_intro _ hrt ?_
        refine call_intro _ (r9Int_spec (z := 0) (by omega) (by omega)) ?_
        refine split_false (by show (b != 0) = false; rw [hb]; rfl) ?_
      case' neg =>
        rw [if_neg hb] at hrt
        refine call_intro _ hrt ?_
        refine call_intro _ (r9Int_spec (z := 0) (by omega) (by omega)) ?_
        refine split_true (bne_iff_ne.2 hb) ?_
        refine side_intro rfl ?_
        refine call_intro _ (r9Int_spec a0 a1) ?_
        refine call_intro _ (r9Int_spec b0 b1) ?_
        refine call_intro _ (r9Quo_spec sa sb (by omega) (fun e => hb (congrArg Rat.num e))) ?_
      all_goals
        refine side_intro rfl ?_
        refine call_intro _ (rNormD hx (by omega)) ?_
        refine call_intro _ (Is_true zx (by omega) rfl) ?_
        refine split_true rfl ?_
        refine call_intro _ hszd ?_
        refine split_true hszb ?_
        first
        | refine call_intro _ (Is_true (Sz_div sa sb) (by omega) rfl) ?_
        | refine call_intro _ (Is_true (k := 1) ⟨by show (toW 0).length ≤ 1; rw [toW_zero]; exact Nat.zero_le _, by show (toW 1).length ≤ 1; rw [nw1]; omega⟩ (by omega) rfl) ?_
        refine split_true rfl ?_
        first
        | refine split_true (by show (true == (b != 0)) = true; rw [bne_iff_ne.2 hb]; rfl) ?_
        | refine split_true (by show (false == (b != 0)) = true; rw [hb]; rfl) ?_
        refine call_intro _ (fOf_spec a0 a1) ?_
        refine call_intro _ (r9Int_spec a0 a1) ?_
        refine call_intro _ (Is_true sa (by omega) rfl) ?_
        refine split_true rfl ?_
        refine call_intro _ hmx ?_
        refine call_intro _ (Is_true smx (by omega) rfl) ?_
        refine split_true rfl ?_
        refine call_intro _ works09 ?_
        exact ret_intro rfl rfl
theorem FracMakes_typed {x y : List D} {z : D} (h0 : AllR OkD shF x) (h1 : AllR OkD (List.replicate 2 [Sh.int .i64]).flatten y) (h2 : OkD shR z) : Runs Try.prog g_retrospectlaw09_FracMakes [.agg shF.length x, .agg (List.replicate 2 [Sh.int .i64]).flatten.length y, .d z] (.d (.bool true)) := by
  obtain ⟨f, rfl, hn, hd, _⟩ := inv_frac h0
  obtain ⟨u0, us, rfl, g0, g1⟩ := h1.head
  obtain ⟨u1, us1, rfl, g2, g3⟩ := g1.head
  obtain rfl := g3.nil_of
  obtain ⟨a, rfl, ha⟩ := inv_int g0
  obtain ⟨b, rfl, hb⟩ := inv_int g2
  obtain ⟨l, rfl, hl, _⟩ := inv_fracs h2
  obtain ⟨a0, a1⟩ := wf_i64 ha
  obtain ⟨b0, b1⟩ := wf_i64 hb
  exact FracMakes_runs hn hd a0 a1 b0 b1 (fun y hy => ⟨(hl y hy).1, (hl y hy).2.1⟩)
end Go.Proofs.Ytokfgmhcmajafaa.Fw

/- A pointer held against nil; two counts held against one another. -/
set_option linter.unusedVariables false
namespace Go.Proofs.Ytokfgmhcmajafaa.Fw
open Go
variable {c : Ctx} {s : St} {o : Oper} {K : St → Prop}
theorem opp_eq_nil {x y : Operand} {t yt e : TypeId} {i q : Nat} (ht : Try.prog.underlying t = some (.pointer e)) (ho : o.op = .binOp .eql t x y yt) (hd : dstOk c.N o = true) (hx : s.ev x = .addr i q) (hy : s.ev y = .nilp)
    (hK : K (s.put o.dst (.d (.bool false)))) : OpP Try.prog c o s K := by
  unfold OpP
  rintro Q a w ⟨F, ν, h⟩
  have hxr := ev_rep h x
  have hyr := ev_rep h y
  rw [hx] at hxr
  rw [hy] at hyr
  obtain ⟨l, ad, _, _, h1⟩ := hxr
  have h2 : a.eval y = .pointer none := hyr
  refine wp_val (w' := w) (x := .bool false) (exec_bin _ _ _ _ _ _ _ ho _ _ _ ?_ ?_) ⟨_, hK, F, ν, h.put (VR.bool _ _ _ _ _) (dst_lt hd)⟩
  · rw [h1, h2]; rfl
  · rw [h1, h2]
    show ((do pure (Value.bool (← Op.equal t (.pointer _) (.pointer none)))) : Sem Value).run Try.prog w = _
    simp only [Sem.run_bind, equal_nilp ht, Result.andThen_ok, Sem.run_pure]
theorem und_count : Try.prog.underlying tCount = some (.struct #[{ name := "Seen", type := tInt, offset := 0, embedded := false, tag := "", pkgPath := "", byteOffset := 0 }, { name := "Peak", type := tInt, offset := 1, embedded := false, tag := "", pkgPath := "", byteOffset := 8 }]) := by kernel_rfl
theorem und_int : Try.prog.underlying tInt = some (.int .i64) := by kernel_rfl
theorem cells_count : Try.prog.cellsOf tCount = 2 := by kernel_rfl
theorem cells_int : Try.prog.cellsOf tInt = 1 := by kernel_rfl
theorem key_count : Try.prog.keyTypeAt 2 tCount = true := by kernel_rfl
theorem guard_count : Try.prog.eqGuardType Try.prog.depth tCount = false := by kernel_rfl
theorem int_lits {a : Int} (ha : (Lit.int .i64 a).wf = true) : Try.prog.keyLits 1 tInt [.int .i64 a] = some [.int .i64 a] := by
  unfold Program.keyLits
  rw [und_int]
  simp [ha]
theorem count_lits {a b : Int} (ha : (Lit.int .i64 a).wf = true) (hb : (Lit.int .i64 b).wf = true) : Try.prog.keyLits 2 tCount [.int .i64 a, .int .i64 b] = some [.int .i64 a, .int .i64 b] := by
  unfold Program.keyLits
  rw [und_count]
  simp [cells_count, cells_int, int_lits ha, int_lits hb]
theorem eq_count {a b c d : Int} (ha : (Lit.int .i64 a).wf = true) (hb : (Lit.int .i64 b).wf = true) (hc : (Lit.int .i64 c).wf = true) (hd : (Lit.int .i64 d).wf = true) (w : World) :
    (Op.equal tCount (.agg #[.int .i64 a, .int .i64 b]) (.agg #[.int .i64 c, .int .i64 d])).run Try.prog w = .ok (decide (a = c ∧ b = d)) w := by
  have hf : ∀ (x y : Int), (Value.agg #[.int .i64 x, .int .i64 y]).formed Try.prog tCount = true := by
    intro x y
    unfold Value.formed
    rw [und_count]
    simp [cells_count]
  obtain ⟨r, hr, hiff⟩ := run_equalIn_deep (P := Try.prog) 9998 2 tCount key_count w 2 2 (.agg #[.int .i64 a, .int .i64 b]) (.agg #[.int .i64 c, .int .i64 d]) _ _ (hf a b) (hf c d) (count_lits ha hb) (count_lits hc hd)
  have : r = decide (a = c ∧ b = d) := by
    by_cases h : a = c ∧ b = d
    · rw [decide_eq_true h]
      exact hiff.2 (by rw [h.1, h.2])
    · rw [decide_eq_false h]
      cases hr' : r with
      | false => rfl
      | true =>
        have := hiff.1 hr'
        simp at this
        exact absurd this h
  rw [← this]
  exact hr
theorem i64_wf {n : Int} (h0 : -9223372036854775808 ≤ n) (h1 : n < 9223372036854775808) : (Lit.int .i64 n).wf = true := by
  simp [Lit.wf, IntKind.min, IntKind.max, IntKind.signed, IntKind.bits]
  omega
theorem agg2 {w : World} {F : Nat → Prop} {ν : Nat → Value} {m : Mem} {a b : Int} {v : Value} (h : VR w F ν m (.agg 2 [.int .i64 a, .int .i64 b]) v) : v = .agg #[.int .i64 a, .int .i64 b] := by
  obtain ⟨_, vs, rfl, ha⟩ := h
  obtain ⟨u0, us, e0, r0, h1⟩ := ha.head
  obtain ⟨u1, us1, e1, r1, h2⟩ := h1.head
  have e2 := h2.nil_of
  have e3 : vs = #[.int .i64 a, .int .i64 b] := by
    apply Array.ext'
    rw [e0, e1, e2, RepL.int_inv r0, RepL.int_inv r1]
  rw [e3]
theorem opp_eq_count {x y : Operand} {yt : TypeId} {a b c' d : Int} (neg : Bool) (ho : o.op = .binOp (bif neg then .neq else .eql) tCount x y yt) (hd : dstOk c.N o = true) (hx : s.ev x = .agg 2 [.int .i64 a, .int .i64 b]) (hy : s.ev y = .agg 2 [.int .i64 c', .int .i64 d])
    (ha : (Lit.int .i64 a).wf = true) (hb : (Lit.int .i64 b).wf = true) (hc : (Lit.int .i64 c').wf = true) (hdd : (Lit.int .i64 d).wf = true) (hK : K (s.put o.dst (.d (.bool (bif neg then !decide (a = c' ∧ b = d) else decide (a = c' ∧ b = d)))))) : OpP Try.prog c o s K := by
  unfold OpP
  rintro Q A w ⟨F, ν, h⟩
  have hxr := ev_rep h x
  have hyr := ev_rep h y
  rw [hx] at hxr
  rw [hy] at hyr
  have h1 := agg2 hxr
  have h2 := agg2 hyr
  refine wp_val (w' := w) (x := .bool (bif neg then !decide (a = c' ∧ b = d) else decide (a = c' ∧ b = d))) (exec_bin _ _ _ _ _ _ _ ho _ _ _ ?_ ?_) ⟨_, hK, F, ν, h.put (VR.bool _ _ _ _ _) (dst_lt hd)⟩
  · rw [h1, h2]
    unfold eqGuard
    cases neg <;> simp [guard_count]
  · rw [h1, h2]
    cases neg
    · show ((do pure (Value.bool (← Op.equal tCount (.agg #[.int .i64 a, .int .i64 b]) (.agg #[.int .i64 c', .int .i64 d])))) : Sem Value).run Try.prog w = _
      simp only [Sem.run_bind, eq_count ha hb hc hdd, Result.andThen_ok, Sem.run_pure, cond_false]
    · show ((do pure (Value.bool (!(← Op.equal tCount (.agg #[.int .i64 a, .int .i64 b]) (.agg #[.int .i64 c', .int .i64 d]))))) : Sem Value).run Try.prog w = _
      simp only [Sem.run_bind, eq_count ha hb hc hdd, Result.andThen_ok, Sem.run_pure, cond_true]
end Go.Proofs.Ytokfgmhcmajafaa.Fw

/- Budgets of bits. -/
set_option linter.unusedVariables false
namespace Go.Proofs.Ytokfgmhcmajafaa.Fw
open Go Pu
def FD.sz (x : FD) : Nat := bits (val x.n) + bits (val x.d)
def peakUp (f : Nat → Nat) (p : Nat) : Nat → Nat
  | 0 => p
  | i + 1 => max (peakUp f p i) (f i)
theorem peakUp_le {f : Nat → Nat} {p m : Nat} : ∀ i, peakUp f p i ≤ m ↔ p ≤ m ∧ ∀ j, j < i → f j ≤ m := by
  intro i
  induction i with
  | zero => exact ⟨fun h => ⟨h, fun j hj => by omega⟩, fun h => h.1⟩
  | succ i ih =>
    show max (peakUp f p i) (f i) ≤ m ↔ _
    rw [Nat.max_le, ih]
    constructor
    · rintro ⟨⟨h1, h2⟩, h3⟩
      refine ⟨h1, fun j hj => ?_⟩
      rcases Nat.lt_or_ge j i with h | h
      · exact h2 j h
      · have : j = i := by omega
        rw [this]; exact h3
    · rintro ⟨h1, h2⟩
      exact ⟨⟨h1, fun j hj => h2 j (by omega)⟩, h2 i (by omega)⟩
/-- The first place at which the limit is passed. -/
structure First (f : Nat → Nat) (n : Nat) (lim : Int) (w : Nat) : Prop where
  le : w ≤ n
  low : ∀ j, j < w → (f j : Int) ≤ lim
  top : w = n ∨ (f w : Int) > lim
theorem First.ex (f : Nat → Nat) (lim : Int) : ∀ n, ∃ w, First f n lim w := by
  intro n
  induction n with
  | zero => exact ⟨0, Nat.le_refl _, fun j hj => by omega, .inl rfl⟩
  | succ n ih =>
    obtain ⟨w, h1, h2, h3⟩ := ih
    rcases h3 with h3 | h3
    · by_cases h4 : (f n : Int) ≤ lim
      · refine ⟨n + 1, Nat.le_refl _, fun j hj => ?_, .inl rfl⟩
        rcases Nat.lt_or_ge j n with h | h
        · exact h2 j (by omega)
        · have : j = n := by omega
          rw [this]; exact h4
      · exact ⟨n, by omega, fun j hj => h2 j (by omega), .inr (by omega)⟩
    · exact ⟨w, by omega, h2, .inr h3⟩
def gbox (s p : Nat) (l : Int) : MO := .box [.int .i64 (s : Int), .int .i64 (p : Int), .int .i64 l]
def lim (n : Int) : Int := if (4096 : Int) < (if 0 > n then 0 else n) then 4096 else (if 0 > n then 0 else n)
theorem lim_bd (n : Int) : 0 ≤ lim n ∧ lim n ≤ 4096 := by unfold lim; split <;> (try split) <;> omega
theorem gNew_specG {n : Int} : RunsG Try.prog g_gauge_New [.d (.int .i64 n)] [] (.addr 7 0) [(7, gbox 0 0 (lim n))] := by
  refine runG [] p_gauge_New rfl rfl rfl rfl (fun B S F0 w0 V0 => ?_)
  exact retG_intro rfl rfl ⟨rfl, trivial⟩ rfl
theorem note_spec {s p b : Nat} {l : Int} (hs : s < 1000000000000) (hp : p < 1000000000000000) (hb : b < 1000000000000000) : RunsG Try.prog g_gauge_Count_note [.addr 1000 0, .d (.int .i64 (b : Int))] [(1000, gbox s p l)] (.tup []) [(1000, gbox (s + 1) (max p b) l)] := by
  refine runG [] p_gauge_Count_note rfl rfl rfl rfl (fun B S F0 w0 V0 => ?_)
  refine retG_intro rfl rfl ⟨?_, trivial⟩ rfl
  show some (MO.box [.int .i64 (IntKind.i64.wrap ((s : Int) + 1)), .int .i64 (if (b : Int) > (p : Int) then (b : Int) else (p : Int)), .int .i64 l]) = _
  rw [maxI, wr (by omega) (by omega)]
  rfl
theorem FD.sz_le {k : Nat} {x : FD} (h : x.ok k) : x.sz ≤ 64 * k := by
  have h1 := bits_len h.wn
  have h2 := bits_len h.wd
  have h3 := h.ln
  have h4 := h.ld
  unfold FD.sz
  omega
theorem Take_spec {s p k : Nat} {l : Int} {x : FD} (hs : s < 1000000000000) (hp : p < 1000000000000000) (hx : x.ok k) (hk : k ≤ 1000000) : RunsG Try.prog g_gauge_Gauge_Take [.addr 1000 0, x.v] [(1000, gbox s p l)] (.d (.bool (decide ((x.sz : Int) ≤ l)))) [(1000, gbox (s + 1) (max p x.sz) l)] := by
  have hsz := FD.sz_le hx
  have h3 := hx.ln
  have h4 := hx.ld
  refine runG [] p_gauge_Gauge_Take rfl rfl rfl rfl (fun B S F0 w0 V0 => ?_)
  refine call_intro (.d (.int .i64 (x.sz : Int))) (fSize_spec (s := x.s) hx.wn hx.wd (by omega) (by omega)) ?_
  refine call_row 1000 (note_spec (s := s) (p := p) (b := x.sz) (l := l) hs hp (by omega)) rfl rfl rfl rfl rfl rfl (.inl ⟨_, _, rfl, rfl⟩) ?_
  exact retG_intro rfl rfl ⟨rfl, trivial⟩ rfl
theorem Row_spec {s p k w : Nat} {li : Int} {l : List FD} (hs : s < 100000000000) (hp : p < 1000000000000000) (hx : ∀ x ∈ l, x.ok k) (hk : k ≤ 1000000) (hl : l.length ≤ 1000000) (hw : First (fun i => (l.getD i FD.none).sz) l.length li w) :
    RunsG Try.prog g_gauge_Gauge_Row [.addr 1000 0, .d (rowsF l)] [(1000, gbox s p li)] (.tup [.d (.int .i64 (w : Int)), .d (.bool (decide (w = l.length)))])
      [(1000, gbox (s + min l.length (w + 1)) (peakUp (fun i => (l.getD i FD.none).sz) p (min l.length (w + 1))) li)] := by
  refine runG [] p_gauge_Gauge_Row rfl rfl rfl rfl (fun B S F0 w0 V0 => ?_)
  have hpk : ∀ i, i ≤ l.length → peakUp (fun i => (l.getD i FD.none).sz) p i < 1000000000000000 := by
    intro i hi
    have : peakUp (fun i => (l.getD i FD.none).sz) p i ≤ 999999999999999 := (peakUp_le i).2 ⟨by omega, fun j hj => by
      have := FD.sz_le (hx _ (FD.getD_mem (i := j) (by omega)))
      show (l.getD j FD.none).sz ≤ _
      omega⟩
    omega
  refine loop_intro (fun i : Nat => st [(0, .addr 1000 0), (1, .d (rowsF l)), (8, .d (rowsF l)), (9, .d (.int .i64 (l.length : Int))), (10, .d (.int .i64 (i : Int)))] [(1000, gbox (s + i) (peakUp (fun i => (l.getD i FD.none).sz) p i) li)]) (fun i => l.length - i) (fun i => i ≤ w) 0 (Nat.zero_le _)
    (weak_st _ _ ⟨rfl, rfl, rfl, i64_inj (by show ((l.map FD.c).length : Int) = _; rw [List.length_map]), rfl, trivial⟩ ⟨rfl, trivial⟩ rfl) ?_
  intro i hi
  have hwl := hw.le
  refine split_intro (fun hh => ?_) (fun hh => ?_)
  · have hlt : i < l.length := by have hh : (i : Int) < l.length := of_decide_eq_true hh; omega
    have ei : IntKind.i64.wrap ((i : Int) + 1) = ((i + 1 : Nat) : Int) := by rw [wr (by omega) (by omega)]; omega
    have ht := Take_spec (s := s + i) (p := peakUp (fun i => (l.getD i FD.none).sz) p i) (l := li) (by omega) (hpk i (by omega)) (hx _ (FD.getD_mem hlt)) hk
    refine idx_F i rfl hlt ?_
    refine call_row 1000 ht rfl rfl rfl rfl rfl rfl (.inl ⟨_, _, rfl, rfl⟩) ?_
    refine split_intro (fun hg => ?_) (fun hg => ?_)
    · have hg : ¬ (((l.getD i FD.none).sz : Int) ≤ li) := by
        have hg : (!decide (((l.getD i FD.none).sz : Int) ≤ li)) = true := hg
        simpa using hg
      have hiw : i = w := by
        rcases Nat.lt_or_ge i w with h | h
        · exact absurd (hw.low i h) hg
        · omega
      subst hiw
      rw [Nat.min_eq_right (show i + 1 ≤ l.length by omega), decide_eq_false (by omega)]
      exact retG_intro rfl rfl ⟨rfl, trivial⟩ rfl
    · have hg : ((l.getD i FD.none).sz : Int) ≤ li := by
        have hg : (!decide (((l.getD i FD.none).sz : Int) ≤ li)) = false := hg
        simpa using hg
      have hiw : i + 1 ≤ w := by
        rcases hw.top with h | h
        · omega
        · refine Classical.byContradiction fun hne => ?_
          have : i = w := by omega
          rw [← this] at h
          exact absurd hg (by show ¬ (((l.getD i FD.none).sz : Int) ≤ li); exact Int.not_le.2 h)
      exact ⟨i + 1, hiw, by omega, weak_st _ _ ⟨rfl, rfl, rfl, rfl, i64_inj ei, trivial⟩ ⟨rfl, trivial⟩ rfl⟩
  · have hend : i = l.length := by have hh : ¬ (i : Int) < l.length := of_decide_eq_false hh; omega
    have hiw : w = l.length := by omega
    subst hend
    rw [Nat.min_eq_left (show l.length ≤ w + 1 by omega), decide_eq_true hiw, hiw]
    refine retG_intro ?_ rfl ⟨rfl, trivial⟩ rfl
    show V.tup [.d (.int .i64 ((l.map FD.c).length : Int)), .d (.bool true)] = _
    rw [List.length_map]
theorem Limit_spec {s p : Nat} {l : Int} : RunsG Try.prog g_gauge_Gauge_Limit [.addr 1000 0] [(1000, gbox s p l)] (.d (.int .i64 l)) [(1000, gbox s p l)] := by
  refine runG [] p_gauge_Gauge_Limit rfl rfl rfl rfl (fun B S F0 w0 V0 => ?_)
  exact retG_intro rfl rfl ⟨rfl, trivial⟩ rfl
theorem Over_spec {s p : Nat} {l : Int} : RunsG Try.prog g_gauge_Gauge_Over [.addr 1000 0] [(1000, gbox s p l)] (.d (.bool (decide ((p : Int) > l)))) [(1000, gbox s p l)] := by
  refine runG [] p_gauge_Gauge_Over rfl rfl rfl rfl (fun B S F0 w0 V0 => ?_)
  refine side_intro rfl ?_
  exact retG_intro rfl rfl ⟨rfl, trivial⟩ rfl
theorem Tells_spec {s p : Nat} {l : Int} : RunsG Try.prog g_gauge_Gauge_Tells [.addr 1000 0] [(1000, gbox s p l)] (.agg 2 [.int .i64 (s : Int), .int .i64 (p : Int)]) [(1000, gbox s p l)] := by
  refine runG [] p_gauge_Gauge_Tells rfl rfl rfl rfl (fun B S F0 w0 V0 => ?_)
  exact retG_intro rfl rfl ⟨rfl, trivial⟩ rfl
theorem Fits_spec {k : Nat} {l : Int} {x : FD} (hx : x.ok k) (hk : k ≤ 1000000) : Runs Try.prog g_retrospectref13_Fits [x.v, .d (.int .i64 l)] (.d (.bool (decide ((x.sz : Int) ≤ l)))) := by
  have h3 := hx.ln
  have h4 := hx.ld
  refine run1 [] p_retrospectref13_Fits rfl rfl (fun B S F0 w0 V0 => ?_)
  refine call_intro (.d (.int .i64 (x.sz : Int))) (r9Size_spec (s := x.s) hx.wn hx.wd (by omega) (by omega)) ?_
  exact ret_intro rfl rfl
theorem rRow_spec {k w : Nat} {li : Int} {l : List FD} (hx : ∀ x ∈ l, x.ok k) (hk : k ≤ 1000000) (hl : l.length ≤ 1000000) (hw : First (fun i => (l.getD i FD.none).sz) l.length li w) : Runs Try.prog g_retrospectref13_Row [.d (rowsF l), .d (.int .i64 li)] (.d (.int .i64 (w : Int))) := by
  refine run1 [] p_retrospectref13_Row rfl rfl (fun B S F0 w0 V0 => ?_)
  refine loop_intro (fun i : Nat => st [(0, .d (rowsF l)), (1, .d (.int .i64 li)), (5, .d (.int .i64 (i : Int)))] []) (fun i => l.length - i) (fun i => i ≤ w) 0 (Nat.zero_le _) (weak_st _ _ ⟨rfl, rfl, rfl, trivial⟩ trivial rfl) ?_
  intro i hi
  have hwl := hw.le
  refine split_intro (fun hh => ?_) (fun hh => ?_)
  · have hlt : i < l.length := by
      have hh : (i : Int) < ((l.map FD.c).length : Int) := of_decide_eq_true hh
      rw [List.length_map] at hh; omega
    have ei : IntKind.i64.wrap ((i : Int) + 1) = ((i + 1 : Nat) : Int) := by rw [wr (by omega) (by omega)]; omega
    refine idx_F i rfl hlt ?_
    refine call_intro _ (Fits_spec (hx _ (FD.getD_mem hlt)) hk) ?_
    refine split_intro (fun hg => ?_) (fun hg => ?_)
    · have hg : ¬ (((l.getD i FD.none).sz : Int) ≤ li) := by
        have hg : (!decide (((l.getD i FD.none).sz : Int) ≤ li)) = true := hg
        simpa using hg
      have hiw : i = w := by
        rcases Nat.lt_or_ge i w with h | h
        · exact absurd (hw.low i h) hg
        · omega
      subst hiw
      exact ret_intro rfl rfl
    · have hg : ((l.getD i FD.none).sz : Int) ≤ li := by
        have hg : (!decide (((l.getD i FD.none).sz : Int) ≤ li)) = false := hg
        simpa using hg
      have hiw : i + 1 ≤ w := by
        rcases hw.top with h | h
        · omega
        · refine Classical.byContradiction fun hne => ?_
          have : i = w := by omega
          rw [← this] at h
          exact absurd hg (by show ¬ (((l.getD i FD.none).sz : Int) ≤ li); exact Int.not_le.2 h)
      exact ⟨i + 1, hiw, by omega, weak_st _ _ ⟨rfl, rfl, i64_inj ei, trivial⟩ trivial rfl⟩
  · have hend : i = l.length := by
      have hh : ¬ (i : Int) < ((l.map FD.c).length : Int) := of_decide_eq_false hh
      rw [List.length_map] at hh; omega
    refine ret_intro (i64_inj ?_) rfl
    show ((l.map FD.c).length : Int) = _
    rw [List.length_map]; omega
/-- Is a row too long, or one of its fractions? -/
theorem Long11_spec {l : List FD} {m : Nat} {k : Int} (hl : l.length ≤ maxLen) (hm : m ≤ 1000000) : ∃ b : Bool, Runs Try.prog g_retrospectref11_Long [.d (rowsF l), .d (.int .i64 (m : Int)), .d (.int .i64 k)] (.d (.bool b)) ∧ (b = false → l.length ≤ m ∧ ∀ x ∈ l, (x.n.length : Int) ≤ k ∧ (x.d.length : Int) ≤ k) := by
  have hml : l.length < 9223372036854775808 := by unfold maxLen at hl; omega
  by_cases hex : ∃ i, i < l.length ∧ i < m ∧ (decide (((l.getD i FD.none).n.length : Int) > k) || decide (((l.getD i FD.none).d.length : Int) > k)) = true
  · refine ⟨true, ?_, fun h => by cases h⟩
    obtain ⟨i0, h1, h2, h3⟩ := hex
    refine run1 [] p_retrospectref11_Long rfl rfl (fun B S F0 w0 V0 => ?_)
    refine loop_intro (fun i : Nat => st [(0, .d (rowsF l)), (1, .d (.int .i64 (m : Int))), (2, .d (.int .i64 k)), (7, .d (.int .i64 (i : Int)))] []) (fun i => i0 + 1 - i) (fun i => i ≤ i0) 0 (Nat.zero_le _) (weak_st _ _ ⟨rfl, rfl, rfl, rfl, trivial⟩ trivial rfl) ?_
    intro i hi
    have ei : IntKind.i64.wrap ((i : Int) + 1) = ((i + 1 : Nat) : Int) := by rw [wr (by omega) (by omega)]; omega
    refine split_true (decide_eq_true (by show (i : Int) < ((l.map FD.c).length : Int); rw [List.length_map]; omega)) ?_
    refine split_true (decide_eq_true (by show (i : Int) < (m : Int); omega)) ?_
    refine idx_F i rfl (by omega) ?_
    refine call_intro _ (LongD (x := l.getD i FD.none)) ?_
    refine split_intro (fun h => ?_) (fun h => ?_)
    · exact ret_intro rfl rfl
    · have hne : i ≠ i0 := by
        intro e
        rw [← e] at h3
        rw [h3] at h; cases h
      exact ⟨i + 1, by omega, by omega, weak_st _ _ ⟨rfl, rfl, rfl, i64_inj ei, trivial⟩ trivial rfl⟩
  · have hall : ∀ i, i < l.length → i < m → (decide (((l.getD i FD.none).n.length : Int) > k) || decide (((l.getD i FD.none).d.length : Int) > k)) = false := by
      intro i h1 h2
      cases hb : (decide (((l.getD i FD.none).n.length : Int) > k) || decide (((l.getD i FD.none).d.length : Int) > k)) with
      | false => rfl
      | true => exact absurd ⟨i, h1, h2, hb⟩ hex
    refine ⟨decide ((l.length : Int) > m), ?_, fun h => ?_⟩
    · refine run1 [] p_retrospectref11_Long rfl rfl (fun B S F0 w0 V0 => ?_)
      refine loop_intro (fun i : Nat => st [(0, .d (rowsF l)), (1, .d (.int .i64 (m : Int))), (2, .d (.int .i64 k)), (7, .d (.int .i64 (i : Int)))] []) (fun i => m + 1 - i) (fun i => i ≤ l.length ∧ i ≤ m) 0 ⟨Nat.zero_le _, Nat.zero_le _⟩ (weak_st _ _ ⟨rfl, rfl, rfl, rfl, trivial⟩ trivial rfl) ?_
      rintro i ⟨hi, him⟩
      have ei : IntKind.i64.wrap ((i : Int) + 1) = ((i + 1 : Nat) : Int) := by rw [wr (by omega) (by omega)]; omega
      have hret : V.d (.bool (decide (((l.map FD.c).length : Int) > (m : Int)))) = V.d (.bool (decide ((l.length : Int) > (m : Int)))) := by rw [List.length_map]
      refine split_intro (fun h1 => ?_) (fun h1 => ?_)
      · have h1 : i < l.length := by
          have h1 : (i : Int) < ((l.map FD.c).length : Int) := of_decide_eq_true h1
          rw [List.length_map] at h1; omega
        refine split_intro (fun h2 => ?_) (fun h2 => ?_)
        · have h2 : i < m := by have h2 : (i : Int) < (m : Int) := of_decide_eq_true h2; omega
          refine idx_F i rfl h1 ?_
          refine call_intro _ (LongD (x := l.getD i FD.none)) ?_
          refine split_false (hall i h1 h2) ?_
          exact ⟨i + 1, ⟨by omega, by omega⟩, by omega, weak_st _ _ ⟨rfl, rfl, rfl, i64_inj ei, trivial⟩ trivial rfl⟩
        · exact ret_intro hret rfl
      · refine split_false rfl ?_
        exact ret_intro hret rfl
    · have h : ¬ (l.length : Int) > m := of_decide_eq_false h
      refine ⟨by omega, fun x hx => ?_⟩
      obtain ⟨i, hi⟩ := List.getElem?_of_mem hx
      have hlt := (List.getElem?_eq_some_iff.1 hi).1
      have h3 := longOr (x := l.getD i FD.none) (hall i hlt (by omega))
      rw [List.getD_eq_getElem?_getD, hi] at h3
      exact h3
theorem To11_spec {l : List FD} (hl : l.length ≤ 1000000) : Runs Try.prog g_retrospectlaw11_To [.d (rowsF l)] (.d (rowsF l)) := by
  refine run1 [] p_retrospectlaw11_To rfl rfl (fun B S F0 w0 V0 => ?_)
  refine loop_intro (fun i : Nat => st [(0, .d (rowsF l)), (3, .own 18 0 i), (4, .d (.int .i64 (i : Int)))] [(18, .rows tFrac 3 ((l.take i).map FD.c))]) (fun i => l.length - i) (fun i => i ≤ l.length) 0 (Nat.zero_le _)
    (weak_trans (weak_st _ _ ⟨rfl, rfl, rfl, trivial⟩ ⟨rfl, trivial⟩ rfl) (weak_nil_own 3 18 (.rows tFrac 3 []) (e := tFrac) (sz := 3) rfl rfl rfl rfl (by omega))) ?_
  intro i hi
  refine split_intro (fun h => ?_) (fun h => ?_)
  · have hlt : i < l.length := by
      have h : (i : Int) < ((l.map FD.c).length : Int) := of_decide_eq_true h
      rw [List.length_map] at h; omega
    have ei : IntKind.i64.wrap ((i : Int) + 1) = ((i + 1 : Nat) : Int) := by rw [wr (by omega) (by omega)]; omega
    have htl : (l.take i).length = i := by rw [List.length_take]; omega
    have htl1 : (l.take (i + 1)).length = i + 1 := by rw [List.length_take]; omega
    refine idx_F i rfl hlt ?_
    refine call_intro _ (ToD (x := l.getD i FD.none)) ?_
    refine opp_append_own hT (e := tFrac) (i := 18) (j := 18) (obj := .rows tFrac 3 ((l.take i).map FD.c)) (obj2 := .rows tFrac 3 ((l.take (i + 1)).map FD.c)) (n := i) (m := 1) (fl := ((l.take i).map FD.c).flatten) (fl2 := (l.getD i FD.none).c) rfl rfl rfl rfl rfl rfl ?_ rfl rfl rfl (Nat.le_of_ble_eq_true rfl) (Nat.le_of_ble_eq_true rfl) (.inl rfl) ?_ ?_ ?_
    · rw [rowsF_row, htl]; rfl
    · rw [rowsF_row, htl1, take_succF hlt, List.flatten_append]
      show some (tFrac, 3, i + 1, ((l.take i).map FD.c).flatten ++ ((l.getD i FD.none).c ++ [])) = _
      rw [List.append_nil]; rfl
    · show (i + 1) * (56 + 1) ≤ _
      omega
    exact ⟨i + 1, hlt, by omega, weak_st _ _ ⟨rfl, rfl, i64_inj ei, trivial⟩ ⟨rfl, trivial⟩ rfl⟩
  · have hend : i = l.length := by
      have h : ¬ (i : Int) < ((l.map FD.c).length : Int) := of_decide_eq_false h
      rw [List.length_map] at h; omega
    subst hend
    refine ret_intro ?_ rfl
    show snapM (.rows tFrac 3 ((l.take l.length).map FD.c)) 0 l.length = _
    rw [List.take_length, snap_F _ _ rfl]
end Go.Proofs.Ytokfgmhcmajafaa.Fw

/- The laws of gauges, walked. -/
set_option linter.unusedVariables false
namespace Go.Proofs.Ytokfgmhcmajafaa.Fw
open Go Pu
theorem und_pg : ∃ e, Try.prog.underlying tPG = some (.pointer e) := ⟨tGauge, by kernel_rfl⟩
theorem sz1 : Sz 1 (rt false 1 2) := Sz_rt (by rw [nw1]; omega) (by rw [nw_one (n := 2) (by omega) (by omega)]; decide) (by omega)
theorem szi {z : Int} (h : z.natAbs < 4294967296) (h0 : z ≠ 0) : Sz 1 (z : Rat) := Sz_int (by rw [nw_one (by omega) h]; exact Nat.le_refl _) (by omega)
theorem sz_half : (FD.of (rt false 1 2)).sz = 3 := by
  unfold FD.sz FD.of
  rw [val_toW, val_toW]
  decide +kernel
theorem sz_int (z : Int) : (FD.of (z : Rat)).sz = bits z.natAbs + 1 := by
  unfold FD.sz FD.of
  rw [val_toW, val_toW]
  rfl
theorem works13 : Runs Try.prog g_retrospectlaw13_works [] (.d (.bool true)) := by
  obtain ⟨e, hpg⟩ := und_pg
  refine run1 [4] p_retrospectlaw13_works rfl rfl (fun B S F0 w0 V0 => ?_)
  refine call_G [(7, 4)] (gNew_specG (n := 3)) rfl rfl rfl rfl rfl trivial trivial ⟨⟨rfl, Nat.le_of_ble_eq_true rfl⟩, trivial⟩ rfl ?_
  refine opp_eq_nil hpg rfl rfl rfl rfl ?_
  refine split_false rfl ?_
  have h1 := fRatio_spec (x := 1) (y := 2) (by omega) (by omega) (by omega) (by omega)
  rw [if_neg (by omega), half] at h1
  refine call_intro _ h1 ?_
  have t1 := Take_spec (s := 0) (p := 0) (l := 3) (by omega) (by omega) (FD.ok_of sz1) (by omega)
  rw [sz_half] at t1
  refine call_row 4 t1 rfl rfl rfl rfl rfl rfl (.inl ⟨_, _, rfl, rfl⟩) ?_
  refine split_true rfl ?_
  refine call_intro _ (fOf_spec (z := 2) (by omega) (by omega)) ?_
  have t2 := Take_spec (s := 1) (p := 3) (l := 3) (by omega) (by omega) (FD.ok_of (szi (z := 2) (by decide) (by decide))) (by omega)
  rw [sz_int, show bits (2 : Int).natAbs + 1 = 3 by decide +kernel] at t2
  refine call_row 4 t2 rfl rfl rfl rfl rfl rfl (.inl ⟨_, _, rfl, rfl⟩) ?_
  refine split_true rfl ?_
  refine call_intro _ (fOf_spec (z := 4) (by omega) (by omega)) ?_
  have t3 := Take_spec (s := 2) (p := 3) (l := 3) (by omega) (by omega) (FD.ok_of (szi (z := 4) (by decide) (by decide))) (by omega)
  rw [sz_int, show bits (4 : Int).natAbs + 1 = 4 by decide +kernel] at t3
  refine call_row 4 t3 rfl rfl rfl rfl rfl rfl (.inl ⟨_, _, rfl, rfl⟩) ?_
  refine split_true rfl ?_
  refine call_row 4 (Tells_spec (s := 3) (p := 4) (l := 3)) rfl rfl rfl rfl rfl rfl (.inl ⟨_, _, rfl, rfl⟩) ?_
  refine opp_eq_count false rfl rfl rfl rfl (by decide) (by decide) (by decide) (by decide) ?_
  refine split_true rfl ?_
  refine call_row 4 (Over_spec (s := 3) (p := 4) (l := 3)) rfl rfl rfl rfl rfl rfl (.inl ⟨_, _, rfl, rfl⟩) ?_
  exact ret_intro rfl rfl
theorem lim_id {n : Int} (h0 : 0 ≤ n) (h1 : n ≤ 4096) : lim n = n := by unfold lim; split <;> (try split) <;> (try split at *) <;> omega
set_option maxHeartbeats 2000000 in
theorem GaugeMore_runs {a b : Int} {l : List FD} (a0 : -9223372036854775808 ≤ a) (a1 : a < 9223372036854775808) (b0 : -9223372036854775808 ≤ b) (b1 : b < 9223372036854775808) (hl : ∀ y ∈ l, Wd y.n ∧ Wd y.d) (hlm : l.length ≤ maxLen) :
    Runs Try.prog g_retrospectlaw13_GaugeMore [.d (.int .i64 a), .d (.int .i64 b), .d (rowsF l)] (.d (.bool true)) := by
  obtain ⟨e, hpg⟩ := und_pg
  obtain ⟨bl, hlong, hno⟩ := Long11_spec (l := l) (m := 20) (k := 200) hlm (by omega)
  refine run1 [37, 41, 42] p_retrospectlaw13_GaugeMore rfl rfl (fun B S F0 w0 V0 => ?_)
  refine call_intro _ hlong ?_
  refine split_intro (fun h => ?_) (fun h => ?_)
  · refine split_true rfl ?_
    refine split_true rfl ?_
    refine split_true rfl ?_
    refine split_true rfl ?_
    refine call_intro _ works13 ?_
    exact ret_intro rfl rfl
  obtain ⟨hL, hwords⟩ := hno h
  refine split_intro (fun h => ?_) (fun h => ?_)
  · refine split_true rfl ?_
    refine split_true rfl ?_
    refine split_true rfl ?_
    refine call_intro _ works13 ?_
    exact ret_intro rfl rfl
  have ha0 : ¬ a < 0 := of_decide_eq_false h
  refine split_intro (fun h => ?_) (fun h => ?_)
  · refine split_true rfl ?_
    refine split_true rfl ?_
    refine call_intro _ works13 ?_
    exact ret_intro rfl rfl
  have hb0 : ¬ b < 0 := of_decide_eq_false h
  refine split_intro (fun h => ?_) (fun h => ?_)
  · refine split_true rfl ?_
    refine call_intro _ works13 ?_
    exact ret_intro rfl rfl
  have ha1 : ¬ a > 4096 := of_decide_eq_false h
  refine split_intro (fun h => ?_) (fun h => ?_)
  · refine call_intro _ works13 ?_
    exact ret_intro rfl rfl
  have hb1 : ¬ b > 4096 := of_decide_eq_false h
  have hok : ∀ x ∈ l, x.ok 200 := fun x hx => ⟨(hl x hx).1, (hl x hx).2, by have := (hwords x hx).1; omega, by have := (hwords x hx).2; omega⟩
  have ea := lim_id (n := a) (by omega) (by omega)
  have eab : IntKind.i64.wrap (a + b) = a + b := wr (by omega) (by omega)
  obtain ⟨f, hf⟩ : ∃ f : Nat → Nat, f = fun i => (l.getD i FD.none).sz := ⟨_, rfl⟩
  obtain ⟨wa, hwa⟩ := First.ex f (lim a) l.length
  obtain ⟨wb, hwb⟩ := First.ex f (lim (IntKind.i64.wrap (a + b))) l.length
  obtain ⟨wc, hwc⟩ := First.ex f (lim 4096) l.length
  have ra := Row_spec (s := 0) (p := 0) (li := lim a) (by omega) (by omega) hok (by omega) (by omega) (by rw [← hf]; exact hwa)
  have rb := Row_spec (s := 0) (p := 0) (li := lim (IntKind.i64.wrap (a + b))) (by omega) (by omega) hok (by omega) (by omega) (by rw [← hf]; exact hwb)
  have rc := Row_spec (s := 0) (p := 0) (li := lim 4096) (by omega) (by omega) hok (by omega) (by omega) (by rw [← hf]; exact hwc)
  rw [← hf] at ra rb rc
  obtain ⟨n, hn⟩ : ∃ n, n = l.length := ⟨_, rfl⟩
  rw [← hn] at hwa hwb hwc ra rb rc
  have hover : decide (wa = n) = (!decide ((peakUp f 0 (min n (wa + 1)) : Int) > lim a)) := by
    have hle := hwa.le
    rcases hwa.top with h1 | h1
    · have hp : peakUp f 0 (min n (wa + 1)) ≤ (lim a).toNat := (peakUp_le _).2 ⟨by omega, fun j hj => by have := hwa.low j (by omega); omega⟩
      rw [decide_eq_true h1, decide_eq_false (by omega)]; rfl
    · have hne : wa ≠ n ∨ wa = n := by omega
      rcases hne with hne | hne
      · have hp : ¬ peakUp f 0 (min n (wa + 1)) ≤ (lim a).toNat := by
          intro hp
          have := ((peakUp_le _).1 hp).2 wa (by omega)
          omega
        rw [decide_eq_false hne, decide_eq_true (by omega)]; rfl
      · have hp : peakUp f 0 (min n (wa + 1)) ≤ (lim a).toNat := (peakUp_le _).2 ⟨by omega, fun j hj => by have := hwa.low j (by omega); omega⟩
        rw [decide_eq_true hne, decide_eq_false (by omega)]; rfl
  have hab : wa = n → wb = n := by
    intro h1
    have hlb : lim a ≤ lim (IntKind.i64.wrap (a + b)) := by
      have e2 := lim_id (n := a + b) (by omega)
      rw [ea, eab]; unfold lim; split <;> (try split) <;> (try split at *) <;> omega
    have hle := hwb.le
    by_cases h3 : wb = n
    · exact h3
    · exfalso
      rcases hwb.top with h2 | h2
      · exact h3 h2
      · have := hwa.low wb (by omega)
        omega
  have hac : wc = n → decide (wa = n) = decide ((peakUp f 0 (min n (wc + 1)) : Int) ≤ a) := by
    intro h1
    rw [h1, Nat.min_eq_left (by omega)]
    refine decide_eq_decide.2 ⟨fun h2 => ?_, fun h2 => ?_⟩
    · have hp : peakUp f 0 n ≤ a.toNat := (peakUp_le _).2 ⟨by omega, fun j hj => by have := hwa.low j (by omega); omega⟩
      omega
    · by_cases h3 : wa = n
      · exact h3
      · exfalso
        have hle := hwa.le
        rcases hwa.top with h4 | h4
        · exact h3 h4
        · have := ((peakUp_le (f := f) (p := 0) (m := a.toNat) n).1 (by omega)).2 wa (by omega)
          omega
  have ho := Over_spec (s := 0 + min n (wa + 1)) (p := peakUp f 0 (min n (wa + 1))) (l := lim a)
  have ht := Tells_spec (s := 0 + min n (wc + 1)) (p := peakUp f 0 (min n (wc + 1))) (l := lim 4096)
  obtain ⟨oa, hoa⟩ : ∃ oa, decide (wa = n) = oa := ⟨_, rfl⟩
  obtain ⟨ob, hob⟩ : ∃ ob, decide (wb = n) = ob := ⟨_, rfl⟩
  obtain ⟨oc, hoc⟩ : ∃ oc, decide (wc = n) = oc := ⟨_, rfl⟩
  obtain ⟨va, hva⟩ : ∃ va, decide ((peakUp f 0 (min n (wa + 1)) : Int) > lim a) = va := ⟨_, rfl⟩
  have kab : oa = true → ob = true := fun h1 => by rw [← hob]; exact decide_eq_true (hab (of_decide_eq_true (hoa.trans h1)))
  have kac : oc = true → decide ((peakUp f 0 (min n (wc + 1)) : Int) ≤ a) = oa := fun h1 => by rw [← hoa]; exact (hac (of_decide_eq_true (hoc.trans h1))).symm
  rw [hoa, hva] at hover
  rw [hoa] at ra
  rw [hob] at rb
  rw [hoc] at rc
  rw [hva] at ho
  obtain ⟨pa, hpa⟩ : ∃ x, peakUp f 0 (min n (wa + 1)) = x := ⟨_, rfl⟩
  obtain ⟨pb, hpb⟩ : ∃ x, peakUp f 0 (min n (wb + 1)) = x := ⟨_, rfl⟩
  obtain ⟨pc, hpc⟩ : ∃ x, peakUp f 0 (min n (wc + 1)) = x := ⟨_, rfl⟩
  rw [hpa] at ra ho
  rw [hpb] at rb
  rw [hpc] at rc ht kac
  clear hab hac hoa hob hoc hva hpa hpb hpc
  subst hover
  have e1 : va = true → ∀ w : Bool, w = false → decide (w = !va) = true := by intro h w hw; subst h; subst hw; rfl
  refine call_G [(7, 37)] (gNew_specG (n := a)) rfl rfl rfl rfl rfl trivial trivial ⟨⟨rfl, Nat.le_of_ble_eq_true rfl⟩, trivial⟩ rfl ?_
  refine call_G [(7, 41)] (gNew_specG (n := IntKind.i64.wrap (a + b))) rfl rfl rfl rfl rfl trivial trivial ⟨⟨rfl, Nat.le_of_ble_eq_true rfl⟩, trivial⟩ rfl ?_
  refine call_G [(7, 42)] (gNew_specG (n := 4096)) rfl rfl rfl rfl rfl trivial trivial ⟨⟨rfl, Nat.le_of_ble_eq_true rfl⟩, trivial⟩ rfl ?_
  refine opp_eq_nil hpg rfl rfl rfl rfl ?_
  refine split_false rfl ?_
  refine opp_eq_nil hpg rfl rfl rfl rfl ?_
  refine split_false rfl ?_
  refine opp_eq_nil hpg rfl rfl rfl rfl ?_
  refine split_false rfl ?_
  refine call_intro _ (To11_spec (by omega)) ?_
  refine call_row 37 ra rfl rfl rfl rfl rfl rfl (.inl ⟨_, _, rfl, rfl⟩) ?_
  refine call_row 41 rb rfl rfl rfl rfl rfl rfl (.inl ⟨_, _, rfl, rfl⟩) ?_
  refine call_row 42 rc rfl rfl rfl rfl rfl rfl (.inl ⟨_, _, rfl, rfl⟩) ?_
  cases va with
  | true =>
    refine split_true rfl ?_
    refine split_true rfl ?_
    refine split_intro (fun hc => ?_) (fun hc => ?_)
    · refine split_true rfl ?_
      refine call_row 37 ho rfl rfl rfl rfl rfl rfl (.inl ⟨_, _, rfl, rfl⟩) ?_
      refine split_true rfl ?_
      refine call_intro _ works13 ?_
      exact ret_intro rfl rfl
    · refine call_row 42 ht rfl rfl rfl rfl rfl rfl (.inl ⟨_, _, rfl, rfl⟩) ?_
      have kk : decide ((pc : Int) ≤ a) = false := kac (by simpa using hc)
      refine split_true (by show (false == decide ((pc : Int) ≤ a)) = true; rw [kk]; rfl) ?_
      refine call_row 37 ho rfl rfl rfl rfl rfl rfl (.inl ⟨_, _, rfl, rfl⟩) ?_
      refine split_true rfl ?_
      refine call_intro _ works13 ?_
      exact ret_intro rfl rfl
  | false =>
    have hb : ob = true := kab rfl
    subst hb
    refine split_false rfl ?_
    refine split_true rfl ?_
    refine split_intro (fun hc => ?_) (fun hc => ?_)
    · refine split_true rfl ?_
      refine call_row 37 ho rfl rfl rfl rfl rfl rfl (.inl ⟨_, _, rfl, rfl⟩) ?_
      refine split_true rfl ?_
      refine call_intro _ works13 ?_
      exact ret_intro rfl rfl
    · refine call_row 42 ht rfl rfl rfl rfl rfl rfl (.inl ⟨_, _, rfl, rfl⟩) ?_
      have kk : decide ((pc : Int) ≤ a) = true := kac (by simpa using hc)
      refine split_true (by show (true == decide ((pc : Int) ≤ a)) = true; rw [kk]; rfl) ?_
      refine call_row 37 ho rfl rfl rfl rfl rfl rfl (.inl ⟨_, _, rfl, rfl⟩) ?_
      refine split_true rfl ?_
      refine call_intro _ works13 ?_
      exact ret_intro rfl rfl
theorem GaugeMore_typed {x y z : D} (h0 : OkD (.int .i64) x) (h1 : OkD (.int .i64) y) (h2 : OkD shR z) : Runs Try.prog g_retrospectlaw13_GaugeMore [.d x, .d y, .d z] (.d (.bool true)) := by
  obtain ⟨a, rfl, ha⟩ := inv_int h0
  obtain ⟨b, rfl, hb⟩ := inv_int h1
  obtain ⟨l, rfl, hl, hm⟩ := inv_fracs h2
  obtain ⟨a0, a1⟩ := wf_i64 ha
  obtain ⟨b0, b1⟩ := wf_i64 hb
  exact GaugeMore_runs a0 a1 b0 b1 (fun y hy => ⟨(hl y hy).1, (hl y hy).2.1⟩) hm
end Go.Proofs.Ytokfgmhcmajafaa.Fw

/- The law GaugePlays, walked. -/
set_option linter.unusedVariables false
namespace Go.Proofs.Ytokfgmhcmajafaa.Fw
open Go Pu
def rowsL (ls : List (List FD)) : D := .rows 1 (ls.map fun l => [rowsF l])
theorem rowsL_get {l : List (List FD)} {i : Nat} (h : i < l.length) : (l.map fun l => [rowsF l])[i]? = some [rowsF (l.getD i [])] := by
  rw [List.getElem?_map, List.getElem?_eq_getElem h, List.getD_eq_getElem?_getD, List.getElem?_eq_getElem h]; rfl
theorem idx_L {l : List (List FD)} {x : Int} {k : List D → Prop} (i : Nat) (hx : x = (i : Int)) (h : i < l.length) (hk : k [rowsF (l.getD i [])]) : IdxP (l.map fun l => [rowsF l]) x k :=
  idx_intro _ (by omega) (by rw [hx, Int.toNat_natCast]; exact rowsL_get h) hk
theorem inv_rss {x : D} (h : OkD (.rows [shR]) x) : ∃ ls : List (List FD), x = rowsL ls ∧ (∀ l ∈ ls, (∀ y ∈ l, Wd y.n ∧ Wd y.d) ∧ l.length ≤ maxLen) ∧ ls.length ≤ maxLen := by
  obtain ⟨l, rfl, h1, h2⟩ := inv_rows h
  have : ∀ (l : List (List D)), (∀ y ∈ l, AllR OkD [shR] y) → ∃ m : List (List FD), l = m.map (fun x => [rowsF x]) ∧ ∀ l ∈ m, (∀ y ∈ l, Wd y.n ∧ Wd y.d) ∧ l.length ≤ maxLen := by
    intro l
    induction l with
    | nil => intro _; exact ⟨[], rfl, by simp⟩
    | cons y l ih =>
      intro h
      obtain ⟨m, rfl, hm⟩ := ih (fun z hz => h z (by simp [hz]))
      obtain ⟨u, us, e, h3, h4⟩ := (h y (by simp)).head
      obtain rfl := h4.nil_of
      obtain ⟨w, rfl, hw, hl⟩ := inv_fracs h3
      refine ⟨w :: m, by rw [e]; rfl, fun z hz => ?_⟩
      rcases List.mem_cons.1 hz with rfl | hz
      · exact ⟨fun y hy => ⟨(hw y hy).1, (hw y hy).2.1⟩, hl⟩
      · exact hm z hz
  obtain ⟨m, rfl, hm⟩ := this l h1
  exact ⟨m, rfl, hm, by simpa using h2⟩
theorem getD_memL {l : List (List FD)} {i : Nat} (h : i < l.length) : l.getD i [] ∈ l := by
  rw [List.getD_eq_getElem?_getD, List.getElem?_eq_getElem h]; exact List.getElem_mem h
set_option maxHeartbeats 2000000 in
theorem GaugePlays_runs {n : Int} {ls : List (List FD)} (n0 : -9223372036854775808 ≤ n) (n1 : n < 9223372036854775808) (hl : ∀ l ∈ ls, (∀ y ∈ l, Wd y.n ∧ Wd y.d) ∧ l.length ≤ maxLen) (hlm : ls.length ≤ maxLen) :
    Runs Try.prog g_retrospectlaw13_GaugePlays [.d (.int .i64 n), .d (rowsL ls)] (.d (.bool true)) := by
  obtain ⟨e, hpg⟩ := und_pg
  obtain ⟨hb0, hb1⟩ := lim_bd n
  refine run1 [15] p_retrospectlaw13_GaugePlays rfl rfl (fun B S F0 w0 V0 => ?_)
  refine call_G [(7, 15)] (gNew_specG (n := n)) rfl rfl rfl rfl rfl trivial trivial ⟨⟨rfl, Nat.le_of_ble_eq_true rfl⟩, trivial⟩ rfl ?_
  refine opp_eq_nil hpg rfl rfl rfl rfl ?_
  refine split_false rfl ?_
  refine split_intro (fun h => ?_) (fun h => ?_)
  · refine call_intro _ works13 ?_
    exact ret_intro rfl rfl
  have hlen : ls.length ≤ 20 := by
    have h : ¬ (((ls.map fun l => [rowsF l]).length : Int) > 20) := of_decide_eq_false h
    rw [List.length_map] at h; omega
  refine call_row 15 (Limit_spec (s := 0) (p := 0) (l := lim n)) rfl rfl rfl rfl rfl rfl (.inl ⟨_, _, rfl, rfl⟩) ?_
  refine split_false (by show (lim n != lim n) = false; rw [bne_self_eq_false]) ?_
  refine call_row 15 (Over_spec (s := 0) (p := 0) (l := lim n)) rfl rfl rfl rfl rfl rfl (.inl ⟨_, _, rfl, rfl⟩) ?_
  refine split_false (decide_eq_false (by show ¬ ((0 : Nat) : Int) > lim n; omega)) ?_
  refine call_row 15 (Tells_spec (s := 0) (p := 0) (l := lim n)) rfl rfl rfl rfl rfl rfl (.inl ⟨_, _, rfl, rfl⟩) ?_
  refine opp_eq_count true rfl rfl rfl rfl (by decide) (by decide) (by decide) (by decide) ?_
  refine split_false rfl ?_
  refine loop_intro (fun q : Nat × Nat × Nat => st [(1, .d (rowsL ls)), (5, .addr 15 0), (6, .d (.int .i64 (lim n))), (7, .d (.int .i64 (q.2.1 : Int))), (8, .d (.int .i64 (q.2.2 : Int))), (9, .d (.int .i64 (q.1 : Int)))] [(15, gbox q.2.1 q.2.2 (lim n))])
    (fun q => ls.length - q.1) (fun q => q.1 ≤ ls.length ∧ q.2.1 ≤ 20 * q.1 ∧ q.2.2 ≤ 12800) (0, 0, 0) ⟨Nat.zero_le _, Nat.zero_le _, Nat.zero_le _⟩
    (weak_st _ _ ⟨rfl, rfl, rfl, rfl, rfl, rfl, trivial⟩ ⟨rfl, trivial⟩ rfl) ?_
  rintro ⟨i, s, p⟩ ⟨hi, hs, hp⟩
  dsimp only at hi hs hp ⊢
  refine split_intro (fun h => ?_) (fun h => ?_)
  · have hlt : i < ls.length := by
      have h : (i : Int) < ((ls.map fun l => [rowsF l]).length : Int) := of_decide_eq_true h
      rw [List.length_map] at h; omega
    obtain ⟨hlw, hllm⟩ := hl _ (getD_memL hlt)
    obtain ⟨l, el⟩ : ∃ l, ls.getD i [] = l := ⟨_, rfl⟩
    rw [el] at hlw hllm
    have idx : ∀ {x : Int} {k : List D → Prop}, x = (i : Int) → k [rowsF l] → IdxP (ls.map fun l => [rowsF l]) x k := fun hx hk => idx_L i hx hlt (by rw [el]; exact hk)
    obtain ⟨bl, hlong, hno⟩ := Long11_spec (l := l) (m := 20) (k := 200) hllm (by omega)
    refine idx rfl ?_
    refine call_intro _ hlong ?_
    refine split_intro (fun hb => ?_) (fun hb => ?_)
    · refine call_intro _ works13 ?_
      exact ret_intro rfl rfl
    obtain ⟨hL, hwords⟩ := hno hb
    have hok : ∀ x ∈ l, x.ok 200 := fun x hx => ⟨(hlw x hx).1, (hlw x hx).2, by have := (hwords x hx).1; omega, by have := (hwords x hx).2; omega⟩
    obtain ⟨f, hf⟩ : ∃ f : Nat → Nat, f = fun i => (l.getD i FD.none).sz := ⟨_, rfl⟩
    obtain ⟨w, hw⟩ := First.ex f (lim n) l.length
    have r1 := Row_spec (s := s) (p := p) (li := lim n) (by omega) (by omega) hok (by omega) (by omega) (by rw [← hf]; exact hw)
    have r2 := rRow_spec (li := lim n) hok (by omega) (by omega) (by rw [← hf]; exact hw)
    rw [← hf] at r1
    have hfb : ∀ j, j < l.length → f j ≤ 12800 := by
      intro j hj
      have := FD.sz_le (hok _ (FD.getD_mem (i := j) hj))
      rw [hf]
      show (l.getD j FD.none).sz ≤ _
      omega
    have hpk : ∀ j, j ≤ l.length → peakUp f p j ≤ 12800 := fun j hj => (peakUp_le j).2 ⟨hp, fun k hk => hfb k (by omega)⟩
    obtain ⟨m, hm⟩ : ∃ m, min l.length (w + 1) = m := ⟨_, rfl⟩
    rw [hm] at r1
    refine idx rfl ?_
    refine call_intro _ r2 ?_
    refine idx rfl ?_
    refine call_intro _ (To11_spec (by omega)) ?_
    refine call_row 15 r1 rfl rfl rfl rfl rfl rfl (.inl ⟨_, _, rfl, rfl⟩) ?_
    refine loop_intro (fun k : Nat => st [(1, .d (rowsL ls)), (5, .addr 15 0), (6, .d (.int .i64 (lim n))), (7, .d (.int .i64 ((s + k : Nat) : Int))), (8, .d (.int .i64 ((peakUp f p k : Nat) : Int))), (9, .d (.int .i64 (i : Int))),
        (10, .d (.int .i64 (w : Int))), (11, .d (.int .i64 (w : Int))), (12, .d (.bool (decide (w = l.length)))), (13, .d (.int .i64 (k : Int)))] [(15, gbox (s + m) (peakUp f p m) (lim n))])
      (fun k => m - k) (fun k => k ≤ m) 0 (Nat.zero_le _)
      (weak_st _ _ ⟨rfl, rfl, rfl, rfl, rfl, rfl, rfl, rfl, rfl, rfl, trivial⟩ ⟨rfl, trivial⟩ rfl) ?_
    intro k hk
    have hmt : decide (((s + m : Nat) : Int) = ((s + m : Nat) : Int) ∧ ((peakUp f p m : Nat) : Int) = ((peakUp f p m : Nat) : Int)) = true := decide_eq_true ⟨rfl, rfl⟩
    refine idx rfl ?_
    refine split_intro (fun h1 => ?_) (fun h1 => ?_)
    · have h1 : k < l.length := by
        have h1 : (k : Int) < ((l.map FD.c).length : Int) := of_decide_eq_true h1
        rw [List.length_map] at h1; omega
      refine split_intro (fun h2 => ?_) (fun h2 => ?_)
      · have h2 : k ≤ w := by have h2 : (k : Int) ≤ (w : Int) := of_decide_eq_true h2; omega
        have es : IntKind.i64.wrap (((s + k : Nat) : Int) + 1) = ((s + (k + 1) : Nat) : Int) := by rw [wr (by omega) (by omega)]; omega
        have ek : IntKind.i64.wrap ((k : Int) + 1) = ((k + 1 : Nat) : Int) := by rw [wr (by omega) (by omega)]; omega
        have hx := hok _ (FD.getD_mem h1)
        have hxl := hx.ln
        have hxd := hx.ld
        refine idx rfl ?_
        refine idx_F k rfl h1 ?_
        refine call_intro _ (r9Size_spec (s := (l.getD k FD.none).s) hx.wn hx.wd (by omega) (by omega)) ?_
        have ef : bits (val (l.getD k FD.none).n) + bits (val (l.getD k FD.none).d) = f k := by rw [hf]; rfl
        have ep : (if ((bits (val (l.getD k FD.none).n) + bits (val (l.getD k FD.none).d) : Nat) : Int) > ((peakUp f p k : Nat) : Int) then ((bits (val (l.getD k FD.none).n) + bits (val (l.getD k FD.none).d) : Nat) : Int) else ((peakUp f p k : Nat) : Int)) = ((peakUp f p (k + 1) : Nat) : Int) := by
          rw [ef, maxI]; rfl
        exact ⟨k + 1, by omega, by omega, weak_st _ _ ⟨rfl, rfl, rfl, i64_inj es, i64_inj ep, rfl, rfl, rfl, rfl, i64_inj ek, trivial⟩ ⟨rfl, trivial⟩ rfl⟩
      · have h2 : ¬ k ≤ w := by have h2 : ¬ (k : Int) ≤ (w : Int) := of_decide_eq_false h2; omega
        obtain rfl : k = m := by omega
        refine split_false (by show ((w : Int) != (w : Int)) = false; rw [bne_self_eq_false]) ?_
        refine idx rfl ?_
        refine split_false (by show (decide (w = l.length) != decide ((w : Int) = ((l.map FD.c).length : Int))) = false; rw [List.length_map, show decide (w = l.length) = decide ((w : Int) = (l.length : Int)) from decide_eq_decide.2 (by omega)]; exact bne_self_eq_false _) ?_
        refine call_row 15 (Tells_spec (s := s + k) (p := peakUp f p k) (l := lim n)) rfl rfl rfl rfl rfl rfl (.inl ⟨_, _, rfl, rfl⟩) ?_
        refine opp_eq_count true rfl rfl rfl rfl (i64_wf (by omega) (by omega)) (i64_wf (by omega) (by have := hpk k (by omega); omega)) (i64_wf (by omega) (by omega)) (i64_wf (by omega) (by have := hpk k (by omega); omega)) ?_
        refine split_false (by show (!decide _) = false; rw [decide_eq_true ⟨rfl, rfl⟩]; rfl) ?_
        refine call_row 15 (Over_spec (s := s + k) (p := peakUp f p k) (l := lim n)) rfl rfl rfl rfl rfl rfl (.inl ⟨_, _, rfl, rfl⟩) ?_
        refine split_false (bne_self_eq_false _) ?_
        have ei : IntKind.i64.wrap ((i : Int) + 1) = ((i + 1 : Nat) : Int) := by rw [wr (by omega) (by omega)]; omega
        exact ⟨(i + 1, s + k, peakUp f p k), ⟨hlt, by show s + k ≤ 20 * (i + 1); omega, hpk k (by omega)⟩, by show ls.length - (i + 1) < ls.length - i; omega, weak_st _ _ ⟨rfl, rfl, rfl, rfl, rfl, i64_inj ei, trivial⟩ ⟨rfl, trivial⟩ rfl⟩
    · have h1 : ¬ k < l.length := by
        have h1 : ¬ (k : Int) < ((l.map FD.c).length : Int) := of_decide_eq_false h1
        rw [List.length_map] at h1; omega
      obtain rfl : k = m := by omega
      refine split_false rfl ?_
      refine split_false (by show ((w : Int) != (w : Int)) = false; rw [bne_self_eq_false]) ?_
      refine idx rfl ?_
      refine split_false (by show (decide (w = l.length) != decide ((w : Int) = ((l.map FD.c).length : Int))) = false; rw [List.length_map, show decide (w = l.length) = decide ((w : Int) = (l.length : Int)) from decide_eq_decide.2 (by omega)]; exact bne_self_eq_false _) ?_
      refine call_row 15 (Tells_spec (s := s + k) (p := peakUp f p k) (l := lim n)) rfl rfl rfl rfl rfl rfl (.inl ⟨_, _, rfl, rfl⟩) ?_
      refine opp_eq_count true rfl rfl rfl rfl (i64_wf (by omega) (by omega)) (i64_wf (by omega) (by have := hpk k (by omega); omega)) (i64_wf (by omega) (by omega)) (i64_wf (by omega) (by have := hpk k (by omega); omega)) ?_
      refine split_false (by show (!decide _) = false; rw [decide_eq_true ⟨rfl, rfl⟩]; rfl) ?_
      refine call_row 15 (Over_spec (s := s + k) (p := peakUp f p k) (l := lim n)) rfl rfl rfl rfl rfl rfl (.inl ⟨_, _, rfl, rfl⟩) ?_
      refine split_false (bne_self_eq_false _) ?_
      have ei : IntKind.i64.wrap ((i : Int) + 1) = ((i + 1 : Nat) : Int) := by rw [wr (by omega) (by omega)]; omega
      exact ⟨(i + 1, s + k, peakUp f p k), ⟨hlt, by show s + k ≤ 20 * (i + 1); omega, hpk k (by omega)⟩, by show ls.length - (i + 1) < ls.length - i; omega, weak_st _ _ ⟨rfl, rfl, rfl, rfl, rfl, i64_inj ei, trivial⟩ ⟨rfl, trivial⟩ rfl⟩
  · refine call_intro _ works13 ?_
    exact ret_intro rfl rfl
theorem GaugePlays_typed {x y : D} (h0 : OkD (.int .i64) x) (h1 : OkD (.rows [shR]) y) : Runs Try.prog g_retrospectlaw13_GaugePlays [.d x, .d y] (.d (.bool true)) := by
  obtain ⟨a, rfl, ha⟩ := inv_int h0
  obtain ⟨l, rfl, hl, hm⟩ := inv_rss h1
  obtain ⟨a0, a1⟩ := wf_i64 ha
  exact GaugePlays_runs a0 a1 hl hm
end Go.Proofs.Ytokfgmhcmajafaa.Fw
