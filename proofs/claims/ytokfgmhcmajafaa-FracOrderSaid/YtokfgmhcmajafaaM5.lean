/- Texts of the proof, one after the other: LF LH. -/
import Derived.Test.YtokfgmhcmajafaaM4
/- The laws of fractions, walked. -/
set_option linter.unusedVariables false
namespace Go.Proofs.Ytokfgmhcmajafaa.Fw
open Go Pu
theorem fr_inj {p q : Rat} : (decide (p.num < 0) = decide (q.num < 0) ∧ toW p.num.natAbs = toW q.num.natAbs ∧ toW p.den = toW q.den) ↔ p = q := by
  constructor
  · rintro ⟨h1, h2, h3⟩
    apply Rat.ext
    · rw [← sg_self p.num, ← sg_self q.num, h1, toW_inj h2]
    · exact toW_inj h3
  · rintro rfl; exact ⟨rfl, rfl, rfl⟩
theorem alike_true {k : Nat} {p q : Rat} (h : Sz k p) (hk : k ≤ 1099511627776) (e : p = q) : Runs Try.prog g_retrospectlaw09_alike [fr p, fr q] (.d (.bool true)) := by
  subst e
  refine run1 [] p_retrospectlaw09_alike rfl rfl (fun B S F0 w0 V0 => ?_)
  refine side_intro rfl ?_
  refine call_intro _ lOf_spec ?_
  refine call_intro _ lOf_spec ?_
  have := r9Same_spec (s := decide (p.num < 0)) (s' := decide (p.num < 0)) (n := toW p.num.natAbs) (n' := toW p.num.natAbs) (d := toW p.den) (d' := toW p.den) (Nat.le_trans h.n hk) (Nat.le_trans h.d hk)
  rw [show decide (decide (p.num < 0) = decide (p.num < 0) ∧ toW p.num.natAbs = toW p.num.natAbs ∧ toW p.den = toW p.den) = true from decide_eq_true ⟨rfl, rfl, rfl⟩] at this
  refine call_intro _ this ?_
  exact ret_intro rfl rfl
section
variable {k : Nat} {x y : FD}
theorem dAdd (hx : x.ok k) (hy : y.ok k) (h1 : 1 ≤ k) (hk : k ≤ 34359738368) : Runs Try.prog g_frac_Add [x.v, y.v] (fr (x.q + y.q)) := fAdd_spec hx hy h1 hk
theorem dMul (hx : x.ok k) (hy : y.ok k) (h1 : 1 ≤ k) (hk : k ≤ 34359738368) : Runs Try.prog g_frac_Mul [x.v, y.v] (fr (x.q * y.q)) := fMul_spec hx hy h1 hk
theorem dCmp (hx : x.ok k) (hy : y.ok k) (h1 : 1 ≤ k) (hk : k ≤ 34359738368) : Runs Try.prog g_frac_Cmp [x.v, y.v] (.d (.int .i64 (sgn (x.q - y.q).num))) := fCmp_spec hx hy h1 hk
theorem dSame (hx : x.ok k) (hy : y.ok k) (h1 : 1 ≤ k) (hk : k ≤ 34359738368) : Runs Try.prog g_frac_Same [x.v, y.v] (.d (.bool (decide (x.q = y.q)))) := fSame_spec hx hy h1 hk
theorem dSign (hx : x.ok k) (h1 : 1 ≤ k) (hk : k ≤ 34359738368) : Runs Try.prog g_frac_Sign [x.v] (.d (.int .i64 (sgn x.q.num))) := fSign_spec hx h1 (by omega)
theorem dNorm (hx : x.ok k) (h1 : 1 ≤ k) (hk : k ≤ 34359738368) : Runs Try.prog g_frac_Norm [x.v] (fr x.q) := fNorm_spec hx h1 (by omega)
theorem rNormD (hx : x.ok k) (hk : k ≤ 34359738368) : Runs Try.prog g_retrospectref09_Norm [x.v] (fr x.q) := r9Norm_spec hx (by omega)
theorem ToD : Runs Try.prog g_retrospectlaw09_To [x.v] x.v := To_spec
theorem FD.ok_of {q : Rat} (h : Sz k q) : (FD.of q).ok k := Fk.fr h
theorem FD.ok.mono {j : Nat} (h : x.ok j) (hk : j ≤ k) : x.ok k := Fk.mono h hk
theorem FD.ok.sz (h : x.ok k) (h1 : 1 ≤ k) : Sz k x.q := Fk.sz h h1
end
theorem half : ((1 : Int) : Rat) / ((2 : Int) : Rat) = rt false 1 2 := by decide +kernel
theorem six4 : ((6 : Int) : Rat) / ((-4 : Int) : Rat) = rt true 3 2 := by decide +kernel
theorem fr_six4 : fr (rt true 3 2) = fq true [3] [2] := by
  rw [fr_rt (by omega) (by omega)]
  show V.agg 3 [.bool true, .words (toW 3), .words (toW 2)] = _
  rw [nw_one (n := 3) (by omega) (by omega), nw_one (n := 2) (by omega) (by omega)]; rfl
theorem fr_half : fr (rt false 1 2) = fq false [1] [2] := by
  rw [fr_rt (by omega) (by omega)]
  show V.agg 3 [.bool false, .words (toW 1), .words (toW 2)] = _
  rw [nw_one (n := 1) (by omega) (by omega), nw_one (n := 2) (by omega) (by omega)]; rfl
theorem works09 : Runs Try.prog g_retrospectlaw09_works [] (.d (.bool true)) := by
  refine run1 [] p_retrospectlaw09_works rfl rfl (fun B S F0 w0 V0 => ?_)
  have h1 := fRatio_spec (x := 6) (y := -4) (by omega) (by omega) (by omega) (by omega)
  rw [if_neg (by omega), six4, fr_six4] at h1
  have h2 := fRatio_spec (x := 1) (y := 2) (by omega) (by omega) (by omega) (by omega)
  rw [if_neg (by omega), half, fr_half] at h2
  have s1 : Sz 1 ((1 : Int) : Rat) := Sz_int (by show (toW 1).length ≤ 1; rw [nw1]; omega) (by omega)
  have s0 : Sz 1 ((0 : Int) : Rat) := Sz_int (by show (toW 0).length ≤ 1; rw [toW_zero]; exact Nat.zero_le _) (by omega)
  refine call_intro _ h1 ?_
  refine call_intro _ (fOf_spec (z := 1) (by omega) (by omega)) ?_
  refine call_intro _ (fOf_spec (z := 0) (by omega) (by omega)) ?_
  have h3 := fQuo_zero (s := decide (((1 : Int) : Rat).num < 0)) (t := decide (((0 : Int) : Rat).num < 0)) (Fk.fr s1) (Fk.fr s0) (by omega) (by omega) (by rw [rv_fr]; rfl)
  refine call_intro _ h3 ?_
  refine call_intro _ h2 ?_
  refine split_true rfl ?_
  refine split_true rfl ?_
  refine split_true rfl ?_
  have hi := Is_spec (s := true) (s' := true) (n := [3]) (n' := [3]) (d := [2]) (d' := [2]) (by decide) (by decide)
  rw [show decide (true = true ∧ ([3] : List Int) = [3] ∧ ([2] : List Int) = [2]) = true from decide_eq_true ⟨rfl, rfl, rfl⟩] at hi
  refine call_intro _ hi ?_
  refine split_true rfl ?_
  have hs := fSize_spec (s := false) (n := [1]) (d := [2]) (Wd.cons (by omega) (by omega) Wd.nil) (Wd.cons (by omega) (by omega) Wd.nil) (by decide) (by decide)
  rw [show bits (val [1]) + bits (val [2]) = 3 by decide +kernel] at hs
  refine call_intro _ hs ?_
  exact ret_intro rfl rfl
theorem longOr {x : FD} {m : Int} (h : (decide ((x.n.length : Int) > m) || decide ((x.d.length : Int) > m)) = false) : (x.n.length : Int) ≤ m ∧ (x.d.length : Int) ≤ m := by
  simp only [Bool.or_eq_false_iff, decide_eq_false_iff_not] at h
  omega
theorem LongD {x : FD} {m : Int} : Runs Try.prog g_retrospectref09_Long [x.v, .d (.int .i64 m)] (.d (.bool (decide ((x.n.length : Int) > m) || decide ((x.d.length : Int) > m)))) := r9Long_spec
theorem FracPowers_runs {x : FD} {e : Int} (hn : Wd x.n) (hd : Wd x.d) (h0 : -9223372036854775808 ≤ e) (h1 : e < 9223372036854775808) : Runs Try.prog g_retrospectlaw09_FracPowers [x.v, .d (.int .i64 e)] (.d (.bool true)) := by
  refine run1 [] p_retrospectlaw09_FracPowers rfl rfl (fun B S F0 w0 V0 => ?_)
  refine call_intro _ (LongD (x := x)) ?_
  refine split_intro (fun h => ?_) (fun h => ?_)
  · refine call_intro _ works09 ?_
    exact ret_intro rfl rfl
  obtain ⟨l1, l2⟩ := longOr h
  have hx : x.ok 4 := ⟨hn, hd, by omega, by omega⟩
  have hz := hx.sz (by omega)
  refine call_intro _ (ToD (x := x)) ?_
  by_cases hb : e < -8 ∨ 8 < e ∨ (e < 0 ∧ x.q = 0)
  · refine call_intro _ (fPow_bad hx (by omega) (by omega) hb) ?_
    refine call_intro _ (rNormD hx (by omega)) ?_
    refine call_intro _ (r9Pow_bad hb) ?_
    refine call_intro _ (Is_true (k := 1) ⟨by show (toW 0).length ≤ 1; rw [toW_zero]; exact Nat.zero_le _, by show (toW 1).length ≤ 1; rw [nw1]; omega⟩ (by omega) rfl) ?_
    refine split_true rfl ?_
    refine split_true rfl ?_
    refine call_intro _ works09 ?_
    exact ret_intro rfl rfl
  · have hb1 : -8 ≤ e := by
      refine Classical.byContradiction fun hh => hb (.inl (by omega))
    have hb2 : e ≤ 8 := by
      refine Classical.byContradiction fun hh => hb (.inr (.inl (by omega)))
    have hb3 : ¬ (e < 0 ∧ x.q = 0) := fun hh => hb (.inr (.inr hh))
    refine call_intro _ (fPow_spec hx (by omega) (by omega) hb1 hb2 hb3) ?_
    refine call_intro _ (rNormD hx (by omega)) ?_
    refine call_intro _ (r9Pow_spec hz (by omega) hb1 hb2 hb3) ?_
    refine call_intro _ (Is_true (Sz_zpow hz hb1 hb2) (by omega) rfl) ?_
    refine split_true rfl ?_
    refine split_true rfl ?_
    refine call_intro _ works09 ?_
    exact ret_intro rfl rfl
theorem FracExponents_runs {x : FD} {a b : Int} (hn : Wd x.n) (hd : Wd x.d) (a0 : -9223372036854775808 ≤ a) (a1 : a < 9223372036854775808) (b0 : -9223372036854775808 ≤ b) (b1 : b < 9223372036854775808) : Runs Try.prog g_retrospectlaw09_FracExponents [x.v, .d (.int .i64 a), .d (.int .i64 b)] (.d (.bool true)) := by
  refine run1 [] p_retrospectlaw09_FracExponents rfl rfl (fun B S F0 w0 V0 => ?_)
  refine call_intro _ (ToD (x := x)) ?_
  refine call_intro _ (LongD (x := x)) ?_
  refine split_intro (fun h => ?_) (fun h => ?_)
  · refine split_true rfl ?_
    refine split_true rfl ?_
    refine split_true rfl ?_
    refine split_true rfl ?_
    refine split_true rfl ?_
    refine call_intro _ works09 ?_
    exact ret_intro rfl rfl
  obtain ⟨l1, l2⟩ := longOr h
  refine split_intro (fun h => ?_) (fun h => ?_)
  · refine split_true rfl ?_
    refine split_true rfl ?_
    refine split_true rfl ?_
    refine split_true rfl ?_
    refine call_intro _ works09 ?_
    exact ret_intro rfl rfl
  have ha0 : ¬ a < -4 := of_decide_eq_false h
  refine split_intro (fun h => ?_) (fun h => ?_)
  · refine split_true rfl ?_
    refine split_true rfl ?_
    refine split_true rfl ?_
    refine call_intro _ works09 ?_
    exact ret_intro rfl rfl
  have ha1 : ¬ a > 4 := of_decide_eq_false h
  refine split_intro (fun h => ?_) (fun h => ?_)
  · refine split_true rfl ?_
    refine split_true rfl ?_
    refine call_intro _ works09 ?_
    exact ret_intro rfl rfl
  have hb0 : ¬ b < -4 := of_decide_eq_false h
  refine split_intro (fun h => ?_) (fun h => ?_)
  · refine split_true rfl ?_
    refine call_intro _ works09 ?_
    exact ret_intro rfl rfl
  have hb1 : ¬ b > 4 := of_decide_eq_false h
  have hx : x.ok 3 := ⟨hn, hd, by omega, by omega⟩
  have hz := hx.sz (by omega)
  refine call_intro _ (dSign hx (by omega) (by omega)) ?_
  refine split_intro (fun h => ?_) (fun h => ?_)
  · refine call_intro _ works09 ?_
    exact ret_intro rfl rfl
  have hq0 : x.q ≠ 0 := fun e => (beq_eq_false_iff_ne.1 h) (sgn_zero.2 (num_zero.2 e))
  refine call_intro _ (fPow_spec hx (by omega) (by omega) (by omega) (by omega) (fun e => hq0 e.2)) ?_
  refine call_intro _ (fPow_spec hx (by omega) (by omega) (by omega) (by omega) (fun e => hq0 e.2)) ?_
  have hab : IntKind.i64.wrap (a + b) = a + b := wr (by omega) (by omega)
  have h3 := fPow_spec (s := x.s) (e := a + b) hx (by omega) (by omega) (by omega) (by omega) (fun e => hq0 e.2)
  refine call_intro (.tup [fr (x.q ^ (a + b)), .d (.bool true)]) (by rw [← hab] at h3; rw [hab] at h3; show Runs Try.prog g_frac_Pow [x.v, .d (.int .i64 (IntKind.i64.wrap (a + b)))] _; rw [hab]; exact h3) ?_
  refine side_intro rfl ?_
  refine split_true rfl ?_
  refine split_true rfl ?_
  refine split_true rfl ?_
  have sa := Sz_zpow hz (e := a) (by omega) (by omega)
  have sb := Sz_zpow hz (e := b) (by omega) (by omega)
  have hm := fMul_spec (s := decide ((x.q ^ a).num < 0)) (t := decide ((x.q ^ b).num < 0)) (Fk.fr sa) (Fk.fr sb) (by omega) (by omega)
  rw [rv_fr, rv_fr] at hm
  refine call_intro _ hm ?_
  refine call_intro _ (alike_true (Sz_mul sa sb) (by omega) (Rat.zpow_add hq0 a b).symm) ?_
  refine split_true rfl ?_
  refine call_intro _ works09 ?_
  exact ret_intro rfl rfl
theorem FracSums_runs {x y : FD} (hn : Wd x.n) (hd : Wd x.d) (gn : Wd y.n) (gd : Wd y.d) : Runs Try.prog g_retrospectlaw09_FracSums [x.v, y.v] (.d (.bool true)) := by
  refine run1 [] p_retrospectlaw09_FracSums rfl rfl (fun B S F0 w0 V0 => ?_)
  refine call_intro _ (LongD (x := x)) ?_
  refine split_intro (fun h => ?_) (fun h => ?_)
  · refine split_true rfl ?_
    refine call_intro _ works09 ?_
    exact ret_intro rfl rfl
  obtain ⟨l1, l2⟩ := longOr h
  refine call_intro _ (LongD (x := y)) ?_
  refine split_intro (fun h => ?_) (fun h => ?_)
  · refine call_intro _ works09 ?_
    exact ret_intro rfl rfl
  obtain ⟨m1, m2⟩ := longOr h
  have hx : x.ok 20 := ⟨hn, hd, by omega, by omega⟩
  have hy : y.ok 20 := ⟨gn, gd, by omega, by omega⟩
  have zx := hx.sz (by omega)
  have zy := hy.sz (by omega)
  have z0 : Sz 40 (0 : Rat) := ⟨by show (toW 0).length ≤ 40; rw [toW_zero]; exact Nat.zero_le _, by show (toW 1).length ≤ 40; rw [nw1]; omega⟩
  refine call_intro _ (ToD (x := x)) ?_
  refine call_intro _ (ToD (x := y)) ?_
  refine call_intro _ (rNormD hx (by omega)) ?_
  refine call_intro _ (rNormD hy (by omega)) ?_
  by_cases h0 : y.q = 0
  case' pos =>
    refine call_intro _ (fQuo_zero hx hy (by omega) (by omega) h0) ?_
    refine call_intro _ (r9Int_spec (z := 0) (by omega) (by omega)) ?_
    refine call_intro _ (r9Zero_spec y.q) ?_
    refine split_false (by show (!decide (y.q = 0)) = false; rw [decide_eq_true h0]; rfl) ?_
    refine side_intro rfl ?_
    refine call_intro _ (Is_true z0 (by omega) rfl) ?_
    refine split_false rfl ?_
    refine call_intro _ (r9Zero_spec y.q) ?_
    refine split_false (by show (false == decide (y.q = 0)) = false; rw [decide_eq_true h0]; rfl) ?_
  case' neg =>
    refine call_intro _ (fQuo_spec hx hy (by omega) (by omega) h0) ?_
    refine call_intro _ (r9Int_spec (z := 0) (by omega) (by omega)) ?_
    refine call_intro _ (r9Zero_spec y.q) ?_
    refine split_true (by show (!decide (y.q = 0)) = true; rw [decide_eq_false h0]; rfl) ?_
    refine call_intro _ (r9Quo_spec zx zy (by omega) h0) ?_
    refine side_intro rfl ?_
    refine call_intro _ (Is_true (Sz_div zx zy) (by omega) rfl) ?_
    refine split_false rfl ?_
    refine call_intro _ (r9Zero_spec y.q) ?_
    refine split_false (by show (true == decide (y.q = 0)) = false; rw [decide_eq_false h0]; rfl) ?_
  all_goals
    refine call_intro _ (fNeg_spec hx (by omega) (by omega)) ?_
    refine call_intro _ (r9Neg_spec zx (by omega)) ?_
    refine call_intro _ (Is_true (Sz_neg zx) (by omega) rfl) ?_
    refine split_false rfl ?_
    refine call_intro _ (fAbs_spec hx (by omega) (by omega)) ?_
    refine call_intro _ (r9Abs_spec x.q) ?_
    refine call_intro _ (Is_true (k := 20) (by unfold absQ; split; exact Sz_neg zx; exact zx) (by omega) rfl) ?_
    refine split_false rfl ?_
    refine side_intro rfl ?_
    refine call_intro _ (dAdd hx hy (by omega) (by omega)) ?_
    refine call_intro _ (r9Add_spec zx zy (by omega)) ?_
    refine call_intro _ (Is_true (Sz_add zx zy) (by omega) rfl) ?_
    refine split_true rfl ?_
    refine call_intro _ (fSub_spec hx hy (by omega) (by omega)) ?_
    refine call_intro _ (r9Sub_spec zx zy (by omega)) ?_
    refine call_intro _ (Is_true (Sz_sub zx zy) (by omega) rfl) ?_
    refine split_true rfl ?_
    refine call_intro _ (dMul hx hy (by omega) (by omega)) ?_
    refine call_intro _ (r9Mul_spec zx zy (by omega)) ?_
    refine call_intro _ (Is_true (Sz_mul zx zy) (by omega) rfl) ?_
    refine split_true rfl ?_
    refine call_intro _ works09 ?_
    exact ret_intro rfl rfl
theorem FracTells_runs {x y : FD} (hn : Wd x.n) (hd : Wd x.d) (gn : Wd y.n) (gd : Wd y.d) : Runs Try.prog g_retrospectlaw09_FracTells [x.v, y.v] (.d (.bool true)) := by
  refine run1 [] p_retrospectlaw09_FracTells rfl rfl (fun B S F0 w0 V0 => ?_)
  refine call_intro _ (LongD (x := x)) ?_
  refine split_intro (fun h => ?_) (fun h => ?_)
  · refine split_true rfl ?_
    refine call_intro _ works09 ?_
    exact ret_intro rfl rfl
  obtain ⟨l1, l2⟩ := longOr h
  refine call_intro _ (LongD (x := y)) ?_
  refine split_intro (fun h => ?_) (fun h => ?_)
  · refine call_intro _ works09 ?_
    exact ret_intro rfl rfl
  obtain ⟨m1, m2⟩ := longOr h
  have hx : x.ok 30 := ⟨hn, hd, by omega, by omega⟩
  have hy : y.ok 30 := ⟨gn, gd, by omega, by omega⟩
  have zx := hx.sz (by omega)
  have zy := hy.sz (by omega)
  refine call_intro _ (ToD (x := x)) ?_
  refine call_intro _ (ToD (x := y)) ?_
  refine call_intro _ (rNormD hx (by omega)) ?_
  refine call_intro _ (rNormD hy (by omega)) ?_
  refine call_intro _ (fFloor_spec hx (by omega) (by omega)) ?_
  refine side_intro rfl ?_
  refine call_intro _ (r9Floor_spec zx (by omega)) ?_
  have hfl : x.q.floor.natAbs ≤ x.q.num.natAbs := by
    rw [Rat.floor_def]
    exact Int.natAbs_ediv_le_natAbs _ _
  have hsm := r8Same_spec (s := decide (x.q.floor < 0)) (t := decide (x.q.floor < 0)) (a := toW x.q.floor.natAbs) (b := toW x.q.floor.natAbs) (by have := nw_le hfl zx.n; omega)
  rw [show decide (decide (x.q.floor < 0) = decide (x.q.floor < 0) ∧ toW x.q.floor.natAbs = toW x.q.floor.natAbs) = true from decide_eq_true ⟨rfl, rfl⟩] at hsm
  refine call_intro _ hsm ?_
  refine split_false rfl ?_
  refine call_intro _ (fSize_spec (s := x.s) hn hd (by omega) (by omega)) ?_
  refine call_intro _ (r9Size_spec (s := x.s) hn hd (by omega) (by omega)) ?_
  refine split_false (by show (((bits (val x.n) + bits (val x.d) : Nat) : Int) != ((bits (val x.n) + bits (val x.d) : Nat) : Int)) = false; rw [bne_self_eq_false]) ?_
  refine call_intro _ (fRight_spec (s := x.s) hx (by omega) (by omega)) ?_
  refine call_intro _ (r9Same_spec (s := x.s) (s' := decide (x.q.num < 0)) (n' := toW x.q.num.natAbs) (d' := toW x.q.den) (n := x.n) (d := x.d) (by omega) (by omega)) ?_
  refine split_false (by
    show (!((decide (x.s = decide (x.q.num < 0) ∧ x.n = toW x.q.num.natAbs ∧ x.d = toW x.q.den)) == (decide (x.s = decide (x.q.num < 0) ∧ x.n = toW x.q.num.natAbs ∧ x.d = toW x.q.den)))) = false
    rw [beq_self_eq_true]; rfl) ?_
  refine side_intro rfl ?_
  refine call_intro _ (dNorm hx (by omega) (by omega)) ?_
  refine call_intro _ (Is_true zx (by omega) rfl) ?_
  refine split_true rfl ?_
  refine call_intro _ (dSign hx (by omega) (by omega)) ?_
  refine call_intro _ (r9Sign_spec x.q) ?_
  refine split_true (beq_iff_eq.2 rfl) ?_
  refine call_intro _ (dCmp hx hy (by omega) (by omega)) ?_
  refine call_intro _ (r9Cmp_spec zx zy (by omega)) ?_
  refine split_true (beq_iff_eq.2 rfl) ?_
  refine call_intro _ (dSame hx hy (by omega) (by omega)) ?_
  have h3 := r9Same_spec (s := decide (x.q.num < 0)) (s' := decide (y.q.num < 0)) (n := toW x.q.num.natAbs) (n' := toW y.q.num.natAbs) (d := toW x.q.den) (d' := toW y.q.den) (by have := zx.n; omega) (by have := zx.d; omega)
  rw [show decide (decide (x.q.num < 0) = decide (y.q.num < 0) ∧ toW x.q.num.natAbs = toW y.q.num.natAbs ∧ toW x.q.den = toW y.q.den) = decide (x.q = y.q) from decide_eq_decide.2 fr_inj] at h3
  refine call_intro _ h3 ?_
  refine split_true (beq_self_eq_true _) ?_
  refine call_intro _ works09 ?_
  exact ret_intro rfl rfl
end Go.Proofs.Ytokfgmhcmajafaa.Fw

/- The laws of fractions in order, and of a field, walked. -/
set_option linter.unusedVariables false
namespace Go.Proofs.Ytokfgmhcmajafaa.Fw
open Go Pu
theorem num_pos {q : Rat} : 0 < q.num ↔ 0 < q := by
  have h1 := Rat.num_nonneg (q := q)
  have h2 := num_zero (q := q)
  constructor
  · intro h
    have h3 := h1.1 (by omega)
    rcases Rat.le_iff_lt_or_eq.1 h3 with h4 | h4
    · exact h4
    · exfalso; rw [← h4] at h; exact absurd h (by decide)
  · intro h
    have h3 := h1.2 (Rat.le_of_lt h)
    have h4 : q.num ≠ 0 := fun e => Rat.ne_of_gt h (h2.1 e)
    omega
theorem num_neg {q : Rat} : q.num < 0 ↔ q < 0 := by
  have h := num_pos (q := -q)
  rw [Rat.neg_num] at h
  have e : (0 < -q) ↔ q < 0 := by rw [Rat.lt_neg_iff]; exact Iff.rfl
  rw [← e, ← h]
  omega
theorem sgn_cases (q : Rat) : (0 < q ∧ sgn q.num = 1) ∨ (q = 0 ∧ sgn q.num = 0) ∨ (q < 0 ∧ sgn q.num = -1) := by
  unfold sgn
  by_cases h1 : q.num < 0
  · rw [if_pos h1]; exact .inr (.inr ⟨num_neg.1 h1, rfl⟩)
  · rw [if_neg h1]
    by_cases h2 : q.num = 0
    · rw [if_pos h2]; exact .inr (.inl ⟨num_zero.1 h2, rfl⟩)
    · rw [if_neg h2]; exact .inl ⟨num_pos.1 (by omega), rfl⟩
theorem sgn_neg' (q : Rat) : sgn (-q).num = -sgn q.num := by rw [Rat.neg_num]; unfold sgn; split <;> split <;> (try split) <;> (try split) <;> omega
theorem sgn_pos {q : Rat} : sgn q.num = 1 ↔ 0 < q := by
  rw [← num_pos]; unfold sgn; split <;> (try split) <;> omega
theorem sgn_negi {q : Rat} : sgn q.num = -1 ↔ q < 0 := by
  rw [← num_neg]; unfold sgn; split <;> (try split) <;> omega
theorem sgn_zeroq {q : Rat} : sgn q.num = 0 ↔ q = 0 := by rw [sgn_zero, num_zero]
theorem neg_pos' {q : Rat} : q < 0 ↔ 0 < -q := by rw [Rat.lt_neg_iff]; exact Iff.rfl
theorem sgn_mul (p q : Rat) : sgn (p * q).num = sgn p.num * sgn q.num := by
  rcases sgn_cases p with ⟨h1, e1⟩ | ⟨h1, e1⟩ | ⟨h1, e1⟩ <;> rcases sgn_cases q with ⟨h2, e2⟩ | ⟨h2, e2⟩ | ⟨h2, e2⟩ <;> rw [e1, e2]
  · exact sgn_pos.2 (Rat.mul_pos h1 h2)
  · rw [h2, Rat.mul_zero]; rfl
  · refine sgn_negi.2 (neg_pos'.2 ?_)
    rw [← Rat.mul_neg]; exact Rat.mul_pos h1 (neg_pos'.1 h2)
  · rw [h1, Rat.zero_mul]; rfl
  · rw [h1, Rat.zero_mul]; rfl
  · rw [h1, Rat.zero_mul]; rfl
  · refine sgn_negi.2 (neg_pos'.2 ?_)
    rw [← Rat.neg_mul]; exact Rat.mul_pos (neg_pos'.1 h1) h2
  · rw [h2, Rat.mul_zero]; rfl
  · refine sgn_pos.2 ?_
    have := Rat.mul_pos (neg_pos'.1 h1) (neg_pos'.1 h2)
    rw [Rat.neg_mul, Rat.mul_neg, Rat.neg_neg] at this
    exact this
theorem sgn_bd (z : Int) : -1 ≤ sgn z ∧ sgn z ≤ 1 := by unfold sgn; split <;> (try split) <;> omega
theorem sub_eq (p q : Rat) : p - q = p + -q := Rat.sub_eq_add_neg p q
/-- Two steps up are a step up. -/
theorem sgn_trans {x y z : Rat} (h1 : 0 ≤ sgn (x - y).num) (h2 : 0 ≤ sgn (y - z).num) : ¬ sgn (x - z).num < (if sgn (y - z).num > sgn (x - y).num then sgn (y - z).num else sgn (x - y).num) := by
  have e : x - z = (x - y) + (y - z) := by grind
  have b1 := sgn_bd (x - y).num
  have b2 := sgn_bd (y - z).num
  have b3 := sgn_bd (x - z).num
  rw [e] at b3 ⊢
  rcases sgn_cases (x - y) with ⟨g1, e1⟩ | ⟨g1, e1⟩ | ⟨g1, e1⟩
  · rcases sgn_cases (y - z) with ⟨g2, e2⟩ | ⟨g2, e2⟩ | ⟨g2, e2⟩
    · have : 0 < (x - y) + (y - z) := by grind
      rw [sgn_pos.2 this]; split <;> omega
    · rw [g2, Rat.add_zero, e1]; rw [show sgn ((0 : Rat)).num = 0 from rfl]; split <;> omega
    · omega
  · rw [g1, Rat.zero_add]; rw [show sgn ((0 : Rat)).num = 0 from rfl]; split <;> omega
  · omega
set_option maxHeartbeats 1000000 in
theorem FracOrder_runs {x y z : FD} (hn : Wd x.n) (hd : Wd x.d) (gn : Wd y.n) (gd : Wd y.d) (kn : Wd z.n) (kd : Wd z.d) : Runs Try.prog g_retrospectlaw09_FracOrder [x.v, y.v, z.v] (.d (.bool true)) := by
  refine run1 [] p_retrospectlaw09_FracOrder rfl rfl (fun B S F0 w0 V0 => ?_)
  refine call_intro _ (LongD (x := x)) ?_
  refine split_intro (fun h => ?_) (fun h => ?_)
  · refine split_true rfl ?_
    refine split_true rfl ?_
    refine call_intro _ works09 ?_
    exact ret_intro rfl rfl
  obtain ⟨l1, l2⟩ := longOr h
  refine call_intro _ (LongD (x := y)) ?_
  refine split_intro (fun h => ?_) (fun h => ?_)
  · refine split_true rfl ?_
    refine call_intro _ works09 ?_
    exact ret_intro rfl rfl
  obtain ⟨m1, m2⟩ := longOr h
  refine call_intro _ (LongD (x := z)) ?_
  refine split_intro (fun h => ?_) (fun h => ?_)
  · refine call_intro _ works09 ?_
    exact ret_intro rfl rfl
  obtain ⟨n1, n2⟩ := longOr h
  have hx : x.ok 6 := ⟨hn, hd, by omega, by omega⟩
  have hy : y.ok 6 := ⟨gn, gd, by omega, by omega⟩
  have hz : z.ok 6 := ⟨kn, kd, by omega, by omega⟩
  have zx := hx.sz (by omega)
  have zy := hy.sz (by omega)
  have zz := hz.sz (by omega)
  refine call_intro _ (ToD (x := x)) ?_
  refine call_intro _ (ToD (x := y)) ?_
  refine call_intro _ (ToD (x := z)) ?_
  refine call_intro _ (dCmp hx hy (by omega) (by omega)) ?_
  refine call_intro _ (dCmp hy hz (by omega) (by omega)) ?_
  have b1 := sgn_bd (x.q - y.q).num
  have b2 := sgn_bd z.q.num
  have hyx : Runs Try.prog g_frac_Cmp [y.v, x.v] (.d (.int .i64 (IntKind.i64.wrap (0 - sgn (x.q - y.q).num)))) := by
    have := dCmp hy hx (by omega) (by omega)
    rw [show y.q - x.q = -(x.q - y.q) by grind, sgn_neg'] at this
    rw [wr (by omega) (by omega), show 0 - sgn (x.q - y.q).num = -sgn (x.q - y.q).num by omega]
    exact this
  have ha1 := dAdd hx hz (by omega) (by omega)
  have ha2 := dAdd hy hz (by omega) (by omega)
  have hca : Runs Try.prog g_frac_Cmp [fr (x.q + z.q), fr (y.q + z.q)] (.d (.int .i64 (sgn (x.q - y.q).num))) := by
    have := dCmp (FD.ok_of (Sz_add zx zz)) (FD.ok_of (Sz_add zy zz)) (by omega) (by omega)
    rw [FD.q_of, FD.q_of, show x.q + z.q - (y.q + z.q) = x.q - y.q by grind] at this
    exact this
  have hm1 := dMul hx hz (by omega) (by omega)
  have hm2 := dMul hy hz (by omega) (by omega)
  have hcm : Runs Try.prog g_frac_Cmp [fr (x.q * z.q), fr (y.q * z.q)] (.d (.int .i64 (IntKind.i64.wrap (sgn (x.q - y.q).num * sgn z.q.num)))) := by
    have := dCmp (FD.ok_of (Sz_mul zx zz)) (FD.ok_of (Sz_mul zy zz)) (by omega) (by omega)
    rw [FD.q_of, FD.q_of, show x.q * z.q - y.q * z.q = (x.q - y.q) * z.q by grind, sgn_mul] at this
    have hb : -1 ≤ sgn (x.q - y.q).num * sgn z.q.num ∧ sgn (x.q - y.q).num * sgn z.q.num ≤ 1 := by
      rw [← sgn_mul]; exact sgn_bd _
    rw [wr (by omega) (by omega)]
    exact this
  have hsm := dSame hx hy (by omega) (by omega)
  have hse : decide (x.q = y.q) = (sgn (x.q - y.q).num == 0) := by
    by_cases e : x.q = y.q
    · rw [decide_eq_true e]; exact (beq_iff_eq.2 (sgn_zeroq.2 (by rw [e, Rat.sub_self]))).symm
    · rw [decide_eq_false e]
      exact (beq_eq_false_iff_ne.2 (fun h => e (by have := sgn_zeroq.1 h; grind))).symm
  rw [hse] at hsm
  have hsz := dSign hz (by omega) (by omega)
  have htr := sgn_trans (x := x.q) (y := y.q) (z := z.q)
  have h3 : (sgn (x.q - y.q).num ≥ 0 ∧ sgn (y.q - z.q).num ≥ 0) ∨ (sgn (x.q - y.q).num ≥ 0 ∧ ¬ sgn (y.q - z.q).num ≥ 0) ∨ ¬ sgn (x.q - y.q).num ≥ 0 := by omega
  rcases h3 with ⟨h1, h2⟩ | ⟨h1, h2⟩ | h1
  case' inl =>
    refine split_true (decide_eq_true h1) ?_
    refine split_true (decide_eq_true h2) ?_
    refine call_intro _ (dCmp hx hz (by omega) (by omega)) ?_
    refine split_false (decide_eq_false (htr (by omega) (by omega))) ?_
  case' inr.inl =>
    refine split_true (decide_eq_true h1) ?_
    refine split_false (decide_eq_false h2) ?_
    refine split_false rfl ?_
  case' inr.inr =>
    refine split_false (decide_eq_false h1) ?_
    refine split_false rfl ?_
    refine split_false rfl ?_
  all_goals
    refine side_intro rfl ?_
    refine call_intro _ hyx ?_
    refine split_true (beq_iff_eq.2 rfl) ?_
    refine call_intro _ ha1 ?_
    refine call_intro _ ha2 ?_
    refine call_intro _ hca ?_
    refine split_true (beq_iff_eq.2 rfl) ?_
    refine call_intro _ hm1 ?_
    refine call_intro _ hm2 ?_
    refine call_intro _ hcm ?_
    refine call_intro _ hsz ?_
    refine split_true (beq_iff_eq.2 rfl) ?_
    refine call_intro _ hsm ?_
    refine split_true (beq_self_eq_true _) ?_
    refine call_intro _ works09 ?_
    exact ret_intro rfl rfl
set_option maxHeartbeats 2000000 in
theorem FracField_runs {x y z : FD} (hn : Wd x.n) (hd : Wd x.d) (gn : Wd y.n) (gd : Wd y.d) (kn : Wd z.n) (kd : Wd z.d) : Runs Try.prog g_retrospectlaw09_FracField [x.v, y.v, z.v] (.d (.bool true)) := by
  refine run1 [] p_retrospectlaw09_FracField rfl rfl (fun B S F0 w0 V0 => ?_)
  refine call_intro _ (LongD (x := x)) ?_
  refine split_intro (fun h => ?_) (fun h => ?_)
  · refine split_true rfl ?_
    refine split_true rfl ?_
    refine call_intro _ works09 ?_
    exact ret_intro rfl rfl
  obtain ⟨l1, l2⟩ := longOr h
  refine call_intro _ (LongD (x := y)) ?_
  refine split_intro (fun h => ?_) (fun h => ?_)
  · refine split_true rfl ?_
    refine call_intro _ works09 ?_
    exact ret_intro rfl rfl
  obtain ⟨m1, m2⟩ := longOr h
  refine call_intro _ (LongD (x := z)) ?_
  refine split_intro (fun h => ?_) (fun h => ?_)
  · refine call_intro _ works09 ?_
    exact ret_intro rfl rfl
  obtain ⟨n1, n2⟩ := longOr h
  have hx : x.ok 40 := ⟨hn, hd, by omega, by omega⟩
  have hy : y.ok 40 := ⟨gn, gd, by omega, by omega⟩
  have hz : z.ok 40 := ⟨kn, kd, by omega, by omega⟩
  have zx := hx.sz (by omega)
  have zy := hy.sz (by omega)
  have zz := hz.sz (by omega)
  have ok : ∀ {q : Rat} {k : Nat}, Sz k q → k ≤ 1000 → (FD.of q).ok 1000 := fun h hk => FD.ok_of (h.mono hk)
  have up : ∀ {w : FD}, w.ok 40 → w.ok 1000 := fun h => h.mono (by omega)
  have sa := Sz_add zx zy
  have sm := Sz_mul zx zy
  refine call_intro _ (ToD (x := x)) ?_
  refine call_intro _ (ToD (x := y)) ?_
  refine call_intro _ (ToD (x := z)) ?_
  refine call_intro _ (dAdd hx hy (by omega) (by omega)) ?_
  refine call_intro _ (dMul hx hy (by omega) (by omega)) ?_
  have t1 := dAdd (ok sa (by omega)) (up hz) (by omega) (by omega)
  rw [FD.q_of] at t1
  have t2 := dAdd hz hy (by omega) (by omega)
  have t3 := dAdd (up hx) (ok (Sz_add zz zy) (by omega)) (by omega) (by omega)
  rw [FD.q_of] at t3
  refine side_intro rfl ?_
  refine call_intro _ t1 ?_
  refine call_intro _ t2 ?_
  refine call_intro _ t3 ?_
  refine call_intro _ (alike_true (Sz_add sa zz) (by omega) (by grind)) ?_
  refine split_false rfl ?_
  have u1 := dMul (ok sm (by omega)) (up hz) (by omega) (by omega)
  rw [FD.q_of] at u1
  have u2 := dMul hz hy (by omega) (by omega)
  have u3 := dMul (up hx) (ok (Sz_mul zz zy) (by omega)) (by omega) (by omega)
  rw [FD.q_of] at u3
  refine call_intro _ u1 ?_
  refine call_intro _ u2 ?_
  refine call_intro _ u3 ?_
  refine call_intro _ (alike_true (Sz_mul sm zz) (by omega) (by grind)) ?_
  refine split_false rfl ?_
  have v1 := dAdd hy hz (by omega) (by omega)
  have v2 := dMul (up hx) (ok (Sz_add zy zz) (by omega)) (by omega) (by omega)
  rw [FD.q_of] at v2
  have v3 := dMul hx hz (by omega) (by omega)
  have v4 := dAdd (ok sm (by omega)) (ok (Sz_mul zx zz) (by omega)) (by omega) (by omega)
  rw [FD.q_of, FD.q_of] at v4
  refine call_intro _ v1 ?_
  refine call_intro _ v2 ?_
  refine call_intro _ v3 ?_
  refine call_intro _ v4 ?_
  refine call_intro _ (alike_true (Sz_mul zx (Sz_add zy zz)) (by omega) (by grind)) ?_
  refine split_false rfl ?_
  have w1 := fSub_spec (s := decide ((x.q + y.q).num < 0)) (t := y.s) (Fk.fr (sa.mono (show _ ≤ 1000 by omega))) (up hy) (by omega) (by omega)
  rw [rv_fr] at w1
  have w2 := dNorm hx (by omega) (by omega)
  have hback : x.q + y.q - y.q = x.q := by grind
  have ssub := Sz_sub sa zy
  have hsame := dSame (up hx) (ok zx (by omega)) (by omega) (by omega)
  rw [FD.q_of, decide_eq_true rfl] at hsame
  have hright := fRight_spec (s := decide ((x.q + y.q).num < 0)) (Fk.fr sa) (by omega) (by omega)
  rw [rv_fr, show decide (decide ((x.q + y.q).num < 0) = decide ((x.q + y.q).num < 0) ∧ toW (x.q + y.q).num.natAbs = toW (x.q + y.q).num.natAbs ∧ toW (x.q + y.q).den = toW (x.q + y.q).den) = true from decide_eq_true ⟨rfl, rfl, rfl⟩] at hright
  have hsg := dSign hy (by omega) (by omega)
  by_cases h0 : y.q = 0
  · have hq := fQuo_zero (s := decide ((x.q * y.q).num < 0)) (t := y.s) (Fk.fr (sm.mono (show _ ≤ 1000 by omega))) (up hy) (by omega) (by omega) h0
    rw [h0, show sgn ((0 : Rat)).num = 0 from rfl] at hsg
    refine call_intro _ hq ?_
    refine side_intro rfl ?_
    refine call_intro _ w1 ?_
    refine call_intro _ w2 ?_
    refine call_intro _ (alike_true ssub (by omega) hback) ?_
    refine split_true rfl ?_
    refine call_intro _ hsg ?_
    refine split_true rfl ?_
    refine split_true rfl ?_
    refine split_true rfl ?_
    refine call_intro _ w2 ?_
    refine call_intro _ hsame ?_
    refine split_true rfl ?_
    refine call_intro _ hright ?_
    refine split_true rfl ?_
    refine call_intro _ works09 ?_
    exact ret_intro rfl rfl
  · have hq := fQuo_spec (s := decide ((x.q * y.q).num < 0)) (t := y.s) (Fk.fr (sm.mono (show _ ≤ 1000 by omega))) (up hy) (by omega) (by omega) h0
    rw [rv_fr] at hq
    have hxb : x.q * y.q / y.q = x.q := Rat.mul_div_cancel h0
    refine call_intro _ hq ?_
    refine side_intro rfl ?_
    refine call_intro _ w1 ?_
    refine call_intro _ w2 ?_
    refine call_intro _ (alike_true ssub (by omega) hback) ?_
    refine split_true rfl ?_
    refine call_intro _ hsg ?_
    refine split_true (by show (true == (sgn y.q.num != 0)) = true; rw [bne_iff_ne.2 (fun e => h0 (sgn_zeroq.1 e))]; rfl) ?_
    refine split_false rfl ?_
    refine call_intro _ w2 ?_
    refine call_intro _ (alike_true (Sz_div sm zy) (by omega) hxb) ?_
    refine split_true rfl ?_
    refine call_intro _ w2 ?_
    refine call_intro _ hsame ?_
    refine split_true rfl ?_
    refine call_intro _ hright ?_
    refine split_true rfl ?_
    refine call_intro _ works09 ?_
    exact ret_intro rfl rfl
theorem FracOrder_typed {x y z : List D} (h0 : AllR OkD shF x) (h1 : AllR OkD shF y) (h2 : AllR OkD shF z) : Runs Try.prog g_retrospectlaw09_FracOrder [.agg shF.length x, .agg shF.length y, .agg shF.length z] (.d (.bool true)) := by
  obtain ⟨f, rfl, hn, hd, _⟩ := inv_frac h0
  obtain ⟨g, rfl, gn, gd, _⟩ := inv_frac h1
  obtain ⟨k, rfl, kn, kd, _⟩ := inv_frac h2
  exact FracOrder_runs hn hd gn gd kn kd
theorem FracField_typed {x y z : List D} (h0 : AllR OkD shF x) (h1 : AllR OkD shF y) (h2 : AllR OkD shF z) : Runs Try.prog g_retrospectlaw09_FracField [.agg shF.length x, .agg shF.length y, .agg shF.length z] (.d (.bool true)) := by
  obtain ⟨f, rfl, hn, hd, _⟩ := inv_frac h0
  obtain ⟨g, rfl, gn, gd, _⟩ := inv_frac h1
  obtain ⟨k, rfl, kn, kd, _⟩ := inv_frac h2
  exact FracField_runs hn hd gn gd kn kd
end Go.Proofs.Ytokfgmhcmajafaa.Fw
