/- Texts of the proof, one after the other: RO UB DS TR UC TJ DO UH UG. -/
import Derived.Test.YtolkecnhncbkhaaGreatM5
set_option linter.unusedSimpArgs false
set_option linter.unusedVariables false
/- The chapter's examples of polynomials. -/
set_option linter.unusedVariables false
namespace Go.Proofs.YtolkecnhncbkhaaGreat.Fw
open Go Pu
def i2q (z : Int) : Rat := (z : Rat)
theorem sz_i2q {z : Int} (h : z.natAbs < 4294967296) : Sz 1 (i2q z) := Sz_int (by
  rcases Nat.eq_zero_or_pos z.natAbs with h0 | h0
  · rw [h0, toW_zero]; exact Nat.zero_le _
  · rw [nw_one (by omega) h]; exact Nat.le_refl _) (by omega)
end Go.Proofs.YtolkecnhncbkhaaGreat.Fw

/- Functions of two polynomials: the program's operations, walked. -/
set_option linter.unusedVariables false
namespace Go.Proofs.YtolkecnhncbkhaaGreat.Fw
open Go Pu
theorem psub_ev (a b : List Rat) (x : Rat) : pev (psub a b) x = pev a x - pev b x := by
  have : trim (psub a b) = trim (padd a (pscale (-1) b)) := trim_inj (fun i => by rw [co_psub, co_padd, co_pscale]; grind)
  rw [vals_of_trim this, pev_padd, pev_pscale]; grind
theorem Res_congr {X Y X' Y' : List Rat} (h : trim X = trim X') (h' : trim Y = trim Y') : Res X Y = Res X' Y' := by
  unfold Res
  rw [(nrm_congr h h').1, (nrm_congr h h').2]
/-- What a function's polynomials are. -/
def qU (u d : List FD) : List Rat := Qs (pU u d)
def qD (u d : List FD) : List Rat := Qs (pD u d)
theorem qD_ne (u d : List FD) : trim (qD u d) ≠ [] := pD_ne u d
theorem qU_Fs {U D : List Rat} (h : trim D ≠ []) : qU (Fs U) (Fs D) = U := by
  have h' : trim (Qs (Fs D)) ≠ [] := by rw [Qs_Fs]; exact h
  unfold qU pU
  rw [if_neg h', Qs_Fs]
theorem qD_Fs {U D : List Rat} (h : trim D ≠ []) : qD (Fs U) (Fs D) = D := by
  have h' : trim (Qs (Fs D)) ≠ [] := by rw [Qs_Fs]; exact h
  unfold qD pD
  rw [if_neg h', Qs_Fs]
theorem In.q {K : Nat} {P : List Nat} {u d : List FD} (h : In K P u d) : Fz P (qU u d) (qD u d) := h.parts.fz
theorem fNorm_spec2 {K : Nat} {P : List Nat} {u d : List FD} (h : In K P u d) (w : wChk P 8589934592 = true) : Runs Tryz.prog g_ratf_Norm [fv2 u d] (Res (qU u d) (qD u d)) := by
  refine run1 [] p_ratf_Norm rfl rfl (fun B S F0 w0 V0 => ?_)
  refine call_intro _ (fparts_spec h) ?_
  refine call_intro _ (fcancel_spec h.parts w (pD_ne u d)) ?_
  exact ret_intro rfl rfl
/-- The products of two functions' polynomials. -/
theorem four {K : Nat} {P Q R : List Nat} {u d v e : List FD} (h : In K P u d) (h' : In K Q v e) (mc : mChk P Q R = true) (w : tChk R 8589934592 = true) :
    Runs Tryz.prog g_poly_Mul [.d (rowsF u), .d (rowsF v)] (.d (rowsF (Fs (trim (pmul (Qs u) (Qs v)))))) ∧
    Runs Tryz.prog g_poly_Mul [.d (rowsF d), .d (rowsF e)] (.d (rowsF (Fs (trim (pmul (Qs d) (Qs e)))))) ∧
    Runs Tryz.prog g_poly_Mul [.d (rowsF u), .d (rowsF e)] (.d (rowsF (Fs (trim (pmul (Qs u) (Qs e)))))) ∧
    Runs Tryz.prog g_poly_Mul [.d (rowsF v), .d (rowsF d)] (.d (rowsF (Fs (trim (pmul (Qs v) (Qs d)))))) ∧
    Runs Tryz.prog g_poly_Mul [.d (rowsF d), .d (rowsF v)] (.d (rowsF (Fs (trim (pmul (Qs d) (Qs v)))))) := by
  obtain ⟨n, a1, a2, a3, a4, a5, a6⟩ := h.fz.l
  obtain ⟨m, b1, b2, b3, b4, b5, b6⟩ := h'.fz.l
  obtain ⟨c1, c2⟩ := mChk_at mc a1 a2 b1 b2
  have hw := tChk_at w (n := n + m - 1) (by omega) c1
  have k1 := h.k1
  have kK := h.kK
  have l1 := h.ln
  have l2 := h'.ln
  have lu := Qs_len u
  have ld := Qs_len d
  have lv := Qs_len v
  have le := Qs_len e
  have hh : ∀ x, x ≤ tb P n + tb Q m + n + m + 1 → x / 32 + 1 ≤ 17179869184 := fun x hx => by
    have : x / 32 ≤ tb R (n + m - 1) / 32 := Nat.div_le_div_right (Nat.le_trans hx c2)
    omega
  exact ⟨kMul h.oku h'.oku k1 kK (by omega) (by omega) a5 b5 (hh _ (by omega)), kMul h.okd h'.okd k1 kK (by omega) (by omega) a6 b6 (hh _ (by omega)), kMul h.oku h'.okd k1 kK (by omega) (by omega) a5 b6 (hh _ (by omega)), kMul h'.oku h.okd k1 kK (by omega) (by omega) b5 a6 (hh _ (by omega)), kMul h.okd h'.oku k1 kK (by omega) (by omega) a6 b5 (hh _ (by omega))⟩
theorem Fz.sz {P : List Nat} {U D : List Rat} {K : Nat} (h : Fz P U D) (w : tChk P K = true) : (∀ q ∈ U, Sz K q) ∧ (∀ q ∈ D, Sz K q) ∧ U.length ≤ P.length ∧ D.length ≤ P.length := by
  obtain ⟨n, a1, a2, a3, a4, a5, a6⟩ := h.l
  have hw := tChk_at w a1 a2
  exact ⟨fun q hq => (a5.sz q hq).mono hw, fun q hq => (a6.sz q hq).mono hw, by omega, by omega⟩
theorem fMul_spec2 {K : Nat} {P Q R : List Nat} {u d v e : List FD} (h : In K P u d) (h' : In K Q v e) (mc : mChk P Q R = true) (w : wChk R 8589934592 = true) (lR : R.length ≤ 100) :
    Runs Tryz.prog g_ratf_Mul [fv2 u d, fv2 v e] (Res (pmul (qU u d) (qU v e)) (pmul (qD u d) (qD v e))) := by
  obtain ⟨m1, m2, _, _, _⟩ := four h.parts h'.parts mc (wt w)
  have hz := (Fz.mul h.q h'.q mc).1
  have hn : trim (Qs (Fs (trim (pmul (qD u d) (qD v e))))) ≠ [] := by rw [Qs_Fs, trim_trim]; exact mul_ne (qD_ne u d) (qD_ne v e)
  have hc := fcancel_spec (In_Fs (K := 8589934592) (by omega) lR (wt w) hz) w hn
  rw [Qs_Fs, Qs_Fs, Res_congr (trim_trim _) (trim_trim _)] at hc
  refine run1 [] p_ratf_Mul rfl rfl (fun B S F0 w0 V0 => ?_)
  refine call_intro _ (fparts_spec h) ?_
  refine call_intro _ (fparts_spec h') ?_
  refine call_intro _ m1 ?_
  refine call_intro _ m2 ?_
  refine call_intro _ hc ?_
  exact ret_intro rfl rfl
theorem fAdd_spec2 {K : Nat} {P Q R : List Nat} {u d v e : List FD} (h : In K P u d) (h' : In K Q v e) (mc : mChk P Q R = true) (w : wChk R 8589934592 = true) (lR : R.length ≤ 100) :
    Runs Tryz.prog g_ratf_Add [fv2 u d, fv2 v e] (Res (aU (qU u d) (qD u d) (qU v e) (qD v e)) (pmul (qD u d) (qD v e))) := by
  obtain ⟨_, m2, m3, m4, _⟩ := four h.parts h'.parts mc (wt w)
  obtain ⟨_, z2, _, z4⟩ := Fz.mul h.q h'.q mc
  obtain ⟨s1, s2, l1, l2⟩ := z4.sz (wt w)
  have ha := pAdd_spec (k := 8589934592) (a := Fs (trim (pmul (qU u d) (qD v e)))) (b := Fs (trim (pmul (qU v e) (qD u d)))) (ok_Fs s1) (ok_Fs s2) (by omega) (by omega) (by rw [Fs_len]; omega) (by rw [Fs_len]; omega)
  rw [Qs_Fs, Qs_Fs] at ha
  have et : trim (padd (trim (pmul (qU u d) (qD v e))) (trim (pmul (qU v e) (qD u d)))) = trim (aU (qU u d) (qD u d) (qU v e) (qD v e)) := trim_inj (fun i => by unfold aU; rw [co_padd, co_padd, co_trim, co_trim])
  rw [et] at ha
  have hn : trim (Qs (Fs (trim (pmul (qD u d) (qD v e))))) ≠ [] := by rw [Qs_Fs, trim_trim]; exact mul_ne (qD_ne u d) (qD_ne v e)
  have hc := fcancel_spec (In_Fs (K := 8589934592) (by omega) lR (wt w) z2) w hn
  rw [Qs_Fs, Qs_Fs, Res_congr (trim_trim _) (trim_trim _)] at hc
  refine run1 [] p_ratf_Add rfl rfl (fun B S F0 w0 V0 => ?_)
  refine call_intro _ (fparts_spec h) ?_
  refine call_intro _ (fparts_spec h') ?_
  refine call_intro _ m3 ?_
  refine call_intro _ m4 ?_
  refine call_intro _ ha ?_
  refine call_intro _ m2 ?_
  refine call_intro _ hc ?_
  exact ret_intro rfl rfl
theorem fNew_zero {K : Nat} {u d : List FD} (hd : ∀ x ∈ d, x.ok K) (h1 : 1 ≤ K) (hK : K ≤ 8589934592) (ld : d.length ≤ 1000) (h0 : trim (Qs d) = []) : Runs Tryz.prog g_ratf_New [.d (rowsF u), .d (rowsF d)] (.tup [fv2 [] (Fs [1]), .d (.bool false)]) := by
  have dg := Degree_spec hd h1 (by omega) (by omega)
  refine run1 [] p_ratf_New rfl rfl (fun B S F0 w0 V0 => ?_)
  refine call_intro _ dg ?_
  refine split_true (decide_eq_true (by show ((trim (Qs d)).length : Int) - 1 < 0; rw [h0]; decide)) ?_
  refine call_intro _ fone_spec ?_
  exact ret_intro rfl rfl
theorem fNew_spec2 {K : Nat} {P : List Nat} {u d : List FD} (h : In K P u d) (w : wChk P 8589934592 = true) (h0 : trim (Qs d) ≠ []) : Runs Tryz.prog g_ratf_New [.d (rowsF u), .d (rowsF d)] (.tup [Res (Qs u) (Qs d), .d (.bool true)]) := by
  obtain ⟨n, a1, a2, a3, a4, _, _⟩ := h.fz.l
  have hln := h.ln
  rw [Qs_len] at a3 a4
  have dg := Degree_spec h.okd h.k1 (by have := h.kK; omega) (by omega)
  have := lpos h0
  refine run1 [] p_ratf_New rfl rfl (fun B S F0 w0 V0 => ?_)
  refine call_intro _ dg ?_
  refine split_false (decide_eq_false (by show ¬ ((trim (Qs d)).length : Int) - 1 < 0; omega)) ?_
  refine call_intro _ (fcancel_spec h w h0) ?_
  exact ret_intro rfl rfl
theorem fQuo_spec2 {K : Nat} {P Q R : List Nat} {u d v e : List FD} (h : In K P u d) (h' : In K Q v e) (mc : mChk P Q R = true) (w : wChk R 8589934592 = true) (lR : R.length ≤ 100) (h0 : trim (qU v e) ≠ []) :
    Runs Tryz.prog g_ratf_Quo [fv2 u d, fv2 v e] (.tup [Res (pmul (qU u d) (qD v e)) (pmul (qD u d) (qU v e)), .d (.bool true)]) := by
  obtain ⟨_, _, m3, _, m5⟩ := four h.parts h'.parts mc (wt w)
  obtain ⟨_, _, z3, _⟩ := Fz.mul h.q h'.q mc
  have hn : trim (Qs (Fs (trim (pmul (qD u d) (qU v e))))) ≠ [] := by rw [Qs_Fs, trim_trim]; exact mul_ne (qD_ne u d) h0
  have hc := fNew_spec2 (In_Fs (K := 8589934592) (by omega) lR (wt w) z3) w hn
  rw [Qs_Fs, Qs_Fs, Res_congr (trim_trim _) (trim_trim _)] at hc
  refine run1 [] p_ratf_Quo rfl rfl (fun B S F0 w0 V0 => ?_)
  refine call_intro _ (fparts_spec h) ?_
  refine call_intro _ (fparts_spec h') ?_
  refine call_intro _ m3 ?_
  refine call_intro _ m5 ?_
  refine call_intro _ hc ?_
  exact ret_intro rfl rfl
theorem mul_nilr {a b : List Rat} (h : trim b = []) : trim (pmul a b) = [] := by
  have : trim (pmul a b) = trim [] := trim_of_vals (fun x => by rw [pev_pmul, ← pev_trim b, h]; show _ * (0 : Rat) = 0; grind)
  exact this
theorem fQuo_zero2 {K : Nat} {P Q R : List Nat} {u d v e : List FD} (h : In K P u d) (h' : In K Q v e) (mc : mChk P Q R = true) (w : tChk R 8589934592 = true) (lR : R.length ≤ 100) (h0 : trim (qU v e) = []) :
    Runs Tryz.prog g_ratf_Quo [fv2 u d, fv2 v e] (.tup [fv2 [] (Fs [1]), .d (.bool false)]) := by
  obtain ⟨_, _, m3, _, m5⟩ := four h.parts h'.parts mc w
  obtain ⟨_, _, z3, _⟩ := Fz.mul h.q h'.q mc
  obtain ⟨s1, s2, l1, l2⟩ := z3.sz w
  have hn : trim (Qs (Fs (trim (pmul (qD u d) (qU v e))))) = [] := by rw [Qs_Fs, trim_trim]; exact mul_nilr h0
  have hc := fNew_zero (u := Fs (trim (pmul (qU u d) (qD v e)))) (d := Fs (trim (pmul (qD u d) (qU v e)))) (ok_Fs s2) (by omega) (by omega) (by rw [Fs_len]; omega) hn
  refine run1 [] p_ratf_Quo rfl rfl (fun B S F0 w0 V0 => ?_)
  refine call_intro _ (fparts_spec h) ?_
  refine call_intro _ (fparts_spec h') ?_
  refine call_intro _ m3 ?_
  refine call_intro _ m5 ?_
  refine call_intro _ hc ?_
  exact ret_intro rfl rfl
theorem fDiff_spec2 {K : Nat} {P R : List Nat} {u d : List FD} (h : In K P u d) (hK : K ≤ 100000000) (dc : dChk P R = true) (w : tChk R 1000000000 = true) (w2 : wChk R 8589934592 = true) (lR : R.length ≤ 100) :
    Runs Tryz.prog g_ratf_Diff [fv2 u d] (Res (fU' (qU u d) (qD u d)) (pmul (qD u d) (qD u d))) := by
  have hp := h.parts
  obtain ⟨n, a1, a2, a3, a4, a5, a6⟩ := h.q.l
  obtain ⟨c1, c2⟩ := dChk_at dc a1 a2
  have hw := tChk_at w (n := 2 * n - 1) (by omega) c1
  have hln := h.ln
  have k1 := h.k1
  have lu : (pU u d).length = (qU u d).length := (Qs_len _).symm
  have ld : (pD u d).length = (qD u d).length := (Qs_len _).symm
  have d1 := pDiff_spec hp.oku k1 (by omega) (by omega)
  have d2 := pDiff_spec hp.okd k1 (by omega) (by omega)
  have cu : Cz (tb P n + n) (trim (pdif (qU u d))) := by
    obtain ⟨D, d0, a⟩ := a5
    have := (a.sub (l' := qU u d) (fun q hq => List.mem_cons_of_mem _ hq)).pdif.trim.mono (show tb P n + (qU u d).length ≤ tb P n + n by omega)
    exact ⟨D, d0, fun q hq => by
      rcases List.mem_cons.1 hq with rfl | hq
      · exact (a 1 List.mem_cons_self).mono (by omega)
      · exact this q hq⟩
  have cd : Cz (tb P n + n) (trim (pdif (qD u d))) := by
    obtain ⟨D, d0, a⟩ := a6
    have := (a.sub (l' := qD u d) (fun q hq => List.mem_cons_of_mem _ hq)).pdif.trim.mono (show tb P n + (qD u d).length ≤ tb P n + n by omega)
    exact ⟨D, d0, fun q hq => by
      rcases List.mem_cons.1 hq with rfl | hq
      · exact (a 1 List.mem_cons_self).mono (by omega)
      · exact this q hq⟩
  have le1 : (trim (pdif (qU u d))).length ≤ n := by have := trim_len (pdif (qU u d)); unfold pdif at this ⊢; rw [List.length_map, List.length_range] at this; omega
  have le2 : (trim (pdif (qD u d))).length ≤ n := by have := trim_len (pdif (qD u d)); unfold pdif at this ⊢; rw [List.length_map, List.length_range] at this; omega
  have hh : ∀ x, x ≤ 2 * tb P n + 2 * n + 1 → x / 32 + 1 ≤ 1000000000 := fun x hx => by
    have : x / 32 ≤ tb R (2 * n - 1) / 32 := Nat.div_le_div_right (Nat.le_trans hx c2)
    omega
  have s1 : ∀ q ∈ trim (pdif (qU u d)), Sz 1000000000 q := fun q hq => (cu.sz q hq).mono (hh _ (by omega))
  have s2 : ∀ q ∈ trim (pdif (qD u d)), Sz 1000000000 q := fun q hq => (cd.sz q hq).mono (hh _ (by omega))
  have okd9 : ∀ x ∈ pD u d, x.ok 1000000000 := fun x hx => (hp.okd x hx).mono (by omega)
  have oku9 : ∀ x ∈ pU u d, x.ok 1000000000 := fun x hx => (hp.oku x hx).mono (by omega)
  have m1 := kMul (u := Fs (trim (pdif (qU u d)))) (v := pD u d) (k := 1000000000) (ok_Fs s1) okd9 (by omega) (by omega) (by rw [Fs_len]; omega) (by omega) (by rw [Qs_Fs]; exact cu) a6 (by rw [Fs_len]; have := hh (tb P n + n + tb P n + (trim (pdif (qU u d))).length) (by omega); omega)
  have m2 := kMul (u := pU u d) (v := Fs (trim (pdif (qD u d)))) (k := 1000000000) oku9 (ok_Fs s2) (by omega) (by omega) (by omega) (by rw [Fs_len]; omega) a5 (by rw [Qs_Fs]; exact cd) (by have := hh (tb P n + (tb P n + n) + (pU u d).length) (by omega); omega)
  have m3 := kMul (u := pD u d) (v := pD u d) (k := 1000000000) okd9 okd9 (by omega) (by omega) (by omega) (by omega) a6 a6 (by have := hh (tb P n + tb P n + (pD u d).length) (by omega); omega)
  rw [Qs_Fs] at m1 m2
  have z1 : Cz (2 * tb P n + 2 * n + 1) (trim (pmul (trim (pdif (qU u d))) (qD u d))) := by
    obtain ⟨D, d0, a⟩ := cu
    obtain ⟨E, e0, b⟩ := a6
    have h1 := ((a.sub (l' := trim (pdif (qU u d))) (fun q hq => List.mem_cons_of_mem _ hq)).pmul (b.sub (l' := qD u d) (fun q hq => List.mem_cons_of_mem _ hq))).trim
    have i1 := Iv_mul (a 1 List.mem_cons_self) (b 1 List.mem_cons_self)
    rw [Rat.mul_one] at i1
    exact ⟨D * E, nz_mul d0 e0, fun q hq => by
      rcases List.mem_cons.1 hq with rfl | hq
      · exact i1.mono (by omega)
      · exact (h1 q hq).mono (by omega)⟩
  have z2 : Cz (2 * tb P n + 2 * n + 1) (trim (pmul (qU u d) (trim (pdif (qD u d))))) := by
    obtain ⟨D, d0, a⟩ := a5
    obtain ⟨E, e0, b⟩ := cd
    have h1 := ((a.sub (l' := qU u d) (fun q hq => List.mem_cons_of_mem _ hq)).pmul (b.sub (l' := trim (pdif (qD u d))) (fun q hq => List.mem_cons_of_mem _ hq))).trim
    have i1 := Iv_mul (a 1 List.mem_cons_self) (b 1 List.mem_cons_self)
    rw [Rat.mul_one] at i1
    exact ⟨D * E, nz_mul d0 e0, fun q hq => by
      rcases List.mem_cons.1 hq with rfl | hq
      · exact i1.mono (by omega)
      · exact (h1 q hq).mono (by omega)⟩
  have l1 := pmul_tl (trim (pdif (qU u d))) (qD u d)
  have l2 := pmul_tl (qU u d) (trim (pdif (qD u d)))
  have sb := pSub_spec (k := 1000000000) (a := Fs (trim (pmul (trim (pdif (qU u d))) (qD u d)))) (b := Fs (trim (pmul (qU u d) (trim (pdif (qD u d)))))) (ok_Fs (fun q hq => (z1.sz q hq).mono (hh _ (by omega)))) (ok_Fs (fun q hq => (z2.sz q hq).mono (hh _ (by omega)))) (by omega) (by omega) (by rw [Fs_len]; omega) (by rw [Fs_len]; omega)
  rw [Qs_Fs, Qs_Fs] at sb
  have et : trim (psub (trim (pmul (trim (pdif (qU u d))) (qD u d))) (trim (pmul (qU u d) (trim (pdif (qD u d)))))) = trim (fU' (qU u d) (qD u d)) := trim_of_vals (fun x => by
    rw [psub_ev, pev_trim, pev_trim, pev_pmul, pev_pmul, pev_trim, pev_trim, fU_ev])
  rw [et] at sb
  have hz := h.q.dif dc
  have hn : trim (Qs (Fs (trim (pmul (qD u d) (qD u d))))) ≠ [] := by rw [Qs_Fs, trim_trim]; exact mul_ne (qD_ne u d) (qD_ne u d)
  have hc := fcancel_spec (In_Fs (K := 8589934592) (by omega) lR (wt w2) hz) w2 hn
  rw [Qs_Fs, Qs_Fs, Res_congr (trim_trim _) (trim_trim _)] at hc
  refine run1 [] p_ratf_Diff rfl rfl (fun B S F0 w0 V0 => ?_)
  refine call_intro _ (fparts_spec h) ?_
  refine call_intro _ d1 ?_
  refine call_intro _ m1 ?_
  refine call_intro _ d2 ?_
  refine call_intro _ m2 ?_
  refine call_intro _ sb ?_
  refine call_intro _ m3 ?_
  refine call_intro _ hc ?_
  exact ret_intro rfl rfl
theorem fZero_spec2 {K : Nat} {P : List Nat} {u d : List FD} (h : In K P u d) : Runs Tryz.prog g_ratf_Zero [fv2 u d] (.d (.bool (decide (trim (qU u d) = [])))) := by
  obtain ⟨n, a1, a2, a3, a4, _, _⟩ := h.q.l
  have hln := h.ln
  have lu : (pU u d).length = (qU u d).length := (Qs_len _).symm
  have dg := Degree_spec h.parts.oku h.k1 (by have := h.kK; omega) (by omega)
  refine run1 [] p_ratf_Zero rfl rfl (fun B S F0 w0 V0 => ?_)
  refine call_intro _ (fparts_spec h) ?_
  refine call_intro _ dg ?_
  refine ret_intro ?_ rfl
  show V.d (.bool (decide (((trim (qU u d)).length : Int) - 1 < 0))) = _
  congr 2
  refine decide_eq_decide.2 ⟨fun h => List.eq_nil_of_length_eq_zero (by omega), fun h => by rw [h]; decide⟩
theorem fSame_spec2 {K : Nat} {P Q R : List Nat} {u d v e : List FD} (h : In K P u d) (h' : In K Q v e) (mc : mChk P Q R = true) (w : tChk R 8589934592 = true) (lR : R.length ≤ 100) :
    Runs Tryz.prog g_ratf_Same [fv2 u d, fv2 v e] (.d (.bool (decide (trim (pmul (qU u d) (qD v e)) = trim (pmul (qU v e) (qD u d)))))) := by
  obtain ⟨_, _, m3, m4, _⟩ := four h.parts h'.parts mc w
  obtain ⟨_, _, _, z4⟩ := Fz.mul h.q h'.q mc
  obtain ⟨s1, s2, l1, l2⟩ := z4.sz w
  have q := pSame_spec (k := 8589934592) (ok_Fs s1) (ok_Fs s2) (by omega) (by omega) (by rw [Fs_len]; omega) (by rw [Fs_len]; omega)
  rw [Qs_Fs, Qs_Fs, trim_trim, trim_trim] at q
  refine run1 [] p_ratf_Same rfl rfl (fun B S F0 w0 V0 => ?_)
  refine call_intro _ (fparts_spec h) ?_
  refine call_intro _ (fparts_spec h') ?_
  refine call_intro _ m3 ?_
  refine call_intro _ m4 ?_
  refine call_intro _ q ?_
  exact ret_intro rfl rfl
/-- Taken -1 times. -/
theorem fNeg_spec2 {K : Nat} {P Q : List Nat} {u d : List FD} (h : In K P u d) (w : wChk P 8589934592 = true) (nc : nChk P Q = true) (w' : tChk Q 8589934592 = true) (lQ : Q.length ≤ 100) :
    Runs Tryz.prog g_ratf_Neg [fv2 u d] (fv2 (Fs (pscale (-1) (nu (qU u d) (qD u d)))) (Fs (nd (qU u d) (qD u d)))) := by
  obtain ⟨s1, s2, l1, l2⟩ := (h.q.nrm (qD_ne u d) nc).sz w'
  have sc := rowScale_spec (c := FD.of ((-1 : Int) : Rat)) (l := Fs (nu (qU u d) (qD u d))) (k := 8589934592) (FD.ok_of (sz_m1 (by omega))) (ok_Fs s1) (by omega) (by omega) (by rw [Fs_len]; omega)
  rw [Qs_Fs, FD.q_of] at sc
  refine run1 [] p_ratf_Neg rfl rfl (fun B S F0 w0 V0 => ?_)
  refine call_intro _ (fNorm_spec2 h w) ?_
  refine side_intro rfl ?_
  refine call_intro _ (fOf_spec (z := -1) (by omega) (by omega)) ?_
  refine call_intro _ sc ?_
  exact ret_intro rfl rfl
theorem fSub_spec2 {K : Nat} {P Q Q' R : List Nat} {u d v e : List FD} (h : In K P u d) (h' : In K Q v e) (w : wChk Q 8589934592 = true) (nc : nChk Q Q' = true) (w' : tChk Q' 8589934592 = true) (lQ : Q'.length ≤ 100) (mc : mChk P Q' R = true) (wR : wChk R 8589934592 = true) (lR : R.length ≤ 100) :
    Runs Tryz.prog g_ratf_Sub [fv2 u d, fv2 v e] (Res (aU (qU u d) (qD u d) (pscale (-1) (nu (qU v e) (qD v e))) (nd (qU v e) (qD v e))) (pmul (qD u d) (nd (qU v e) (qD v e)))) := by
  have hz := h'.q.nrm (qD_ne v e) nc
  have hz' : Fz Q' (pscale (-1) (nu (qU v e) (qD v e))) (nd (qU v e) (qD v e)) := by
    obtain ⟨n, a1, a2, a3, a4, D, d0, a5⟩ := hz
    refine ⟨n, a1, a2, by rw [psc_len]; exact a3, a4, D, d0, fun q hq => ?_⟩
    rcases List.mem_cons.1 hq with rfl | hq
    · exact a5 1 List.mem_cons_self
    · rcases List.mem_append.1 hq with hq | hq
      · obtain ⟨x, hx, rfl⟩ := List.mem_map.1 hq
        have := Iv_neg (a5 x (List.mem_cons_of_mem _ (List.mem_append_left _ hx)))
        rwa [show -x = -1 * x by grind] at this
      · exact a5 q (List.mem_cons_of_mem _ (List.mem_append_right _ hq))
  have hI := In_Fs (K := 8589934592) (by omega) lQ w' hz'
  have ha := fAdd_spec2 (h.mono h.kK (by omega)) hI mc wR lR
  have ne : trim (nd (qU v e) (qD v e)) ≠ [] := by rw [nd_trim]; exact nd_ne (qD_ne v e)
  rw [qU_Fs ne, qD_Fs ne] at ha
  refine run1 [] p_ratf_Sub rfl rfl (fun B S F0 w0 V0 => ?_)
  refine side_intro rfl ?_
  refine call_intro _ (fNeg_spec2 h' w nc w' lQ) ?_
  refine call_intro _ ha ?_
  exact ret_intro rfl rfl
/-- A result, taken as a function again. -/
theorem qU_nrm {X Y : List Rat} (h : trim Y ≠ []) : qU (Fs (nu X Y)) (Fs (nd X Y)) = nu X Y := qU_Fs (by rw [nd_trim]; exact nd_ne h)
theorem qD_nrm {X Y : List Rat} (h : trim Y ≠ []) : qD (Fs (nu X Y)) (Fs (nd X Y)) = nd X Y := qD_Fs (by rw [nd_trim]; exact nd_ne h)
theorem In_nrm {K : Nat} {P Q : List Nat} {X Y : List Rat} (h : Fz P X Y) (hY : trim Y ≠ []) (nc : nChk P Q = true) (hK : K ≤ 8589934592) (w : tChk Q K = true) (lQ : Q.length ≤ 100) : In K Q (Fs (nu X Y)) (Fs (nd X Y)) := In_Fs hK lQ w (h.nrm hY nc)
theorem Fz_congr {P : List Nat} {X Y X' Y' : List Rat} (h : Fz P (trim X) (trim Y)) (hX : trim X = trim X') (hY : trim Y = trim Y') : Fz P (trim X') (trim Y') := by rw [← hX, ← hY]; exact h
theorem ret_nrm {P Q : List Nat} {X Y : List Rat} {K : Nat} (h : Fz P (trim X) (trim Y)) (hY : trim Y ≠ []) (nc : nChk P Q = true) (hK : K ≤ 8589934592) (w : tChk Q K = true) (lQ : Q.length ≤ 100) : In K Q (Fs (nu X Y)) (Fs (nd X Y)) := by
  have := In_nrm h (by rw [trim_trim]; exact hY) nc hK w lQ
  rwa [(nrm_congr (trim_trim X) (trim_trim Y)).1, (nrm_congr (trim_trim X) (trim_trim Y)).2] at this
theorem fOf_spec2 {K : Nat} {c : FD} (h : c.ok K) (h1 : 1 ≤ K) (hK : K ≤ 8589934592) : Runs Tryz.prog g_ratf_Of [c.v] (fv2 (Fs (trim [c.q])) (Fs [1])) := by
  have ok1 : ∀ x ∈ [c], x.ok K := fun x hx => by
    have e : x = c := by simpa using hx
    rw [e]; exact h
  have hn := pNorm_spec (l := [c]) (k := K) ok1 h1 (by omega) (by show 1 ≤ _; omega)
  refine run1 [] p_ratf_Of rfl rfl (fun B S F0 w0 V0 => ?_)
  refine call_intro _ hn ?_
  refine call_intro _ fone_spec ?_
  exact ret_intro rfl rfl
theorem fLine_spec2 {K : Nat} {a b : FD} (ha : a.ok K) (hb : b.ok K) (h1 : 1 ≤ K) (hK : K ≤ 8589934592) : Runs Tryz.prog g_ratf_Line [a.v, b.v] (fv2 (Fs (trim [a.q, b.q])) (Fs [1])) := by
  have hn := pNorm_spec (l := [a, b]) (k := K) (fun x hx => by
    rcases List.mem_cons.1 hx with rfl | hx
    · exact ha
    · have : x = b := by simpa using hx
      rw [this]; exact hb) h1 (by omega) (by show 2 ≤ _; omega)
  refine run1 [] p_ratf_Line rfl rfl (fun B S F0 w0 V0 => ?_)
  refine call_intro _ hn ?_
  refine call_intro _ fone_spec ?_
  exact ret_intro rfl rfl
/-- Values. -/
theorem fEval_spec2 {K : Nat} {P Q : List Nat} {u d : List FD} {z : FD} (h : In K P u d) (w : wChk P 8589934592 = true) (nc : nChk P Q = true) (w' : tChk Q 1000000 = true) (lQ : Q.length ≤ 100) (hz : z.ok 1000000) :
    Runs Tryz.prog g_ratf_Eval [fv2 u d, z.v] (if pev (nd (qU u d) (qD u d)) z.q = 0 then .tup [fr 0, .d (.bool false)] else .tup [fr (pev (nu (qU u d) (qD u d)) z.q / pev (nd (qU u d) (qD u d)) z.q), .d (.bool true)]) := by
  obtain ⟨s1, s2, l1, l2⟩ := (h.q.nrm (qD_ne u d) nc).sz w'
  have v1 := pEval_spec (l := Fs (nu (qU u d) (qD u d))) (x := z) (k := 1000000) (ok_Fs s1) hz (by omega) (by omega) (by rw [Fs_len]; omega)
  have v2 := pEval_spec (l := Fs (nd (qU u d) (qD u d))) (x := z) (k := 1000000) (ok_Fs s2) hz (by omega) (by omega) (by rw [Fs_len]; omega)
  rw [Qs_Fs] at v1 v2
  have z1 := (pev_sz (hz.sz (by omega)) (by omega) _ s1).mono (show (nu (qU u d) (qD u d)).length * (2 * 1000000 + 1) + 1 ≤ 1000000000 by omega)
  have z2 := (pev_sz (hz.sz (by omega)) (by omega) _ s2).mono (show (nd (qU u d) (qD u d)).length * (2 * 1000000 + 1) + 1 ≤ 1000000000 by omega)
  obtain ⟨p, ep⟩ : ∃ p, p = pev (nu (qU u d) (qD u d)) z.q := ⟨_, rfl⟩
  obtain ⟨q, eq⟩ : ∃ q, q = pev (nd (qU u d) (qD u d)) z.q := ⟨_, rfl⟩
  rw [← ep] at v1 z1 ⊢
  rw [← eq] at v2 z2 ⊢
  by_cases h0 : q = 0
  · have hq := fQuo_zero (s := decide (p.num < 0)) (t := decide (q.num < 0)) (Fk.fr z1) (Fk.fr z2) (by omega) (by omega) (by rw [rv_fr]; exact h0)
    rw [if_pos h0]
    refine run1 [] p_ratf_Eval rfl rfl (fun B S F0 w0 V0 => ?_)
    refine call_intro _ (fNorm_spec2 h w) ?_
    refine side_intro rfl ?_
    refine call_intro _ v1 ?_
    refine call_intro _ v2 ?_
    refine call_intro _ hq ?_
    exact ret_intro rfl rfl
  · have hq := dQuo (FD.ok_of z1) (FD.ok_of z2) (by omega) (by omega) (by rw [FD.q_of]; exact h0)
    rw [FD.q_of, FD.q_of] at hq
    rw [if_neg h0]
    refine run1 [] p_ratf_Eval rfl rfl (fun B S F0 w0 V0 => ?_)
    refine call_intro _ (fNorm_spec2 h w) ?_
    refine side_intro rfl ?_
    refine call_intro _ v1 ?_
    refine call_intro _ v2 ?_
    refine call_intro _ hq ?_
    exact ret_intro rfl rfl
end Go.Proofs.YtolkecnhncbkhaaGreat.Fw

/- Tables of sizes for the chapter's examples. -/
set_option linter.unusedVariables false
namespace Go.Proofs.YtolkecnhncbkhaaGreat.Fw
open Go Pu
def Xw1 : List Nat := [0, 2]
theorem Xw1_ln : Xw1.length ≤ 100 := by decide
theorem Xw1_t : tChk Xw1 8589934592 = true := by decide +kernel
def Xw2 : List Nat := [3, 6, 9]
theorem Xw2_ln : Xw2.length ≤ 100 := by decide
theorem Xw1_Xw1_Xw2 : mChk Xw1 Xw1 Xw2 = true := by decide +kernel
theorem Xw2_w : wChk Xw2 8589934592 = true := by decide +kernel
def Xw3 : List Nat := [19, 49, 9]
theorem Xw3_ln : Xw3.length ≤ 100 := by decide
theorem Xw2_Xw3 : nChk Xw2 Xw3 = true := by decide +kernel
theorem Xw3_w : wChk Xw3 8589934592 = true := by decide +kernel
theorem Xw3_t : tChk Xw3 8589934592 = true := by decide +kernel
def Xw4 : List Nat := [22, 53, 56, 17]
theorem Xw4_ln : Xw4.length ≤ 100 := by decide
theorem Xw3_Xw1_Xw4 : mChk Xw3 Xw1 Xw4 = true := by decide +kernel
theorem Xw4_t : tChk Xw4 8589934592 = true := by decide +kernel
def Xw5 : List Nat := [99, 49, 9]
theorem Xw5_ln : Xw5.length ≤ 100 := by decide
theorem Xw3_Xw5 : nChk Xw3 Xw5 = true := by decide +kernel
theorem Xw5_t : tChk Xw5 1000000 = true := by decide +kernel
end Go.Proofs.YtolkecnhncbkhaaGreat.Fw

/- The document's rows: too long, handed over. -/
set_option linter.unusedVariables false
namespace Go.Proofs.YtolkecnhncbkhaaGreat.Fw
open Go Pu
/-- Is a row too long, or one of its fractions? -/
theorem Long11_spec {l : List FD} {m : Nat} {k : Int} (hl : l.length ≤ maxLen) (hm : m ≤ 1000000) : ∃ b : Bool, Runs Tryz.prog g_retrospectref11_Long [.d (rowsF l), .d (.int .i64 (m : Int)), .d (.int .i64 k)] (.d (.bool b)) ∧ (b = false → l.length ≤ m ∧ ∀ x ∈ l, (x.n.length : Int) ≤ k ∧ (x.d.length : Int) ≤ k) := by
  have hml : l.length < 9223372036854775808 := by unfold maxLen at hl; omega
  by_cases hex : ∃ i, i < l.length ∧ i < m ∧ (decide (((l.getD i FD.none).n.length : Int) > k) || decide (((l.getD i FD.none).d.length : Int) > k)) = true
  · refine ⟨true, ?_, fun h => by cases h⟩
    obtain ⟨i0, h1, h2, h3⟩ := hex
    refine run1 [] p_retrospectref11_Long rfl rfl (fun B S F0 w0 V0 => ?_)
    refine loop_intro (fun i : Nat => st [(0, .d (rowsF l)), (1, .d (.int .i64 (m : Int))), (2, .d (.int .i64 k)), (7, .d (.int .i64 (i : Int)))] []) (fun i => i0 + 1 - i) (fun i => i ≤ i0) 0 (Nat.zero_le _) (weak_st _ _ ⟨rfl, rfl, rfl, rfl, trivial⟩ trivial rfl) ?_
    intro i hi
    have ei : IntKind.i64.wrap ((i : Int) + 1) = ((i + 1 : Nat) : Int) := by rw [wr (by omega) (by omega)]; omega
    refine split_true (decide_eq_true (by show (i : Int) < ((l.map FD.c).length : Int); rw [List.length_map]; omega)) ?_
    refine split_true (decide_eq_true (by show (i : Int) < (m : Int); omega)) ?_
    refine idx_F i rfl (by omega) ?_
    refine call_intro _ (LongD (x := l.getD i FD.none)) ?_
    refine split_intro (fun h => ?_) (fun h => ?_)
    · exact ret_intro rfl rfl
    · have hne : i ≠ i0 := by
        intro e
        rw [← e] at h3
        rw [h3] at h; cases h
      exact ⟨i + 1, by omega, by omega, weak_st _ _ ⟨rfl, rfl, rfl, i64_inj ei, trivial⟩ trivial rfl⟩
  · have hall : ∀ i, i < l.length → i < m → (decide (((l.getD i FD.none).n.length : Int) > k) || decide (((l.getD i FD.none).d.length : Int) > k)) = false := by
      intro i h1 h2
      cases hb : (decide (((l.getD i FD.none).n.length : Int) > k) || decide (((l.getD i FD.none).d.length : Int) > k)) with
      | false => rfl
      | true => exact absurd ⟨i, h1, h2, hb⟩ hex
    refine ⟨decide ((l.length : Int) > m), ?_, fun h => ?_⟩
    · refine run1 [] p_retrospectref11_Long rfl rfl (fun B S F0 w0 V0 => ?_)
      refine loop_intro (fun i : Nat => st [(0, .d (rowsF l)), (1, .d (.int .i64 (m : Int))), (2, .d (.int .i64 k)), (7, .d (.int .i64 (i : Int)))] []) (fun i => m + 1 - i) (fun i => i ≤ l.length ∧ i ≤ m) 0 ⟨Nat.zero_le _, Nat.zero_le _⟩ (weak_st _ _ ⟨rfl, rfl, rfl, rfl, trivial⟩ trivial rfl) ?_
      rintro i ⟨hi, him⟩
      have ei : IntKind.i64.wrap ((i : Int) + 1) = ((i + 1 : Nat) : Int) := by rw [wr (by omega) (by omega)]; omega
      have hret : V.d (.bool (decide (((l.map FD.c).length : Int) > (m : Int)))) = V.d (.bool (decide ((l.length : Int) > (m : Int)))) := by rw [List.length_map]
      refine split_intro (fun h1 => ?_) (fun h1 => ?_)
      · have h1 : i < l.length := by
          have h1 : (i : Int) < ((l.map FD.c).length : Int) := of_decide_eq_true h1
          rw [List.length_map] at h1; omega
        refine split_intro (fun h2 => ?_) (fun h2 => ?_)
        · have h2 : i < m := by have h2 : (i : Int) < (m : Int) := of_decide_eq_true h2; omega
          refine idx_F i rfl h1 ?_
          refine call_intro _ (LongD (x := l.getD i FD.none)) ?_
          refine split_false (hall i h1 h2) ?_
          exact ⟨i + 1, ⟨by omega, by omega⟩, by omega, weak_st _ _ ⟨rfl, rfl, rfl, i64_inj ei, trivial⟩ trivial rfl⟩
        · exact ret_intro hret rfl
      · refine split_false rfl ?_
        exact ret_intro hret rfl
    · have h : ¬ (l.length : Int) > m := of_decide_eq_false h
      refine ⟨by omega, fun x hx => ?_⟩
      obtain ⟨i, hi⟩ := List.getElem?_of_mem hx
      have hlt := (List.getElem?_eq_some_iff.1 hi).1
      have h3 := longOr (x := l.getD i FD.none) (hall i hlt (by omega))
      rw [List.getD_eq_getElem?_getD, hi] at h3
      exact h3
theorem To11_spec {l : List FD} (hl : l.length ≤ 1000000) : Runs Tryz.prog g_retrospectlaw11_To [.d (rowsF l)] (.d (rowsF l)) := by
  refine run1 [] p_retrospectlaw11_To rfl rfl (fun B S F0 w0 V0 => ?_)
  refine loop_intro (fun i : Nat => st [(0, .d (rowsF l)), (3, .own 18 0 i), (4, .d (.int .i64 (i : Int)))] [(18, .rows tFrac 3 ((l.take i).map FD.c))]) (fun i => l.length - i) (fun i => i ≤ l.length) 0 (Nat.zero_le _)
    (weak_trans (weak_st _ _ ⟨rfl, rfl, rfl, trivial⟩ ⟨rfl, trivial⟩ rfl) (weak_nil_own 3 18 (.rows tFrac 3 []) (e := tFrac) (sz := 3) rfl rfl rfl rfl (by omega))) ?_
  intro i hi
  refine split_intro (fun h => ?_) (fun h => ?_)
  · have hlt : i < l.length := by
      have h : (i : Int) < ((l.map FD.c).length : Int) := of_decide_eq_true h
      rw [List.length_map] at h; omega
    have ei : IntKind.i64.wrap ((i : Int) + 1) = ((i + 1 : Nat) : Int) := by rw [wr (by omega) (by omega)]; omega
    have htl : (l.take i).length = i := by rw [List.length_take]; omega
    have htl1 : (l.take (i + 1)).length = i + 1 := by rw [List.length_take]; omega
    refine idx_F i rfl hlt ?_
    refine call_intro _ (ToD (x := l.getD i FD.none)) ?_
    refine opp_append_own hT (e := tFrac) (i := 18) (j := 18) (obj := .rows tFrac 3 ((l.take i).map FD.c)) (obj2 := .rows tFrac 3 ((l.take (i + 1)).map FD.c)) (n := i) (m := 1) (fl := ((l.take i).map FD.c).flatten) (fl2 := (l.getD i FD.none).c) rfl rfl rfl rfl rfl rfl ?_ rfl rfl rfl (Nat.le_of_ble_eq_true rfl) (Nat.le_of_ble_eq_true rfl) (.inl rfl) ?_ ?_ ?_
    · rw [rowsF_row, htl]; rfl
    · rw [rowsF_row, htl1, take_succF hlt, List.flatten_append]
      show some (tFrac, 3, i + 1, ((l.take i).map FD.c).flatten ++ ((l.getD i FD.none).c ++ [])) = _
      rw [List.append_nil]; rfl
    · show (i + 1) * (56 + 1) ≤ _
      omega
    exact ⟨i + 1, hlt, by omega, weak_st _ _ ⟨rfl, rfl, i64_inj ei, trivial⟩ ⟨rfl, trivial⟩ rfl⟩
  · have hend : i = l.length := by
      have h : ¬ (i : Int) < ((l.map FD.c).length : Int) := of_decide_eq_false h
      rw [List.length_map] at h; omega
    subst hend
    refine ret_intro ?_ rfl
    show snapM (.rows tFrac 3 ((l.take l.length).map FD.c)) 0 l.length = _
    rw [List.take_length, snap_F _ _ rfl]
end Go.Proofs.YtolkecnhncbkhaaGreat.Fw

/- Functions of two polynomials: the chapter's examples, what is too long, handed over, walked. -/
set_option linter.unusedVariables false
namespace Go.Proofs.YtolkecnhncbkhaaGreat.Fw
open Go Pu
theorem nrm_idem {X Y : List Rat} (hY : trim Y ≠ []) : nu (nu X Y) (nd X Y) = nu X Y ∧ nd (nu X Y) (nd X Y) = nd X Y :=
  nrm_of_eqv (by rw [nd_trim]; exact nd_ne hY) hY (nrm_eqv hY)
theorem nu_zero {X Y : List Rat} (hX : trim X = []) (hY : trim Y ≠ []) : nu X Y = [] := by
  obtain ⟨h, h1, h2⟩ := nrm_spec (U := X) hY
  have hh : trim h ≠ [] := fun e => hY (by
    have : trim Y = trim [] := trim_of_vals (fun x => by rw [h2, ← pev_trim h, e]; show (0 : Rat) * _ = 0; grind)
    exact this)
  have := trim_of_vals (a := nu X Y) (b := []) (fun x => dom hh (fun x => by
    have := h1 x
    rw [← pev_trim X, hX, pev_nil] at this
    grind) x)
  rw [nu_trim hY] at this
  exact this
theorem nu_zero_iff {X Y : List Rat} (hY : trim Y ≠ []) : nu X Y = [] ↔ trim X = [] := by
  constructor
  · intro e
    obtain ⟨h, h1, h2⟩ := nrm_spec (U := X) hY
    have : trim X = trim [] := trim_of_vals (fun x => by rw [h1, e, pev_nil, Rat.mul_zero])
    exact this
  · exact fun h => nu_zero h hY
theorem fTo_spec2 {u d : List FD} (lu : u.length ≤ 1000000) (ld : d.length ≤ 1000000) : Runs Tryz.prog g_retrospectlaw15_To [fv2 u d] (fv2 u d) := by
  refine run1 [] p_retrospectlaw15_To rfl rfl (fun B S F0 w0 V0 => ?_)
  refine side_intro rfl ?_
  refine call_intro _ (To11_spec lu) ?_
  refine call_intro _ (To11_spec ld) ?_
  exact ret_intro rfl rfl
theorem Long15_spec {u d : List FD} {m : Nat} {k : Int} (lu : u.length ≤ maxLen) (ld : d.length ≤ maxLen) (hm : m ≤ 1000000) : ∃ b : Bool, Runs Tryz.prog g_retrospectref15_Long [fv2 u d, .d (.int .i64 (m : Int)), .d (.int .i64 k)] (.d (.bool b)) ∧
    (b = false → (u.length ≤ m ∧ ∀ x ∈ u, (x.n.length : Int) ≤ k ∧ (x.d.length : Int) ≤ k) ∧ (d.length ≤ m ∧ ∀ x ∈ d, (x.n.length : Int) ≤ k ∧ (x.d.length : Int) ≤ k)) := by
  obtain ⟨b1, h1, n1⟩ := Long11_spec (l := u) (m := m) (k := k) lu hm
  obtain ⟨b2, h2, n2⟩ := Long11_spec (l := d) (m := m) (k := k) ld hm
  cases b1 with
  | true =>
    refine ⟨true, run1 [] p_retrospectref15_Long rfl rfl (fun B S F0 w0 V0 => ?_), fun h => by cases h⟩
    refine call_intro _ h1 ?_
    refine split_true rfl ?_
    exact ret_intro rfl rfl
  | false =>
    refine ⟨b2, run1 [] p_retrospectref15_Long rfl rfl (fun B S F0 w0 V0 => ?_), fun h => ⟨n1 rfl, n2 h⟩⟩
    refine call_intro _ h1 ?_
    refine split_false rfl ?_
    refine call_intro _ h2 ?_
    exact ret_intro rfl rfl
theorem inv_fun {ds : List D} (h : AllR OkD [shR, shR] ds) : ∃ u d : List FD, ds = [rowsF u, rowsF d] ∧ (∀ y ∈ u, Wd y.n ∧ Wd y.d) ∧ (∀ y ∈ d, Wd y.n ∧ Wd y.d) ∧ u.length ≤ maxLen ∧ d.length ≤ maxLen := by
  obtain ⟨u0, t0, e0, a0, h⟩ := h.head
  obtain ⟨u1, t1, e1, a1, h⟩ := h.head
  obtain rfl := h.nil_of
  obtain ⟨u, rfl, hu, mu⟩ := inv_fracs a0
  obtain ⟨d, rfl, hd, md⟩ := inv_fracs a1
  exact ⟨u, d, by rw [e0, e1], fun y hy => ⟨(hu y hy).1, (hu y hy).2.1⟩, fun y hy => ⟨(hd y hy).1, (hd y hy).2.1⟩, mu, md⟩
/-- A function of at most so many small coefficients. -/
theorem In_raw {P : List Nat} {n k : Nat} {u d : List FD} (h1 : 1 ≤ n) (hk : 1 ≤ k) (hk2 : k ≤ 8589934592) (hP : n ≤ P.length) (lP : P.length ≤ 100) (hu : ∀ y ∈ u, Wd y.n ∧ Wd y.d) (hd : ∀ y ∈ d, Wd y.n ∧ Wd y.d)
    (bu : u.length ≤ n ∧ ∀ x ∈ u, (x.n.length : Int) ≤ (k : Int) ∧ (x.d.length : Int) ≤ (k : Int)) (bd : d.length ≤ n ∧ ∀ x ∈ d, (x.n.length : Int) ≤ (k : Int) ∧ (x.d.length : Int) ≤ (k : Int)) (hs : 64 * k * n ≤ tb P n) : In k P u d := by
  have ou : ∀ x ∈ u, x.ok k := fun x hx => ⟨(hu x hx).1, (hu x hx).2, by have := (bu.2 x hx).1; omega, by have := (bu.2 x hx).2; omega⟩
  have od : ∀ x ∈ d, x.ok k := fun x hx => ⟨(hd x hx).1, (hd x hx).2, by have := (bd.2 x hx).1; omega, by have := (bd.2 x hx).2; omega⟩
  refine ⟨hk, hk2, lP, ou, od, n, h1, hP, by rw [Qs_len]; exact bu.1, by rw [Qs_len]; exact bd.1, ?_⟩
  refine (Cz_of (k := k) (l := Qs u ++ Qs d) (fun q hq => ?_)).mono ?_
  · rcases List.mem_append.1 hq with hq | hq
    · exact Sz_Qs ou hk q hq
    · exact Sz_Qs od hk q hq
  · rw [List.length_append, Qs_len, Qs_len]
    refine Nat.le_trans ?_ hs
    have := Nat.mul_le_mul_left (32 * k) (show u.length + d.length ≤ 2 * n by omega)
    have e : 32 * k * (2 * n) = 64 * k * n := by rw [← Nat.mul_assoc, show 32 * k * 2 = 64 * k by omega]
    omega
theorem Fz_small {P : List Nat} {n : Nat} {U D : List Rat} (h1 : 1 ≤ n) (hP : n ≤ P.length) (lu : U.length ≤ n) (ld : D.length ≤ n) {K : Rat} (hK : K ≠ 0) (h : ∀ q ∈ 1 :: (U ++ D), Iv K (tb P n) q) : Fz P U D := ⟨n, h1, hP, lu, ld, K, hK, h⟩
theorem Iv12 {q : Rat} (n : Int) (hn : n.natAbs ≤ 4) {K : Rat} (h : q * K = (n : Rat)) : Iv K (tb Xw1 2) q := ⟨n, hn, h⟩
theorem o1_ne : trim [(1 : Rat)] ≠ [] := by rw [trim_one]; exact fun e => by cases e
set_option maxHeartbeats 1000000 in
theorem works15 : Runs Tryz.prog g_retrospectlaw15_works [] (.d (.bool true)) := by
  have s0 : Sz 1 (i2q 0) := sz_i2q (by decide)
  have s1 : Sz 1 (i2q 1) := sz_i2q (by decide)
  have s2 : Sz 1 (i2q 2) := sz_i2q (by decide)
  have l1 := fLine_spec2 (FD.ok_of s0) (FD.ok_of s1) (by omega) (by omega)
  have l2 := fLine_spec2 (FD.ok_of s0) (FD.ok_of s2) (by omega) (by omega)
  rw [FD.q_of, FD.q_of] at l1 l2
  have e1 : trim [i2q 0, i2q 1] = [0, 1] := by decide +kernel
  have e2 : trim [i2q 0, i2q 2] = [0, 2] := by decide +kernel
  rw [e1] at l1
  rw [e2] at l2
  have f1 : Fz Xw1 [0, 1] [1] := Fz_small (n := 2) (by omega) (by decide) (by decide) (by decide) (K := 1) (by decide) (fun q hq => by
    simp only [List.cons_append, List.nil_append, List.mem_cons, List.not_mem_nil, or_false] at hq
    rcases hq with rfl | rfl | rfl | rfl
    · exact Iv12 1 (by decide) (by decide +kernel)
    · exact Iv12 0 (by decide) (by decide +kernel)
    · exact Iv12 1 (by decide) (by decide +kernel)
    · exact Iv12 1 (by decide) (by decide +kernel))
  have f2 : Fz Xw1 [0, 2] [1] := Fz_small (n := 2) (by omega) (by decide) (by decide) (by decide) (K := 1) (by decide) (fun q hq => by
    simp only [List.cons_append, List.nil_append, List.mem_cons, List.not_mem_nil, or_false] at hq
    rcases hq with rfl | rfl | rfl | rfl
    · exact Iv12 1 (by decide) (by decide +kernel)
    · exact Iv12 0 (by decide) (by decide +kernel)
    · exact Iv12 2 (by decide) (by decide +kernel)
    · exact Iv12 1 (by decide) (by decide +kernel))
  have f3 : Fz Xw1 [1] [1] := Fz_small (n := 2) (by omega) (by decide) (by decide) (by decide) (K := 1) (by decide) (fun q hq => by
    simp only [List.cons_append, List.nil_append, List.mem_cons, List.not_mem_nil, or_false] at hq
    rcases hq with rfl | rfl | rfl <;> exact Iv12 1 (by decide) (by decide +kernel))
  have f4 : Fz Xw1 [((1 : Int) : Rat) / ((2 : Int) : Rat)] [1] := Fz_small (n := 2) (by omega) (by decide) (by decide) (by decide) (K := 2) (by decide) (fun q hq => by
    simp only [List.cons_append, List.nil_append, List.mem_cons, List.not_mem_nil, or_false] at hq
    rcases hq with rfl | rfl | rfl
    · exact Iv12 2 (by decide) (by decide +kernel)
    · exact Iv12 1 (by decide) (by decide +kernel)
    · exact Iv12 2 (by decide) (by decide +kernel))
  have i1 := In_Fs (K := 8589934592) (by omega) Xw1_ln Xw1_t f1
  have i2 := In_Fs (K := 8589934592) (by omega) Xw1_ln Xw1_t f2
  have i3 := In_Fs (K := 8589934592) (by omega) Xw1_ln Xw1_t f3
  have i4 := In_Fs (K := 8589934592) (by omega) Xw1_ln Xw1_t f4
  have t01 : trim [(0 : Rat), 1] = [0, 1] := by decide +kernel
  have t02 : trim [(0 : Rat), 2] = [0, 2] := by decide +kernel
  have n01 : trim [(0 : Rat), 1] ≠ [] := by rw [t01]; exact fun e => by cases e
  have n02 : trim [(0 : Rat), 2] ≠ [] := by rw [t02]; exact fun e => by cases e
  have q1 := fQuo_spec2 i1 i2 Xw1_Xw1_Xw2 Xw2_w Xw2_ln (by rw [qU_Fs o1_ne]; exact n02)
  have q2 := fQuo_spec2 i3 i1 Xw1_Xw1_Xw2 Xw2_w Xw2_ln (by rw [qU_Fs o1_ne]; exact n01)
  rw [qU_Fs o1_ne, qD_Fs o1_ne, qU_Fs o1_ne, qD_Fs o1_ne] at q1 q2
  have y1 : trim (pmul [(1 : Rat)] [0, 2]) ≠ [] := mul_ne o1_ne n02
  have y2 : trim (pmul [(1 : Rat)] [0, 1]) ≠ [] := mul_ne o1_ne n01
  have z1 := (Fz.mul f1 f2 Xw1_Xw1_Xw2).2.2.1
  have z2 := (Fz.mul f3 f1 Xw1_Xw1_Xw2).2.2.1
  have j1 := ret_nrm (K := 8589934592) z1 y1 Xw2_Xw3 (by omega) Xw3_t Xw3_ln
  have j2 := ret_nrm (K := 8589934592) z2 y2 Xw2_Xw3 (by omega) Xw3_t Xw3_ln
  have r1 := fRatio_spec (x := 1) (y := 2) (by omega) (by omega) (by omega) (by omega)
  rw [if_neg (by omega)] at r1
  have sh : Sz 2 (((1 : Int) : Rat) / ((2 : Int) : Rat)) := Sz_div s1 s2
  have o1 := fOf_spec2 (c := FD.of (i2q 1)) (FD.ok_of s1) (by omega) (by omega)
  have o2 := fOf_spec2 (FD.ok_of sh) (by omega) (by omega)
  rw [FD.q_of] at o1 o2
  have e3 : trim [i2q 1] = [1] := by decide +kernel
  have e4 : trim [((1 : Int) : Rat) / ((2 : Int) : Rat)] = [((1 : Int) : Rat) / ((2 : Int) : Rat)] := by decide +kernel
  rw [e3] at o1
  rw [e4] at o2
  have sm := fSame_spec2 j1 i4 Xw3_Xw1_Xw4 Xw4_t Xw4_ln
  rw [qU_nrm y1, qD_nrm y1, qU_Fs o1_ne, qD_Fs o1_ne] at sm
  have es : trim (pmul (nu (pmul [0, 1] [1]) (pmul [1] [0, 2])) [1]) = trim (pmul [((1 : Int) : Rat) / ((2 : Int) : Rat)] (nd (pmul [0, 1] [1]) (pmul [1] [0, 2]))) := trim_of_vals (cancel n01 (fun x => by
    have h := nrm_eqv (X := pmul [(0 : Rat), 1] [1]) y1 x
    simp only [pev_pmul, pev_cons, pev_nil] at h ⊢
    have e5 : ((1 : Int) : Rat) / ((2 : Int) : Rat) * 2 = 1 := by decide +kernel
    grind))
  rw [decide_eq_true es] at sm
  have ze := fZero_spec2 j2
  rw [qU_nrm y2, nu_trim y2] at ze
  have en : nu (pmul [(1 : Rat)] [1]) (pmul [1] [0, 1]) ≠ [] := fun e => mul_ne o1_ne o1_ne ((nu_zero_iff y2).1 e)
  rw [decide_eq_false en] at ze
  have ev := fEval_spec2 (z := FD.of (i2q 0)) j2 Xw3_w Xw3_Xw5 Xw5_t Xw5_ln ((FD.ok_of s0).mono (by omega))
  rw [qU_nrm y2, qD_nrm y2, (nrm_idem y2).1, (nrm_idem y2).2, FD.q_of] at ev
  have e0 : pev (nd (pmul [(1 : Rat)] [1]) (pmul [1] [0, 1])) (i2q 0) = 0 := by
    have h := nrm_eqv (X := pmul [(1 : Rat)] [1]) y2 (i2q 0)
    simp only [pev_pmul, pev_cons, pev_nil] at h
    have e6 : i2q 0 = 0 := rfl
    rw [e6] at h ⊢
    grind
  rw [if_pos e0] at ev
  refine run1 [] p_retrospectlaw15_works rfl rfl (fun B S F0 w0 V0 => ?_)
  refine call_intro _ (fOf_spec (z := 0) (by omega) (by omega)) ?_
  refine call_intro _ (fOf_spec (z := 1) (by omega) (by omega)) ?_
  refine call_intro _ l1 ?_
  refine side_intro rfl ?_
  refine call_intro _ (fOf_spec (z := 0) (by omega) (by omega)) ?_
  refine call_intro _ (fOf_spec (z := 2) (by omega) (by omega)) ?_
  refine call_intro _ l2 ?_
  refine call_intro _ q1 ?_
  refine call_intro _ r1 ?_
  refine side_intro rfl ?_
  refine call_intro _ (fOf_spec (z := 1) (by omega) (by omega)) ?_
  refine call_intro _ o1 ?_
  refine call_intro _ q2 ?_
  refine side_intro rfl ?_
  refine call_intro _ (fOf_spec (z := 0) (by omega) (by omega)) ?_
  refine call_intro _ ev ?_
  refine side_intro rfl ?_
  refine split_true rfl ?_
  refine split_true rfl ?_
  refine split_true rfl ?_
  refine call_intro _ o2 ?_
  refine call_intro _ sm ?_
  refine split_true rfl ?_
  refine call_intro _ ze ?_
  exact ret_intro rfl rfl
end Go.Proofs.YtolkecnhncbkhaaGreat.Fw

/- The document's functions of two polynomials, walked. -/
set_option linter.unusedVariables false
namespace Go.Proofs.YtolkecnhncbkhaaGreat.Fw
open Go Pu
/-- Over 1: as they are. -/
theorem nrm_poly (X : List Rat) : nu X [1] = trim X ∧ nd X [1] = [1] := by
  obtain ⟨h, h1, h2⟩ := nrm_spec (U := X) o1_ne
  have n1 := nd_ne (U := X) o1_ne
  have hh : trim h ≠ [] := fun e => o1_ne (by
    have : trim [(1 : Rat)] = trim [] := trim_of_vals (fun x => by rw [h2, ← pev_trim h, e]; show (0 : Rat) * _ = 0; grind)
    exact this)
  have e1 : trim (pmul (trim h) (nd X [1])) = [1] := by
    have : trim (pmul (trim h) (nd X [1])) = trim [1] := trim_of_vals (fun x => by rw [pev_pmul, pev_trim, ← h2])
    rw [this, trim_one]
  have hd := deg_mul (trim_trim h) hh (nd_trim X [1]) n1
  rw [e1] at hd
  have l1 := lpos hh
  have l2 := lpos n1
  have l3 : (nd X [1]).length = 1 := by
    have : ([1] : List Rat).length = 1 := rfl
    omega
  have e2 : nd X [1] = [1] := by
    have h3 := one_nd (U := X) o1_ne
    match hm : nd X [1], l3 with
    | [c], _ =>
      rw [hm] at h3
      have : 1 = c := by simpa using h3
      rw [this]
  refine ⟨?_, e2⟩
  have h4 := nrm_eqv (X := X) o1_ne
  rw [e2] at h4
  have h5 : trim (nu X [1]) = trim X := trim_of_vals (fun x => by
    have h6 := h4 x
    simp only [pev_cons, pev_nil] at h6
    grind)
  rw [nu_trim o1_ne] at h5
  exact h5
theorem Res_zero {X Y : List Rat} (hX : trim X = []) (hY : trim Y ≠ []) : Res X Y = fv2 (Fs []) (Fs [1]) := by
  have e : Eqv X Y [] [1] := fun x => by rw [← pev_trim X, hX, pev_nil]; grind
  obtain ⟨h1, h2⟩ := nrm_of_eqv hY o1_ne e
  unfold Res
  rw [h1, h2, (nrm_poly []).1, (nrm_poly []).2]; rfl
theorem pgcd_top : ∀ (n : Nat) {a b : List Rat}, b.length ≤ n → trim b = b → (a ≠ [] → co a (a.length - 1) = 1) → (b ≠ [] → co b (b.length - 1) = 1) → pgcd a b ≠ [] → co (pgcd a b) ((pgcd a b).length - 1) = 1
  | 0, a, b, hn, hb, ta, tb', h => by
    obtain rfl : b = [] := List.eq_nil_of_length_eq_zero (by omega)
    rw [pgcd_nil] at h ⊢
    exact ta h
  | n + 1, a, b, hn, hb, ta, tb', h => by
    by_cases h0 : b = []
    · rw [h0, pgcd_nil] at h ⊢
      exact ta h
    · rw [pgcd_step hb h0] at h ⊢
      refine pgcd_top n (by rw [mnc_len]; have := pr_lt (a := a) hb h0; omega) (mnc_trim (pr_trim a b)) tb' (fun hm => ?_) h
      rw [mnc_len]
      exact mnc_top (pr_trim a b) (fun e => hm (by rw [e]; rfl))
theorem gc_top {a b : List Rat} (h : gc a b ≠ []) : co (gc a b) ((gc a b).length - 1) = 1 := by
  have key : ∀ l : List Rat, Mn l ≠ [] → co (Mn l) ((Mn l).length - 1) = 1 := fun l hl => by
    unfold Mn at hl ⊢
    rw [mnc_len]
    exact mnc_top (trim_trim l) (fun e => hl (by rw [e]; rfl))
  exact pgcd_top _ (Nat.le_refl _) (Mn_trim b) (key a) (key b) h
theorem rone_spec : Runs Tryz.prog g_retrospectref15_one [] (.d (rowsF (Fs [1]))) := by
  refine run1 [] p_retrospectref15_one rfl rfl (fun B S F0 w0 V0 => ?_)
  refine call_intro _ (r9Int_spec (z := 1) (by omega) (by omega)) ?_
  exact ret_intro rfl rfl
set_option maxHeartbeats 1000000 in
theorem rNorm15_spec {K : Nat} {P : List Nat} {u d : List FD} (h : In K P u d) (w : wChk P 4294967296 = true) : Runs Tryz.prog g_retrospectref15_Norm [fv2 u d] (Res (qU u d) (qD u d)) := by
  obtain ⟨n, a1, a2, a3, a4, a5⟩ := h.fz
  have hln := h.ln
  have hkK := h.kK
  have lu := Qs_len u
  have ld := Qs_len d
  have tu := trim_len (Qs u)
  have td := trim_len (Qs d)
  have n1 := rNorms_spec h.oku (by omega) (by omega)
  have n2 := pRNorm_spec (l := Qs u) (by omega)
  have n3 := rNorms_spec h.okd (by omega) (by omega)
  have n4 := pRNorm_spec (l := Qs d) (by omega)
  by_cases hd : trim (Qs d) = []
  · have e : Res (qU u d) (qD u d) = fv2 (Fs []) (Fs [1]) := by
      unfold qU qD pU pD
      rw [if_pos hd, if_pos hd, Qs_Fs]
      exact Res_zero rfl o1_ne
    rw [e]
    refine run1 [] p_retrospectref15_Norm rfl rfl (fun B S F0 w0 V0 => ?_)
    refine call_intro _ n1 ?_
    refine call_intro _ n2 ?_
    refine call_intro _ n3 ?_
    refine call_intro _ n4 ?_
    refine split_true (by show ((((Fs (trim (Qs d))).map FD.c).length : Int) == 0) = true; rw [hd]; rfl) ?_
    refine split_true rfl ?_
    refine call_intro _ rone_spec ?_
    exact ret_intro rfl rfl
  have ed : qD u d = Qs d := by unfold qD pD; rw [if_neg hd]
  have eu : qU u d = Qs u := by unfold qU pU; rw [if_neg hd]
  have dp := lpos hd
  rw [ed, eu]
  by_cases hu : trim (Qs u) = []
  · rw [Res_zero hu hd]
    refine run1 [] p_retrospectref15_Norm rfl rfl (fun B S F0 w0 V0 => ?_)
    refine call_intro _ n1 ?_
    refine call_intro _ n2 ?_
    refine call_intro _ n3 ?_
    refine call_intro _ n4 ?_
    refine split_false (by show ((((Fs (trim (Qs d))).map FD.c).length : Int) == 0) = false; rw [FsI]; exact beq_eq_false_iff_ne.2 (by omega)) ?_
    refine split_true (by show ((((Fs (trim (Qs u))).map FD.c).length : Int) == 0) = true; rw [hu]; rfl) ?_
    refine call_intro _ rone_spec ?_
    exact ret_intro rfl rfl
  have up := lpos hu
  obtain ⟨w1, w2⟩ := wChk_at w a1 a2
  have cU := a5.sub (l' := Qs u) (fun q hq => List.mem_append_left _ hq)
  have cD := a5.sub (l' := Qs d) (fun q hq => List.mem_append_right _ hq)
  have gz := gc_sz a3 a4 cU cD
  have g0 := gcD (U := Qs u) hd
  have gt := gc_trim (Qs u) (Qs d)
  have g1 := pRGcd_spec (N := n) (K := 4294967296) (trim_trim (Qs u)) (trim_trim (Qs d)) (by omega) (by omega) (by omega) cU.trim cD.trim w1 (by omega)
  rw [gc_congr (trim_trim (Qs u)) (trim_trim (Qs d))] at g1
  obtain ⟨G, eG⟩ : ∃ G, G = gc (Qs u) (Qs d) := ⟨_, rfl⟩
  rw [← eG] at gz g0 gt g1
  have gp := lpos g0
  have sG : ∀ q ∈ G, Sz 4294967296 q := fun q hq => ((gz.2.mono (cs_mono (by omega))).sz q hq).mono w1
  obtain ⟨τ, cG, kt, kk⟩ : ∃ τ, Cz τ G ∧ τ / 32 + 1 ≤ 4294967296 ∧ ∀ l : List Rat, l.length ≤ n → (tb P n + sts l G * (τ + 1)) / 32 + 1 ≤ 4294967296 := by
    by_cases h1 : G.length = 1
    · have e1 : G = [1] := by
        have h3 := gc_top (a := Qs u) (b := Qs d) (by rw [← eG]; exact g0)
        rw [← eG] at h3
        match hG : G, h1 with
        | [c], _ =>
          have : c = 1 := h3
          rw [this]
      refine ⟨0, ⟨1, by decide, fun q hq => ?_⟩, by omega, fun l hl => ?_⟩
      · rw [e1] at hq
        have : q = 1 := by simpa using hq
        rw [this]
        exact Iv_int (z := 1) (by decide)
      · have h4 : sts l G ≤ n := by unfold sts; omega
        have h5 := cs_first (tb P n) n
        have h6 := Nat.mul_le_mul_left n (show 1 ≤ tb P n + 1 by omega)
        have h7 : (tb P n + sts l G * (0 + 1)) / 32 ≤ cs (tb P n) n / 32 := Nat.div_le_div_right (by omega)
        omega
    · have hns := w2 G.length gp gz.1
      unfold ns at hns
      rw [if_neg h1] at hns
      refine ⟨_, gz.2, Nat.le_trans (Nat.add_le_add_right (Nat.div_le_div_right (cs_mono (by omega))) 1) w1, fun l hl => ?_⟩
      have h7 := Nat.mul_le_mul_right (cs (tb P n) (n - G.length) + 1) (show sts l G ≤ n + 1 - G.length by unfold sts; omega)
      exact Nat.le_trans (Nat.add_le_add_right (Nat.div_le_div_right (Nat.add_le_add_left h7 _)) 1) hns
  have e1 := pRDiv_spec (A := trim (Qs u)) (B := G) (K := 4294967296) (trim_trim _) gt g0 (by omega) (by omega) cU.trim cG (kk _ (by omega)) kt (by omega)
  have e2 := pRDiv_spec (A := trim (Qs d)) (B := G) (K := 4294967296) (trim_trim _) gt g0 (by omega) (by omega) cD.trim cG (kk _ (by omega)) kt (by omega)
  have z1 := Cz_div gt g0 cU.trim cG (Nat.le_refl _)
  have z2 := Cz_div gt g0 cD.trim cG (Nat.le_refl _)
  have s1 : ∀ q ∈ pq (trim (Qs u)) G, Sz 4294967296 q := fun q hq => (z1.sz q (List.mem_append_left _ hq)).mono (kk _ (by omega))
  have s2 : ∀ q ∈ pq (trim (Qs d)) G, Sz 4294967296 q := fun q hq => (z2.sz q (List.mem_append_left _ hq)).mono (kk _ (by omega))
  have l1 := pq_len (trim (Qs u)) G
  have l2 := pq_len (trim (Qs d)) G
  have m1 : sts (trim (Qs u)) G ≤ 1000 := by unfold sts; omega
  have m2 : sts (trim (Qs d)) G ≤ 1000 := by unfold sts; omega
  have nz : pq (trim (Qs d)) G ≠ [] := by rw [eG]; exact pqD_ne hd
  have hz := top_ne (pq_trim (trim (Qs d)) G) nz
  have lz := lpos nz
  have so : Sz 4294967296 ((1 : Int) : Rat) := Sz_int (by show (toW 1).length ≤ _; rw [nw1]; omega) (by omega)
  have st := s2 _ (co_mem (l := pq (trim (Qs d)) G) (i := (pq (trim (Qs d)) G).length - 1) (by omega))
  have ei : IntKind.i64.wrap ((((Fs (pq (trim (Qs d)) G)).map FD.c).length : Int) - 1) = (((pq (trim (Qs d)) G).length - 1 : Nat) : Int) := by rw [FsI, wr (by omega) (by omega)]; omega
  have q1 : Runs Tryz.prog g_retrospectref09_Quo [fr ((1 : Int) : Rat), ((Fs (pq (trim (Qs d)) G)).getD ((pq (trim (Qs d)) G).length - 1) FD.none).v] (fr (1 / co (pq (trim (Qs d)) G) ((pq (trim (Qs d)) G).length - 1))) := by
    rw [Fs_get (by omega)]
    exact r9Quo_spec so st (by omega) hz
  have sc := Sz_div so st
  have e0 : (((1 : Int) : Rat) / co (pq (trim (Qs d)) G) ((pq (trim (Qs d)) G).length - 1)) = 1 / co (pq (trim (Qs d)) G) ((pq (trim (Qs d)) G).length - 1) := rfl
  rw [e0] at sc
  have q2 := pRScale_spec (l := pq (trim (Qs u)) G) sc (fun q hq => (s1 q hq).mono (show 4294967296 ≤ 4294967296 + 4294967296 by omega)) (by omega) (by omega)
  have q3 := pRScale_spec (l := pq (trim (Qs d)) G) sc (fun q hq => (s2 q hq).mono (show 4294967296 ≤ 4294967296 + 4294967296 by omega)) (by omega) (by omega)
  have r1 : trim (pscale (1 / co (pq (trim (Qs d)) G) ((pq (trim (Qs d)) G).length - 1)) (pq (trim (Qs u)) G)) = nu (Qs u) (Qs d) := by
    rw [trim_psc (inv_ne hz), pq_trim, eG]; rfl
  have r2 : trim (pscale (1 / co (pq (trim (Qs d)) G) ((pq (trim (Qs d)) G).length - 1)) (pq (trim (Qs d)) G)) = nd (Qs u) (Qs d) := by
    rw [trim_psc (inv_ne hz), pq_trim, eG]; rfl
  rw [r1] at q2
  rw [r2] at q3
  refine run1 [] p_retrospectref15_Norm rfl rfl (fun B S F0 w0 V0 => ?_)
  refine call_intro _ n1 ?_
  refine call_intro _ n2 ?_
  refine call_intro _ n3 ?_
  refine call_intro _ n4 ?_
  refine split_false (by show ((((Fs (trim (Qs d))).map FD.c).length : Int) == 0) = false; rw [FsI]; exact beq_eq_false_iff_ne.2 (by omega)) ?_
  refine split_false (by show ((((Fs (trim (Qs u))).map FD.c).length : Int) == 0) = false; rw [FsI]; exact beq_eq_false_iff_ne.2 (by omega)) ?_
  refine call_intro _ g1 ?_
  refine call_intro _ e1 ?_
  refine call_intro _ e2 ?_
  refine side_intro rfl ?_
  refine call_intro _ (r9Int_spec (z := 1) (by omega) (by omega)) ?_
  refine idx_F _ ei (by rw [Fs_len]; omega) ?_
  refine call_intro _ q1 ?_
  refine side_intro rfl ?_
  refine call_intro _ q2 ?_
  refine call_intro _ q3 ?_
  exact ret_intro rfl rfl
/-- The document's products, by their sizes. -/
theorem rkMul {s t : Nat} {a b : List Rat} (la : a.length ≤ 1000) (lb : b.length ≤ 1000) (cu : Cz s a) (cv : Cz t b) (h1 : s / 32 + 1 ≤ 8589934592) (h2 : t / 32 + 1 ≤ 8589934592) (h : (s + t + a.length) / 32 + 1 ≤ 17179869184) :
    Runs Tryz.prog g_retrospectref14_Mul [.d (rowsF (Fs a)), .d (rowsF (Fs b))] (.d (rowsF (Fs (trim (pmul a b))))) := by
  refine pRMul_gen (k := 8589934592) (K := 17179869184) (fun q hq => (cu.sz q hq).mono h1) (fun q hq => (cv.sz q hq).mono h2) (by omega) (by omega) (by omega) la lb (fun n i hi => ?_)
  obtain ⟨D, d0, aD⟩ := cu
  obtain ⟨E, e0, aE⟩ := cv
  have i1 := Iv_mul (aD 1 List.mem_cons_self) (aE 1 List.mem_cons_self)
  rw [Rat.mul_one] at i1
  have aD' : Al D s a := aD.sub (fun q hq => List.mem_cons_of_mem _ hq)
  have aE' : Al E t b := aE.sub (fun q hq => List.mem_cons_of_mem _ hq)
  exact (Iv_sz (nz_mul d0 e0) (i1.mono (show s + t ≤ s + t + a.length by omega)) (Iv_part aD' aE' n i)).mono h
theorem rfour {P Q R : List Nat} {U D V E : List Rat} (h : Fz P U D) (h' : Fz Q V E) (lP : P.length ≤ 100) (lQ : Q.length ≤ 100) (mc : mChk P Q R = true) (w : tChk R 8589934592 = true) :
    Runs Tryz.prog g_retrospectref14_Mul [.d (rowsF (Fs U)), .d (rowsF (Fs V))] (.d (rowsF (Fs (trim (pmul U V))))) ∧
    Runs Tryz.prog g_retrospectref14_Mul [.d (rowsF (Fs D)), .d (rowsF (Fs E))] (.d (rowsF (Fs (trim (pmul D E))))) ∧
    Runs Tryz.prog g_retrospectref14_Mul [.d (rowsF (Fs U)), .d (rowsF (Fs E))] (.d (rowsF (Fs (trim (pmul U E))))) ∧
    Runs Tryz.prog g_retrospectref14_Mul [.d (rowsF (Fs V)), .d (rowsF (Fs D))] (.d (rowsF (Fs (trim (pmul V D))))) ∧
    Runs Tryz.prog g_retrospectref14_Mul [.d (rowsF (Fs D)), .d (rowsF (Fs V))] (.d (rowsF (Fs (trim (pmul D V))))) := by
  obtain ⟨n, a1, a2, a3, a4, a5, a6⟩ := h.l
  obtain ⟨m, b1, b2, b3, b4, b5, b6⟩ := h'.l
  obtain ⟨c1, c2⟩ := mChk_at mc a1 a2 b1 b2
  have hw := tChk_at w (n := n + m - 1) (by omega) c1
  have hh : ∀ x, x ≤ tb P n + tb Q m + n + m + 1 → x / 32 + 1 ≤ 8589934592 := fun x hx => by
    have : x / 32 ≤ tb R (n + m - 1) / 32 := Nat.div_le_div_right (Nat.le_trans hx c2)
    omega
  have h1 := hh (tb P n) (by omega)
  have h2 := hh (tb Q m) (by omega)
  exact ⟨rkMul (by omega) (by omega) a5 b5 h1 h2 (by have := hh (tb P n + tb Q m + U.length) (by omega); omega), rkMul (by omega) (by omega) a6 b6 h1 h2 (by have := hh (tb P n + tb Q m + D.length) (by omega); omega), rkMul (by omega) (by omega) a5 b6 h1 h2 (by have := hh (tb P n + tb Q m + U.length) (by omega); omega), rkMul (by omega) (by omega) b5 a6 h2 h1 (by have := hh (tb Q m + tb P n + V.length) (by omega); omega), rkMul (by omega) (by omega) a6 b5 h1 h2 (by have := hh (tb P n + tb Q m + D.length) (by omega); omega)⟩
theorem rNormF {R : List Nat} {X Y : List Rat} (h : Fz R (trim X) (trim Y)) (hY : trim Y ≠ []) (w : wChk R 4294967296 = true) (lR : R.length ≤ 100) : Runs Tryz.prog g_retrospectref15_Norm [fv2 (Fs (trim X)) (Fs (trim Y))] (Res X Y) := by
  have hn := rNorm15_spec (In_Fs (K := 4294967296) (by omega) lR (wt w) h) w
  rw [qU_Fs (by rw [trim_trim]; exact hY), qD_Fs (by rw [trim_trim]; exact hY), Res_congr (trim_trim X) (trim_trim Y)] at hn
  exact hn
theorem tmono {P : List Nat} {K K' : Nat} (h : tChk P K = true) (hK : K ≤ K') : tChk P K' = true := by
  unfold tChk
  rw [List.all_eq_true]
  intro i hi
  have hi := List.mem_range.1 hi
  rw [ble_iff]
  exact Nat.le_trans (tChk_at h (n := i + 1) (by omega) (by omega)) hK
theorem rMul15 {P Q R : List Nat} {U D V E : List Rat} (h : Fz P U D) (h' : Fz Q V E) (hD : trim D ≠ []) (hE : trim E ≠ []) (lP : P.length ≤ 100) (lQ : Q.length ≤ 100) (mc : mChk P Q R = true) (w : wChk R 4294967296 = true) (lR : R.length ≤ 100) :
    Runs Tryz.prog g_retrospectref15_Mul [fv2 (Fs U) (Fs D), fv2 (Fs V) (Fs E)] (Res (pmul U V) (pmul D E)) := by
  obtain ⟨m1, m2, _, _, _⟩ := rfour h h' lP lQ mc (tmono (wt w) (by omega))
  have hn := rNormF (Fz.mul h h' mc).1 (mul_ne hD hE) w lR
  refine run1 [] p_retrospectref15_Mul rfl rfl (fun B S F0 w0 V0 => ?_)
  refine side_intro rfl ?_
  refine call_intro _ m1 ?_
  refine call_intro _ m2 ?_
  refine call_intro _ hn ?_
  exact ret_intro rfl rfl
theorem rQuo15 {P Q R : List Nat} {U D V E : List Rat} (h : Fz P U D) (h' : Fz Q V E) (hD : trim D ≠ []) (hV : trim V ≠ []) (lP : P.length ≤ 100) (lQ : Q.length ≤ 100) (mc : mChk P Q R = true) (w : wChk R 4294967296 = true) (lR : R.length ≤ 100) :
    Runs Tryz.prog g_retrospectref15_Quo [fv2 (Fs U) (Fs D), fv2 (Fs V) (Fs E)] (Res (pmul U E) (pmul D V)) := by
  obtain ⟨_, _, m3, _, m5⟩ := rfour h h' lP lQ mc (tmono (wt w) (by omega))
  have hn := rNormF (Fz.mul h h' mc).2.2.1 (mul_ne hD hV) w lR
  refine run1 [] p_retrospectref15_Quo rfl rfl (fun B S F0 w0 V0 => ?_)
  refine side_intro rfl ?_
  refine call_intro _ m3 ?_
  refine call_intro _ m5 ?_
  refine call_intro _ hn ?_
  exact ret_intro rfl rfl
theorem rAdd15 {P Q R : List Nat} {U D V E : List Rat} (h : Fz P U D) (h' : Fz Q V E) (hD : trim D ≠ []) (hE : trim E ≠ []) (lP : P.length ≤ 100) (lQ : Q.length ≤ 100) (mc : mChk P Q R = true) (w : wChk R 4294967296 = true) (lR : R.length ≤ 100) :
    Runs Tryz.prog g_retrospectref15_Add [fv2 (Fs U) (Fs D), fv2 (Fs V) (Fs E)] (Res (aU U D V E) (pmul D E)) := by
  obtain ⟨_, m2, m3, m4, _⟩ := rfour h h' lP lQ mc (tmono (wt w) (by omega))
  obtain ⟨_, z2, _, z4⟩ := Fz.mul h h' mc
  obtain ⟨s1, s2, l1, l2⟩ := z4.sz (wt w)
  have ha := pRAdd_spec s1 s2 (by omega) (by omega) (by omega) (by omega)
  have et : trim (padd (trim (pmul U E)) (trim (pmul V D))) = trim (aU U D V E) := trim_inj (fun i => by unfold aU; rw [co_padd, co_padd, co_trim, co_trim])
  rw [et] at ha
  have hn := rNormF z2 (mul_ne hD hE) w lR
  refine run1 [] p_retrospectref15_Add rfl rfl (fun B S F0 w0 V0 => ?_)
  refine side_intro rfl ?_
  refine call_intro _ m3 ?_
  refine call_intro _ m4 ?_
  refine call_intro _ ha ?_
  refine call_intro _ m2 ?_
  refine call_intro _ hn ?_
  exact ret_intro rfl rfl
theorem rDiff15 {P R : List Nat} {U D : List Rat} (h : Fz P U D) (hD : trim D ≠ []) (lP : P.length ≤ 100) (wP : tChk P 1000000000 = true) (dc : dChk P R = true) (w1 : tChk R 1000000000 = true) (w : wChk R 4294967296 = true) (lR : R.length ≤ 100) :
    Runs Tryz.prog g_retrospectref15_Diff [fv2 (Fs U) (Fs D)] (Res (fU' U D) (pmul D D)) := by
  obtain ⟨n, a1, a2, a3, a4, a5, a6⟩ := h.l
  obtain ⟨c1, c2⟩ := dChk_at dc a1 a2
  have hw := tChk_at w1 (n := 2 * n - 1) (by omega) c1
  have hp := tChk_at wP a1 a2
  have hh : ∀ x, x ≤ 2 * tb P n + 2 * n + 1 → x / 32 + 1 ≤ 1000000000 := fun x hx => by
    have : x / 32 ≤ tb R (2 * n - 1) / 32 := Nat.div_le_div_right (Nat.le_trans hx c2)
    omega
  have cu : Cz (tb P n + n) (trim (pdif U)) := by
    obtain ⟨K, d0, a⟩ := a5
    have := (a.sub (l' := U) (fun q hq => List.mem_cons_of_mem _ hq)).pdif.trim.mono (show tb P n + U.length ≤ tb P n + n by omega)
    exact ⟨K, d0, fun q hq => by
      rcases List.mem_cons.1 hq with rfl | hq
      · exact (a 1 List.mem_cons_self).mono (by omega)
      · exact this q hq⟩
  have cd : Cz (tb P n + n) (trim (pdif D)) := by
    obtain ⟨K, d0, a⟩ := a6
    have := (a.sub (l' := D) (fun q hq => List.mem_cons_of_mem _ hq)).pdif.trim.mono (show tb P n + D.length ≤ tb P n + n by omega)
    exact ⟨K, d0, fun q hq => by
      rcases List.mem_cons.1 hq with rfl | hq
      · exact (a 1 List.mem_cons_self).mono (by omega)
      · exact this q hq⟩
  have le1 : (trim (pdif U)).length ≤ n := by have := trim_len (pdif U); unfold pdif at this ⊢; rw [List.length_map, List.length_range] at this; omega
  have le2 : (trim (pdif D)).length ≤ n := by have := trim_len (pdif D); unfold pdif at this ⊢; rw [List.length_map, List.length_range] at this; omega
  have d1 := pRDiff_spec (l := U) (k := 1000000000) (fun q hq => (a5.sz q hq).mono hp) (by omega) (by omega) (by omega)
  have d2 := pRDiff_spec (l := D) (k := 1000000000) (fun q hq => (a6.sz q hq).mono hp) (by omega) (by omega) (by omega)
  have b1 := hh (tb P n + n) (by omega)
  have b2 := hh (tb P n) (by omega)
  have m1 := rkMul (a := trim (pdif U)) (b := D) (by omega) (by omega) cu a6 (by omega) (by omega) (by have := hh (tb P n + n + tb P n + (trim (pdif U)).length) (by omega); omega)
  have m2 := rkMul (a := U) (b := trim (pdif D)) (by omega) (by omega) a5 cd (by omega) (by omega) (by have := hh (tb P n + (tb P n + n) + U.length) (by omega); omega)
  have m3 := rkMul (a := D) (b := D) (by omega) (by omega) a6 a6 (by omega) (by omega) (by have := hh (tb P n + tb P n + D.length) (by omega); omega)
  have z1 : Cz (2 * tb P n + 2 * n + 1) (trim (pmul (trim (pdif U)) D)) := by
    obtain ⟨K, d0, a⟩ := cu
    obtain ⟨L, e0, b⟩ := a6
    have h1 := ((a.sub (l' := trim (pdif U)) (fun q hq => List.mem_cons_of_mem _ hq)).pmul (b.sub (l' := D) (fun q hq => List.mem_cons_of_mem _ hq))).trim
    have i1 := Iv_mul (a 1 List.mem_cons_self) (b 1 List.mem_cons_self)
    rw [Rat.mul_one] at i1
    exact ⟨K * L, nz_mul d0 e0, fun q hq => by
      rcases List.mem_cons.1 hq with rfl | hq
      · exact i1.mono (by omega)
      · exact (h1 q hq).mono (by omega)⟩
  have z2 : Cz (2 * tb P n + 2 * n + 1) (trim (pmul U (trim (pdif D)))) := by
    obtain ⟨K, d0, a⟩ := a5
    obtain ⟨L, e0, b⟩ := cd
    have h1 := ((a.sub (l' := U) (fun q hq => List.mem_cons_of_mem _ hq)).pmul (b.sub (l' := trim (pdif D)) (fun q hq => List.mem_cons_of_mem _ hq))).trim
    have i1 := Iv_mul (a 1 List.mem_cons_self) (b 1 List.mem_cons_self)
    rw [Rat.mul_one] at i1
    exact ⟨K * L, nz_mul d0 e0, fun q hq => by
      rcases List.mem_cons.1 hq with rfl | hq
      · exact i1.mono (by omega)
      · exact (h1 q hq).mono (by omega)⟩
  have l1 := pmul_tl (trim (pdif U)) D
  have l2 := pmul_tl U (trim (pdif D))
  have sb := pRSub_spec (k := 1000000000) (a := trim (pmul (trim (pdif U)) D)) (b := trim (pmul U (trim (pdif D)))) (fun q hq => (z1.sz q hq).mono (hh _ (by omega))) (fun q hq => (z2.sz q hq).mono (hh _ (by omega))) (by omega) (by omega) (by omega) (by omega)
  have et : trim (psub (trim (pmul (trim (pdif U)) D)) (trim (pmul U (trim (pdif D))))) = trim (fU' U D) := trim_of_vals (fun x => by
    rw [psub_ev, pev_trim, pev_trim, pev_pmul, pev_pmul, pev_trim, pev_trim, fU_ev])
  rw [et] at sb
  have hn := rNormF (h.dif dc) (mul_ne hD hD) w lR
  refine run1 [] p_retrospectref15_Diff rfl rfl (fun B S F0 w0 V0 => ?_)
  refine side_intro rfl ?_
  refine call_intro _ d1 ?_
  refine call_intro _ m1 ?_
  refine call_intro _ d2 ?_
  refine call_intro _ m2 ?_
  refine call_intro _ sb ?_
  refine call_intro _ m3 ?_
  refine call_intro _ hn ?_
  exact ret_intro rfl rfl
theorem rZero15 {U D : List Rat} : Runs Tryz.prog g_retrospectref15_Zero [fv2 (Fs U) (Fs D)] (.d (.bool (decide (U = [])))) := by
  refine run1 [] p_retrospectref15_Zero rfl rfl (fun B S F0 w0 V0 => ?_)
  refine ret_intro ?_ rfl
  show V.d (.bool ((((Fs U).map FD.c).length : Int) == 0)) = _
  rw [FsI]
  by_cases h : U = []
  · rw [h]; rfl
  · have := lpos h
    rw [decide_eq_false h, beq_eq_false_iff_ne.2 (by omega)]
theorem rSame15 {k : Nat} {U D V E : List Rat} (h1 : ∀ q ∈ U, Sz k q) (h2 : ∀ q ∈ D, Sz k q) (hk : k ≤ 34359738368) (l1 : U.length ≤ 1000000) (l2 : D.length ≤ 1000000) (l3 : V.length ≤ 1000000) (l4 : E.length ≤ 1000000) :
    Runs Tryz.prog g_retrospectref15_Same [fv2 (Fs U) (Fs D), fv2 (Fs V) (Fs E)] (.d (.bool (decide (U = V ∧ D = E)))) := by
  have s1 := rSame11_spec (b := V) h1 hk l1 l3
  have s2 := rSame11_spec (b := E) h2 hk l2 l4
  by_cases h : U = V
  · rw [decide_eq_true h] at s1
    have e : decide (U = V ∧ D = E) = decide (D = E) := decide_eq_decide.2 ⟨fun x => x.2, fun x => ⟨h, x⟩⟩
    rw [e]
    refine run1 [] p_retrospectref15_Same rfl rfl (fun B S F0 w0 V0 => ?_)
    refine call_intro _ s1 ?_
    refine split_true rfl ?_
    refine call_intro _ s2 ?_
    exact ret_intro rfl rfl
  · rw [decide_eq_false h] at s1
    have e : decide (U = V ∧ D = E) = false := decide_eq_false (fun x => h x.1)
    rw [e]
    refine run1 [] p_retrospectref15_Same rfl rfl (fun B S F0 w0 V0 => ?_)
    refine call_intro _ s1 ?_
    refine split_false rfl ?_
    exact ret_intro rfl rfl
theorem Is15_true {k : Nat} {U D V E : List Rat} (h1 : ∀ q ∈ U, Sz k q) (h2 : ∀ q ∈ D, Sz k q) (hk : k ≤ 34359738368) (l1 : U.length ≤ 1000000) (l2 : D.length ≤ 1000000) (e1 : U = V) (e2 : D = E) :
    Runs Tryz.prog g_retrospectlaw15_Is [fv2 (Fs U) (Fs D), fv2 (Fs V) (Fs E)] (.d (.bool true)) := by
  refine run1 [] p_retrospectlaw15_Is rfl rfl (fun B S F0 w0 V0 => ?_)
  refine call_intro _ (Is11_true h1 hk l1 e1) ?_
  refine split_true rfl ?_
  refine call_intro _ (Is11_true h2 hk l2 e2) ?_
  exact ret_intro rfl rfl
/-- A line, and the same everywhere. -/
theorem rLine15 {a b : Rat} {R : List Nat} (h : Fz R [a, b] [1]) (w : wChk R 4294967296 = true) (lR : R.length ≤ 100) : Runs Tryz.prog g_retrospectref15_Line [fr a, fr b] (fv2 (Fs (trim [a, b])) (Fs [1])) := by
  have hn := rNorm15_spec (In_Fs (K := 4294967296) (by omega) lR (wt w) h) w
  rw [qU_Fs o1_ne, qD_Fs o1_ne] at hn
  have e : Res [a, b] [1] = fv2 (Fs (trim [a, b])) (Fs [1]) := by
    unfold Res
    rw [(nrm_poly [a, b]).1, (nrm_poly [a, b]).2]
  rw [e] at hn
  refine run1 [] p_retrospectref15_Line rfl rfl (fun B S F0 w0 V0 => ?_)
  refine side_intro rfl ?_
  refine call_intro _ rone_spec ?_
  refine call_intro _ hn ?_
  exact ret_intro rfl rfl
theorem trim_c0 (c : Rat) : trim [c, 0] = trim [c] := by
  refine trim_inj (fun i => ?_)
  match i with
  | 0 => rfl
  | 1 => rfl
  | n + 2 => rfl
theorem rOf15 {c : Rat} {R : List Nat} (h : Fz R [c, 0] [1]) (w : wChk R 4294967296 = true) (lR : R.length ≤ 100) : Runs Tryz.prog g_retrospectref15_Of [fr c] (fv2 (Fs (trim [c])) (Fs [1])) := by
  have hl := rLine15 h w lR
  rw [trim_c0] at hl
  refine run1 [] p_retrospectref15_Of rfl rfl (fun B S F0 w0 V0 => ?_)
  refine side_intro rfl ?_
  refine call_intro _ (r9Int_spec (z := 0) (by omega) (by omega)) ?_
  refine call_intro _ hl ?_
  exact ret_intro rfl rfl
/-- Values. -/
theorem rEval15 {P : List Nat} {U D : List Rat} {z : Rat} (h : Fz P U D) (w : tChk P 1000 = true) (lP : P.length ≤ 100) (hz : Sz 1000 z) :
    Runs Tryz.prog g_retrospectref15_Eval [fv2 (Fs U) (Fs D), fr z] (if pev D z = 0 then .tup [fr 0, .d (.bool false)] else .tup [fr (pev U z / pev D z), .d (.bool true)]) := by
  obtain ⟨s1, s2, l1, l2⟩ := h.sz w
  have v1 := pREval_spec s1 hz (by omega) (by omega) (by omega)
  have v2 := pREval_spec s2 hz (by omega) (by omega) (by omega)
  have z1 := (pev_sz hz (by omega) U s1).mono (show U.length * (2 * 1000 + 1) + 1 ≤ 1000000 by omega)
  have z2 := (pev_sz hz (by omega) D s2).mono (show D.length * (2 * 1000 + 1) + 1 ≤ 1000000 by omega)
  have zz := r9Zero_spec (pev D z)
  by_cases h0 : pev D z = 0
  · rw [decide_eq_true h0] at zz
    rw [if_pos h0]
    refine run1 [] p_retrospectref15_Eval rfl rfl (fun B S F0 w0 V0 => ?_)
    refine call_intro _ v2 ?_
    refine call_intro _ zz ?_
    refine split_true rfl ?_
    refine call_intro _ (r9Int_spec (z := 0) (by omega) (by omega)) ?_
    exact ret_intro rfl rfl
  · rw [decide_eq_false h0] at zz
    rw [if_neg h0]
    refine run1 [] p_retrospectref15_Eval rfl rfl (fun B S F0 w0 V0 => ?_)
    refine call_intro _ v2 ?_
    refine call_intro _ zz ?_
    refine split_false rfl ?_
    refine side_intro rfl ?_
    refine call_intro _ v1 ?_
    refine call_intro _ (r9Quo_spec z1 z2 (by omega) h0) ?_
    exact ret_intro rfl rfl
/-- Taken -1 times. -/
theorem rNeg15 {P Q R : List Nat} {U D : List Rat} (h : Fz P U D) (hD : trim D ≠ []) (lP : P.length ≤ 100) (hm : Fz Q [-1, 0] [1]) (wQ : wChk Q 4294967296 = true) (lQ : Q.length ≤ 100) (mc : mChk Q P R = true) (w : wChk R 4294967296 = true) (lR : R.length ≤ 100) :
    Runs Tryz.prog g_retrospectref15_Neg [fv2 (Fs U) (Fs D)] (Res (pmul [-1] U) (pmul [1] D)) := by
  have ho := rOf15 hm wQ lQ
  have et : trim [(-1 : Rat)] = [-1] := by decide +kernel
  rw [et] at ho
  have fm : Fz Q [-1] [1] := hm.sub (by decide) (Nat.le_refl _) (fun q hq => by simp only [List.mem_cons, List.not_mem_nil, or_false] at hq ⊢; exact .inl hq) (fun q hq => hq)
  have m := rMul15 fm h o1_ne hD lQ lP mc w lR
  refine run1 [] p_retrospectref15_Neg rfl rfl (fun B S F0 w0 V0 => ?_)
  refine side_intro rfl ?_
  refine call_intro _ (r9Int_spec (z := -1) (by omega) (by omega)) ?_
  refine call_intro _ ho ?_
  refine call_intro _ m ?_
  exact ret_intro rfl rfl
end Go.Proofs.YtolkecnhncbkhaaGreat.Fw

/- Tables of sizes for the law of sums and powers. -/
set_option linter.unusedVariables false
namespace Go.Proofs.YtolkecnhncbkhaaGreat.Fw
open Go Pu
def TSa : List Nat := [0, 0, 192]
theorem TSa_ln : TSa.length ≤ 100 := by decide
theorem TSa_w : wChk TSa 8589934592 = true := by decide +kernel
theorem TSa_w4 : wChk TSa 4294967296 = true := by decide +kernel
def TSb : List Nat := [385, 964, 192]
theorem TSb_ln : TSb.length ≤ 100 := by decide
theorem TSa_TSb : nChk TSa TSb = true := by decide +kernel
theorem TSb_t : tChk TSb 8589934592 = true := by decide +kernel
def TSc : List Nat := [3, 4, 197, 198, 391]
theorem TSc_ln : TSc.length ≤ 100 := by decide
theorem TSa_TSa_TSc : mChk TSa TSa TSc = true := by decide +kernel
theorem TSc_w : wChk TSc 8589934592 = true := by decide +kernel
def TSd : List Nat := [783, 1959, 6271, 19207, 391]
theorem TSd_ln : TSd.length ≤ 100 := by decide
theorem TSc_TSd : nChk TSc TSd = true := by decide +kernel
theorem TSd_t : tChk TSd 8589934592 = true := by decide +kernel
def TSe : List Nat := [773, 1353, 1933, 1162, 391]
theorem TSe_ln : TSe.length ≤ 100 := by decide
theorem TSb_TSb_TSe : mChk TSb TSb TSe = true := by decide +kernel
theorem TSe_w4 : wChk TSe 4294967296 = true := by decide +kernel
def TSf : List Nat := [388, 968, 969, 1162, 391]
theorem TSf_ln : TSf.length ≤ 100 := by decide
theorem TSa_TSb_TSf : mChk TSa TSb TSf = true := by decide +kernel
theorem TSf_w : wChk TSf 8589934592 = true := by decide +kernel
def TSg : List Nat := [2325, 5814, 18607, 19207, 391]
theorem TSg_ln : TSg.length ≤ 100 := by decide
theorem TSf_TSg : nChk TSf TSg = true := by decide +kernel
theorem TSg_t : tChk TSg 8589934592 = true := by decide +kernel
def TSo : List Nat := [0, 64]
theorem TSo_ln : TSo.length ≤ 100 := by decide
theorem TSo_w4 : wChk TSo 4294967296 = true := by decide +kernel
def TSh : List Nat := [388, 968, 1033, 262]
theorem TSh_ln : TSh.length ≤ 100 := by decide
theorem TSo_TSb_TSh : mChk TSo TSb TSh = true := by decide +kernel
theorem TSh_w4 : wChk TSh 4294967296 = true := by decide +kernel
def TSi : List Nat := [2067, 5169, 4207, 262]
theorem TSi_ln : TSi.length ≤ 100 := by decide
theorem TSh_TSi : nChk TSh TSi = true := by decide +kernel
theorem TSi_t : tChk TSi 8589934592 = true := by decide +kernel
def TSj : List Nat := [2455, 5558, 6138, 5367, 4406, 462]
theorem TSj_ln : TSj.length ≤ 100 := by decide
theorem TSb_TSi_TSj : mChk TSb TSi TSj = true := by decide +kernel
theorem TSj_w4 : wChk TSj 4294967296 = true := by decide +kernel
def PP0 : List Nat := [0]
theorem PP0_ln : PP0.length ≤ 100 := by decide
theorem PP0_t : tChk PP0 8589934592 = true := by decide +kernel
def PM0 : List Nat := [3, 4, 197]
theorem PM0_ln : PM0.length ≤ 100 := by decide
theorem PP0_TSa_PM0 : mChk PP0 TSa PM0 = true := by decide +kernel
theorem PM0_w : wChk PM0 8589934592 = true := by decide +kernel
def PP1 : List Nat := [395, 989, 197]
theorem PP1_ln : PP1.length ≤ 100 := by decide
theorem PM0_PP1 : nChk PM0 PP1 = true := by decide +kernel
theorem PP1_t : tChk PP1 8589934592 = true := by decide +kernel
def PQ1 : List Nat := [398, 993, 202]
theorem PQ1_ln : PQ1.length ≤ 100 := by decide
theorem PP0_PP1_PQ1 : mChk PP0 PP1 PQ1 = true := by decide +kernel
theorem PQ1_w : wChk PQ1 8589934592 = true := by decide +kernel
def PR1 : List Nat := [1987, 1014, 202]
theorem PR1_ln : PR1.length ≤ 100 := by decide
theorem PQ1_PR1 : nChk PQ1 PR1 = true := by decide +kernel
theorem PR1_t : tChk PR1 8589934592 = true := by decide +kernel
def PN0 : List Nat := [388, 968, 197]
theorem PN0_ln : PN0.length ≤ 100 := by decide
theorem PP0_TSb_PN0 : mChk PP0 TSb PN0 = true := by decide +kernel
theorem PN0_w4 : wChk PN0 4294967296 = true := by decide +kernel
def PM1 : List Nat := [398, 993, 994, 1187, 396]
theorem PM1_ln : PM1.length ≤ 100 := by decide
theorem PP1_TSa_PM1 : mChk PP1 TSa PM1 = true := by decide +kernel
theorem PM1_w : wChk PM1 8589934592 = true := by decide +kernel
def PP2 : List Nat := [2375, 5939, 19007, 19452, 396]
theorem PP2_ln : PP2.length ≤ 100 := by decide
theorem PM1_PP2 : nChk PM1 PP2 = true := by decide +kernel
theorem PP2_t : tChk PP2 8589934592 = true := by decide +kernel
def PQ2 : List Nat := [2378, 5943, 19012, 19458, 403]
theorem PQ2_ln : PQ2.length ≤ 100 := by decide
theorem PP0_PP2_PQ2 : mChk PP0 PP2 PQ2 = true := by decide +kernel
theorem PQ2_w : wChk PQ2 8589934592 = true := by decide +kernel
def PR2 : List Nat := [38917, 97294, 311343, 19795, 403]
theorem PR2_ln : PR2.length ≤ 100 := by decide
theorem PQ2_PR2 : nChk PQ2 PR2 = true := by decide +kernel
theorem PR2_t : tChk PR2 8589934592 = true := by decide +kernel
def PN1 : List Nat := [783, 1378, 1958, 1187, 396]
theorem PN1_ln : PN1.length ≤ 100 := by decide
theorem PP1_TSb_PN1 : mChk PP1 TSb PN1 = true := by decide +kernel
theorem PN1_w4 : wChk PN1 4294967296 = true := by decide +kernel
def PM2 : List Nat := [2378, 5943, 19012, 19458, 19459, 19652, 597]
theorem PM2_ln : PM2.length ≤ 100 := by decide
theorem PP2_TSa_PM2 : mChk PP2 TSa PM2 = true := by decide +kernel
theorem PM2_w : wChk PM2 8589934592 = true := by decide +kernel
def PP3 : List Nat := [39305, 98264, 314447, 962996, 2869337, 251757, 597]
theorem PP3_ln : PP3.length ≤ 100 := by decide
theorem PM2_PP3 : nChk PM2 PP3 = true := by decide +kernel
theorem PP3_t : tChk PP3 8589934592 = true := by decide +kernel
def PQ3 : List Nat := [39308, 98268, 314452, 963002, 2869344, 251765, 606]
theorem PQ3_ln : PQ3.length ≤ 100 := by decide
theorem PP0_PP3_PQ3 : mChk PP0 PP3 PQ3 = true := by decide +kernel
theorem PQ3_w : wChk PQ3 8589934592 = true := by decide +kernel
def PR3 : List Nat := [5738689, 14346724, 45909519, 140597904, 36757835, 255546, 606]
theorem PR3_ln : PR3.length ≤ 100 := by decide
theorem PQ3_PR3 : nChk PQ3 PR3 = true := by decide +kernel
theorem PR3_t : tChk PR3 8589934592 = true := by decide +kernel
def PN2 : List Nat := [2763, 6328, 19397, 19977, 20423, 19652, 597]
theorem PN2_ln : PN2.length ≤ 100 := by decide
theorem PP2_TSb_PN2 : mChk PP2 TSb PN2 = true := by decide +kernel
theorem PN2_w4 : wChk PN2 4294967296 = true := by decide +kernel
def SS0 : List Nat := [0]
theorem SS0_ln : SS0.length ≤ 100 := by decide
def SN0 : List Nat := [388, 968, 197]
theorem SN0_ln : SN0.length ≤ 100 := by decide
theorem SS0_TSb_SN0 : mChk SS0 TSb SN0 = true := by decide +kernel
theorem SN0_w4 : wChk SN0 4294967296 = true := by decide +kernel
def SS1 : List Nat := [1937, 989, 197]
theorem SS1_ln : SS1.length ≤ 100 := by decide
theorem SN0_SS1 : nChk SN0 SS1 = true := by decide +kernel
theorem SS1_t : tChk SS1 8589934592 = true := by decide +kernel
def SN1 : List Nat := [2325, 2905, 2134, 1187, 396]
theorem SN1_ln : SN1.length ≤ 100 := by decide
theorem SS1_TSb_SN1 : mChk SS1 TSb SN1 = true := by decide +kernel
theorem SN1_w4 : wChk SN1 4294967296 = true := by decide +kernel
def SS2 : List Nat := [5811, 10674, 19007, 19452, 396]
theorem SS2_ln : SS2.length ≤ 100 := by decide
theorem SN1_SS2 : nChk SN1 SS2 = true := by decide +kernel
theorem SS2_t : tChk SS2 8589934592 = true := by decide +kernel
def SN2 : List Nat := [6199, 11063, 19397, 19977, 20423, 19652, 597]
theorem SN2_ln : SN2.length ≤ 100 := by decide
theorem SS2_TSb_SN2 : mChk SS2 TSb SN2 = true := by decide +kernel
theorem SN2_w4 : wChk SN2 4294967296 = true := by decide +kernel
def SS3 : List Nat := [40847, 102119, 326783, 1000775, 2869337, 251757, 597]
theorem SS3_ln : SS3.length ≤ 100 := by decide
theorem SN2_SS3 : nChk SN2 SS3 = true := by decide +kernel
theorem SS3_t : tChk SS3 8589934592 = true := by decide +kernel
end Go.Proofs.YtolkecnhncbkhaaGreat.Fw

/- Powers of functions of two polynomials, walked. -/
set_option linter.unusedVariables false
namespace Go.Proofs.YtolkecnhncbkhaaGreat.Fw
open Go Pu
/-- A function, multiplied with another one so many times, cancelled each time. -/
def wq (U D : List Rat) : Nat → List Rat × List Rat
  | 0 => ([1], [1])
  | i + 1 => (nu (pmul (wq U D i).1 U) (pmul (wq U D i).2 D), nd (pmul (wq U D i).1 U) (pmul (wq U D i).2 D))
section
variable {U D : List Rat}
theorem wq_n2 (hD : trim D ≠ []) : ∀ i, trim (wq U D i).2 ≠ []
  | 0 => o1_ne
  | i + 1 => by
    show trim (nd _ _) ≠ []
    rw [nd_trim]
    exact nd_ne (mul_ne (wq_n2 hD i) hD)
theorem wq_n1 (hU : trim U ≠ []) (hD : trim D ≠ []) : ∀ i, trim (wq U D i).1 ≠ []
  | 0 => o1_ne
  | i + 1 => by
    have hY := mul_ne (wq_n2 (U := U) hD i) hD
    show trim (nu _ _) ≠ []
    rw [nu_trim hY]
    exact fun e => mul_ne (wq_n1 hU hD i) hU ((nu_zero_iff hY).1 e)
theorem wq_eqv {U' D' : List Rat} (hD : trim D ≠ []) (hD' : trim D' ≠ []) (h : Eqv U D U' D') : ∀ i, wq U D i = wq U' D' i
  | 0 => rfl
  | i + 1 => by
    have ih := wq_eqv hD hD' h i
    have h2 := nrm_of_eqv (mul_ne (wq_n2 (U := U) hD i) hD) (mul_ne (by rw [ih]; exact wq_n2 (U := U') hD' i) hD') (mul_eqv (Eqv.refl (wq U D i).1 (wq U D i).2) h)
    show (nu _ _, nd _ _) = (nu _ _, nd _ _)
    rw [← ih, h2.1, h2.2]
theorem inv_eqv {A B X Y : List Rat} (h : Eqv A B X Y) : Eqv B A Y X := fun x => by have := h x; grind
theorem wq_inv (hU : trim U ≠ []) (hD : trim D ≠ []) : ∀ i, Eqv (wq D U i).1 (wq D U i).2 (wq U D i).2 (wq U D i).1
  | 0 => Eqv.refl _ _
  | i + 1 => by
    have h1 := nrm_eqv (X := pmul (wq D U i).1 D) (mul_ne (wq_n2 (U := D) hU i) hU)
    have h2 := nrm_eqv (X := pmul (wq U D i).1 U) (mul_ne (wq_n2 (U := U) hD i) hD)
    have h3 := mul_eqv (wq_inv hU hD i) (Eqv.refl D U)
    exact (h1.trans h3 (mul_ne (wq_n2 (U := D) hU i) hU)).trans (inv_eqv h2).symm (mul_ne (wq_n1 hU hD i) hU)
theorem wq_last (hU : trim U ≠ []) (hD : trim D ≠ []) (j : Nat) : Res (pmul [1] (wq U D (j + 1)).2) (pmul [1] (wq U D (j + 1)).1) = fv2 (Fs (wq D U (j + 1)).1) (Fs (wq D U (j + 1)).2) := by
  have n1 := wq_n1 hU hD (j + 1)
  have e1 : Eqv (pmul [1] (wq U D (j + 1)).2) (pmul [1] (wq U D (j + 1)).1) (wq U D (j + 1)).2 (wq U D (j + 1)).1 := fun x => by
    simp only [pev_pmul, pev_cons, pev_nil]; grind
  have e2 := (e1.trans (wq_inv hU hD (j + 1)).symm n1).trans (nrm_eqv (X := pmul (wq D U j).1 D) (mul_ne (wq_n2 (U := D) hU j) hU)) (wq_n2 (U := D) hU (j + 1))
  have e3 := nrm_of_eqv (mul_ne o1_ne n1) (mul_ne (wq_n2 (U := D) hU j) hU) e2
  unfold Res
  rw [e3.1, e3.2]; rfl
theorem Fz_wq {P T M Q : List Nat} {i : Nat} (h : Fz P (wq U D i).1 (wq U D i).2) (hT : Fz T U D) (hD : trim D ≠ []) (mc : mChk P T M = true) (nc : nChk M Q = true) : Fz Q (wq U D (i + 1)).1 (wq U D (i + 1)).2 := by
  have hY := mul_ne (wq_n2 (U := U) hD i) hD
  have h2 := (Fz.mul h hT mc).1.nrm (by rw [trim_trim]; exact hY) nc
  rw [(nrm_congr (trim_trim _) (trim_trim _)).1, (nrm_congr (trim_trim _) (trim_trim _)).2] at h2
  exact h2
theorem Fz_wq0 : Fz PP0 (wq U D 0).1 (wq U D 0).2 := ⟨1, by omega, by decide, Nat.le_refl _, Nat.le_refl _, 1, by decide, fun q hq => by
  have hq : q ∈ [(1 : Rat), 1, 1] := hq
  have e : q = 1 := by simpa using hq
  rw [e]
  exact Iv_int (z := 1) (by decide)⟩
def PT : Nat → List Nat
  | 0 => PP0
  | 1 => PP1
  | 2 => PP2
  | _ => PP3
def QT : Nat → List Nat
  | 0 => SS0
  | 1 => SS1
  | 2 => SS2
  | _ => SS3
theorem Fz_PT (hT : Fz TSa U D) (hD : trim D ≠ []) : ∀ i, i ≤ 3 → Fz (PT i) (wq U D i).1 (wq U D i).2
  | 0, _ => Fz_wq0
  | 1, _ => Fz_wq Fz_wq0 hT hD PP0_TSa_PM0 PM0_PP1
  | 2, _ => Fz_wq (Fz_wq Fz_wq0 hT hD PP0_TSa_PM0 PM0_PP1) hT hD PP1_TSa_PM1 PM1_PP2
  | 3, _ => Fz_wq (Fz_wq (Fz_wq Fz_wq0 hT hD PP0_TSa_PM0 PM0_PP1) hT hD PP1_TSa_PM1 PM1_PP2) hT hD PP2_TSa_PM2 PM2_PP3
theorem Fz_QT (hT : Fz TSb U D) (hD : trim D ≠ []) : ∀ i, i ≤ 3 → Fz (QT i) (wq U D i).1 (wq U D i).2
  | 0, _ => Fz_wq0
  | 1, _ => Fz_wq (P := SS0) Fz_wq0 hT hD SS0_TSb_SN0 SN0_SS1
  | 2, _ => Fz_wq (Fz_wq (P := SS0) Fz_wq0 hT hD SS0_TSb_SN0 SN0_SS1) hT hD SS1_TSb_SN1 SN1_SS2
  | 3, _ => Fz_wq (Fz_wq (Fz_wq (P := SS0) Fz_wq0 hT hD SS0_TSb_SN0 SN0_SS1) hT hD SS1_TSb_SN1 SN1_SS2) hT hD SS2_TSb_SN2 SN2_SS3
theorem PT_t (i : Nat) : tChk (PT i) 8589934592 = true ∧ (PT i).length ≤ 100 := by
  match i with
  | 0 => exact ⟨PP0_t, PP0_ln⟩
  | 1 => exact ⟨PP1_t, PP1_ln⟩
  | 2 => exact ⟨PP2_t, PP2_ln⟩
  | n + 3 => exact ⟨PP3_t, PP3_ln⟩
end
/-- One more factor, the program's. -/
theorem fstep {K : Nat} {u d : List FD} (hx : In K TSa u d) : ∀ i, i < 3 → Runs Tryz.prog g_ratf_Mul [fv2 (Fs (wq (qU u d) (qD u d) i).1) (Fs (wq (qU u d) (qD u d) i).2), fv2 u d] (fv2 (Fs (wq (qU u d) (qD u d) (i + 1)).1) (Fs (wq (qU u d) (qD u d) (i + 1)).2)) := by
  have nD := qD_ne u d
  have hx8 := hx.mono (K' := 8589934592) hx.kK (by omega)
  have key : ∀ {i : Nat} {P M : List Nat}, Fz P (wq (qU u d) (qD u d) i).1 (wq (qU u d) (qD u d) i).2 → P.length ≤ 100 → tChk P 8589934592 = true → mChk P TSa M = true → wChk M 8589934592 = true → M.length ≤ 100 →
      Runs Tryz.prog g_ratf_Mul [fv2 (Fs (wq (qU u d) (qD u d) i).1) (Fs (wq (qU u d) (qD u d) i).2), fv2 u d] (fv2 (Fs (wq (qU u d) (qD u d) (i + 1)).1) (Fs (wq (qU u d) (qD u d) (i + 1)).2)) := by
    intro i P M h lP tP mc w lM
    have m := fMul_spec2 (In_Fs (K := 8589934592) (by omega) lP tP h) hx8 mc w lM
    rw [qU_Fs (wq_n2 nD i), qD_Fs (wq_n2 nD i)] at m
    exact m
  intro i hi
  have f := Fz_PT hx.q nD i (by omega)
  match i, hi with
  | 0, _ => exact key f PP0_ln PP0_t PP0_TSa_PM0 PM0_w PM0_ln
  | 1, _ => exact key f PP1_ln PP1_t PP1_TSa_PM1 PM1_w PM1_ln
  | 2, _ => exact key f PP2_ln PP2_t PP2_TSa_PM2 PM2_w PM2_ln
/-- And the document's, with its multiplication and its division. -/
theorem rstep {A B : List Rat} (h : Fz TSb A B) (nB : trim B ≠ []) : ∀ i, i < 3 → Runs Tryz.prog g_retrospectref15_Mul [fv2 (Fs (wq A B i).1) (Fs (wq A B i).2), fv2 (Fs A) (Fs B)] (fv2 (Fs (wq A B (i + 1)).1) (Fs (wq A B (i + 1)).2)) := by
  intro i hi
  have f := Fz_QT h nB i (by omega)
  have n2 := wq_n2 (U := A) nB i
  match i, hi with
  | 0, _ => exact rMul15 f h n2 nB (by decide) TSb_ln SS0_TSb_SN0 SN0_w4 SN0_ln
  | 1, _ => exact rMul15 f h n2 nB SS1_ln TSb_ln SS1_TSb_SN1 SN1_w4 SN1_ln
  | 2, _ => exact rMul15 f h n2 nB SS2_ln TSb_ln SS2_TSb_SN2 SN2_w4 SN2_ln
theorem rstepQ {A B : List Rat} (h : Fz TSb A B) (nA : trim A ≠ []) (nB : trim B ≠ []) : ∀ i, i < 3 → Runs Tryz.prog g_retrospectref15_Quo [fv2 (Fs (wq B A i).1) (Fs (wq B A i).2), fv2 (Fs A) (Fs B)] (fv2 (Fs (wq B A (i + 1)).1) (Fs (wq B A (i + 1)).2)) := by
  have h' : Fz TSb B A := by
    obtain ⟨n, a1, a2, a3, a4, a5⟩ := h
    exact ⟨n, a1, a2, a4, a3, a5.sub (fun q hq => by
      rcases List.mem_append.1 hq with hq | hq
      · exact List.mem_append_right _ hq
      · exact List.mem_append_left _ hq)⟩
  intro i hi
  have f := Fz_QT h' nA i (by omega)
  have n2 := wq_n2 (U := B) nA i
  match i, hi with
  | 0, _ => exact rQuo15 f h n2 nA (by decide) TSb_ln SS0_TSb_SN0 SN0_w4 SN0_ln
  | 1, _ => exact rQuo15 f h n2 nA SS1_ln TSb_ln SS1_TSb_SN1 SN1_w4 SN1_ln
  | 2, _ => exact rQuo15 f h n2 nA SS2_ln TSb_ln SS2_TSb_SN2 SN2_w4 SN2_ln
theorem fPow_bad {K : Nat} {P : List Nat} {u d : List FD} {e : Int} (hx : In K P u d) (he : e < -8 ∨ 8 < e ∨ (e < 0 ∧ trim (qU u d) = [])) : Runs Tryz.prog g_ratf_Pow [fv2 u d, .d (.int .i64 e)] (.tup [fv2 [] (Fs [1]), .d (.bool false)]) := by
  have hz := fZero_spec2 hx
  refine run1 [] p_ratf_Pow rfl rfl (fun B S F0 w0 V0 => ?_)
  refine call_intro _ fone_spec ?_
  by_cases a : e < -8
  · refine split_true (decide_eq_true a) ?_
    refine split_true rfl ?_
    refine split_true rfl ?_
    exact ret_intro rfl rfl
  refine split_false (decide_eq_false a) ?_
  by_cases b : 8 < e
  · refine split_true (decide_eq_true b) ?_
    refine split_true rfl ?_
    exact ret_intro rfl rfl
  refine split_false (decide_eq_false b) ?_
  obtain ⟨c1, c2⟩ : e < 0 ∧ trim (qU u d) = [] := by rcases he with h | h | h; exact absurd h a; exact absurd h b; exact h
  rw [decide_eq_true c2] at hz
  refine split_true (decide_eq_true c1) ?_
  refine call_intro _ hz ?_
  refine split_true rfl ?_
  exact ret_intro rfl rfl
theorem rPow_bad {U D : List Rat} {e : Int} (he : e < -8 ∨ 8 < e ∨ (e < 0 ∧ U = [])) : Runs Tryz.prog g_retrospectref15_Pow [fv2 (Fs U) (Fs D), .d (.int .i64 e)] (.tup [fv2 (Fs []) (Fs [1]), .d (.bool false)]) := by
  have hz := rZero15 (U := U) (D := D)
  have ho := rOf15 (c := ((0 : Int) : Rat)) (R := TSo) ⟨2, by omega, by decide, Nat.le_refl _, by show 1 ≤ 2; omega, 1, by decide, fun q hq => by
    simp only [List.cons_append, List.nil_append, List.mem_cons, List.not_mem_nil, or_false] at hq
    rcases hq with rfl | rfl | rfl | rfl
    · exact Iv_int (z := 1) (by decide)
    · exact Iv_zero _ _
    · exact Iv_zero _ _
    · exact Iv_int (z := 1) (by decide)⟩ TSo_w4 TSo_ln
  have et : trim [((0 : Int) : Rat)] = [] := by decide +kernel
  rw [et] at ho
  refine run1 [] p_retrospectref15_Pow rfl rfl (fun B S F0 w0 V0 => ?_)
  by_cases a : e < -8
  · refine split_true (decide_eq_true a) ?_
    refine split_true rfl ?_
    refine split_true rfl ?_
    refine call_intro _ (r9Int_spec (z := 0) (by omega) (by omega)) ?_
    refine call_intro _ ho ?_
    exact ret_intro rfl rfl
  refine split_false (decide_eq_false a) ?_
  by_cases b : 8 < e
  · refine split_true (decide_eq_true b) ?_
    refine split_true rfl ?_
    refine call_intro _ (r9Int_spec (z := 0) (by omega) (by omega)) ?_
    refine call_intro _ ho ?_
    exact ret_intro rfl rfl
  refine split_false (decide_eq_false b) ?_
  obtain ⟨c1, c2⟩ : e < 0 ∧ U = [] := by rcases he with h | h | h; exact absurd h a; exact absurd h b; exact h
  rw [decide_eq_true c2] at hz
  refine split_true (decide_eq_true c1) ?_
  refine call_intro _ hz ?_
  refine split_true rfl ?_
  refine call_intro _ (r9Int_spec (z := 0) (by omega) (by omega)) ?_
  refine call_intro _ ho ?_
  exact ret_intro rfl rfl
theorem Of1 : Runs Tryz.prog g_ratf_Of [fr ((1 : Int) : Rat)] (fv2 (Fs [1]) (Fs [1])) := by
  have h := fOf_spec2 (c := FD.of (i2q 1)) (K := 1) (FD.ok_of (sz_i2q (by decide))) (by omega) (by omega)
  rw [FD.q_of] at h
  have e3 : trim [i2q 1] = [1] := by decide +kernel
  rw [e3] at h
  exact h
theorem rOf1 : Runs Tryz.prog g_retrospectref15_Of [fr ((1 : Int) : Rat)] (fv2 (Fs [1]) (Fs [1])) := by
  have ho := rOf15 (c := ((1 : Int) : Rat)) (R := TSo) ⟨2, by omega, by decide, Nat.le_refl _, by show 1 ≤ 2; omega, 1, by decide, fun q hq => by
    simp only [List.cons_append, List.nil_append, List.mem_cons, List.not_mem_nil, or_false] at hq
    rcases hq with rfl | rfl | rfl | rfl
    · exact Iv_int (z := 1) (by decide)
    · exact Iv_int (z := 1) (by decide)
    · exact Iv_zero _ _
    · exact Iv_int (z := 1) (by decide)⟩ TSo_w4 TSo_ln
  have et : trim [((1 : Int) : Rat)] = [1] := by decide +kernel
  rw [et] at ho
  exact ho
set_option maxHeartbeats 1000000 in
theorem fPow_spec2 {K : Nat} {u d : List FD} {e : Int} {k : Nat} (hx : In K TSa u d) (hk : k ≤ 3) (he : e = (k : Int) ∨ (e = -(k : Int) ∧ 1 ≤ k ∧ trim (qU u d) ≠ [])) :
    Runs Tryz.prog g_ratf_Pow [fv2 u d, .d (.int .i64 e)] (if e < 0 then .tup [fv2 (Fs (wq (qD u d) (qU u d) k).1) (Fs (wq (qD u d) (qU u d) k).2), .d (.bool true)] else .tup [fv2 (Fs (wq (qU u d) (qD u d) k).1) (Fs (wq (qU u d) (qD u d) k).2), .d (.bool true)]) := by
  have hz := fZero_spec2 hx
  have nD := qD_ne u d
  have hs := fstep hx
  have fk := Fz_PT hx.q nD k hk
  obtain ⟨tk, lk'⟩ := PT_t k
  have emax : (if IntKind.i64.wrap (0 - e) > e then IntKind.i64.wrap (0 - e) else e) = (k : Int) := by
    have : IntKind.i64.wrap (0 - e) = -e := by rw [wr (by omega) (by omega)]; omega
    rw [this]
    split <;> omega
  by_cases hneg : e < 0
  · obtain ⟨e1, e2, nU⟩ : e = -(k : Int) ∧ 1 ≤ k ∧ trim (qU u d) ≠ [] := by rcases he with h | h; omega; exact h
    rw [if_pos hneg]
    rw [decide_eq_false nU] at hz
    have hQ : Runs Tryz.prog g_ratf_Quo [fv2 (Fs [1]) (Fs [1]), fv2 (Fs (wq (qU u d) (qD u d) k).1) (Fs (wq (qU u d) (qD u d) k).2)] (.tup [fv2 (Fs (wq (qD u d) (qU u d) k).1) (Fs (wq (qD u d) (qU u d) k).2), .d (.bool true)]) := by
      have n1 := wq_n1 nU nD k
      have n2 := wq_n2 (U := qU u d) nD k
      have i0 := In_Fs (K := 8589934592) (by omega) PP0_ln PP0_t (Fz_wq0 (U := qU u d) (D := qD u d))
      have ik := In_Fs (K := 8589934592) (by omega) lk' tk fk
      have key : ∀ {Q : List Nat}, mChk PP0 (PT k) Q = true → wChk Q 8589934592 = true → Q.length ≤ 100 → Runs Tryz.prog g_ratf_Quo [fv2 (Fs [1]) (Fs [1]), fv2 (Fs (wq (qU u d) (qD u d) k).1) (Fs (wq (qU u d) (qD u d) k).2)] (.tup [fv2 (Fs (wq (qD u d) (qU u d) k).1) (Fs (wq (qD u d) (qU u d) k).2), .d (.bool true)]) := by
        intro Q mc w lQ
        have q := fQuo_spec2 i0 ik mc w lQ (by rw [qU_Fs n2]; exact n1)
        rw [qU_Fs n2, qD_Fs n2] at q
        have e3 : qU (Fs (wq (qU u d) (qD u d) 0).1) (Fs (wq (qU u d) (qD u d) 0).2) = [1] := qU_Fs o1_ne
        have e4 : qD (Fs (wq (qU u d) (qD u d) 0).1) (Fs (wq (qU u d) (qD u d) 0).2) = [1] := qD_Fs o1_ne
        rw [e3, e4] at q
        have e5 := wq_last nU nD (k - 1)
        rw [show k - 1 + 1 = k by omega] at e5
        rw [e5] at q
        exact q
      have hk3 : k = 1 ∨ k = 2 ∨ k = 3 := by omega
      rcases hk3 with h3 | h3 | h3
      · exact key (Q := PQ1) (by rw [h3]; exact PP0_PP1_PQ1) PQ1_w PQ1_ln
      · exact key (Q := PQ2) (by rw [h3]; exact PP0_PP2_PQ2) PQ2_w PQ2_ln
      · exact key (Q := PQ3) (by rw [h3]; exact PP0_PP3_PQ3) PQ3_w PQ3_ln
    refine run1 [] p_ratf_Pow rfl rfl (fun B S F0 w0 V0 => ?_)
    refine call_intro _ fone_spec ?_
    refine split_false (decide_eq_false (by show ¬ e < -8; omega)) ?_
    refine split_false (decide_eq_false (by show ¬ e > 8; omega)) ?_
    refine split_true (decide_eq_true hneg) ?_
    refine call_intro _ hz ?_
    refine split_false rfl ?_
    refine call_intro _ (fOf_spec (z := 1) (by omega) (by omega)) ?_
    refine call_intro _ Of1 ?_
    refine loop_intro (fun i : Nat => st [(1, .d (.int .i64 e)), (2, .addr 2 0), (4, .addr 4 0), (7, .addr 7 0), (30, .d (.int .i64 (k : Int))), (31, .d (.int .i64 (i : Int)))] [(2, .box [rowsF u, rowsF d]), (4, .box [.rows 3 [], .rows 3 []]), (7, .box [rowsF (Fs (wq (qU u d) (qD u d) i).1), rowsF (Fs (wq (qU u d) (qD u d) i).2)])]) (fun i => k - i) (fun i => i ≤ k) 0 (Nat.zero_le _)
      (weak_st _ _ ⟨rfl, rfl, rfl, rfl, i64_inj emax, rfl, trivial⟩ ⟨rfl, rfl, rfl, trivial⟩ rfl) ?_
    intro i hi
    refine split_intro (fun h => ?_) (fun h => ?_)
    · have hlt : i < k := by have h : (i : Int) < (k : Int) := of_decide_eq_true h; omega
      have ei : IntKind.i64.wrap ((i : Int) + 1) = ((i + 1 : Nat) : Int) := by rw [wr (by omega) (by omega)]; omega
      refine call_intro _ (hs i (by omega)) ?_
      exact ⟨i + 1, hlt, by omega, weak_st _ _ ⟨rfl, rfl, rfl, rfl, rfl, i64_inj ei, trivial⟩ ⟨rfl, rfl, rfl, trivial⟩ rfl⟩
    · have hend : i = k := by have h : ¬ (i : Int) < (k : Int) := of_decide_eq_false h; omega
      subst hend
      refine split_true (decide_eq_true hneg) ?_
      refine side_intro rfl ?_
      refine call_intro _ (fOf_spec (z := 1) (by omega) (by omega)) ?_
      refine call_intro _ Of1 ?_
      refine call_intro _ hQ ?_
      exact ret_intro rfl rfl
  · have e1 : e = (k : Int) := by rcases he with h | h; exact h; omega
    rw [if_neg hneg]
    refine run1 [] p_ratf_Pow rfl rfl (fun B S F0 w0 V0 => ?_)
    refine call_intro _ fone_spec ?_
    refine split_false (decide_eq_false (by show ¬ e < -8; omega)) ?_
    refine split_false (decide_eq_false (by show ¬ e > 8; omega)) ?_
    refine split_false (decide_eq_false hneg) ?_
    refine split_false rfl ?_
    refine call_intro _ (fOf_spec (z := 1) (by omega) (by omega)) ?_
    refine call_intro _ Of1 ?_
    refine loop_intro (fun i : Nat => st [(1, .d (.int .i64 e)), (2, .addr 2 0), (4, .addr 4 0), (7, .addr 7 0), (30, .d (.int .i64 (k : Int))), (31, .d (.int .i64 (i : Int)))] [(2, .box [rowsF u, rowsF d]), (4, .box [.rows 3 [], .rows 3 []]), (7, .box [rowsF (Fs (wq (qU u d) (qD u d) i).1), rowsF (Fs (wq (qU u d) (qD u d) i).2)])]) (fun i => k - i) (fun i => i ≤ k) 0 (Nat.zero_le _)
      (weak_st _ _ ⟨rfl, rfl, rfl, rfl, i64_inj emax, rfl, trivial⟩ ⟨rfl, rfl, rfl, trivial⟩ rfl) ?_
    intro i hi
    refine split_intro (fun h => ?_) (fun h => ?_)
    · have hlt : i < k := by have h : (i : Int) < (k : Int) := of_decide_eq_true h; omega
      have ei : IntKind.i64.wrap ((i : Int) + 1) = ((i + 1 : Nat) : Int) := by rw [wr (by omega) (by omega)]; omega
      refine call_intro _ (hs i (by omega)) ?_
      exact ⟨i + 1, hlt, by omega, weak_st _ _ ⟨rfl, rfl, rfl, rfl, rfl, i64_inj ei, trivial⟩ ⟨rfl, rfl, rfl, trivial⟩ rfl⟩
    · have hend : i = k := by have h : ¬ (i : Int) < (k : Int) := of_decide_eq_false h; omega
      subst hend
      refine split_false (decide_eq_false hneg) ?_
      exact ret_intro rfl rfl
set_option maxHeartbeats 1000000 in
theorem rPow_spec2 {U D : List Rat} {e : Int} {k : Nat} (h : Fz TSb U D) (nD : trim D ≠ []) (tU : trim U = U) (hk : k ≤ 3) (he : e = (k : Int) ∨ (e = -(k : Int) ∧ 1 ≤ k ∧ trim U ≠ [])) :
    Runs Tryz.prog g_retrospectref15_Pow [fv2 (Fs U) (Fs D), .d (.int .i64 e)] (if e < 0 then .tup [fv2 (Fs (wq D U k).1) (Fs (wq D U k).2), .d (.bool true)] else .tup [fv2 (Fs (wq U D k).1) (Fs (wq U D k).2), .d (.bool true)]) := by
  have hz := rZero15 (U := U) (D := D)
  have hs := rstep h nD
  by_cases hneg : e < 0
  · obtain ⟨e1, e2, nU⟩ : e = -(k : Int) ∧ 1 ≤ k ∧ trim U ≠ [] := by rcases he with h | h; omega; exact h
    have hq := rstepQ h nU nD
    rw [if_pos hneg]
    rw [decide_eq_false (fun e0 => nU (by rw [e0]; rfl))] at hz
    refine run1 [] p_retrospectref15_Pow rfl rfl (fun B S F0 w0 V0 => ?_)
    refine split_false (decide_eq_false (by show ¬ e < -8; omega)) ?_
    refine split_false (decide_eq_false (by show ¬ e > 8; omega)) ?_
    refine split_true (decide_eq_true hneg) ?_
    refine call_intro _ hz ?_
    refine split_false rfl ?_
    refine call_intro _ (r9Int_spec (z := 1) (by omega) (by omega)) ?_
    refine call_intro _ rOf1 ?_
    refine loop_intro (fun i : Nat => st [(1, .d (.int .i64 e)), (2, .addr 2 0), (4, .addr 4 0), (6, .addr 6 0), (7, .d (.int .i64 (i : Int)))] [(2, .box [rowsF (Fs U), rowsF (Fs D)]), (4, .box [.rows 3 [], .rows 3 []]), (6, .box [rowsF (Fs (wq D U 0).1), rowsF (Fs (wq D U 0).2)])]) (fun i => 1 - i) (fun i => i ≤ 0) 0 (Nat.zero_le _)
      (weak_st _ _ ⟨rfl, rfl, rfl, rfl, rfl, trivial⟩ ⟨rfl, rfl, rfl, trivial⟩ rfl) ?_
    intro i hi
    obtain rfl : i = 0 := by omega
    refine split_false (decide_eq_false (by show ¬ ((0 : Nat) : Int) < e; omega)) ?_
    refine loop_intro (fun j : Nat => st [(1, .d (.int .i64 e)), (2, .addr 2 0), (4, .addr 4 0), (6, .addr 6 0), (8, .d (.int .i64 (-(j : Int))))] [(2, .box [rowsF (Fs U), rowsF (Fs D)]), (4, .box [.rows 3 [], .rows 3 []]), (6, .box [rowsF (Fs (wq D U j).1), rowsF (Fs (wq D U j).2)])]) (fun j => k - j) (fun j => j ≤ k) 0 (Nat.zero_le _)
      (weak_st _ _ ⟨rfl, rfl, rfl, rfl, rfl, trivial⟩ ⟨rfl, rfl, rfl, trivial⟩ rfl) ?_
    intro j hj
    refine split_intro (fun g => ?_) (fun g => ?_)
    · have hlt : j < k := by have g : -(j : Int) > e := of_decide_eq_true g; omega
      have ej : IntKind.i64.wrap (-(j : Int) - 1) = -((j + 1 : Nat) : Int) := by rw [wr (by omega) (by omega)]; omega
      refine call_intro _ (hq j (by omega)) ?_
      exact ⟨j + 1, hlt, by omega, weak_st _ _ ⟨rfl, rfl, rfl, rfl, i64_inj ej, trivial⟩ ⟨rfl, rfl, rfl, trivial⟩ rfl⟩
    · have hend : j = k := by have g : ¬ -(j : Int) > e := of_decide_eq_false g; omega
      subst hend
      exact ret_intro rfl rfl
  · have e1 : e = (k : Int) := by rcases he with h | h; exact h; omega
    rw [if_neg hneg]
    refine run1 [] p_retrospectref15_Pow rfl rfl (fun B S F0 w0 V0 => ?_)
    refine split_false (decide_eq_false (by show ¬ e < -8; omega)) ?_
    refine split_false (decide_eq_false (by show ¬ e > 8; omega)) ?_
    refine split_false (decide_eq_false hneg) ?_
    refine split_false rfl ?_
    refine call_intro _ (r9Int_spec (z := 1) (by omega) (by omega)) ?_
    refine call_intro _ rOf1 ?_
    refine loop_intro (fun i : Nat => st [(1, .d (.int .i64 e)), (2, .addr 2 0), (4, .addr 4 0), (6, .addr 6 0), (7, .d (.int .i64 (i : Int)))] [(2, .box [rowsF (Fs U), rowsF (Fs D)]), (4, .box [.rows 3 [], .rows 3 []]), (6, .box [rowsF (Fs (wq U D i).1), rowsF (Fs (wq U D i).2)])]) (fun i => k - i) (fun i => i ≤ k) 0 (Nat.zero_le _)
      (weak_st _ _ ⟨rfl, rfl, rfl, rfl, rfl, trivial⟩ ⟨rfl, rfl, rfl, trivial⟩ rfl) ?_
    intro i hi
    refine split_intro (fun g => ?_) (fun g => ?_)
    · have hlt : i < k := by have g : (i : Int) < e := of_decide_eq_true g; omega
      have ei : IntKind.i64.wrap ((i : Int) + 1) = ((i + 1 : Nat) : Int) := by rw [wr (by omega) (by omega)]; omega
      refine call_intro _ (hs i (by omega)) ?_
      exact ⟨i + 1, hlt, by omega, weak_st _ _ ⟨rfl, rfl, rfl, rfl, i64_inj ei, trivial⟩ ⟨rfl, rfl, rfl, trivial⟩ rfl⟩
    · have hend : i = k := by have g : ¬ (i : Int) < e := of_decide_eq_false g; omega
      subst hend
      refine loop_intro (fun j : Nat => st [(1, .d (.int .i64 e)), (2, .addr 2 0), (4, .addr 4 0), (6, .addr 6 0), (8, .d (.int .i64 (j : Int)))] [(2, .box [rowsF (Fs U), rowsF (Fs D)]), (4, .box [.rows 3 [], .rows 3 []]), (6, .box [rowsF (Fs (wq U D i).1), rowsF (Fs (wq U D i).2)])]) (fun j => 1 - j) (fun j => j ≤ 0) 0 (Nat.zero_le _)
        (weak_st _ _ ⟨rfl, rfl, rfl, rfl, rfl, trivial⟩ ⟨rfl, rfl, rfl, trivial⟩ rfl) ?_
      intro j hj
      obtain rfl : j = 0 := by omega
      refine split_false (decide_eq_false (by show ¬ ((0 : Nat) : Int) > e; omega)) ?_
      exact ret_intro rfl rfl
end Go.Proofs.YtolkecnhncbkhaaGreat.Fw

/- The law RatfSums, walked. -/
set_option linter.unusedVariables false
namespace Go.Proofs.YtolkecnhncbkhaaGreat.Fw
open Go Pu
theorem nu_neg {X Y : List Rat} (hY : trim Y ≠ []) : nu (pscale (-1) X) Y = pscale (-1) (nu X Y) ∧ nd (pscale (-1) X) Y = nd X Y := by
  have m1 : ((-1 : Rat)) ≠ 0 := by decide
  have eg : gc (pscale (-1) X) Y = gc X Y := by
    unfold gc
    rw [Mn_scale m1 (fun x => pev_pscale (-1) x X)]
  have et : trim (pscale (-1) X) = pscale (-1) (trim X) := trim_psc m1 X
  have hq := (pqr_scale (a := trim X) (b := gc X Y) (c := -1) (d := 1) (gc_trim X Y) (gcD hY) m1 (by decide)).1
  rw [psc_one, show ((-1 : Rat) / 1) = -1 by decide +kernel] at hq
  unfold nu nd
  rw [eg, et, hq, psc_psc, psc_psc]
  refine ⟨?_, rfl⟩
  congr 1
  exact Rat.mul_comm _ _
theorem QT_t (i : Nat) : tChk (QT i) 8589934592 = true ∧ (QT i).length ≤ 100 := by
  match i with
  | 0 => exact ⟨by decide +kernel, by decide⟩
  | 1 => exact ⟨SS1_t, SS1_ln⟩
  | 2 => exact ⟨SS2_t, SS2_ln⟩
  | n + 3 => exact ⟨SS3_t, SS3_ln⟩
set_option maxHeartbeats 8000000 in
theorem RatfSums_runs {u d v e : List FD} {x : Int} (hu : ∀ y ∈ u, Wd y.n ∧ Wd y.d) (hd : ∀ y ∈ d, Wd y.n ∧ Wd y.d) (hv : ∀ y ∈ v, Wd y.n ∧ Wd y.d) (he : ∀ y ∈ e, Wd y.n ∧ Wd y.d)
    (mu : u.length ≤ maxLen) (md : d.length ≤ maxLen) (mv : v.length ≤ maxLen) (me : e.length ≤ maxLen) :
    Runs Tryz.prog g_retrospectlaw15_RatfSums [fv2 u d, fv2 v e, .d (.int .i64 x)] (.d (.bool true)) := by
  obtain ⟨b1, h1, n1⟩ := Long15_spec (m := 3) (k := 1) mu md (by omega)
  obtain ⟨b2, h2, n2⟩ := Long15_spec (m := 3) (k := 1) mv me (by omega)
  refine run1 [] p_retrospectlaw15_RatfSums rfl rfl (fun B S F0 w0 V0 => ?_)
  refine call_intro _ h1 ?_
  refine split_intro (fun g => ?_) (fun g => ?_)
  · refine split_true rfl ?_
    refine split_true rfl ?_
    refine split_true rfl ?_
    refine call_intro _ works15 ?_
    exact ret_intro rfl rfl
  obtain ⟨bu, bd⟩ := n1 g
  refine call_intro _ h2 ?_
  refine split_intro (fun g => ?_) (fun g => ?_)
  · refine split_true rfl ?_
    refine split_true rfl ?_
    refine call_intro _ works15 ?_
    exact ret_intro rfl rfl
  obtain ⟨bv, be⟩ := n2 g
  have hx : In 1 TSa u d := In_raw (n := 3) (by omega) (by omega) (by omega) (by decide) TSa_ln hu hd bu bd (by decide)
  have hy : In 1 TSa v e := In_raw (n := 3) (by omega) (by omega) (by omega) (by decide) TSa_ln hv he bv be (by decide)
  have nD := qD_ne u d
  have nE := qD_ne v e
  have r1 := rNorm15_spec hx TSa_w4
  have r2 := rNorm15_spec hy TSa_w4
  have pb := fun h => fPow_bad (e := x) hx h
  have pg := fun k hk h => fPow_spec2 (e := x) (k := k) hx hk h
  have fqz := fun h => fQuo_zero2 hx hy TSa_TSa_TSc (wt TSc_w) TSc_ln h
  have fqn := fun h => fQuo_spec2 hx hy TSa_TSa_TSc TSc_w TSc_ln h
  have r3 := fNeg_spec2 hx TSa_w TSa_TSb TSb_t TSb_ln
  have r4 := fAdd_spec2 hx hy TSa_TSa_TSc TSc_w TSc_ln
  have r5 := fSub_spec2 hx hy TSa_w TSa_TSb TSb_t TSb_ln TSa_TSb_TSf TSf_w TSf_ln
  have r6 := fMul_spec2 hx hy TSa_TSa_TSc TSc_w TSc_ln
  have fx := hx.q
  have fy := hy.q
  obtain ⟨U, eU⟩ : ∃ U, U = qU u d := ⟨_, rfl⟩
  obtain ⟨D, eD⟩ : ∃ D, D = qD u d := ⟨_, rfl⟩
  obtain ⟨V, eV⟩ : ∃ V, V = qU v e := ⟨_, rfl⟩
  obtain ⟨E, eE⟩ : ∃ E, E = qD v e := ⟨_, rfl⟩
  rw [← eU, ← eD] at r1 fx pg r3
  rw [← eU] at pb
  rw [← eV, ← eE] at r2 fy
  rw [← eV] at fqz
  rw [← eU, ← eD, ← eV, ← eE] at r4 r5 r6 fqn
  rw [← eD] at nD
  rw [← eE] at nE
  have fA := fx.nrm nD TSa_TSb
  have fB := fy.nrm nE TSa_TSb
  have dA : trim (nd U D) ≠ [] := by rw [nd_trim]; exact nd_ne nD
  have dB : trim (nd V E) ≠ [] := by rw [nd_trim]; exact nd_ne nE
  have nDE := mul_ne nD nE
  have qA := nrm_eqv (X := U) nD
  have qB := nrm_eqv (X := V) nE
  -- sums and products
  have fm := Fz.mul fx fy TSa_TSa_TSc
  have sizes : ∀ {X Y : List Rat} {M Q : List Nat}, Fz M (trim X) (trim Y) → trim Y ≠ [] → nChk M Q = true → tChk Q 8589934592 = true → Q.length ≤ 100 → (∀ q ∈ nu X Y, Sz 8589934592 q) ∧ (∀ q ∈ nd X Y, Sz 8589934592 q) ∧ (nu X Y).length ≤ 100 ∧ (nd X Y).length ≤ 100 := by
    intro X Y M Q h hY nc t l
    have i := (ret_nrm (K := 8589934592) h hY nc (by omega) t l).q
    rw [qU_nrm hY, qD_nrm hY] at i
    obtain ⟨a1, a2, a3, a4⟩ := i.sz t
    exact ⟨a1, a2, by omega, by omega⟩
  have isR : ∀ {X Y X' Y' : List Rat} {M Q : List Nat}, Fz M (trim X) (trim Y) → trim Y ≠ [] → trim Y' ≠ [] → nChk M Q = true → tChk Q 8589934592 = true → Q.length ≤ 100 → Eqv X Y X' Y' → Runs Tryz.prog g_retrospectlaw15_Is [Res X Y, Res X' Y'] (.d (.bool true)) := by
    intro X Y X' Y' M Q h hY hY' nc t l q
    obtain ⟨a1, a2, a3, a4⟩ := sizes h hY nc t l
    obtain ⟨e1, e2⟩ := nrm_of_eqv hY hY' q
    exact Is15_true a1 a2 (by omega) (by omega) (by omega) e1 e2
  have dAB := mul_ne dA dB
  have s4 : Runs Tryz.prog g_retrospectref15_Add [Res U D, Res V E] (Res (aU (nu U D) (nd U D) (nu V E) (nd V E)) (pmul (nd U D) (nd V E))) := rAdd15 fA fB dA dB TSb_ln TSb_ln TSb_TSb_TSe TSe_w4 TSe_ln
  have i4 := isR fm.2.1 nDE dAB TSc_TSd TSd_t TSd_ln (add_eqv qA.symm qB.symm)
  have s6 : Runs Tryz.prog g_retrospectref15_Mul [Res U D, Res V E] (Res (pmul (nu U D) (nu V E)) (pmul (nd U D) (nd V E))) := rMul15 fA fB dA dB TSb_ln TSb_ln TSb_TSb_TSe TSe_w4 TSe_ln
  have i6 := isR fm.1 nDE dAB TSc_TSd TSd_t TSd_ln (mul_eqv qA.symm qB.symm)
  -- taken -1 times
  have fm1 : Fz TSo [-1, 0] [1] := ⟨2, by omega, by decide, Nat.le_refl _, by show 1 ≤ 2; omega, 1, by decide, fun q hq => by
    simp only [List.cons_append, List.nil_append, List.mem_cons, List.not_mem_nil, or_false] at hq
    rcases hq with rfl | rfl | rfl | rfl
    · exact Iv_int (z := 1) (by decide)
    · exact Iv_int (z := -1) (by decide)
    · exact Iv_zero _ _
    · exact Iv_int (z := 1) (by decide)⟩
  have fm1' : Fz TSo [-1] [1] := fm1.sub (by decide) (Nat.le_refl _) (fun q hq => by simp only [List.mem_cons, List.not_mem_nil, or_false] at hq ⊢; exact .inl hq) (fun q hq => hq)
  have s3 : Runs Tryz.prog g_retrospectref15_Neg [Res U D] (Res (pmul [-1] (nu U D)) (pmul [1] (nd U D))) := rNeg15 fA dA TSb_ln fm1 TSo_w4 TSo_ln TSo_TSb_TSh TSh_w4 TSh_ln
  have s3' : Runs Tryz.prog g_retrospectref15_Neg [Res V E] (Res (pmul [-1] (nu V E)) (pmul [1] (nd V E))) := rNeg15 fB dB TSb_ln fm1 TSo_w4 TSo_ln TSo_TSb_TSh TSh_w4 TSh_ln
  have qn : ∀ X Y : List Rat, Eqv (pscale (-1) X) Y (pmul [-1] X) (pmul [1] Y) := fun X Y x => by
    simp only [pev_pmul, pev_pscale, pev_cons, pev_nil]; grind
  have i3 : Runs Tryz.prog g_retrospectlaw15_Is [fv2 (Fs (pscale (-1) (nu U D))) (Fs (nd U D)), Res (pmul [-1] (nu U D)) (pmul [1] (nd U D))] (.d (.bool true)) := by
    obtain ⟨e1, e2⟩ := nrm_of_eqv dA (mul_ne o1_ne dA) (qn (nu U D) (nd U D))
    obtain ⟨e3, e4⟩ := nu_neg (X := nu U D) dA
    rw [(nrm_idem nD).1] at e3
    rw [(nrm_idem nD).2] at e4
    obtain ⟨a1, a2, a3, a4⟩ := fA.sz TSb_t
    have lb := TSb_ln
    exact Is15_true (k := 8589934592) (fun q hq => by
      obtain ⟨y, hy', rfl⟩ := List.mem_map.1 hq
      have := Sz_neg (a1 y hy')
      rwa [show -y = -1 * y by grind] at this) a2 (by omega) (by rw [psc_len]; omega) (by omega) (e3.symm.trans e1) (e4.symm.trans e2)
  -- differences
  have nN := mul_ne o1_ne dB
  have fN : Fz TSi (nu (pmul [-1] (nu V E)) (pmul [1] (nd V E))) (nd (pmul [-1] (nu V E)) (pmul [1] (nd V E))) := by
    have i := (ret_nrm (K := 8589934592) (Fz.mul fm1' fB TSo_TSb_TSh).1 nN TSh_TSi (by omega) TSi_t TSi_ln).q
    rwa [qU_nrm nN, qD_nrm nN] at i
  have dN : trim (nd (pmul [-1] (nu V E)) (pmul [1] (nd V E))) ≠ [] := by rw [nd_trim]; exact nd_ne nN
  have s5 : Runs Tryz.prog g_retrospectref15_Add [Res U D, Res (pmul [-1] (nu V E)) (pmul [1] (nd V E))] (Res (aU (nu U D) (nd U D) (nu (pmul [-1] (nu V E)) (pmul [1] (nd V E))) (nd (pmul [-1] (nu V E)) (pmul [1] (nd V E)))) (pmul (nd U D) (nd (pmul [-1] (nu V E)) (pmul [1] (nd V E))))) := rAdd15 fA fN dA dN TSb_ln TSi_ln TSb_TSi_TSj TSj_w4 TSj_ln
  have fBn : Fz TSb (pscale (-1) (nu V E)) (nd V E) := by
    obtain ⟨n, a1, a2, a3, a4, K, d0, a5⟩ := fB
    refine ⟨n, a1, a2, by rw [psc_len]; exact a3, a4, K, d0, fun q hq => ?_⟩
    rcases List.mem_cons.1 hq with rfl | hq
    · exact a5 1 List.mem_cons_self
    · rcases List.mem_append.1 hq with hq | hq
      · obtain ⟨y, hy', rfl⟩ := List.mem_map.1 hq
        have := Iv_neg (a5 y (List.mem_cons_of_mem _ (List.mem_append_left _ hy')))
        rwa [show -y = -1 * y by grind] at this
      · exact a5 q (List.mem_cons_of_mem _ (List.mem_append_right _ hq))
  have i5 := isR (Fz.mul fx fBn TSa_TSb_TSf).2.1 (mul_ne nD dB) (mul_ne dA dN) TSf_TSg TSg_t TSg_ln (add_eqv qA.symm ((qn (nu V E) (nd V E)).trans (nrm_eqv nN).symm nN))
  -- quotients
  obtain ⟨X, Y, X', Y', bq, hQ, hb, hW0, hW1, hIQ⟩ : ∃ (X Y X' Y' : List Rat) (bq : Bool), Runs Tryz.prog g_ratf_Quo [fv2 u d, fv2 v e] (.tup [fv2 (Fs X) (Fs Y), .d (.bool bq)]) ∧ (bq == decide (nu V E = [])) = false ∧ (nu V E = [] → X' = [] ∧ Y' = [1]) ∧
      (nu V E ≠ [] → Runs Tryz.prog g_retrospectref15_Quo [Res U D, Res V E] (fv2 (Fs X') (Fs Y'))) ∧ Runs Tryz.prog g_retrospectlaw15_Is [fv2 (Fs X) (Fs Y), fv2 (Fs X') (Fs Y')] (.d (.bool true)) := by
    by_cases h0 : trim V = []
    · have z := nu_zero h0 nE
      refine ⟨[], [1], [], [1], false, fqz h0, by rw [decide_eq_true z]; rfl, fun _ => ⟨rfl, rfl⟩, fun h => absurd z h, ?_⟩
      exact Is15_true (k := 1) (fun q hq => by cases hq) (fun q hq => by
        have hq1 : q = 1 := by simpa using hq
        have e1 : q = ((1 : Int) : Rat) := hq1
        rw [e1]
        exact Sz_int (by show (toW 1).length ≤ 1; rw [nw1]; omega) (by omega)) (by omega) (Nat.zero_le _) (by show 1 ≤ _; omega) rfl rfl
    · have z : nu V E ≠ [] := fun e0 => h0 ((nu_zero_iff nE).1 e0)
      have tz : trim (nu V E) ≠ [] := by rw [nu_trim nE]; exact z
      have nDV := mul_ne nD h0
      have nAB := mul_ne dA tz
      refine ⟨nu (pmul U E) (pmul D V), nd (pmul U E) (pmul D V), nu (pmul (nu U D) (nd V E)) (pmul (nd U D) (nu V E)), nd (pmul (nu U D) (nd V E)) (pmul (nd U D) (nu V E)), true, fqn h0, by rw [decide_eq_false z]; rfl, fun h => absurd h z, fun _ => ?_, ?_⟩
      · exact rQuo15 fA fB dA tz TSb_ln TSb_ln TSb_TSb_TSe TSe_w4 TSe_ln
      · exact isR fm.2.2.1 nDV nAB TSc_TSd TSd_t TSd_ln (quo_eqv qA.symm qB.symm)
  -- powers
  have hP : ¬ ((-8 ≤ x ∧ x < -3) ∨ (3 < x ∧ x ≤ 8)) → ∃ (X Y : List Rat) (b : Bool), Runs Tryz.prog g_ratf_Pow [fv2 u d, .d (.int .i64 x)] (.tup [fv2 (Fs X) (Fs Y), .d (.bool b)]) ∧ Runs Tryz.prog g_retrospectref15_Pow [Res U D, .d (.int .i64 x)] (.tup [fv2 (Fs X) (Fs Y), .d (.bool b)]) ∧
      Runs Tryz.prog g_retrospectlaw15_Is [fv2 (Fs X) (Fs Y), fv2 (Fs X) (Fs Y)] (.d (.bool true)) := by
    intro hr
    by_cases bad : x < -8 ∨ 8 < x ∨ (x < 0 ∧ trim U = [])
    · refine ⟨[], [1], false, pb bad, rPow_bad (by
        rcases bad with h | h | h
        · exact .inl h
        · exact .inr (.inl h)
        · exact .inr (.inr ⟨h.1, nu_zero h.2 nD⟩)), ?_⟩
      exact Is15_true (k := 1) (fun q hq => by cases hq) (fun q hq => by
        have hq1 : q = 1 := by simpa using hq
        have e1 : q = ((1 : Int) : Rat) := hq1
        rw [e1]
        exact Sz_int (by show (toW 1).length ≤ 1; rw [nw1]; omega) (by omega)) (by omega) (Nat.zero_le _) (by show 1 ≤ _; omega) rfl rfl
    · have hk : x.natAbs ≤ 3 := by omega
      by_cases hneg : x < 0
      · have nU : trim U ≠ [] := fun h => bad (.inr (.inr ⟨hneg, h⟩))
        have tz : trim (nu U D) ≠ [] := by rw [nu_trim nD]; exact fun e0 => nU ((nu_zero_iff nD).1 e0)
        have g1 := pg x.natAbs hk (.inr ⟨by omega, by omega, nU⟩)
        have g2 := rPow_spec2 (e := x) (k := x.natAbs) fA dA (nu_trim nD) hk (.inr ⟨by omega, by omega, tz⟩)
        rw [if_pos hneg] at g1 g2
        have ew := wq_eqv (U := nd U D) (D := nu U D) (U' := D) (D' := U) tz nU (inv_eqv qA) x.natAbs
        rw [ew] at g2
        have fA' : Fz TSb (nd U D) (nu U D) := by
          obtain ⟨n, a1, a2, a3, a4, a5⟩ := fA
          exact ⟨n, a1, a2, a4, a3, a5.sub (fun q hq => by
            rcases List.mem_append.1 hq with hq | hq
            · exact List.mem_append_right _ hq
            · exact List.mem_append_left _ hq)⟩
        have fq := Fz_QT fA' tz x.natAbs hk
        rw [ew] at fq
        obtain ⟨t1, t2⟩ := QT_t x.natAbs
        obtain ⟨a1, a2, a3, a4⟩ := fq.sz t1
        exact ⟨_, _, true, g1, g2, Is15_true a1 a2 (by omega) (by omega) (by omega) rfl rfl⟩
      · have g1 := pg x.natAbs hk (.inl (by omega))
        have g2 := rPow_spec2 (e := x) (k := x.natAbs) fA dA (nu_trim nD) hk (.inl (by omega))
        rw [if_neg hneg] at g1 g2
        have ew := wq_eqv (U := nu U D) (D := nd U D) (U' := U) (D' := D) dA nD qA x.natAbs
        rw [ew] at g2
        have fq := Fz_QT fA dA x.natAbs hk
        rw [ew] at fq
        obtain ⟨t1, t2⟩ := QT_t x.natAbs
        obtain ⟨a1, a2, a3, a4⟩ := fq.sz t1
        exact ⟨_, _, true, g1, g2, Is15_true a1 a2 (by omega) (by omega) (by omega) rfl rfl⟩
  have zB : Runs Tryz.prog g_retrospectref15_Zero [Res V E] (.d (.bool (decide (nu V E = [])))) := rZero15
  have o0 : Runs Tryz.prog g_retrospectref15_Of [fr ((0 : Int) : Rat)] (fv2 (Fs []) (Fs [1])) := by
    have ho := rOf15 (c := ((0 : Int) : Rat)) (R := TSo) ⟨2, by omega, by decide, Nat.le_refl _, by show 1 ≤ 2; omega, 1, by decide, fun q hq => by
      simp only [List.cons_append, List.nil_append, List.mem_cons, List.not_mem_nil, or_false] at hq
      rcases hq with rfl | rfl | rfl | rfl
      · exact Iv_int (z := 1) (by decide)
      · exact Iv_zero _ _
      · exact Iv_zero _ _
      · exact Iv_int (z := 1) (by decide)⟩ TSo_w4 TSo_ln
    have et : trim [((0 : Int) : Rat)] = [] := by decide +kernel
    rw [et] at ho
    exact ho
  by_cases hr : (-8 ≤ x ∧ x < -3) ∨ (3 < x ∧ x ≤ 8)
  · rcases hr with g | g
    · refine split_true (decide_eq_true (show x ≥ -8 by omega)) ?_
      refine split_true (decide_eq_true (show x < -3 by omega)) ?_
      refine split_true rfl ?_
      refine call_intro _ works15 ?_
      exact ret_intro rfl rfl
    · refine split_true (decide_eq_true (show x ≥ -8 by omega)) ?_
      refine split_false (decide_eq_false (show ¬ x < -3 by omega)) ?_
      refine split_true (decide_eq_true (show x > 3 by omega)) ?_
      refine split_true (decide_eq_true (show x ≤ 8 by omega)) ?_
      refine call_intro _ works15 ?_
      exact ret_intro rfl rfl
  have hx3 : x < -8 ∨ (-3 ≤ x ∧ x ≤ 3) ∨ 8 < x := by omega
  rcases hx3 with g | g | g
  case' inl =>
    refine split_false (decide_eq_false (show ¬ x ≥ -8 by omega)) ?_
    refine split_false rfl ?_
    refine split_false (decide_eq_false (show ¬ x > 3 by omega)) ?_
    refine split_false rfl ?_
  case' inr.inl =>
    refine split_true (decide_eq_true (show x ≥ -8 by omega)) ?_
    refine split_false (decide_eq_false (show ¬ x < -3 by omega)) ?_
    refine split_false (decide_eq_false (show ¬ x > 3 by omega)) ?_
    refine split_false rfl ?_
  case' inr.inr =>
    refine split_true (decide_eq_true (show x ≥ -8 by omega)) ?_
    refine split_false (decide_eq_false (show ¬ x < -3 by omega)) ?_
    refine split_true (decide_eq_true (show x > 3 by omega)) ?_
    refine split_false (decide_eq_false (show ¬ x ≤ 8 by omega)) ?_
  all_goals
    obtain ⟨PX, PY, pbool, hp1, hp2, hp3⟩ := hP hr
    refine call_intro _ r1 ?_
    refine call_intro _ r2 ?_
    refine call_intro _ (fTo_spec2 (by omega) (by omega)) ?_
    refine call_intro _ (fTo_spec2 (by omega) (by omega)) ?_
    refine call_intro _ hQ ?_
    refine call_intro _ (r9Int_spec (z := 0) (by omega) (by omega)) ?_
    refine call_intro _ o0 ?_
    refine call_intro _ zB ?_
    by_cases hz : nu V E = []
    case' pos =>
      obtain ⟨e1, e2⟩ := hW0 hz
      rw [e1, e2] at hIQ
      refine split_false (by show (!decide (nu V E = [])) = false; rw [decide_eq_true hz]; rfl) ?_
    case' neg =>
      refine split_true (by show (!decide (nu V E = [])) = true; rw [decide_eq_false hz]; rfl) ?_
      refine call_intro _ (hW1 hz) ?_
    all_goals
      refine call_intro _ hp1 ?_
      refine call_intro _ hp2 ?_
      refine side_intro rfl ?_
      refine call_intro _ hIQ ?_
      refine split_false rfl ?_
      refine call_intro _ zB ?_
      refine split_false hb ?_
      refine call_intro _ hp3 ?_
      refine split_false rfl ?_
      refine split_false (bne_self_eq_false _) ?_
      refine call_intro _ r3 ?_
      refine call_intro _ s3 ?_
      refine call_intro _ i3 ?_
      refine split_false rfl ?_
      refine side_intro rfl ?_
      refine call_intro _ r4 ?_
      refine call_intro _ s4 ?_
      refine call_intro _ i4 ?_
      refine split_true rfl ?_
      refine call_intro _ r5 ?_
      refine call_intro _ s3' ?_
      refine call_intro _ s5 ?_
      refine call_intro _ i5 ?_
      refine split_true rfl ?_
      refine call_intro _ r6 ?_
      refine call_intro _ s6 ?_
      refine call_intro _ i6 ?_
      refine split_true rfl ?_
      refine call_intro _ works15 ?_
      exact ret_intro rfl rfl
theorem RatfSums_typed {x y : List D} {z : D} (h0 : AllR OkD [shR, shR] x) (h1 : AllR OkD [shR, shR] y) (h2 : OkD (.int .i64) z) : Runs Tryz.prog g_retrospectlaw15_RatfSums [.agg [shR, shR].length x, .agg [shR, shR].length y, .d z] (.d (.bool true)) := by
  obtain ⟨u, d, rfl, hu, hd, mu, md⟩ := inv_fun h0
  obtain ⟨v, e, rfl, hv, he, mv, me⟩ := inv_fun h1
  obtain ⟨n, rfl, _⟩ := inv_int h2
  exact RatfSums_runs hu hd hv he mu md mv me
end Go.Proofs.YtolkecnhncbkhaaGreat.Fw
