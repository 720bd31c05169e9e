/- Texts of the proof, one after the other: UC DQ UE. -/
import Derived.Test.YtolkecnhncbkhaaM5
set_option linter.unusedSimpArgs false
set_option linter.unusedVariables false
/- Functions of two polynomials: the chapter's examples, what is too long, handed over, walked. -/
set_option linter.unusedVariables false
namespace Go.Proofs.Ytolkecnhncbkhaa.Fw
open Go Pu
theorem nrm_idem {X Y : List Rat} (hY : trim Y ≠ []) : nu (nu X Y) (nd X Y) = nu X Y ∧ nd (nu X Y) (nd X Y) = nd X Y :=
  nrm_of_eqv (by rw [nd_trim]; exact nd_ne hY) hY (nrm_eqv hY)
theorem nu_zero {X Y : List Rat} (hX : trim X = []) (hY : trim Y ≠ []) : nu X Y = [] := by
  obtain ⟨h, h1, h2⟩ := nrm_spec (U := X) hY
  have hh : trim h ≠ [] := fun e => hY (by
    have : trim Y = trim [] := trim_of_vals (fun x => by rw [h2, ← pev_trim h, e]; show (0 : Rat) * _ = 0; grind)
    exact this)
  have := trim_of_vals (a := nu X Y) (b := []) (fun x => dom hh (fun x => by
    have := h1 x
    rw [← pev_trim X, hX, pev_nil] at this
    grind) x)
  rw [nu_trim hY] at this
  exact this
theorem nu_zero_iff {X Y : List Rat} (hY : trim Y ≠ []) : nu X Y = [] ↔ trim X = [] := by
  constructor
  · intro e
    obtain ⟨h, h1, h2⟩ := nrm_spec (U := X) hY
    have : trim X = trim [] := trim_of_vals (fun x => by rw [h1, e, pev_nil, Rat.mul_zero])
    exact this
  · exact fun h => nu_zero h hY
theorem fTo_spec2 {u d : List FD} (lu : u.length ≤ 1000000) (ld : d.length ≤ 1000000) : Runs Try.prog g_retrospectlaw15_To [fv2 u d] (fv2 u d) := by
  refine run1 [] p_retrospectlaw15_To rfl rfl (fun B S F0 w0 V0 => ?_)
  refine side_intro rfl ?_
  refine call_intro _ (To11_spec lu) ?_
  refine call_intro _ (To11_spec ld) ?_
  exact ret_intro rfl rfl
theorem Long15_spec {u d : List FD} {m : Nat} {k : Int} (lu : u.length ≤ maxLen) (ld : d.length ≤ maxLen) (hm : m ≤ 1000000) : ∃ b : Bool, Runs Try.prog g_retrospectref15_Long [fv2 u d, .d (.int .i64 (m : Int)), .d (.int .i64 k)] (.d (.bool b)) ∧
    (b = false → (u.length ≤ m ∧ ∀ x ∈ u, (x.n.length : Int) ≤ k ∧ (x.d.length : Int) ≤ k) ∧ (d.length ≤ m ∧ ∀ x ∈ d, (x.n.length : Int) ≤ k ∧ (x.d.length : Int) ≤ k)) := by
  obtain ⟨b1, h1, n1⟩ := Long11_spec (l := u) (m := m) (k := k) lu hm
  obtain ⟨b2, h2, n2⟩ := Long11_spec (l := d) (m := m) (k := k) ld hm
  cases b1 with
  | true =>
    refine ⟨true, run1 [] p_retrospectref15_Long rfl rfl (fun B S F0 w0 V0 => ?_), fun h => by cases h⟩
    refine call_intro _ h1 ?_
    refine split_true rfl ?_
    exact ret_intro rfl rfl
  | false =>
    refine ⟨b2, run1 [] p_retrospectref15_Long rfl rfl (fun B S F0 w0 V0 => ?_), fun h => ⟨n1 rfl, n2 h⟩⟩
    refine call_intro _ h1 ?_
    refine split_false rfl ?_
    refine call_intro _ h2 ?_
    exact ret_intro rfl rfl
theorem inv_fun {ds : List D} (h : AllR OkD [shR, shR] ds) : ∃ u d : List FD, ds = [rowsF u, rowsF d] ∧ (∀ y ∈ u, Wd y.n ∧ Wd y.d) ∧ (∀ y ∈ d, Wd y.n ∧ Wd y.d) ∧ u.length ≤ maxLen ∧ d.length ≤ maxLen := by
  obtain ⟨u0, t0, e0, a0, h⟩ := h.head
  obtain ⟨u1, t1, e1, a1, h⟩ := h.head
  obtain rfl := h.nil_of
  obtain ⟨u, rfl, hu, mu⟩ := inv_fracs a0
  obtain ⟨d, rfl, hd, md⟩ := inv_fracs a1
  exact ⟨u, d, by rw [e0, e1], fun y hy => ⟨(hu y hy).1, (hu y hy).2.1⟩, fun y hy => ⟨(hd y hy).1, (hd y hy).2.1⟩, mu, md⟩
/-- A function of at most so many small coefficients. -/
theorem In_raw {P : List Nat} {n k : Nat} {u d : List FD} (h1 : 1 ≤ n) (hk : 1 ≤ k) (hk2 : k ≤ 8589934592) (hP : n ≤ P.length) (lP : P.length ≤ 100) (hu : ∀ y ∈ u, Wd y.n ∧ Wd y.d) (hd : ∀ y ∈ d, Wd y.n ∧ Wd y.d)
    (bu : u.length ≤ n ∧ ∀ x ∈ u, (x.n.length : Int) ≤ (k : Int) ∧ (x.d.length : Int) ≤ (k : Int)) (bd : d.length ≤ n ∧ ∀ x ∈ d, (x.n.length : Int) ≤ (k : Int) ∧ (x.d.length : Int) ≤ (k : Int)) (hs : 64 * k * n ≤ tb P n) : In k P u d := by
  have ou : ∀ x ∈ u, x.ok k := fun x hx => ⟨(hu x hx).1, (hu x hx).2, by have := (bu.2 x hx).1; omega, by have := (bu.2 x hx).2; omega⟩
  have od : ∀ x ∈ d, x.ok k := fun x hx => ⟨(hd x hx).1, (hd x hx).2, by have := (bd.2 x hx).1; omega, by have := (bd.2 x hx).2; omega⟩
  refine ⟨hk, hk2, lP, ou, od, n, h1, hP, by rw [Qs_len]; exact bu.1, by rw [Qs_len]; exact bd.1, ?_⟩
  refine (Cz_of (k := k) (l := Qs u ++ Qs d) (fun q hq => ?_)).mono ?_
  · rcases List.mem_append.1 hq with hq | hq
    · exact Sz_Qs ou hk q hq
    · exact Sz_Qs od hk q hq
  · rw [List.length_append, Qs_len, Qs_len]
    refine Nat.le_trans ?_ hs
    have := Nat.mul_le_mul_left (32 * k) (show u.length + d.length ≤ 2 * n by omega)
    have e : 32 * k * (2 * n) = 64 * k * n := by rw [← Nat.mul_assoc, show 32 * k * 2 = 64 * k by omega]
    omega
theorem Fz_small {P : List Nat} {n : Nat} {U D : List Rat} (h1 : 1 ≤ n) (hP : n ≤ P.length) (lu : U.length ≤ n) (ld : D.length ≤ n) {K : Rat} (hK : K ≠ 0) (h : ∀ q ∈ 1 :: (U ++ D), Iv K (tb P n) q) : Fz P U D := ⟨n, h1, hP, lu, ld, K, hK, h⟩
theorem Iv12 {q : Rat} (n : Int) (hn : n.natAbs ≤ 4) {K : Rat} (h : q * K = (n : Rat)) : Iv K (tb Xw1 2) q := ⟨n, hn, h⟩
theorem o1_ne : trim [(1 : Rat)] ≠ [] := by rw [trim_one]; exact fun e => by cases e
set_option maxHeartbeats 1000000 in
theorem works15 : Runs Try.prog g_retrospectlaw15_works [] (.d (.bool true)) := by
  have s0 : Sz 1 (i2q 0) := sz_i2q (by decide)
  have s1 : Sz 1 (i2q 1) := sz_i2q (by decide)
  have s2 : Sz 1 (i2q 2) := sz_i2q (by decide)
  have l1 := fLine_spec2 (FD.ok_of s0) (FD.ok_of s1) (by omega) (by omega)
  have l2 := fLine_spec2 (FD.ok_of s0) (FD.ok_of s2) (by omega) (by omega)
  rw [FD.q_of, FD.q_of] at l1 l2
  have e1 : trim [i2q 0, i2q 1] = [0, 1] := by decide +kernel
  have e2 : trim [i2q 0, i2q 2] = [0, 2] := by decide +kernel
  rw [e1] at l1
  rw [e2] at l2
  have f1 : Fz Xw1 [0, 1] [1] := Fz_small (n := 2) (by omega) (by decide) (by decide) (by decide) (K := 1) (by decide) (fun q hq => by
    simp only [List.cons_append, List.nil_append, List.mem_cons, List.not_mem_nil, or_false] at hq
    rcases hq with rfl | rfl | rfl | rfl
    · exact Iv12 1 (by decide) (by decide +kernel)
    · exact Iv12 0 (by decide) (by decide +kernel)
    · exact Iv12 1 (by decide) (by decide +kernel)
    · exact Iv12 1 (by decide) (by decide +kernel))
  have f2 : Fz Xw1 [0, 2] [1] := Fz_small (n := 2) (by omega) (by decide) (by decide) (by decide) (K := 1) (by decide) (fun q hq => by
    simp only [List.cons_append, List.nil_append, List.mem_cons, List.not_mem_nil, or_false] at hq
    rcases hq with rfl | rfl | rfl | rfl
    · exact Iv12 1 (by decide) (by decide +kernel)
    · exact Iv12 0 (by decide) (by decide +kernel)
    · exact Iv12 2 (by decide) (by decide +kernel)
    · exact Iv12 1 (by decide) (by decide +kernel))
  have f3 : Fz Xw1 [1] [1] := Fz_small (n := 2) (by omega) (by decide) (by decide) (by decide) (K := 1) (by decide) (fun q hq => by
    simp only [List.cons_append, List.nil_append, List.mem_cons, List.not_mem_nil, or_false] at hq
    rcases hq with rfl | rfl | rfl <;> exact Iv12 1 (by decide) (by decide +kernel))
  have f4 : Fz Xw1 [((1 : Int) : Rat) / ((2 : Int) : Rat)] [1] := Fz_small (n := 2) (by omega) (by decide) (by decide) (by decide) (K := 2) (by decide) (fun q hq => by
    simp only [List.cons_append, List.nil_append, List.mem_cons, List.not_mem_nil, or_false] at hq
    rcases hq with rfl | rfl | rfl
    · exact Iv12 2 (by decide) (by decide +kernel)
    · exact Iv12 1 (by decide) (by decide +kernel)
    · exact Iv12 2 (by decide) (by decide +kernel))
  have i1 := In_Fs (K := 8589934592) (by omega) Xw1_ln Xw1_t f1
  have i2 := In_Fs (K := 8589934592) (by omega) Xw1_ln Xw1_t f2
  have i3 := In_Fs (K := 8589934592) (by omega) Xw1_ln Xw1_t f3
  have i4 := In_Fs (K := 8589934592) (by omega) Xw1_ln Xw1_t f4
  have t01 : trim [(0 : Rat), 1] = [0, 1] := by decide +kernel
  have t02 : trim [(0 : Rat), 2] = [0, 2] := by decide +kernel
  have n01 : trim [(0 : Rat), 1] ≠ [] := by rw [t01]; exact fun e => by cases e
  have n02 : trim [(0 : Rat), 2] ≠ [] := by rw [t02]; exact fun e => by cases e
  have q1 := fQuo_spec2 i1 i2 Xw1_Xw1_Xw2 Xw2_w Xw2_ln (by rw [qU_Fs o1_ne]; exact n02)
  have q2 := fQuo_spec2 i3 i1 Xw1_Xw1_Xw2 Xw2_w Xw2_ln (by rw [qU_Fs o1_ne]; exact n01)
  rw [qU_Fs o1_ne, qD_Fs o1_ne, qU_Fs o1_ne, qD_Fs o1_ne] at q1 q2
  have y1 : trim (pmul [(1 : Rat)] [0, 2]) ≠ [] := mul_ne o1_ne n02
  have y2 : trim (pmul [(1 : Rat)] [0, 1]) ≠ [] := mul_ne o1_ne n01
  have z1 := (Fz.mul f1 f2 Xw1_Xw1_Xw2).2.2.1
  have z2 := (Fz.mul f3 f1 Xw1_Xw1_Xw2).2.2.1
  have j1 := ret_nrm (K := 8589934592) z1 y1 Xw2_Xw3 (by omega) Xw3_t Xw3_ln
  have j2 := ret_nrm (K := 8589934592) z2 y2 Xw2_Xw3 (by omega) Xw3_t Xw3_ln
  have r1 := fRatio_spec (x := 1) (y := 2) (by omega) (by omega) (by omega) (by omega)
  rw [if_neg (by omega)] at r1
  have sh : Sz 2 (((1 : Int) : Rat) / ((2 : Int) : Rat)) := Sz_div s1 s2
  have o1 := fOf_spec2 (c := FD.of (i2q 1)) (FD.ok_of s1) (by omega) (by omega)
  have o2 := fOf_spec2 (FD.ok_of sh) (by omega) (by omega)
  rw [FD.q_of] at o1 o2
  have e3 : trim [i2q 1] = [1] := by decide +kernel
  have e4 : trim [((1 : Int) : Rat) / ((2 : Int) : Rat)] = [((1 : Int) : Rat) / ((2 : Int) : Rat)] := by decide +kernel
  rw [e3] at o1
  rw [e4] at o2
  have sm := fSame_spec2 j1 i4 Xw3_Xw1_Xw4 Xw4_t Xw4_ln
  rw [qU_nrm y1, qD_nrm y1, qU_Fs o1_ne, qD_Fs o1_ne] at sm
  have es : trim (pmul (nu (pmul [0, 1] [1]) (pmul [1] [0, 2])) [1]) = trim (pmul [((1 : Int) : Rat) / ((2 : Int) : Rat)] (nd (pmul [0, 1] [1]) (pmul [1] [0, 2]))) := trim_of_vals (cancel n01 (fun x => by
    have h := nrm_eqv (X := pmul [(0 : Rat), 1] [1]) y1 x
    simp only [pev_pmul, pev_cons, pev_nil] at h ⊢
    have e5 : ((1 : Int) : Rat) / ((2 : Int) : Rat) * 2 = 1 := by decide +kernel
    grind))
  rw [decide_eq_true es] at sm
  have ze := fZero_spec2 j2
  rw [qU_nrm y2, nu_trim y2] at ze
  have en : nu (pmul [(1 : Rat)] [1]) (pmul [1] [0, 1]) ≠ [] := fun e => mul_ne o1_ne o1_ne ((nu_zero_iff y2).1 e)
  rw [decide_eq_false en] at ze
  have ev := fEval_spec2 (z := FD.of (i2q 0)) j2 Xw3_w Xw3_Xw5 Xw5_t Xw5_ln ((FD.ok_of s0).mono (by omega))
  rw [qU_nrm y2, qD_nrm y2, (nrm_idem y2).1, (nrm_idem y2).2, FD.q_of] at ev
  have e0 : pev (nd (pmul [(1 : Rat)] [1]) (pmul [1] [0, 1])) (i2q 0) = 0 := by
    have h := nrm_eqv (X := pmul [(1 : Rat)] [1]) y2 (i2q 0)
    simp only [pev_pmul, pev_cons, pev_nil] at h
    have e6 : i2q 0 = 0 := rfl
    rw [e6] at h ⊢
    grind
  rw [if_pos e0] at ev
  refine run1 [] p_retrospectlaw15_works rfl rfl (fun B S F0 w0 V0 => ?_)
  refine call_intro _ (fOf_spec (z := 0) (by omega) (by omega)) ?_
  refine call_intro _ (fOf_spec (z := 1) (by omega) (by omega)) ?_
  refine call_intro _ l1 ?_
  refine side_intro rfl ?_
  refine call_intro _ (fOf_spec (z := 0) (by omega) (by omega)) ?_
  refine call_intro _ (fOf_spec (z := 2) (by omega) (by omega)) ?_
  refine call_intro _ l2 ?_
  refine call_intro _ q1 ?_
  refine call_intro _ r1 ?_
  refine side_intro rfl ?_
  refine call_intro _ (fOf_spec (z := 1) (by omega) (by omega)) ?_
  refine call_intro _ o1 ?_
  refine call_intro _ q2 ?_
  refine side_intro rfl ?_
  refine call_intro _ (fOf_spec (z := 0) (by omega) (by omega)) ?_
  refine call_intro _ ev ?_
  refine side_intro rfl ?_
  refine split_true rfl ?_
  refine split_true rfl ?_
  refine split_true rfl ?_
  refine call_intro _ o2 ?_
  refine call_intro _ sm ?_
  refine split_true rfl ?_
  refine call_intro _ ze ?_
  exact ret_intro rfl rfl
end Go.Proofs.Ytolkecnhncbkhaa.Fw

/- Tables of sizes for the law of values. -/
set_option linter.unusedVariables false
namespace Go.Proofs.Ytolkecnhncbkhaa.Fw
open Go Pu
def TVa : List Nat := [0, 0, 192]
theorem TVa_ln : TVa.length ≤ 100 := by decide
theorem TVa_w : wChk TVa 8589934592 = true := by decide +kernel
def TVb : List Nat := [385, 964, 192]
theorem TVb_ln : TVb.length ≤ 100 := by decide
theorem TVa_TVb : nChk TVa TVb = true := by decide +kernel
theorem TVb_t : tChk TVb 8589934592 = true := by decide +kernel
theorem TVb_t6 : tChk TVb 1000000 = true := by decide +kernel
def TVc : List Nat := [3, 4, 197, 198, 391]
theorem TVc_ln : TVc.length ≤ 100 := by decide
theorem TVa_TVa_TVc : mChk TVa TVa TVc = true := by decide +kernel
theorem TVc_w : wChk TVc 8589934592 = true := by decide +kernel
def TVd : List Nat := [783, 1959, 6271, 19207, 391]
theorem TVd_ln : TVd.length ≤ 100 := by decide
theorem TVc_TVd : nChk TVc TVd = true := by decide +kernel
theorem TVd_w : wChk TVd 8589934592 = true := by decide +kernel
theorem TVd_t : tChk TVd 8589934592 = true := by decide +kernel
def TVg : List Nat := [38415, 96039, 307327, 19207, 391]
theorem TVg_ln : TVg.length ≤ 100 := by decide
theorem TVd_TVg : nChk TVd TVg = true := by decide +kernel
theorem TVg_t6 : tChk TVg 1000000 = true := by decide +kernel
def TVe : List Nat := [388, 968, 969, 1162, 391]
theorem TVe_ln : TVe.length ≤ 100 := by decide
theorem TVa_TVb_TVe : mChk TVa TVb TVe = true := by decide +kernel
theorem TVe_w : wChk TVe 8589934592 = true := by decide +kernel
def TVf : List Nat := [2325, 5814, 18607, 19207, 391]
theorem TVf_ln : TVf.length ≤ 100 := by decide
theorem TVe_TVf : nChk TVe TVf = true := by decide +kernel
theorem TVf_w : wChk TVf 8589934592 = true := by decide +kernel
theorem TVf_t : tChk TVf 8589934592 = true := by decide +kernel
def TVh : List Nat := [38415, 96039, 307327, 19207, 391]
theorem TVh_ln : TVh.length ≤ 100 := by decide
theorem TVf_TVh : nChk TVf TVh = true := by decide +kernel
theorem TVh_t6 : tChk TVh 1000000 = true := by decide +kernel
end Go.Proofs.Ytolkecnhncbkhaa.Fw

/- The law RatfValues, walked. -/
set_option linter.unusedVariables false
namespace Go.Proofs.Ytolkecnhncbkhaa.Fw
open Go Pu
/-- A function has its value wherever one of its forms has one. -/
theorem val_of {X Y V W : List Rat} {x : Rat} (hY : trim Y ≠ []) (hW : trim W ≠ []) (h : Eqv X Y V W) (hx : pev W x ≠ 0) : pev (nd X Y) x ≠ 0 ∧ pev (nu X Y) x / pev (nd X Y) x = pev V x / pev W x := by
  obtain ⟨e1, e2⟩ := nrm_of_eqv hY hW h
  obtain ⟨k, k1, k2⟩ := nrm_spec (U := V) hW
  rw [e1, e2]
  have n1 : pev (nd V W) x ≠ 0 := fun e => hx (by rw [k2, e, Rat.mul_zero])
  refine ⟨n1, ?_⟩
  have g1 := Rat.div_mul_cancel (a := pev (nu V W) x) n1
  have g2 := Rat.div_mul_cancel (a := pev V x) hx
  have h1 := k1 x
  have h2 := k2 x
  have g3 : (pev (nu V W) x / pev (nd V W) x - pev V x / pev W x) * pev W x = 0 := by grind
  rcases Rat.mul_eq_zero.1 g3 with h4 | h4
  · grind
  · exact absurd h4 hx
theorem div_add {a b c d : Rat} (hb : b ≠ 0) (hd : d ≠ 0) : (a * d + c * b) / (b * d) = a / b + c / d := by
  have h1 := Rat.div_mul_cancel (a := a) hb
  have h2 := Rat.div_mul_cancel (a := c) hd
  have h3 := Rat.div_mul_cancel (a := a * d + c * b) (nz_mul hb hd)
  have h4 : ((a * d + c * b) / (b * d) - (a / b + c / d)) * (b * d) = 0 := by grind
  rcases Rat.mul_eq_zero.1 h4 with h5 | h5
  · grind
  · exact absurd h5 (nz_mul hb hd)
theorem div_mul' {a b c d : Rat} (hb : b ≠ 0) (hd : d ≠ 0) : (a * c) / (b * d) = a / b * (c / d) := by
  have h1 := Rat.div_mul_cancel (a := a) hb
  have h2 := Rat.div_mul_cancel (a := c) hd
  have h3 := Rat.div_mul_cancel (a := a * c) (nz_mul hb hd)
  have h4 : ((a * c) / (b * d) - (a / b * (c / d))) * (b * d) = 0 := by grind
  rcases Rat.mul_eq_zero.1 h4 with h5 | h5
  · grind
  · exact absurd h5 (nz_mul hb hd)
theorem Fz.neg1 {Q : List Nat} {U D : List Rat} (hz : Fz Q U D) : Fz Q (pscale (-1) U) D := by
  obtain ⟨n, a1, a2, a3, a4, K, d0, a5⟩ := hz
  refine ⟨n, a1, a2, by rw [psc_len]; exact a3, a4, K, d0, fun q hq => ?_⟩
  rcases List.mem_cons.1 hq with rfl | hq
  · exact a5 1 List.mem_cons_self
  · rcases List.mem_append.1 hq with hq | hq
    · obtain ⟨x, hx, rfl⟩ := List.mem_map.1 hq
      have := Iv_neg (a5 x (List.mem_cons_of_mem _ (List.mem_append_left _ hx)))
      rwa [show -x = -1 * x by grind] at this
    · exact a5 q (List.mem_cons_of_mem _ (List.mem_append_right _ hq))
theorem ne_of_val {Y : List Rat} {x : Rat} (h : pev Y x ≠ 0) : trim Y ≠ [] := fun e => h (by rw [← pev_trim, e]; rfl)
theorem Sz_quo {P : List Nat} {U D : List Rat} {x : Rat} (h : Fz P U D) (w : tChk P 1000000 = true) (lP : P.length ≤ 100) (hx : Sz 1000000 x) : Sz 1000000000 (pev U x / pev D x) := by
  obtain ⟨s1, s2, l1, l2⟩ := h.sz w
  have z1 := (pev_sz hx (by omega) _ s1).mono (show U.length * (2 * 1000000 + 1) + 1 ≤ 400000000 by omega)
  have z2 := (pev_sz hx (by omega) _ s2).mono (show D.length * (2 * 1000000 + 1) + 1 ≤ 400000000 by omega)
  exact (Sz_div z1 z2).mono (by omega)
set_option maxHeartbeats 4000000 in
theorem RatfValues_runs {u d v e : List FD} {c : FD} (hu : ∀ y ∈ u, Wd y.n ∧ Wd y.d) (hd : ∀ y ∈ d, Wd y.n ∧ Wd y.d) (hv : ∀ y ∈ v, Wd y.n ∧ Wd y.d) (he : ∀ y ∈ e, Wd y.n ∧ Wd y.d) (hc : Wd c.n ∧ Wd c.d)
    (mu : u.length ≤ maxLen) (md : d.length ≤ maxLen) (mv : v.length ≤ maxLen) (me : e.length ≤ maxLen) :
    Runs Try.prog g_retrospectlaw15_RatfValues [fv2 u d, fv2 v e, c.v] (.d (.bool true)) := by
  obtain ⟨b1, h1, n1⟩ := Long15_spec (m := 3) (k := 1) mu md (by omega)
  obtain ⟨b2, h2, n2⟩ := Long15_spec (m := 3) (k := 1) mv me (by omega)
  refine run1 [] p_retrospectlaw15_RatfValues rfl rfl (fun B S F0 w0 V0 => ?_)
  refine call_intro _ h1 ?_
  refine split_intro (fun g => ?_) (fun g => ?_)
  · refine split_true rfl ?_
    refine split_true rfl ?_
    refine call_intro _ works15 ?_
    exact ret_intro rfl rfl
  obtain ⟨bu, bd⟩ := n1 g
  refine call_intro _ h2 ?_
  refine split_intro (fun g => ?_) (fun g => ?_)
  · refine split_true rfl ?_
    refine call_intro _ works15 ?_
    exact ret_intro rfl rfl
  obtain ⟨bv, be⟩ := n2 g
  refine call_intro _ (LongD (x := c)) ?_
  refine split_intro (fun g => ?_) (fun g => ?_)
  · refine call_intro _ works15 ?_
    exact ret_intro rfl rfl
  obtain ⟨c1, c2⟩ := longOr g
  have oc : c.ok 1 := ⟨hc.1, hc.2, by omega, by omega⟩
  have oc6 : c.ok 1000000 := oc.mono (by omega)
  have sc6 := oc6.sz (by omega)
  have hx : In 1 TVa u d := In_raw (n := 3) (by omega) (by omega) (by omega) (by decide) TVa_ln hu hd bu bd (by decide)
  have hy : In 1 TVa v e := In_raw (n := 3) (by omega) (by omega) (by omega) (by decide) TVa_ln hv he bv be (by decide)
  have nD := qD_ne u d
  have nE := qD_ne v e
  obtain ⟨U, eU⟩ : ∃ U, U = qU u d := ⟨_, rfl⟩
  obtain ⟨D, eD⟩ : ∃ D, D = qD u d := ⟨_, rfl⟩
  obtain ⟨V, eV⟩ : ∃ V, V = qU v e := ⟨_, rfl⟩
  obtain ⟨E, eE⟩ : ∃ E, E = qD v e := ⟨_, rfl⟩
  have fx := hx.q
  have fy := hy.q
  have v1 := fEval_spec2 hx TVa_w TVa_TVb TVb_t6 TVb_ln oc6
  have v2 := fEval_spec2 hy TVa_w TVa_TVb TVb_t6 TVb_ln oc6
  have r1 := fAdd_spec2 hx hy TVa_TVa_TVc TVc_w TVc_ln
  have r2 := fSub_spec2 hx hy TVa_w TVa_TVb TVb_t TVb_ln TVa_TVb_TVe TVe_w TVe_ln
  have r3 := fMul_spec2 hx hy TVa_TVa_TVc TVc_w TVc_ln
  rw [← eU, ← eD] at v1 fx
  rw [← eV, ← eE] at v2 fy
  rw [← eU, ← eD, ← eV, ← eE] at r1 r2 r3
  rw [← eD] at nD
  rw [← eE] at nE
  have nDE := mul_ne nD nE
  have ndY : trim (nd V E) ≠ [] := by rw [nd_trim]; exact nd_ne nE
  have nDY := mul_ne nD ndY
  have fm := Fz.mul fx fy TVa_TVa_TVc
  have i1 := ret_nrm (K := 8589934592) fm.2.1 nDE TVc_TVd (by omega) TVd_t TVd_ln
  have i3 := ret_nrm (K := 8589934592) fm.1 nDE TVc_TVd (by omega) TVd_t TVd_ln
  have fn := (fy.nrm nE TVa_TVb).neg1
  have i2 := ret_nrm (K := 8589934592) (Fz.mul fx fn TVa_TVb_TVe).2.1 nDY TVe_TVf (by omega) TVf_t TVf_ln
  have w1 := fEval_spec2 i1 TVd_w TVd_TVg TVg_t6 TVg_ln oc6
  have w3 := fEval_spec2 i3 TVd_w TVd_TVg TVg_t6 TVg_ln oc6
  have w2 := fEval_spec2 i2 TVf_w TVf_TVh TVh_t6 TVh_ln oc6
  rw [qU_nrm nDE, qD_nrm nDE, (nrm_idem nDE).1, (nrm_idem nDE).2] at w1 w3
  rw [qU_nrm nDY, qD_nrm nDY, (nrm_idem nDY).1, (nrm_idem nDY).2] at w2
  obtain ⟨z, ez⟩ : ∃ z, z = c.q := ⟨_, rfl⟩
  rw [← ez] at v1 v2 w1 w2 w3 sc6
  refine call_intro _ (fTo_spec2 (by omega) (by omega)) ?_
  refine call_intro _ (fTo_spec2 (by omega) (by omega)) ?_
  refine call_intro _ (ToD (x := c)) ?_
  by_cases a0 : pev (nd U D) z = 0
  · rw [if_pos a0] at v1
    by_cases b0 : pev (nd V E) z = 0
    · rw [if_pos b0] at v2
      refine call_intro _ v1 ?_
      refine call_intro _ v2 ?_
      refine split_true rfl ?_
      refine split_true rfl ?_
      refine call_intro _ works15 ?_
      exact ret_intro rfl rfl
    · rw [if_neg b0] at v2
      refine call_intro _ v1 ?_
      refine call_intro _ v2 ?_
      refine split_true rfl ?_
      refine split_true rfl ?_
      refine call_intro _ works15 ?_
      exact ret_intro rfl rfl
  rw [if_neg a0] at v1
  by_cases b0 : pev (nd V E) z = 0
  · rw [if_pos b0] at v2
    refine call_intro _ v1 ?_
    refine call_intro _ v2 ?_
    refine split_false rfl ?_
    refine split_true rfl ?_
    refine call_intro _ works15 ?_
    exact ret_intro rfl rfl
  rw [if_neg b0] at v2
  have zm := Sz_quo (fx.nrm nD TVa_TVb) TVb_t6 TVb_ln sc6
  have zn := Sz_quo (fy.nrm nE TVa_TVb) TVb_t6 TVb_ln sc6
  have d0 : pev (pmul (nd U D) (nd V E)) z ≠ 0 := by rw [pev_pmul]; exact nz_mul a0 b0
  have dW := ne_of_val d0
  obtain ⟨s1, s2⟩ := val_of nDE dW (add_eqv (nrm_eqv nD).symm (nrm_eqv nE).symm) d0
  obtain ⟨t1, t2⟩ := val_of nDY dW (add_eqv (nrm_eqv nD).symm (Eqv.refl (pscale (-1) (nu V E)) (nd V E))) d0
  obtain ⟨p1, p2⟩ := val_of nDE dW (mul_eqv (nrm_eqv nD).symm (nrm_eqv nE).symm) d0
  rw [if_neg s1] at w1
  rw [if_neg t1] at w2
  rw [if_neg p1] at w3
  rw [aU_ev, pev_pmul, div_add a0 b0] at s2
  rw [aU_ev, pev_pmul, div_add a0 b0, pev_pscale] at t2
  rw [pev_pmul, pev_pmul, div_mul' a0 b0] at p2
  obtain ⟨m, em⟩ : ∃ m, m = pev (nu U D) z / pev (nd U D) z := ⟨_, rfl⟩
  obtain ⟨n, en⟩ : ∃ n, n = pev (nu V E) z / pev (nd V E) z := ⟨_, rfl⟩
  have t3 : -1 * pev (nu V E) z / pev (nd V E) z = -n := by rw [en, Rat.div_def, Rat.div_def]; grind
  rw [← em, ← en] at s2 p2
  rw [← em, t3, ← sub_eq] at t2
  rw [← em] at v1 zm
  rw [← en] at v2 zn
  rw [s2] at w1
  rw [t2] at w2
  rw [p2] at w3
  have za := Sz_add zm zn
  have zb := Sz_sub zm zn
  have zc := Sz_mul zm zn
  have g1 := dAdd (FD.ok_of zm) (FD.ok_of zn) (by omega) (by omega)
  have g2 := dSub (FD.ok_of zm) (FD.ok_of zn) (by omega) (by omega)
  have g3 := dMul (FD.ok_of zm) (FD.ok_of zn) (by omega) (by omega)
  rw [FD.q_of, FD.q_of] at g1 g2 g3
  have k1 := dSame (FD.ok_of za) (FD.ok_of za) (by omega) (by omega)
  have k2 := dSame (FD.ok_of zb) (FD.ok_of zb) (by omega) (by omega)
  have k3 := dSame (FD.ok_of zc) (FD.ok_of zc) (by omega) (by omega)
  rw [decide_eq_true rfl] at k1 k2 k3
  have sg := dSign (FD.ok_of zn) (by omega) (by omega)
  rw [FD.q_of] at sg
  refine call_intro _ v1 ?_
  refine call_intro _ v2 ?_
  refine split_false rfl ?_
  refine split_false rfl ?_
  refine side_intro rfl ?_
  refine call_intro _ r1 ?_
  refine call_intro _ w1 ?_
  refine side_intro rfl ?_
  refine call_intro _ r2 ?_
  refine call_intro _ w2 ?_
  refine side_intro rfl ?_
  refine call_intro _ r3 ?_
  refine call_intro _ w3 ?_
  refine side_intro rfl ?_
  refine split_false rfl ?_
  refine split_false rfl ?_
  refine split_false rfl ?_
  refine call_intro _ g1 ?_
  refine call_intro _ k1 ?_
  refine split_false rfl ?_
  refine call_intro _ g2 ?_
  refine call_intro _ k2 ?_
  refine split_false rfl ?_
  refine call_intro _ g3 ?_
  refine call_intro _ k3 ?_
  refine split_false rfl ?_
  refine call_intro _ sg ?_
  refine split_intro (fun h => ?_) (fun h => ?_)
  · refine call_intro _ works15 ?_
    exact ret_intro rfl rfl
  have h : sgn n.num ≠ 0 := by
    have h : (sgn n.num == 0) = false := h
    simpa using h
  have nz : n ≠ 0 := fun e => h (by rw [e]; rfl)
  have nv : pev (nu V E) z ≠ 0 := fun e => nz (by rw [en, e, Rat.div_def, Rat.zero_mul])
  have hV : trim V ≠ [] := fun e => nv (by rw [nu_zero e nE]; rfl)
  have nDV := mul_ne nD hV
  have r4 := fQuo_spec2 hx hy TVa_TVa_TVc TVc_w TVc_ln (by rw [← eV]; exact hV)
  rw [← eU, ← eD, ← eV, ← eE] at r4
  have i4 := ret_nrm (K := 8589934592) fm.2.2.1 nDV TVc_TVd (by omega) TVd_t TVd_ln
  have w4 := fEval_spec2 i4 TVd_w TVd_TVg TVg_t6 TVg_ln oc6
  rw [qU_nrm nDV, qD_nrm nDV, (nrm_idem nDV).1, (nrm_idem nDV).2, ← ez] at w4
  have d4 : pev (pmul (nd U D) (nu V E)) z ≠ 0 := by rw [pev_pmul]; exact nz_mul a0 nv
  obtain ⟨u1, u2⟩ := val_of nDV (ne_of_val d4) (quo_eqv (nrm_eqv nD).symm (nrm_eqv nE).symm) d4
  rw [if_neg u1, u2, pev_pmul, pev_pmul] at w4
  obtain ⟨q, eq⟩ : ∃ q, q = pev (nu U D) z * pev (nd V E) z / (pev (nd U D) z * pev (nu V E) z) := ⟨_, rfl⟩
  rw [← eq] at w4
  have qn : q * n = m := by
    have f1 := Rat.div_mul_cancel (a := pev (nu U D) z) a0
    have f2 := Rat.div_mul_cancel (a := pev (nu V E) z) b0
    have f3 := Rat.div_mul_cancel (a := pev (nu U D) z * pev (nd V E) z) (nz_mul a0 nv)
    rw [← em] at f1
    rw [← en] at f2
    rw [← eq] at f3
    have f4 : (q * n - m) * (pev (nd U D) z * pev (nd V E) z) = 0 := by grind
    rcases Rat.mul_eq_zero.1 f4 with f5 | f5
    · grind
    · exact absurd f5 (nz_mul a0 b0)
  have eqm : q = m / n := by rw [← qn, Rat.mul_div_cancel nz]
  have zq := Sz_div zm zn
  rw [← eqm] at zq
  have g4 := dMul (FD.ok_of zq) (FD.ok_of (zn.mono (show 1000000000 ≤ 1000000000 + 1000000000 by omega))) (by omega) (by omega)
  rw [FD.q_of, FD.q_of, qn] at g4
  have k4 := dSame (FD.ok_of zm) (FD.ok_of zm) (by omega) (by omega)
  rw [decide_eq_true rfl] at k4
  refine call_intro _ r4 ?_
  refine call_intro _ w4 ?_
  refine side_intro rfl ?_
  refine split_true rfl ?_
  refine split_true rfl ?_
  refine call_intro _ g4 ?_
  refine call_intro _ k4 ?_
  refine split_true rfl ?_
  refine call_intro _ works15 ?_
  exact ret_intro rfl rfl
theorem RatfValues_typed {x y z : List D} (h0 : AllR OkD [shR, shR] x) (h1 : AllR OkD [shR, shR] y) (h2 : AllR OkD shF z) : Runs Try.prog g_retrospectlaw15_RatfValues [.agg [shR, shR].length x, .agg [shR, shR].length y, .agg shF.length z] (.d (.bool true)) := by
  obtain ⟨u, d, rfl, hu, hd, mu, md⟩ := inv_fun h0
  obtain ⟨v, e, rfl, hv, he, mv, me⟩ := inv_fun h1
  obtain ⟨c, rfl, hc, hc', _⟩ := inv_frac h2
  exact RatfValues_runs hu hd hv he ⟨hc, hc'⟩ mu md mv me
end Go.Proofs.Ytolkecnhncbkhaa.Fw
