/- Texts of the proof, one after the other: UC DR UD. -/
import Derived.Test.YtolkecnhncbkhaaM5
set_option linter.unusedSimpArgs false
set_option linter.unusedVariables false
/- Functions of two polynomials: the chapter's examples, what is too long, handed over, walked. -/
set_option linter.unusedVariables false
namespace Go.Proofs.Ytolkecnhncbkhaa.Fw
open Go Pu
theorem nrm_idem {X Y : List Rat} (hY : trim Y ≠ []) : nu (nu X Y) (nd X Y) = nu X Y ∧ nd (nu X Y) (nd X Y) = nd X Y :=
  nrm_of_eqv (by rw [nd_trim]; exact nd_ne hY) hY (nrm_eqv hY)
theorem nu_zero {X Y : List Rat} (hX : trim X = []) (hY : trim Y ≠ []) : nu X Y = [] := by
  obtain ⟨h, h1, h2⟩ := nrm_spec (U := X) hY
  have hh : trim h ≠ [] := fun e => hY (by
    have : trim Y = trim [] := trim_of_vals (fun x => by rw [h2, ← pev_trim h, e]; show (0 : Rat) * _ = 0; grind)
    exact this)
  have := trim_of_vals (a := nu X Y) (b := []) (fun x => dom hh (fun x => by
    have := h1 x
    rw [← pev_trim X, hX, pev_nil] at this
    grind) x)
  rw [nu_trim hY] at this
  exact this
theorem nu_zero_iff {X Y : List Rat} (hY : trim Y ≠ []) : nu X Y = [] ↔ trim X = [] := by
  constructor
  · intro e
    obtain ⟨h, h1, h2⟩ := nrm_spec (U := X) hY
    have : trim X = trim [] := trim_of_vals (fun x => by rw [h1, e, pev_nil, Rat.mul_zero])
    exact this
  · exact fun h => nu_zero h hY
theorem fTo_spec2 {u d : List FD} (lu : u.length ≤ 1000000) (ld : d.length ≤ 1000000) : Runs Try.prog g_retrospectlaw15_To [fv2 u d] (fv2 u d) := by
  refine run1 [] p_retrospectlaw15_To rfl rfl (fun B S F0 w0 V0 => ?_)
  refine side_intro rfl ?_
  refine call_intro _ (To11_spec lu) ?_
  refine call_intro _ (To11_spec ld) ?_
  exact ret_intro rfl rfl
theorem Long15_spec {u d : List FD} {m : Nat} {k : Int} (lu : u.length ≤ maxLen) (ld : d.length ≤ maxLen) (hm : m ≤ 1000000) : ∃ b : Bool, Runs Try.prog g_retrospectref15_Long [fv2 u d, .d (.int .i64 (m : Int)), .d (.int .i64 k)] (.d (.bool b)) ∧
    (b = false → (u.length ≤ m ∧ ∀ x ∈ u, (x.n.length : Int) ≤ k ∧ (x.d.length : Int) ≤ k) ∧ (d.length ≤ m ∧ ∀ x ∈ d, (x.n.length : Int) ≤ k ∧ (x.d.length : Int) ≤ k)) := by
  obtain ⟨b1, h1, n1⟩ := Long11_spec (l := u) (m := m) (k := k) lu hm
  obtain ⟨b2, h2, n2⟩ := Long11_spec (l := d) (m := m) (k := k) ld hm
  cases b1 with
  | true =>
    refine ⟨true, run1 [] p_retrospectref15_Long rfl rfl (fun B S F0 w0 V0 => ?_), fun h => by cases h⟩
    refine call_intro _ h1 ?_
    refine split_true rfl ?_
    exact ret_intro rfl rfl
  | false =>
    refine ⟨b2, run1 [] p_retrospectref15_Long rfl rfl (fun B S F0 w0 V0 => ?_), fun h => ⟨n1 rfl, n2 h⟩⟩
    refine call_intro _ h1 ?_
    refine split_false rfl ?_
    refine call_intro _ h2 ?_
    exact ret_intro rfl rfl
theorem inv_fun {ds : List D} (h : AllR OkD [shR, shR] ds) : ∃ u d : List FD, ds = [rowsF u, rowsF d] ∧ (∀ y ∈ u, Wd y.n ∧ Wd y.d) ∧ (∀ y ∈ d, Wd y.n ∧ Wd y.d) ∧ u.length ≤ maxLen ∧ d.length ≤ maxLen := by
  obtain ⟨u0, t0, e0, a0, h⟩ := h.head
  obtain ⟨u1, t1, e1, a1, h⟩ := h.head
  obtain rfl := h.nil_of
  obtain ⟨u, rfl, hu, mu⟩ := inv_fracs a0
  obtain ⟨d, rfl, hd, md⟩ := inv_fracs a1
  exact ⟨u, d, by rw [e0, e1], fun y hy => ⟨(hu y hy).1, (hu y hy).2.1⟩, fun y hy => ⟨(hd y hy).1, (hd y hy).2.1⟩, mu, md⟩
/-- A function of at most so many small coefficients. -/
theorem In_raw {P : List Nat} {n k : Nat} {u d : List FD} (h1 : 1 ≤ n) (hk : 1 ≤ k) (hk2 : k ≤ 8589934592) (hP : n ≤ P.length) (lP : P.length ≤ 100) (hu : ∀ y ∈ u, Wd y.n ∧ Wd y.d) (hd : ∀ y ∈ d, Wd y.n ∧ Wd y.d)
    (bu : u.length ≤ n ∧ ∀ x ∈ u, (x.n.length : Int) ≤ (k : Int) ∧ (x.d.length : Int) ≤ (k : Int)) (bd : d.length ≤ n ∧ ∀ x ∈ d, (x.n.length : Int) ≤ (k : Int) ∧ (x.d.length : Int) ≤ (k : Int)) (hs : 64 * k * n ≤ tb P n) : In k P u d := by
  have ou : ∀ x ∈ u, x.ok k := fun x hx => ⟨(hu x hx).1, (hu x hx).2, by have := (bu.2 x hx).1; omega, by have := (bu.2 x hx).2; omega⟩
  have od : ∀ x ∈ d, x.ok k := fun x hx => ⟨(hd x hx).1, (hd x hx).2, by have := (bd.2 x hx).1; omega, by have := (bd.2 x hx).2; omega⟩
  refine ⟨hk, hk2, lP, ou, od, n, h1, hP, by rw [Qs_len]; exact bu.1, by rw [Qs_len]; exact bd.1, ?_⟩
  refine (Cz_of (k := k) (l := Qs u ++ Qs d) (fun q hq => ?_)).mono ?_
  · rcases List.mem_append.1 hq with hq | hq
    · exact Sz_Qs ou hk q hq
    · exact Sz_Qs od hk q hq
  · rw [List.length_append, Qs_len, Qs_len]
    refine Nat.le_trans ?_ hs
    have := Nat.mul_le_mul_left (32 * k) (show u.length + d.length ≤ 2 * n by omega)
    have e : 32 * k * (2 * n) = 64 * k * n := by rw [← Nat.mul_assoc, show 32 * k * 2 = 64 * k by omega]
    omega
theorem Fz_small {P : List Nat} {n : Nat} {U D : List Rat} (h1 : 1 ≤ n) (hP : n ≤ P.length) (lu : U.length ≤ n) (ld : D.length ≤ n) {K : Rat} (hK : K ≠ 0) (h : ∀ q ∈ 1 :: (U ++ D), Iv K (tb P n) q) : Fz P U D := ⟨n, h1, hP, lu, ld, K, hK, h⟩
theorem Iv12 {q : Rat} (n : Int) (hn : n.natAbs ≤ 4) {K : Rat} (h : q * K = (n : Rat)) : Iv K (tb Xw1 2) q := ⟨n, hn, h⟩
theorem o1_ne : trim [(1 : Rat)] ≠ [] := by rw [trim_one]; exact fun e => by cases e
set_option maxHeartbeats 1000000 in
theorem works15 : Runs Try.prog g_retrospectlaw15_works [] (.d (.bool true)) := by
  have s0 : Sz 1 (i2q 0) := sz_i2q (by decide)
  have s1 : Sz 1 (i2q 1) := sz_i2q (by decide)
  have s2 : Sz 1 (i2q 2) := sz_i2q (by decide)
  have l1 := fLine_spec2 (FD.ok_of s0) (FD.ok_of s1) (by omega) (by omega)
  have l2 := fLine_spec2 (FD.ok_of s0) (FD.ok_of s2) (by omega) (by omega)
  rw [FD.q_of, FD.q_of] at l1 l2
  have e1 : trim [i2q 0, i2q 1] = [0, 1] := by decide +kernel
  have e2 : trim [i2q 0, i2q 2] = [0, 2] := by decide +kernel
  rw [e1] at l1
  rw [e2] at l2
  have f1 : Fz Xw1 [0, 1] [1] := Fz_small (n := 2) (by omega) (by decide) (by decide) (by decide) (K := 1) (by decide) (fun q hq => by
    simp only [List.cons_append, List.nil_append, List.mem_cons, List.not_mem_nil, or_false] at hq
    rcases hq with rfl | rfl | rfl | rfl
    · exact Iv12 1 (by decide) (by decide +kernel)
    · exact Iv12 0 (by decide) (by decide +kernel)
    · exact Iv12 1 (by decide) (by decide +kernel)
    · exact Iv12 1 (by decide) (by decide +kernel))
  have f2 : Fz Xw1 [0, 2] [1] := Fz_small (n := 2) (by omega) (by decide) (by decide) (by decide) (K := 1) (by decide) (fun q hq => by
    simp only [List.cons_append, List.nil_append, List.mem_cons, List.not_mem_nil, or_false] at hq
    rcases hq with rfl | rfl | rfl | rfl
    · exact Iv12 1 (by decide) (by decide +kernel)
    · exact Iv12 0 (by decide) (by decide +kernel)
    · exact Iv12 2 (by decide) (by decide +kernel)
    · exact Iv12 1 (by decide) (by decide +kernel))
  have f3 : Fz Xw1 [1] [1] := Fz_small (n := 2) (by omega) (by decide) (by decide) (by decide) (K := 1) (by decide) (fun q hq => by
    simp only [List.cons_append, List.nil_append, List.mem_cons, List.not_mem_nil, or_false] at hq
    rcases hq with rfl | rfl | rfl <;> exact Iv12 1 (by decide) (by decide +kernel))
  have f4 : Fz Xw1 [((1 : Int) : Rat) / ((2 : Int) : Rat)] [1] := Fz_small (n := 2) (by omega) (by decide) (by decide) (by decide) (K := 2) (by decide) (fun q hq => by
    simp only [List.cons_append, List.nil_append, List.mem_cons, List.not_mem_nil, or_false] at hq
    rcases hq with rfl | rfl | rfl
    · exact Iv12 2 (by decide) (by decide +kernel)
    · exact Iv12 1 (by decide) (by decide +kernel)
    · exact Iv12 2 (by decide) (by decide +kernel))
  have i1 := In_Fs (K := 8589934592) (by omega) Xw1_ln Xw1_t f1
  have i2 := In_Fs (K := 8589934592) (by omega) Xw1_ln Xw1_t f2
  have i3 := In_Fs (K := 8589934592) (by omega) Xw1_ln Xw1_t f3
  have i4 := In_Fs (K := 8589934592) (by omega) Xw1_ln Xw1_t f4
  have t01 : trim [(0 : Rat), 1] = [0, 1] := by decide +kernel
  have t02 : trim [(0 : Rat), 2] = [0, 2] := by decide +kernel
  have n01 : trim [(0 : Rat), 1] ≠ [] := by rw [t01]; exact fun e => by cases e
  have n02 : trim [(0 : Rat), 2] ≠ [] := by rw [t02]; exact fun e => by cases e
  have q1 := fQuo_spec2 i1 i2 Xw1_Xw1_Xw2 Xw2_w Xw2_ln (by rw [qU_Fs o1_ne]; exact n02)
  have q2 := fQuo_spec2 i3 i1 Xw1_Xw1_Xw2 Xw2_w Xw2_ln (by rw [qU_Fs o1_ne]; exact n01)
  rw [qU_Fs o1_ne, qD_Fs o1_ne, qU_Fs o1_ne, qD_Fs o1_ne] at q1 q2
  have y1 : trim (pmul [(1 : Rat)] [0, 2]) ≠ [] := mul_ne o1_ne n02
  have y2 : trim (pmul [(1 : Rat)] [0, 1]) ≠ [] := mul_ne o1_ne n01
  have z1 := (Fz.mul f1 f2 Xw1_Xw1_Xw2).2.2.1
  have z2 := (Fz.mul f3 f1 Xw1_Xw1_Xw2).2.2.1
  have j1 := ret_nrm (K := 8589934592) z1 y1 Xw2_Xw3 (by omega) Xw3_t Xw3_ln
  have j2 := ret_nrm (K := 8589934592) z2 y2 Xw2_Xw3 (by omega) Xw3_t Xw3_ln
  have r1 := fRatio_spec (x := 1) (y := 2) (by omega) (by omega) (by omega) (by omega)
  rw [if_neg (by omega)] at r1
  have sh : Sz 2 (((1 : Int) : Rat) / ((2 : Int) : Rat)) := Sz_div s1 s2
  have o1 := fOf_spec2 (c := FD.of (i2q 1)) (FD.ok_of s1) (by omega) (by omega)
  have o2 := fOf_spec2 (FD.ok_of sh) (by omega) (by omega)
  rw [FD.q_of] at o1 o2
  have e3 : trim [i2q 1] = [1] := by decide +kernel
  have e4 : trim [((1 : Int) : Rat) / ((2 : Int) : Rat)] = [((1 : Int) : Rat) / ((2 : Int) : Rat)] := by decide +kernel
  rw [e3] at o1
  rw [e4] at o2
  have sm := fSame_spec2 j1 i4 Xw3_Xw1_Xw4 Xw4_t Xw4_ln
  rw [qU_nrm y1, qD_nrm y1, qU_Fs o1_ne, qD_Fs o1_ne] at sm
  have es : trim (pmul (nu (pmul [0, 1] [1]) (pmul [1] [0, 2])) [1]) = trim (pmul [((1 : Int) : Rat) / ((2 : Int) : Rat)] (nd (pmul [0, 1] [1]) (pmul [1] [0, 2]))) := trim_of_vals (cancel n01 (fun x => by
    have h := nrm_eqv (X := pmul [(0 : Rat), 1] [1]) y1 x
    simp only [pev_pmul, pev_cons, pev_nil] at h ⊢
    have e5 : ((1 : Int) : Rat) / ((2 : Int) : Rat) * 2 = 1 := by decide +kernel
    grind))
  rw [decide_eq_true es] at sm
  have ze := fZero_spec2 j2
  rw [qU_nrm y2, nu_trim y2] at ze
  have en : nu (pmul [(1 : Rat)] [1]) (pmul [1] [0, 1]) ≠ [] := fun e => mul_ne o1_ne o1_ne ((nu_zero_iff y2).1 e)
  rw [decide_eq_false en] at ze
  have ev := fEval_spec2 (z := FD.of (i2q 0)) j2 Xw3_w Xw3_Xw5 Xw5_t Xw5_ln ((FD.ok_of s0).mono (by omega))
  rw [qU_nrm y2, qD_nrm y2, (nrm_idem y2).1, (nrm_idem y2).2, FD.q_of] at ev
  have e0 : pev (nd (pmul [(1 : Rat)] [1]) (pmul [1] [0, 1])) (i2q 0) = 0 := by
    have h := nrm_eqv (X := pmul [(1 : Rat)] [1]) y2 (i2q 0)
    simp only [pev_pmul, pev_cons, pev_nil] at h
    have e6 : i2q 0 = 0 := rfl
    rw [e6] at h ⊢
    grind
  rw [if_pos e0] at ev
  refine run1 [] p_retrospectlaw15_works rfl rfl (fun B S F0 w0 V0 => ?_)
  refine call_intro _ (fOf_spec (z := 0) (by omega) (by omega)) ?_
  refine call_intro _ (fOf_spec (z := 1) (by omega) (by omega)) ?_
  refine call_intro _ l1 ?_
  refine side_intro rfl ?_
  refine call_intro _ (fOf_spec (z := 0) (by omega) (by omega)) ?_
  refine call_intro _ (fOf_spec (z := 2) (by omega) (by omega)) ?_
  refine call_intro _ l2 ?_
  refine call_intro _ q1 ?_
  refine call_intro _ r1 ?_
  refine side_intro rfl ?_
  refine call_intro _ (fOf_spec (z := 1) (by omega) (by omega)) ?_
  refine call_intro _ o1 ?_
  refine call_intro _ q2 ?_
  refine side_intro rfl ?_
  refine call_intro _ (fOf_spec (z := 0) (by omega) (by omega)) ?_
  refine call_intro _ ev ?_
  refine side_intro rfl ?_
  refine split_true rfl ?_
  refine split_true rfl ?_
  refine split_true rfl ?_
  refine call_intro _ o2 ?_
  refine call_intro _ sm ?_
  refine split_true rfl ?_
  refine call_intro _ ze ?_
  exact ret_intro rfl rfl
end Go.Proofs.Ytolkecnhncbkhaa.Fw

/- Tables of sizes for the law of derivatives. -/
set_option linter.unusedVariables false
namespace Go.Proofs.Ytolkecnhncbkhaa.Fw
open Go Pu
def TLa : List Nat := [0, 0, 192]
theorem TLa_ln : TLa.length ≤ 100 := by decide
theorem TLa_t : tChk TLa 8589934592 = true := by decide +kernel
def TLb : List Nat := [3, 0, 5, 0, 391]
theorem TLb_ln : TLb.length ≤ 100 := by decide
theorem TLa_TLb : dChk TLa TLb = true := by decide +kernel
theorem TLb_t9 : tChk TLb 1000000000 = true := by decide +kernel
theorem TLb_w : wChk TLb 8589934592 = true := by decide +kernel
def TLc : List Nat := [783, 1959, 6271, 19207, 391]
theorem TLc_ln : TLc.length ≤ 100 := by decide
theorem TLb_TLc : nChk TLb TLc = true := by decide +kernel
theorem TLc_t : tChk TLc 8589934592 = true := by decide +kernel
def TLd : List Nat := [3, 4, 197, 198, 391]
theorem TLd_ln : TLd.length ≤ 100 := by decide
theorem TLa_TLa_TLd : mChk TLa TLa TLd = true := by decide +kernel
theorem TLd_w : wChk TLd 8589934592 = true := by decide +kernel
def TLe : List Nat := [783, 1959, 6271, 19207, 391]
theorem TLe_ln : TLe.length ≤ 100 := by decide
theorem TLd_TLe : nChk TLd TLe = true := by decide +kernel
theorem TLe_t : tChk TLe 100000000 = true := by decide +kernel
def TLf : List Nat := [1569, 0, 3923, 0, 12549, 0, 38423, 0, 793]
theorem TLf_ln : TLf.length ≤ 100 := by decide
theorem TLe_TLf : dChk TLe TLf = true := by decide +kernel
theorem TLf_t9 : tChk TLf 1000000000 = true := by decide +kernel
theorem TLf_w : wChk TLf 8589934592 = true := by decide +kernel
def TLg : List Nat := [76847, 192119, 614783, 1882775, 5609903, 16176503, 940095, 2592409, 793]
theorem TLg_ln : TLg.length ≤ 100 := by decide
theorem TLf_TLg : nChk TLf TLg = true := by decide +kernel
theorem TLg_t : tChk TLg 8589934592 = true := by decide +kernel
def TLh : List Nat := [1569, 2746, 7059, 19996, 21173, 25486, 38423, 19608, 793]
theorem TLh_ln : TLh.length ≤ 100 := by decide
theorem TLc_TLc_TLh : mChk TLc TLc TLh = true := by decide +kernel
theorem TLh_w : wChk TLh 8589934592 = true := by decide +kernel
def TLi : List Nat := [76847, 192119, 614783, 1882775, 5609903, 16176503, 23217055, 2592409, 793]
theorem TLi_ln : TLi.length ≤ 100 := by decide
theorem TLh_TLi : nChk TLh TLi = true := by decide +kernel
theorem TLi_t : tChk TLi 8589934592 = true := by decide +kernel
def TLj : List Nat := [153697, 268970, 691635, 1959628, 5686757, 16253358, 23293911, 23409184, 23831849, 25099842, 32353019, 39393572, 24157165, 25809480, 23217865, 2593220, 1605]
theorem TLj_ln : TLj.length ≤ 100 := by decide
theorem TLg_TLi_TLj : mChk TLg TLi TLj = true := by decide +kernel
theorem TLj_t : tChk TLj 8589934592 = true := by decide +kernel
def TLk : List Nat := [786, 1963, 6276, 19213, 19214, 19407, 592]
theorem TLk_ln : TLk.length ≤ 100 := by decide
theorem TLc_TLa_TLk : mChk TLc TLa TLk = true := by decide +kernel
theorem TLk_w : wChk TLk 8589934592 = true := by decide +kernel
def TLl : List Nat := [38815, 97039, 310527, 950991, 2833567, 249652, 592]
theorem TLl_ln : TLl.length ≤ 100 := by decide
theorem TLk_TLl : nChk TLk TLl = true := by decide +kernel
theorem TLl_t : tChk TLl 8589934592 = true := by decide +kernel
def TLk2 : List Nat := [786, 1963, 6276, 19213, 19214, 19407, 592]
theorem TLk2_ln : TLk2.length ≤ 100 := by decide
theorem TLa_TLc_TLk2 : mChk TLa TLc TLk2 = true := by decide +kernel
theorem TLk2_w : wChk TLk2 8589934592 = true := by decide +kernel
def TLl2 : List Nat := [38815, 97039, 310527, 950991, 2833567, 249652, 592]
theorem TLl2_ln : TLl2.length ≤ 100 := by decide
theorem TLk2_TLl2 : nChk TLk2 TLl2 = true := by decide +kernel
theorem TLl2_t : tChk TLl2 8589934592 = true := by decide +kernel
def TLm : List Nat := [77633, 135858, 349347, 989812, 2872389, 2930614, 3144103, 3784568, 5667145, 3083231, 2834172, 250258, 1199]
theorem TLm_ln : TLm.length ≤ 100 := by decide
theorem TLl_TLl2_TLm : mChk TLl TLl2 TLm = true := by decide +kernel
theorem TLm_w : wChk TLm 8589934592 = true := by decide +kernel
def TLn : List Nat := [11334291, 28335729, 90674335, 277690153, 827403315, 2385868465, 6709900863, 18503231689, 27335934911, 67399468112, 15804356367, 199585199, 1199]
theorem TLn_ln : TLn.length ≤ 100 := by decide
theorem TLm_TLn : nChk TLm TLn = true := by decide +kernel
theorem TLn_t : tChk TLn 8589934592 = true := by decide +kernel
def TLo : List Nat := [11411141, 28412580, 90751187, 277767006, 827480169, 2385945320, 6709977719, 18503308546, 27336011769, 67399544971, 67399660244, 67400082909, 67401350902, 67405078031, 67415644632, 67400408225, 67402060540, 67399468925, 15804357181, 199586014, 2015]
theorem TLo_ln : TLo.length ≤ 100 := by decide
theorem TLg_TLn_TLo : mChk TLg TLn TLo = true := by decide +kernel
theorem TLo_t : tChk TLo 8589934592 = true := by decide +kernel
end Go.Proofs.Ytolkecnhncbkhaa.Fw

/- The law RatfLeibniz, walked. -/
set_option linter.unusedVariables false
namespace Go.Proofs.Ytolkecnhncbkhaa.Fw
open Go Pu
theorem daU_ev (U D V E : List Rat) (x : Rat) : pev (pdif (aU U D V E)) x = pev (pdif U) x * pev E x + pev U x * pev (pdif E) x + (pev (pdif V) x * pev D x + pev V x * pev (pdif D) x) := by
  unfold aU
  rw [pdif_padd, dif_ev, dif_ev]
theorem leib_add (U D V E : List Rat) : Eqv (fU' (aU U D V E) (pmul D E)) (pmul (pmul D E) (pmul D E)) (aU (fU' U D) (pmul D D) (fU' V E) (pmul E E)) (pmul (pmul D D) (pmul E E)) := by
  intro x
  simp only [fU_ev, aU_ev, pev_pmul, dif_ev, daU_ev]
  grind
theorem leib_mul (U D V E : List Rat) : Eqv (fU' (pmul U V) (pmul D E)) (pmul (pmul D E) (pmul D E)) (aU (pmul (fU' U D) V) (pmul (pmul D D) E) (pmul U (fU' V E)) (pmul D (pmul E E))) (pmul (pmul (pmul D D) E) (pmul D (pmul E E))) := by
  intro x
  simp only [fU_ev, aU_ev, pev_pmul, dif_ev]
  grind
theorem eqv_same {U D X Y : List Rat} (h : Eqv U D X Y) : trim (pmul U Y) = trim (pmul X D) := trim_of_vals (fun x => by rw [pev_pmul, pev_pmul]; exact h x)
set_option maxHeartbeats 4000000 in
theorem RatfLeibniz_runs {u d v e : List FD} {c : FD} (hu : ∀ y ∈ u, Wd y.n ∧ Wd y.d) (hd : ∀ y ∈ d, Wd y.n ∧ Wd y.d) (hv : ∀ y ∈ v, Wd y.n ∧ Wd y.d) (he : ∀ y ∈ e, Wd y.n ∧ Wd y.d) (hc : Wd c.n ∧ Wd c.d)
    (mu : u.length ≤ maxLen) (md : d.length ≤ maxLen) (mv : v.length ≤ maxLen) (me : e.length ≤ maxLen) :
    Runs Try.prog g_retrospectlaw15_RatfLeibniz [fv2 u d, fv2 v e, c.v] (.d (.bool true)) := by
  obtain ⟨b1, h1, n1⟩ := Long15_spec (m := 3) (k := 1) mu md (by omega)
  obtain ⟨b2, h2, n2⟩ := Long15_spec (m := 3) (k := 1) mv me (by omega)
  refine run1 [] p_retrospectlaw15_RatfLeibniz rfl rfl (fun B S F0 w0 V0 => ?_)
  refine call_intro _ h1 ?_
  refine split_intro (fun g => ?_) (fun g => ?_)
  · refine split_true rfl ?_
    refine split_true rfl ?_
    refine call_intro _ works15 ?_
    exact ret_intro rfl rfl
  obtain ⟨bu, bd⟩ := n1 g
  refine call_intro _ h2 ?_
  refine split_intro (fun g => ?_) (fun g => ?_)
  · refine split_true rfl ?_
    refine call_intro _ works15 ?_
    exact ret_intro rfl rfl
  obtain ⟨bv, be⟩ := n2 g
  refine call_intro _ (LongD (x := c)) ?_
  refine split_intro (fun g => ?_) (fun g => ?_)
  · refine call_intro _ works15 ?_
    exact ret_intro rfl rfl
  obtain ⟨c1, c2⟩ := longOr g
  have oc : c.ok 1 := ⟨hc.1, hc.2, by omega, by omega⟩
  have hx : In 1 TLa u d := In_raw (n := 3) (by omega) (by omega) (by omega) (by decide) TLa_ln hu hd bu bd (by decide)
  have hy : In 1 TLa v e := In_raw (n := 3) (by omega) (by omega) (by omega) (by decide) TLa_ln hv he bv be (by decide)
  have hx8 := hx.mono (K' := 8589934592) (by omega) (by omega)
  have hy8 := hy.mono (K' := 8589934592) (by omega) (by omega)
  have nD := qD_ne u d
  have nE := qD_ne v e
  obtain ⟨U, eU⟩ : ∃ U, U = qU u d := ⟨_, rfl⟩
  obtain ⟨D, eD⟩ : ∃ D, D = qD u d := ⟨_, rfl⟩
  obtain ⟨V, eV⟩ : ∃ V, V = qU v e := ⟨_, rfl⟩
  obtain ⟨E, eE⟩ : ∃ E, E = qD v e := ⟨_, rfl⟩
  have fx := hx.q
  have fy := hy.q
  -- derivatives of both
  have r1 := fDiff_spec2 hx (by omega) TLa_TLb TLb_t9 TLb_w TLb_ln
  have r2 := fDiff_spec2 hy (by omega) TLa_TLb TLb_t9 TLb_w TLb_ln
  -- sum and product
  have r3 := fAdd_spec2 hx hy TLa_TLa_TLd TLd_w TLd_ln
  have r4 := fMul_spec2 hx hy TLa_TLa_TLd TLd_w TLd_ln
  rw [← eU, ← eD] at r1 fx
  rw [← eV, ← eE] at r2 fy
  rw [← eU, ← eD, ← eV, ← eE] at r3 r4
  rw [← eD] at nD
  rw [← eE] at nE
  have nDD := mul_ne nD nD
  have nEE := mul_ne nE nE
  have nDE := mul_ne nD nE
  have ix := ret_nrm (K := 8589934592) (fx.dif TLa_TLb) nDD TLb_TLc (by omega) TLc_t TLc_ln
  have iy := ret_nrm (K := 8589934592) (fy.dif TLa_TLb) nEE TLb_TLc (by omega) TLc_t TLc_ln
  have fm := Fz.mul fx fy TLa_TLa_TLd
  have ia := ret_nrm (K := 100000000) fm.2.1 nDE TLd_TLe (by omega) TLe_t TLe_ln
  have im := ret_nrm (K := 100000000) fm.1 nDE TLd_TLe (by omega) TLe_t TLe_ln
  have r5 := fDiff_spec2 ia (by omega) TLe_TLf TLf_t9 TLf_w TLf_ln
  have r6 := fDiff_spec2 im (by omega) TLe_TLf TLf_t9 TLf_w TLf_ln
  have fa := ia.q
  have fmm := im.q
  rw [qU_nrm nDE, qD_nrm nDE] at r5 r6 fa fmm
  have nAA := mul_ne (a := nd (aU U D V E) (pmul D E)) (b := nd (aU U D V E) (pmul D E)) (by rw [nd_trim]; exact nd_ne nDE) (by rw [nd_trim]; exact nd_ne nDE)
  have nMM := mul_ne (a := nd (pmul U V) (pmul D E)) (b := nd (pmul U V) (pmul D E)) (by rw [nd_trim]; exact nd_ne nDE) (by rw [nd_trim]; exact nd_ne nDE)
  have ida := ret_nrm (K := 8589934592) (fa.dif TLe_TLf) nAA TLf_TLg (by omega) TLg_t TLg_ln
  have idm := ret_nrm (K := 8589934592) (fmm.dif TLe_TLf) nMM TLf_TLg (by omega) TLg_t TLg_ln
  -- sum of the derivatives
  have r7 := fAdd_spec2 ix iy TLc_TLc_TLh TLh_w TLh_ln
  have fh := (Fz.mul ix.q iy.q TLc_TLc_TLh).2.1
  rw [qU_nrm nDD, qD_nrm nDD, qU_nrm nEE, qD_nrm nEE] at r7 fh
  have ndX : trim (nd (fU' U D) (pmul D D)) ≠ [] := by rw [nd_trim]; exact nd_ne nDD
  have ndY : trim (nd (fU' V E) (pmul E E)) ≠ [] := by rw [nd_trim]; exact nd_ne nEE
  have nXY := mul_ne ndX ndY
  have is := ret_nrm (K := 8589934592) fh nXY TLh_TLi (by omega) TLi_t TLi_ln
  have r8 := fSame_spec2 ida is TLg_TLi_TLj TLj_t TLj_ln
  rw [qU_nrm nAA, qD_nrm nAA, qU_nrm nXY, qD_nrm nXY] at r8
  have q1 : Eqv (nu (fU' (nu (aU U D V E) (pmul D E)) (nd (aU U D V E) (pmul D E))) (pmul (nd (aU U D V E) (pmul D E)) (nd (aU U D V E) (pmul D E)))) (nd (fU' (nu (aU U D V E) (pmul D E)) (nd (aU U D V E) (pmul D E))) (pmul (nd (aU U D V E) (pmul D E)) (nd (aU U D V E) (pmul D E))))
      (nu (aU (nu (fU' U D) (pmul D D)) (nd (fU' U D) (pmul D D)) (nu (fU' V E) (pmul E E)) (nd (fU' V E) (pmul E E))) (pmul (nd (fU' U D) (pmul D D)) (nd (fU' V E) (pmul E E)))) (nd (aU (nu (fU' U D) (pmul D D)) (nd (fU' U D) (pmul D D)) (nu (fU' V E) (pmul E E)) (nd (fU' V E) (pmul E E))) (pmul (nd (fU' U D) (pmul D D)) (nd (fU' V E) (pmul E E)))) :=
    ((((nrm_eqv nAA).trans (dif_eqv (nrm_eqv nDE)) nAA).trans (leib_add U D V E) (mul_ne nDE nDE)).trans (add_eqv (nrm_eqv nDD) (nrm_eqv nEE)).symm (mul_ne nDD nEE)).trans (nrm_eqv nXY).symm nXY
  rw [decide_eq_true (eqv_same q1)] at r8
  -- products with the derivatives
  have r9 := fMul_spec2 ix hy8 TLc_TLa_TLk TLk_w TLk_ln
  have r10 := fMul_spec2 hx8 iy TLa_TLc_TLk2 TLk2_w TLk2_ln
  have fk := (Fz.mul ix.q hy8.q TLc_TLa_TLk).1
  have fk2 := (Fz.mul hx8.q iy.q TLa_TLc_TLk2).1
  rw [qU_nrm nDD, qD_nrm nDD, ← eV, ← eE] at r9 fk
  rw [qU_nrm nEE, qD_nrm nEE, ← eU, ← eD] at r10 fk2
  have n9 := mul_ne ndX nE
  have n10 := mul_ne nD ndY
  have i9 := ret_nrm (K := 8589934592) fk n9 TLk_TLl (by omega) TLl_t TLl_ln
  have i10 := ret_nrm (K := 8589934592) fk2 n10 TLk2_TLl2 (by omega) TLl2_t TLl2_ln
  have r11 := fAdd_spec2 i9 i10 TLl_TLl2_TLm TLm_w TLm_ln
  have f11 := (Fz.mul i9.q i10.q TLl_TLl2_TLm).2.1
  rw [qU_nrm n9, qD_nrm n9, qU_nrm n10, qD_nrm n10] at r11 f11
  have nd9 : trim (nd (pmul (nu (fU' U D) (pmul D D)) V) (pmul (nd (fU' U D) (pmul D D)) E)) ≠ [] := by rw [nd_trim]; exact nd_ne n9
  have nd10 : trim (nd (pmul U (nu (fU' V E) (pmul E E))) (pmul D (nd (fU' V E) (pmul E E)))) ≠ [] := by rw [nd_trim]; exact nd_ne n10
  have n11 := mul_ne nd9 nd10
  have i11 := ret_nrm (K := 8589934592) f11 n11 TLm_TLn (by omega) TLn_t TLn_ln
  have r12 := fSame_spec2 idm i11 TLg_TLn_TLo TLo_t TLo_ln
  rw [qU_nrm nMM, qD_nrm nMM, qU_nrm n11, qD_nrm n11] at r12
  have p9 := mul_eqv (nrm_eqv (X := fU' U D) nDD) (Eqv.refl V E)
  have p10 := mul_eqv (Eqv.refl U D) (nrm_eqv (X := fU' V E) nEE)
  have q9 := (nrm_eqv n9).trans p9 n9
  have q10 := (nrm_eqv n10).trans p10 n10
  have q2 := ((((nrm_eqv nMM).trans (dif_eqv (nrm_eqv nDE)) nMM).trans (leib_mul U D V E) (mul_ne nDE nDE)).trans (add_eqv q9 q10).symm (mul_ne (mul_ne nDD nE) (mul_ne nD nEE))).trans (nrm_eqv n11).symm n11
  rw [decide_eq_true (eqv_same q2)] at r12
  -- the same everywhere
  have r13 := fOf_spec2 oc (by omega) (by omega)
  have f13 : Fz TLa (trim [c.q]) [1] := by
    obtain ⟨K, k0, hK⟩ := Cz_of (k := 1) (l := [c.q]) (fun q hq => by
      have e : q = c.q := by simpa using hq
      rw [e]; exact oc.sz (by omega))
    refine ⟨3, by omega, by decide, Nat.le_trans (trim_len _) (by show 1 ≤ 3; omega), by show 1 ≤ 3; omega, K, k0, (hK.mono (show 32 * 1 * 1 ≤ 192 by omega)).sub (fun q hq => ?_)⟩
    rcases List.mem_cons.1 hq with rfl | hq
    · exact List.mem_cons_self
    · rcases List.mem_append.1 hq with hq | hq
      · exact List.mem_cons_of_mem _ (trim_mem hq)
      · have e : q = 1 := by simpa using hq
        rw [e]; exact List.mem_cons_self
  have i13 := In_Fs (K := 100000000) (by omega) TLa_ln (by decide +kernel) f13
  have r14 := fDiff_spec2 i13 (by omega) TLa_TLb TLb_t9 TLb_w TLb_ln
  rw [qU_Fs o1_ne, qD_Fs o1_ne] at r14
  have n14 := mul_ne o1_ne o1_ne
  have i14 := ret_nrm (K := 8589934592) (f13.dif TLa_TLb) n14 TLb_TLc (by omega) TLc_t TLc_ln
  have r15 := fZero_spec2 i14
  rw [qU_nrm n14, nu_trim n14] at r15
  have z14 : trim (fU' (trim [c.q]) [1]) = [] := by
    have : trim (fU' (trim [c.q]) [1]) = trim [] := trim_of_vals (fun x => by
      rw [fU_ev, pdif_congr (a := trim [c.q]) (b := [c.q]) (fun x => pev_trim _ _)]
      show pev [] x * _ - _ * pev [] x = pev [] x
      rw [pev_nil]; grind)
    exact this
  rw [decide_eq_true (nu_zero z14 n14)] at r15
  refine call_intro _ (fTo_spec2 (by omega) (by omega)) ?_
  refine call_intro _ (fTo_spec2 (by omega) (by omega)) ?_
  refine call_intro _ r1 ?_
  refine call_intro _ r2 ?_
  refine side_intro rfl ?_
  refine call_intro _ r3 ?_
  refine call_intro _ r5 ?_
  refine call_intro _ r7 ?_
  refine call_intro _ r8 ?_
  refine split_true rfl ?_
  refine call_intro _ r4 ?_
  refine call_intro _ r6 ?_
  refine call_intro _ r9 ?_
  refine call_intro _ r10 ?_
  refine call_intro _ r11 ?_
  refine call_intro _ r12 ?_
  refine split_true rfl ?_
  refine call_intro _ (ToD (x := c)) ?_
  refine call_intro _ r13 ?_
  refine call_intro _ r14 ?_
  refine call_intro _ r15 ?_
  refine split_true rfl ?_
  refine call_intro _ works15 ?_
  exact ret_intro rfl rfl
theorem RatfLeibniz_typed {x y z : List D} (h0 : AllR OkD [shR, shR] x) (h1 : AllR OkD [shR, shR] y) (h2 : AllR OkD shF z) : Runs Try.prog g_retrospectlaw15_RatfLeibniz [.agg [shR, shR].length x, .agg [shR, shR].length y, .agg shF.length z] (.d (.bool true)) := by
  obtain ⟨u, d, rfl, hu, hd, mu, md⟩ := inv_fun h0
  obtain ⟨v, e, rfl, hv, he, mv, me⟩ := inv_fun h1
  obtain ⟨c, rfl, hc, hc', _⟩ := inv_frac h2
  exact RatfLeibniz_runs hu hd hv he ⟨hc, hc'⟩ mu md mv me
end Go.Proofs.Ytolkecnhncbkhaa.Fw
