/- Texts of the proof, one after the other: PV PR PX PY TA LO. -/
import Derived.Test.YtolicidpfhgaoaaM4
set_option linter.unusedSimpArgs false
set_option linter.unusedVariables false
/- Factors of paces: plain law over fractions. -/
set_option linter.unusedVariables false
namespace Go.Proofs.Ytolicidpfhgaoaa.Fw
open Go Pu
/-- Rounded down to so many parts of one. -/
def dn (x : Rat) (fine : Int) : Rat := ((x * (fine : Rat)).floor : Rat) / (fine : Rat)
def clamp (l h x : Rat) : Rat := if x < l then l else if h < x then h else x
def factQ (s t l h : Rat) (fine : Int) (e : Rat) : Rat := if e = 0 then h else clamp l h (dn (s * t / e) fine)
theorem rdiv_le {a b c : Rat} (hb : 0 < b) : a / b ≤ c ↔ a ≤ c * b := by
  rw [← Rat.not_lt, ← Rat.not_lt, Rat.lt_div_iff hb]
theorem rle_div {a b c : Rat} (hb : 0 < b) : c ≤ a / b ↔ c * b ≤ a := by
  rw [← Rat.not_lt, ← Rat.not_lt, Rat.div_lt_iff hb]
theorem icast_le {a b : Int} (h : a ≤ b) : (a : Rat) ≤ (b : Rat) := Rat.intCast_le_intCast.2 h
theorem icast_pos {a : Int} (h : 1 ≤ a) : (0 : Rat) < (a : Rat) := by
  have : ((0 : Int) : Rat) < (a : Rat) := Rat.intCast_lt_intCast.2 (by omega)
  exact this
theorem dn_le {x : Rat} {fine : Int} (h : 1 ≤ fine) : dn x fine ≤ x := by
  unfold dn
  rw [rdiv_le (icast_pos h)]
  exact Rat.floor_le _
theorem dn_mono {x y : Rat} {fine : Int} (h : 1 ≤ fine) (hxy : x ≤ y) : dn x fine ≤ dn y fine := by
  unfold dn
  have hp := icast_pos h
  rw [rdiv_le hp, Rat.div_mul_cancel (by grind)]
  exact icast_le (Rat.floor_monotone (Rat.mul_le_mul_of_nonneg_right hxy (Rat.le_of_lt hp)))
theorem dn_nonneg {x : Rat} {fine : Int} (h : 1 ≤ fine) (hx : 0 ≤ x) : 0 ≤ (x * (fine : Rat)).floor := by
  rw [Rat.le_floor_iff]
  exact Rat.mul_nonneg hx (Rat.le_of_lt (icast_pos h))
theorem clamp_low {l h x : Rat} (hl : l ≤ h) : l ≤ clamp l h x := by unfold clamp; split <;> (try split) <;> grind
theorem clamp_high {l h x : Rat} (hl : l ≤ h) : clamp l h x ≤ h := by unfold clamp; split <;> (try split) <;> grind
theorem clamp_mono {l h x y : Rat} (hl : l ≤ h) (hxy : x ≤ y) : clamp l h x ≤ clamp l h y := by unfold clamp; split <;> split <;> (try split) <;> (try split) <;> grind
theorem clamp_lt {l h x c : Rat} (hl : l < c) (hh : c ≤ h) (hx : x < c) : clamp l h x < c := by unfold clamp; split <;> (try split) <;> grind
theorem fact_low {s t l h e : Rat} {fine : Int} (hl : l ≤ h) : l ≤ factQ s t l h fine e := by unfold factQ; split; exact hl; exact clamp_low hl
theorem fact_high {s t l h e : Rat} {fine : Int} (hl : l ≤ h) : factQ s t l h fine e ≤ h := by unfold factQ; split; exact Rat.le_refl; exact clamp_high hl
theorem quo_le {p a b : Rat} (hp : 0 ≤ p) (ha : 0 < a) (hab : a ≤ b) : p / b ≤ p / a := by
  have hb : 0 < b := by grind
  rw [rdiv_le hb]
  have h1 : p / a * a = p := Rat.div_mul_cancel (by grind)
  have h2 : 0 ≤ p / a := by rw [rle_div ha]; grind
  have h3 := Rat.mul_le_mul_of_nonneg_left hab h2
  grind
theorem fact_mono {s t l h a b : Rat} {fine : Int} (hf : 1 ≤ fine) (hs : 0 ≤ s) (ht : 0 ≤ t) (hl : l ≤ h) (ha : 0 ≤ a) (hab : a ≤ b) : factQ s t l h fine b ≤ factQ s t l h fine a := by
  by_cases h0 : a = 0
  · have : factQ s t l h fine a = h := by unfold factQ; rw [if_pos h0]
    rw [this]
    exact fact_high hl
  · have hb : b ≠ 0 := by grind
    unfold factQ
    rw [if_neg h0, if_neg hb]
    exact clamp_mono hl (dn_mono hf (quo_le (Rat.mul_nonneg hs ht) (by grind) hab))
theorem fact_lt {s t l h e : Rat} {fine : Int} (hf : 1 ≤ fine) (hs0 : 0 ≤ s) (hs : s ≤ 1) (ht : 0 ≤ t) (hl : l < 1) (hh : 1 ≤ h) (he : t < e) : factQ s t l h fine e < 1 := by
  have he0 : 0 < e := by grind
  unfold factQ
  rw [if_neg (by grind)]
  refine clamp_lt hl hh (Std.lt_of_le_of_lt (dn_le hf) ?_)
  rw [Rat.div_lt_iff he0]
  have := Rat.mul_le_mul_of_nonneg_right hs ht
  grind
end Go.Proofs.Ytolicidpfhgaoaa.Fw

/- Rules of paces, walked. -/
set_option linter.unusedVariables false
namespace Go.Proofs.Ytolicidpfhgaoaa.Fw
open Go Pu
structure RD where
  tol : FD
  safe : FD
  low : FD
  high : FD
  least : FD
  fine : Int
  most : Int
def RD.c (r : RD) : List D := [.bool r.tol.s, .words r.tol.n, .words r.tol.d, .bool r.safe.s, .words r.safe.n, .words r.safe.d, .bool r.low.s, .words r.low.n, .words r.low.d, .bool r.high.s, .words r.high.n, .words r.high.d, .bool r.least.s, .words r.least.n, .words r.least.d, .int .i64 r.fine, .int .i64 r.most]
def RD.v (r : RD) : V := .agg 17 r.c
def RD.l (r : RD) : List FD := [r.tol, r.safe, r.low, r.high, r.least]
def gd (x : FD) : Bool := decide (x.s = decide (x.q.num < 0) ∧ x.n = toW x.q.num.natAbs ∧ x.d = toW x.q.den) && !decide ((x.sz : Int) > 190)
theorem above_spec {k : Nat} {x : FD} (h : x.ok k) (h1 : 1 ≤ k) (hk : k ≤ 34359738368) : Runs Try.prog g_pace_above [x.v] (.d (.bool (decide (sgn x.q.num > 0)))) := by
  refine run1 [] p_pace_above rfl rfl (fun B S F0 w0 V0 => ?_)
  refine call_intro _ (dSign h h1 hk) ?_
  exact ret_intro rfl rfl
theorem gd_bad {x : FD} (h : gd x = false) : (decide (x.s = decide (x.q.num < 0) ∧ x.n = toW x.q.num.natAbs ∧ x.d = toW x.q.den) = false) ∨ (decide (x.s = decide (x.q.num < 0) ∧ x.n = toW x.q.num.natAbs ∧ x.d = toW x.q.den) = true ∧ decide ((x.sz : Int) > 190) = true) := by
  unfold gd at h
  cases h1 : decide (x.s = decide (x.q.num < 0) ∧ x.n = toW x.q.num.natAbs ∧ x.d = toW x.q.den) with
  | false => exact .inl rfl
  | true => rw [h1] at h; exact .inr ⟨rfl, by simpa using h⟩
theorem gd_good {x : FD} (h : gd x = true) : decide (x.s = decide (x.q.num < 0) ∧ x.n = toW x.q.num.natAbs ∧ x.d = toW x.q.den) = true ∧ decide ((x.sz : Int) > 190) = false := by
  unfold gd at h
  rw [Bool.and_eq_true] at h
  exact ⟨h.1, by simpa using h.2⟩
theorem numbers_spec {k : Nat} {l : List FD} (hx : ∀ x ∈ l, x.ok k) (h1 : 1 ≤ k) (hk : k ≤ 1000000) (hl : l.length ≤ 1000) : Runs Try.prog g_pace_numbers [.d (rowsF l)] (.d (.bool (l.all gd))) := by
  have hR : ∀ x : FD, x.ok k → Runs Try.prog g_frac_Right [x.v] (.d (.bool (decide (x.s = decide (x.q.num < 0) ∧ x.n = toW x.q.num.natAbs ∧ x.d = toW x.q.den)))) := fun x h => fRight_spec h h1 (by omega)
  have hS : ∀ x : FD, x.ok k → Runs Try.prog g_frac_Size [x.v] (.d (.int .i64 (x.sz : Int))) := fun x h => fSize_spec h.wn h.wd (by have := h.ln; omega) (by have := h.ld; omega)
  by_cases hex : ∃ i, i < l.length ∧ gd (l.getD i FD.none) = false
  · have hall : l.all gd = false := by
      obtain ⟨i, h2, h3⟩ := hex
      rw [List.all_eq_false]
      exact ⟨_, FD.getD_mem h2, by rw [h3]; simp⟩
    rw [hall]
    obtain ⟨i0, h2, h3⟩ := hex
    refine run1 [] p_pace_numbers rfl rfl (fun B S F0 w0 V0 => ?_)
    refine loop_intro (fun i : Nat => st [(5, .d (rowsF l)), (6, .d (.int .i64 (l.length : Int))), (7, .d (.int .i64 (i : Int)))] []) (fun i => i0 + 1 - i) (fun i => i ≤ i0) 0 (Nat.zero_le _)
      (weak_st _ _ ⟨rfl, i64_inj (by show ((l.map FD.c).length : Int) = _; rw [List.length_map]), rfl, trivial⟩ trivial rfl) ?_
    intro i hi
    have ei : IntKind.i64.wrap ((i : Int) + 1) = ((i + 1 : Nat) : Int) := by rw [wr (by omega) (by omega)]; omega
    refine split_true (decide_eq_true (by show (i : Int) < (l.length : Int); omega)) ?_
    refine idx_F i rfl (by omega) ?_
    have hok := hx _ (FD.getD_mem (l := l) (i := i) (by omega))
    cases hg : gd (l.getD i FD.none) with
    | false =>
      rcases gd_bad hg with h4 | ⟨h4, h5⟩
      · have hr := hR _ hok
        rw [h4] at hr
        refine call_intro _ hr ?_
        refine split_true rfl ?_
        refine split_true rfl ?_
        exact ret_intro rfl rfl
      · have hr := hR _ hok
        rw [h4] at hr
        refine call_intro _ hr ?_
        refine split_false rfl ?_
        refine call_intro _ (hS _ hok) ?_
        refine split_true h5 ?_
        exact ret_intro rfl rfl
    | true =>
      obtain ⟨h4, h5⟩ := gd_good hg
      have hr := hR _ hok
      rw [h4] at hr
      refine call_intro _ hr ?_
      refine split_false rfl ?_
      refine call_intro _ (hS _ hok) ?_
      refine split_false h5 ?_
      have hne : i ≠ i0 := by intro e; rw [e, h3] at hg; cases hg
      exact ⟨i + 1, by omega, by omega, weak_st _ _ ⟨rfl, rfl, i64_inj ei, trivial⟩ trivial rfl⟩
  · have hall' : ∀ i, i < l.length → gd (l.getD i FD.none) = true := by
      intro i h2
      cases hg : gd (l.getD i FD.none) with
      | true => rfl
      | false => exact absurd ⟨i, h2, hg⟩ hex
    have hall : l.all gd = true := by
      rw [List.all_eq_true]
      intro x hx
      obtain ⟨i, hi⟩ := List.getElem?_of_mem hx
      have hlt := (List.getElem?_eq_some_iff.1 hi).1
      have := hall' i hlt
      rw [List.getD_eq_getElem?_getD, hi] at this
      exact this
    rw [hall]
    refine run1 [] p_pace_numbers rfl rfl (fun B S F0 w0 V0 => ?_)
    refine loop_intro (fun i : Nat => st [(5, .d (rowsF l)), (6, .d (.int .i64 (l.length : Int))), (7, .d (.int .i64 (i : Int)))] []) (fun i => l.length - i) (fun i => i ≤ l.length) 0 (Nat.zero_le _)
      (weak_st _ _ ⟨rfl, i64_inj (by show ((l.map FD.c).length : Int) = _; rw [List.length_map]), rfl, trivial⟩ trivial rfl) ?_
    intro i hi
    have ei : IntKind.i64.wrap ((i : Int) + 1) = ((i + 1 : Nat) : Int) := by rw [wr (by omega) (by omega)]; omega
    refine split_intro (fun hh => ?_) (fun hh => ?_)
    · have hlt : i < l.length := by have hh : (i : Int) < (l.length : Int) := of_decide_eq_true hh; omega
      refine idx_F i rfl hlt ?_
      have hok := hx _ (FD.getD_mem (l := l) (i := i) hlt)
      obtain ⟨h4, h5⟩ := gd_good (hall' i hlt)
      have hr := hR _ hok
      rw [h4] at hr
      refine call_intro _ hr ?_
      refine split_false rfl ?_
      refine call_intro _ (hS _ hok) ?_
      refine split_false h5 ?_
      exact ⟨i + 1, by omega, by omega, weak_st _ _ ⟨rfl, rfl, i64_inj ei, trivial⟩ trivial rfl⟩
    · exact ret_intro rfl rfl
theorem over_spec {x y : Int} (hx0 : -9223372036854775808 ≤ x) (hx1 : x < 9223372036854775808) (hy0 : -9223372036854775808 ≤ y) (hy1 : y < 9223372036854775808) (h : y ≠ 0) : Runs Try.prog g_pace_over [.d (.int .i64 x), .d (.int .i64 y)] (fr ((x : Rat) / (y : Rat))) := by
  have h1 := fRatio_spec hx0 hx1 hy0 hy1
  rw [if_neg h] at h1
  refine run1 [] p_pace_over rfl rfl (fun B S F0 w0 V0 => ?_)
  refine call_intro _ h1 ?_
  exact ret_intro rfl rfl
def usual : RD := ⟨FD.of (((1 : Int) : Rat) / ((1000 : Int) : Rat)), FD.of (((9 : Int) : Rat) / ((10 : Int) : Rat)), FD.of (((1 : Int) : Rat) / ((5 : Int) : Rat)), FD.of ((5 : Int) : Rat), FD.of (((1 : Int) : Rat) / ((1000000 : Int) : Rat)), 16, 100⟩
theorem Usual_spec : Runs Try.prog g_pace_Usual [] usual.v := by
  refine run1 [] p_pace_Usual rfl rfl (fun B S F0 w0 V0 => ?_)
  refine call_intro _ (over_spec (x := 1) (y := 1000) (by omega) (by omega) (by omega) (by omega) (by omega)) ?_
  refine call_intro _ (over_spec (x := 9) (y := 10) (by omega) (by omega) (by omega) (by omega) (by omega)) ?_
  refine call_intro _ (over_spec (x := 1) (y := 5) (by omega) (by omega) (by omega) (by omega) (by omega)) ?_
  refine call_intro _ (fOf_spec (z := 5) (by omega) (by omega)) ?_
  refine call_intro _ (over_spec (x := 1) (y := 1000000) (by omega) (by omega) (by omega) (by omega) (by omega)) ?_
  exact ret_intro rfl rfl
def wsel : List Bool → Int → Int
  | [], _ => 0
  | b :: l, k => bif b then k else wsel l (k + 1)
def RD.bs (r : RD) : List Bool := [!r.l.all gd, decide (sgn r.tol.q.num < 0), decide (sgn r.safe.q.num ≤ 0) || decide (sgn (r.safe.q - ((1 : Int) : Rat)).num > 0), decide (sgn r.low.q.num ≤ 0) || decide (sgn (r.low.q - ((1 : Int) : Rat)).num ≥ 0),
  decide (sgn (r.high.q - ((1 : Int) : Rat)).num < 0), decide (sgn r.least.q.num ≤ 0), decide (r.fine < 1) || decide (r.fine > 1024), decide (r.most < 1) || decide (r.most > 200)]
def RD.w (r : RD) : Int := wsel r.bs 1
def RD.ok (k : Nat) (r : RD) : Prop := r.tol.ok k ∧ r.safe.ok k ∧ r.low.ok k ∧ r.high.ok k ∧ r.least.ok k
theorem ok_one {k : Nat} (h1 : 1 ≤ k) : (FD.of ((1 : Int) : Rat)).ok k := FD.ok_of (Sz_int (by show (toW 1).length ≤ k; rw [nw1]; exact h1) h1)
theorem cmp_one {k : Nat} {x : FD} (h : x.ok k) (h1 : 1 ≤ k) (hk : k ≤ 34359738368) : Runs Try.prog g_frac_Cmp [x.v, fr ((1 : Int) : Rat)] (.d (.int .i64 (sgn (x.q - ((1 : Int) : Rat)).num))) := by
  have := dCmp h (ok_one h1) h1 hk
  rw [FD.q_of] at this
  exact this
theorem notpos (z : Int) : (!decide (z > 0)) = decide (z ≤ 0) := by rw [← decide_not]; exact decide_eq_decide.2 (by omega)
set_option maxHeartbeats 2000000 in
theorem Wrong_spec {k : Nat} {r : RD} (h : r.ok k) (h1 : 1 ≤ k) (hk : k ≤ 1000000) : Runs Try.prog g_pace_Wrong [r.v] (.d (.int .i64 r.w)) := by
  obtain ⟨ht, hs, hl, hh, he⟩ := h
  have hnum := numbers_spec (l := r.l) (k := k) (by intro x hx; simp only [RD.l, List.mem_cons, List.not_mem_nil, or_false] at hx; rcases hx with rfl | rfl | rfl | rfl | rfl <;> assumption) h1 hk (by show 5 ≤ _; omega)
  obtain ⟨w, hw⟩ : ∃ w, w = r.w := ⟨_, rfl⟩
  rw [← hw]
  unfold RD.w RD.bs at hw
  refine run1 [] p_pace_Wrong rfl rfl (fun B S F0 w0 V0 => ?_)
  refine call_intro _ (fOf_spec (z := 1) (by omega) (by omega)) ?_
  refine call_intro _ hnum ?_
  cases g1 : r.l.all gd with
  | false =>
    rw [g1] at hw
    refine split_true rfl ?_
    subst hw
    exact ret_intro rfl rfl
  | true =>
    rw [g1] at hw
    refine split_false rfl ?_
    refine call_intro _ (dSign ht h1 (by omega)) ?_
    refine split_intro (fun g2 => ?_) (fun g2 => ?_)
    · have g2 : decide (sgn r.tol.q.num < 0) = true := g2
      rw [g2] at hw
      subst hw
      exact ret_intro rfl rfl
    have g2 : decide (sgn r.tol.q.num < 0) = false := g2
    rw [g2] at hw
    refine call_intro _ (above_spec hs h1 (by omega)) ?_
    refine split_intro (fun g3 => ?_) (fun g3 => ?_)
    · have g3 : decide (sgn r.safe.q.num ≤ 0) = true := by rw [← notpos]; exact g3
      rw [g3] at hw
      refine split_true rfl ?_
      subst hw
      exact ret_intro rfl rfl
    have g3 : decide (sgn r.safe.q.num ≤ 0) = false := by rw [← notpos]; exact g3
    rw [g3] at hw
    refine call_intro _ (cmp_one hs h1 (by omega)) ?_
    refine split_intro (fun g4 => ?_) (fun g4 => ?_)
    · have g4 : decide (sgn (r.safe.q - ((1 : Int) : Rat)).num > 0) = true := g4
      rw [g4] at hw
      subst hw
      exact ret_intro rfl rfl
    have g4 : decide (sgn (r.safe.q - ((1 : Int) : Rat)).num > 0) = false := g4
    rw [g4] at hw
    refine call_intro _ (above_spec hl h1 (by omega)) ?_
    refine split_intro (fun g5 => ?_) (fun g5 => ?_)
    · have g5 : decide (sgn r.low.q.num ≤ 0) = true := by rw [← notpos]; exact g5
      rw [g5] at hw
      refine split_true rfl ?_
      subst hw
      exact ret_intro rfl rfl
    have g5 : decide (sgn r.low.q.num ≤ 0) = false := by rw [← notpos]; exact g5
    rw [g5] at hw
    refine call_intro _ (cmp_one hl h1 (by omega)) ?_
    refine split_intro (fun g6 => ?_) (fun g6 => ?_)
    · have g6 : decide (sgn (r.low.q - ((1 : Int) : Rat)).num ≥ 0) = true := g6
      rw [g6] at hw
      subst hw
      exact ret_intro rfl rfl
    have g6 : decide (sgn (r.low.q - ((1 : Int) : Rat)).num ≥ 0) = false := g6
    rw [g6] at hw
    refine call_intro _ (cmp_one hh h1 (by omega)) ?_
    refine split_intro (fun g7 => ?_) (fun g7 => ?_)
    · have g7 : decide (sgn (r.high.q - ((1 : Int) : Rat)).num < 0) = true := g7
      rw [g7] at hw
      subst hw
      exact ret_intro rfl rfl
    have g7 : decide (sgn (r.high.q - ((1 : Int) : Rat)).num < 0) = false := g7
    rw [g7] at hw
    refine call_intro _ (above_spec he h1 (by omega)) ?_
    refine split_intro (fun g8 => ?_) (fun g8 => ?_)
    · have g8 : decide (sgn r.least.q.num ≤ 0) = true := by rw [← notpos]; exact g8
      rw [g8] at hw
      subst hw
      exact ret_intro rfl rfl
    have g8 : decide (sgn r.least.q.num ≤ 0) = false := by rw [← notpos]; exact g8
    rw [g8] at hw
    refine split_intro (fun g9 => ?_) (fun g9 => ?_)
    · have g9 : decide (r.fine < 1) = true := g9
      rw [g9] at hw
      refine split_true rfl ?_
      subst hw
      exact ret_intro rfl rfl
    have g9 : decide (r.fine < 1) = false := g9
    rw [g9] at hw
    refine split_intro (fun g10 => ?_) (fun g10 => ?_)
    · have g10 : decide (r.fine > 1024) = true := g10
      rw [g10] at hw
      subst hw
      exact ret_intro rfl rfl
    have g10 : decide (r.fine > 1024) = false := g10
    rw [g10] at hw
    refine split_intro (fun g11 => ?_) (fun g11 => ?_)
    · have g11 : decide (r.most < 1) = true := g11
      rw [g11] at hw
      refine split_true rfl ?_
      subst hw
      exact ret_intro rfl rfl
    have g11 : decide (r.most < 1) = false := g11
    rw [g11] at hw
    refine split_intro (fun g12 => ?_) (fun g12 => ?_)
    · have g12 : decide (r.most > 200) = true := g12
      rw [g12] at hw
      subst hw
      exact ret_intro rfl rfl
    have g12 : decide (r.most > 200) = false := g12
    rw [g12] at hw
    subst hw
    exact ret_intro rfl rfl
theorem Right_spec {k : Nat} {r : RD} (h : r.ok k) (h1 : 1 ≤ k) (hk : k ≤ 1000000) : Runs Try.prog g_pace_Right [r.v] (.d (.bool (r.w == 0))) := by
  refine run1 [] p_pace_Right rfl rfl (fun B S F0 w0 V0 => ?_)
  refine call_intro _ (Wrong_spec h h1 hk) ?_
  exact ret_intro rfl rfl
theorem Accepts_spec {k : Nat} {r : RD} {e : FD} (h : r.ok k) (he : e.ok k) (h1 : 1 ≤ k) (hk : k ≤ 1000000) : Runs Try.prog g_pace_Accepts [r.v, e.v] (.d (.bool (decide (sgn (e.q - r.tol.q).num ≤ 0)))) := by
  refine run1 [] p_pace_Accepts rfl rfl (fun B S F0 w0 V0 => ?_)
  refine call_intro _ (dCmp he h.1 h1 (by omega)) ?_
  exact ret_intro rfl rfl
theorem Tell_spec : ∀ (r : RD), Runs Try.prog g_retrospectlaw36_To [r.v] r.v := by
  intro r
  refine run1 [] p_retrospectlaw36_To rfl rfl (fun B S F0 w0 V0 => ?_)
  refine side_intro rfl ?_
  refine call_intro _ (ToD (x := r.tol)) ?_
  refine call_intro _ (ToD (x := r.safe)) ?_
  refine call_intro _ (ToD (x := r.low)) ?_
  refine call_intro _ (ToD (x := r.high)) ?_
  refine call_intro _ (ToD (x := r.least)) ?_
  exact ret_intro rfl rfl
def lb (x : FD) (m : Int) : Bool := decide ((x.n.length : Int) > m) || decide ((x.d.length : Int) > m)
theorem Long36_spec (r : RD) (m : Int) : ∃ b, Runs Try.prog g_retrospectref36_Long [r.v, .d (.int .i64 m)] (.d (.bool b)) ∧ (b = false → lb r.tol m = false ∧ lb r.safe m = false ∧ lb r.low m = false ∧ lb r.high m = false ∧ lb r.least m = false) := by
  have L : ∀ x : FD, Runs Try.prog g_retrospectref09_Long [x.v, .d (.int .i64 m)] (.d (.bool (lb x m))) := fun x => LongD
  cases g1 : lb r.tol m with
  | true =>
    refine ⟨true, run1 [] p_retrospectref36_Long rfl rfl (fun B S F0 w0 V0 => ?_), fun h => by cases h⟩
    refine call_intro _ (L r.tol) ?_
    refine split_true g1 ?_
    refine split_true rfl ?_
    refine split_true rfl ?_
    refine split_true rfl ?_
    exact ret_intro rfl rfl
  | false =>
  cases g2 : lb r.safe m with
  | true =>
    refine ⟨true, run1 [] p_retrospectref36_Long rfl rfl (fun B S F0 w0 V0 => ?_), fun h => by cases h⟩
    refine call_intro _ (L r.tol) ?_
    refine split_false g1 ?_
    refine call_intro _ (L r.safe) ?_
    refine split_true g2 ?_
    refine split_true rfl ?_
    refine split_true rfl ?_
    exact ret_intro rfl rfl
  | false =>
  cases g3 : lb r.low m with
  | true =>
    refine ⟨true, run1 [] p_retrospectref36_Long rfl rfl (fun B S F0 w0 V0 => ?_), fun h => by cases h⟩
    refine call_intro _ (L r.tol) ?_
    refine split_false g1 ?_
    refine call_intro _ (L r.safe) ?_
    refine split_false g2 ?_
    refine call_intro _ (L r.low) ?_
    refine split_true g3 ?_
    refine split_true rfl ?_
    exact ret_intro rfl rfl
  | false =>
  cases g4 : lb r.high m with
  | true =>
    refine ⟨true, run1 [] p_retrospectref36_Long rfl rfl (fun B S F0 w0 V0 => ?_), fun h => by cases h⟩
    refine call_intro _ (L r.tol) ?_
    refine split_false g1 ?_
    refine call_intro _ (L r.safe) ?_
    refine split_false g2 ?_
    refine call_intro _ (L r.low) ?_
    refine split_false g3 ?_
    refine call_intro _ (L r.high) ?_
    refine split_true g4 ?_
    exact ret_intro rfl rfl
  | false =>
    refine ⟨lb r.least m, run1 [] p_retrospectref36_Long rfl rfl (fun B S F0 w0 V0 => ?_), fun h => ⟨rfl, rfl, rfl, rfl, h⟩⟩
    refine call_intro _ (L r.tol) ?_
    refine split_false g1 ?_
    refine call_intro _ (L r.safe) ?_
    refine split_false g2 ?_
    refine call_intro _ (L r.low) ?_
    refine split_false g3 ?_
    refine call_intro _ (L r.high) ?_
    refine split_false g4 ?_
    refine call_intro _ (L r.least) ?_
    exact ret_intro rfl rfl
end Go.Proofs.Ytolicidpfhgaoaa.Fw

/- Paces: factors, what is cut, walked. -/
set_option linter.unusedVariables false
namespace Go.Proofs.Ytolicidpfhgaoaa.Fw
open Go Pu
theorem floor_len {k : Nat} {q : Rat} (h : Sz k q) : (toW q.floor.natAbs).length ≤ k := by
  rw [Rat.floor_def]
  exact Nat.le_trans (toW_len_mono (Int.natAbs_ediv_le_natAbs _ _)) h.n
theorem fine_sz {f : Nat} (h0 : 1 ≤ f) (h1 : f ≤ 1024) : Sz 1 ((f : Int) : Rat) := Sz_int (by show (toW f).length ≤ 1; rw [nw_one (by omega) (by omega)]; exact Nat.le_refl _) (by omega)
theorem mk_div (z : Int) (f : Nat) : mkRat z f = (z : Rat) / ((f : Int) : Rat) := by
  rw [Rat.mkRat_eq_div]; rfl
theorem dn_sz {k f : Nat} {x : Rat} (h : Sz k x) (h0 : 1 ≤ f) (h1 : f ≤ 1024) : Sz (k + 2) (dn x f) := by
  have hf := fine_sz h0 h1
  have hm := Sz_mul h hf
  have hz : Sz (k + 1) (((x * ((f : Int) : Rat)).floor : Int) : Rat) := Sz_int (floor_len hm) (by omega)
  have := Sz_div hz hf
  exact this
theorem pdown_spec {k f : Nat} {x : FD} (h : x.ok k) (hk1 : 1 ≤ k) (hk : k ≤ 1000000) (h0 : 1 ≤ f) (h1 : f ≤ 1024) : Runs Try.prog g_pace_down [x.v, .d (.int .i64 (f : Int))] (fr (dn x.q f)) := by
  have hf := fine_sz h0 h1
  have hm := Sz_mul (h.sz hk1) hf
  have s1 := fOf_spec (z := (f : Int)) (by omega) (by omega)
  have s2 := dMul (h.mono (show k ≤ k + 1 by omega)) (FD.ok_of (hf.mono (show 1 ≤ k + 1 by omega))) (by omega) (by omega)
  rw [FD.q_of] at s2
  obtain ⟨q, hq⟩ : ∃ q, q = x.q * ((f : Int) : Rat) := ⟨_, rfl⟩
  rw [← hq] at s2 hm
  have s3 := fFloor_spec (s := decide (q.num < 0)) (Fk.fr hm) (by omega) (by omega)
  rw [rv_fr] at s3
  have hfl := floor_len hm
  obtain ⟨z, hz⟩ : ∃ z, z = q.floor := ⟨_, rfl⟩
  rw [← hz] at s3 hfl
  have s4 := wOf_spec (n := (f : Int)) (by omega) (by omega)
  have hfn : (toW (f : Int).natAbs).length ≤ 1 := hf.n
  have s5 := fNew_spec (s := decide (z < 0)) (n := toW z.natAbs) (d := toW (f : Int).natAbs) (Wd.toW _) (Wd.toW _) (by omega) (by omega)
  have ev : rv (decide (z < 0)) (toW z.natAbs) (toW (f : Int).natAbs) = dn x.q f := by
    unfold rv dn
    rw [val_toW, val_toW, ← mkRat_rt, ← hq, ← hz]
    exact mk_div z f
  rw [ev] at s5
  refine run1 [] p_pace_down rfl rfl (fun B S F0 w0 V0 => ?_)
  refine side_intro rfl ?_
  refine call_intro _ s1 ?_
  refine call_intro _ s2 ?_
  refine call_intro _ s3 ?_
  refine side_intro rfl ?_
  refine call_intro _ s4 ?_
  refine call_intro _ s5 ?_
  exact ret_intro rfl rfl
theorem lt_sgn {p q : Rat} : decide (sgn (p - q).num < 0) = decide (p < q) := by
  rcases sgn_cases (p - q) with ⟨h, e⟩ | ⟨h, e⟩ | ⟨h, e⟩
  · rw [e, decide_eq_false (by omega), decide_eq_false (by grind)]
  · rw [e, decide_eq_false (by omega), decide_eq_false (by grind)]
  · rw [e, decide_eq_true (by omega), decide_eq_true (by grind)]
theorem gt_sgn {p q : Rat} : decide (sgn (p - q).num > 0) = decide (q < p) := by
  rcases sgn_cases (p - q) with ⟨h, e⟩ | ⟨h, e⟩ | ⟨h, e⟩
  · rw [e, decide_eq_true (by omega), decide_eq_true (by grind)]
  · rw [e, decide_eq_false (by omega), decide_eq_false (by grind)]
  · rw [e, decide_eq_false (by omega), decide_eq_false (by grind)]
theorem fact_sz {k f : Nat} {r : RD} {e : Rat} (h : r.ok k) (he : Sz k e) (hk1 : 1 ≤ k) (h0 : 1 ≤ f) (h1 : f ≤ 1024) : Sz (k + k + k + 2) (factQ r.safe.q r.tol.q r.low.q r.high.q f e) := by
  obtain ⟨ht, hs, hl, hh, _⟩ := h
  unfold factQ clamp
  split
  · exact (hh.sz hk1).mono (by omega)
  · split
    · exact (hl.sz hk1).mono (by omega)
    · split
      · exact (hh.sz hk1).mono (by omega)
      · exact dn_sz (Sz_div (Sz_mul (hs.sz hk1) (ht.sz hk1)) he) h0 h1
theorem Factor_spec {k f : Nat} {r : RD} {e : FD} (h : r.ok k) (he : e.ok k) (hk1 : 1 ≤ k) (hk : k ≤ 100000) (hf : r.fine = (f : Int)) (h0 : 1 ≤ f) (h1 : f ≤ 1024) : Runs Try.prog g_pace_Factor [r.v, e.v] (fr (factQ r.safe.q r.tol.q r.low.q r.high.q f e.q)) := by
  obtain ⟨ht, hs, hl, hh, _⟩ := h
  have s1 := dMul hs ht hk1 (by omega)
  have hst := Sz_mul (hs.sz hk1) (ht.sz hk1)
  by_cases hz : e.q = 0
  · have s2 := fQuo_zero (s := decide ((r.safe.q * r.tol.q).num < 0)) (t := e.s) (Fk.fr hst) (he.mono (show k ≤ k + k by omega)) (by omega) (by omega) hz
    have ev : factQ r.safe.q r.tol.q r.low.q r.high.q f e.q = r.high.q := by unfold factQ; rw [if_pos hz]
    rw [ev]
    refine run1 [] p_pace_Factor rfl rfl (fun B S F0 w0 V0 => ?_)
    refine side_intro rfl ?_
    refine call_intro _ s1 ?_
    refine call_intro _ s2 ?_
    refine split_true rfl ?_
    refine call_intro _ (dNorm hh hk1 (by omega)) ?_
    exact ret_intro rfl rfl
  · have s2 := fQuo_spec (s := decide ((r.safe.q * r.tol.q).num < 0)) (t := e.s) (Fk.fr hst) (he.mono (show k ≤ k + k by omega)) (by omega) (by omega) hz
    rw [rv_fr] at s2
    have hq : Sz (k + k + k) (r.safe.q * r.tol.q / e.q) := Sz_div hst (he.sz hk1)
    have s3 := pdown_spec (FD.ok_of hq) (by omega) (by omega) h0 h1
    rw [FD.q_of] at s3
    have hd := dn_sz hq h0 h1
    have ev : factQ r.safe.q r.tol.q r.low.q r.high.q f e.q = clamp r.low.q r.high.q (dn (r.safe.q * r.tol.q / e.q) f) := by unfold factQ; rw [if_neg hz]
    rw [ev]
    obtain ⟨x, hx⟩ : ∃ x, x = dn (r.safe.q * r.tol.q / e.q) f := ⟨_, rfl⟩
    rw [← hx] at s3 hd ⊢
    rw [← hf] at s3
    have s4 := dCmp (FD.ok_of hd) (hl.mono (show k ≤ k + k + k + 2 by omega)) (by omega) (by omega)
    rw [FD.q_of] at s4
    have s5 := dCmp (FD.ok_of hd) (hh.mono (show k ≤ k + k + k + 2 by omega)) (by omega) (by omega)
    rw [FD.q_of] at s5
    refine run1 [] p_pace_Factor rfl rfl (fun B S F0 w0 V0 => ?_)
    refine side_intro rfl ?_
    refine call_intro _ s1 ?_
    refine call_intro _ s2 ?_
    refine split_false rfl ?_
    refine call_intro _ s3 ?_
    refine call_intro _ s4 ?_
    unfold clamp
    by_cases c1 : x < r.low.q
    · refine split_true (lt_sgn.trans (decide_eq_true c1)) ?_
      refine call_intro _ (dNorm hl hk1 (by omega)) ?_
      exact ret_intro (by rw [if_pos c1]; rfl) rfl
    · refine split_false (lt_sgn.trans (decide_eq_false c1)) ?_
      refine call_intro _ s5 ?_
      by_cases c2 : r.high.q < x
      · refine split_true (gt_sgn.trans (decide_eq_true c2)) ?_
        refine call_intro _ (dNorm hh hk1 (by omega)) ?_
        exact ret_intro (by rw [if_neg c1, if_pos c2]; rfl) rfl
      · refine split_false (gt_sgn.trans (decide_eq_false c2)) ?_
        exact ret_intro (by rw [if_neg c1, if_neg c2]; rfl) rfl
theorem gd_mk {q : Rat} (h : bits q.num.natAbs + bits q.den ≤ 190) : gd (FD.of q) = true := by
  unfold gd
  have hs : (FD.of q).sz = bits q.num.natAbs + bits q.den := by
    unfold FD.sz FD.of
    rw [val_toW, val_toW]
  rw [FD.q_of, hs, decide_eq_true ⟨rfl, rfl, rfl⟩, decide_eq_false (by omega)]; rfl
theorem usual_ok : usual.ok 1 := by
  have i : ∀ z : Int, z.natAbs < 4294967296 → (toW z.natAbs).length ≤ 1 := fun z h => by
    rcases Nat.eq_zero_or_pos z.natAbs with h0 | h0
    · rw [h0, toW_zero]; exact Nat.zero_le _
    · rw [nw_one (by omega) h]; exact Nat.le_refl _
  have q : ∀ p : Rat, p.num.natAbs < 4294967296 → p.den < 4294967296 → (FD.of p).ok 1 := fun p h1 h2 => FD.ok_of ⟨i p.num h1, by have := i (p.den : Int) h2; exact this⟩
  exact ⟨q _ (by decide +kernel) (by decide +kernel), q _ (by decide +kernel) (by decide +kernel), q _ (by decide +kernel) (by decide +kernel), q _ (by decide +kernel) (by decide +kernel), q _ (by decide +kernel) (by decide +kernel)⟩
theorem usual_w : usual.w = 0 := by
  have hall : usual.l.all gd = true := by
    have g1 : gd usual.tol = true := gd_mk (by decide +kernel)
    have g2 : gd usual.safe = true := gd_mk (by decide +kernel)
    have g3 : gd usual.low = true := gd_mk (by decide +kernel)
    have g4 : gd usual.high = true := gd_mk (by decide +kernel)
    have g5 : gd usual.least = true := gd_mk (by decide +kernel)
    show (gd usual.tol && (gd usual.safe && (gd usual.low && (gd usual.high && (gd usual.least && true))))) = true
    rw [g1, g2, g3, g4, g5]; rfl
  have hb : usual.bs = [false, false, false, false, false, false, false, false] := by
    unfold RD.bs
    rw [hall]
    unfold usual
    simp only [FD.q_of]
    decide +kernel
  unfold RD.w
  rw [hb]; rfl
theorem works36 : Runs Try.prog g_retrospectlaw36_works [] (.d (.bool true)) := by
  have u := usual_ok
  have f1 := Factor_spec (f := 16) (e := usual.tol) u u.1 (by omega) (by omega) rfl (by omega) (by omega)
  have v1 : factQ usual.safe.q usual.tol.q usual.low.q usual.high.q (16 : Nat) usual.tol.q = ((7 : Int) : Rat) / ((8 : Int) : Rat) := by
    unfold usual
    simp only [FD.q_of]
    decide +kernel
  rw [v1] at f1
  have z0 : (FD.of ((0 : Int) : Rat)).ok 1 := FD.ok_of (Sz_int (by show (toW 0).length ≤ 1; rw [toW_zero]; exact Nat.zero_le _) (by omega))
  have f2 := Factor_spec (f := 16) (e := FD.of ((0 : Int) : Rat)) u z0 (by omega) (by omega) rfl (by omega) (by omega)
  have v2 : factQ usual.safe.q usual.tol.q usual.low.q usual.high.q (16 : Nat) (FD.of ((0 : Int) : Rat)).q = ((5 : Int) : Rat) := by
    unfold usual
    simp only [FD.q_of]
    decide +kernel
  rw [v2] at f2
  have rt1 := fRatio_spec (x := 7) (y := 8) (by omega) (by omega) (by omega) (by omega)
  rw [if_neg (by omega)] at rt1
  have s78 : Sz 2 (((7 : Int) : Rat) / ((8 : Int) : Rat)) := by
    have := Sz_div (fine_sz (f := 7) (by omega) (by omega)) (fine_sz (f := 8) (by omega) (by omega))
    exact this
  have s5 : Sz 1 ((5 : Int) : Rat) := fine_sz (f := 5) (by omega) (by omega)
  have a1 := dSame (FD.ok_of s78) (FD.ok_of s78) (by omega) (by omega)
  rw [decide_eq_true rfl] at a1
  have a2 := dSame (FD.ok_of s5) (FD.ok_of s5) (by omega) (by omega)
  rw [decide_eq_true rfl] at a2
  have r1 := Right_spec u (by omega) (by omega)
  rw [usual_w] at r1
  refine run1 [] p_retrospectlaw36_works rfl rfl (fun B S F0 w0 V0 => ?_)
  refine call_intro _ Usual_spec ?_
  refine call_intro _ f1 ?_
  refine call_intro _ rt1 ?_
  refine side_intro rfl ?_
  refine call_intro _ r1 ?_
  refine split_true rfl ?_
  refine call_intro _ a1 ?_
  refine split_true rfl ?_
  refine call_intro _ (fOf_spec (z := 0) (by omega) (by omega)) ?_
  refine call_intro _ f2 ?_
  refine call_intro _ (fOf_spec (z := 5) (by omega) (by omega)) ?_
  refine call_intro _ a2 ?_
  exact ret_intro rfl rfl
theorem inv_rules {ds : List D} (h : AllR OkD (shF ++ shF ++ shF ++ shF ++ shF ++ [Sh.int .i64, Sh.int .i64]) ds) : ∃ r : RD, ds = r.c ∧ (∀ x ∈ r.l, Wd x.n ∧ Wd x.d) ∧ -9223372036854775808 ≤ r.fine ∧ r.fine < 9223372036854775808 ∧ -9223372036854775808 ≤ r.most ∧ r.most < 9223372036854775808 := by
  have h : AllR OkD [.bool, .ws, .ws, .bool, .ws, .ws, .bool, .ws, .ws, .bool, .ws, .ws, .bool, .ws, .ws, Sh.int .i64, Sh.int .i64] ds := h
  obtain ⟨u0, t0, e0, a0, h⟩ := h.head
  obtain ⟨u1, t1, e1, a1, h⟩ := h.head
  obtain ⟨u2, t2, e2, a2, h⟩ := h.head
  obtain ⟨u3, t3, e3, a3, h⟩ := h.head
  obtain ⟨u4, t4, e4, a4, h⟩ := h.head
  obtain ⟨u5, t5, e5, a5, h⟩ := h.head
  obtain ⟨u6, t6, e6, a6, h⟩ := h.head
  obtain ⟨u7, t7, e7, a7, h⟩ := h.head
  obtain ⟨u8, t8, e8, a8, h⟩ := h.head
  obtain ⟨u9, t9, e9, a9, h⟩ := h.head
  obtain ⟨u10, t10, e10, a10, h⟩ := h.head
  obtain ⟨u11, t11, e11, a11, h⟩ := h.head
  obtain ⟨u12, t12, e12, a12, h⟩ := h.head
  obtain ⟨u13, t13, e13, a13, h⟩ := h.head
  obtain ⟨u14, t14, e14, a14, h⟩ := h.head
  obtain ⟨u15, t15, e15, a15, h⟩ := h.head
  obtain ⟨u16, t16, e16, a16, h⟩ := h.head
  obtain rfl := h.nil_of
  obtain ⟨b0, rfl⟩ := inv_bool a0
  obtain ⟨n0, rfl, w0, _⟩ := inv_ws a1
  obtain ⟨d0, rfl, v0, _⟩ := inv_ws a2
  obtain ⟨b1, rfl⟩ := inv_bool a3
  obtain ⟨n1, rfl, w1, _⟩ := inv_ws a4
  obtain ⟨d1, rfl, v1, _⟩ := inv_ws a5
  obtain ⟨b2, rfl⟩ := inv_bool a6
  obtain ⟨n2, rfl, w2, _⟩ := inv_ws a7
  obtain ⟨d2, rfl, v2, _⟩ := inv_ws a8
  obtain ⟨b3, rfl⟩ := inv_bool a9
  obtain ⟨n3, rfl, w3, _⟩ := inv_ws a10
  obtain ⟨d3, rfl, v3, _⟩ := inv_ws a11
  obtain ⟨b4, rfl⟩ := inv_bool a12
  obtain ⟨n4, rfl, w4, _⟩ := inv_ws a13
  obtain ⟨d4, rfl, v4, _⟩ := inv_ws a14
  obtain ⟨f, rfl, hf⟩ := inv_int a15
  obtain ⟨m, rfl, hm⟩ := inv_int a16
  refine ⟨⟨⟨b0, n0, d0⟩, ⟨b1, n1, d1⟩, ⟨b2, n2, d2⟩, ⟨b3, n3, d3⟩, ⟨b4, n4, d4⟩, f, m⟩, by rw [e0, e1, e2, e3, e4, e5, e6, e7, e8, e9, e10, e11, e12, e13, e14, e15, e16]; rfl, ?_, (wf_i64 hf).1, (wf_i64 hf).2, (wf_i64 hm).1, (wf_i64 hm).2⟩
  intro x hx
  simp only [RD.l, List.mem_cons, List.not_mem_nil, or_false] at hx
  rcases hx with rfl | rfl | rfl | rfl | rfl
  · exact ⟨w0, v0⟩
  · exact ⟨w1, v1⟩
  · exact ⟨w2, v2⟩
  · exact ⟨w3, v3⟩
  · exact ⟨w4, v4⟩
theorem ok_lb {x : FD} {m : Nat} (h : Wd x.n ∧ Wd x.d) (hl : lb x (m : Int) = false) : x.ok m := by
  obtain ⟨h1, h2⟩ := longOr hl
  exact ⟨h.1, h.2, by omega, by omega⟩
theorem RD.ok_lb {r : RD} {m : Nat} (h : ∀ x ∈ r.l, Wd x.n ∧ Wd x.d) (hl : lb r.tol m = false ∧ lb r.safe m = false ∧ lb r.low m = false ∧ lb r.high m = false ∧ lb r.least m = false) : r.ok m :=
  ⟨Fw.ok_lb (h _ (by simp [RD.l])) hl.1, Fw.ok_lb (h _ (by simp [RD.l])) hl.2.1, Fw.ok_lb (h _ (by simp [RD.l])) hl.2.2.1, Fw.ok_lb (h _ (by simp [RD.l])) hl.2.2.2.1, Fw.ok_lb (h _ (by simp [RD.l])) hl.2.2.2.2⟩
end Go.Proofs.Ytolicidpfhgaoaa.Fw

/- Paces: what is cut, wanted next, too small; what right rules are. -/
set_option linter.unusedVariables false
namespace Go.Proofs.Ytolicidpfhgaoaa.Fw
open Go Pu
def cutQ (t e w : Rat) : Rat := if e - t < w then e - t else w
theorem Cut_spec {k : Nat} {t e w : FD} (ht : t.ok k) (he : e.ok k) (hw : w.ok k) (h1 : 1 ≤ k) (hk : k ≤ 1000000) : Runs Try.prog g_pace_Cut [t.v, e.v, w.v] (fr (cutQ t.q e.q w.q)) := by
  have s1 : Runs Try.prog g_frac_Sub [e.v, t.v] (fr (e.q - t.q)) := fSub_spec he ht h1 (by omega)
  have hz := Sz_sub (he.sz h1) (ht.sz h1)
  have s2 := dCmp (hw.mono (show k ≤ k + k + 1 by omega)) (FD.ok_of hz) (by omega) (by omega)
  rw [FD.q_of] at s2
  unfold cutQ
  refine run1 [] p_pace_Cut rfl rfl (fun B S F0 w0 V0 => ?_)
  refine call_intro _ s1 ?_
  refine call_intro _ s2 ?_
  by_cases c : e.q - t.q < w.q
  · refine split_true (gt_sgn.trans (decide_eq_true c)) ?_
    exact ret_intro (by rw [if_pos c]; rfl) rfl
  · refine split_false (gt_sgn.trans (decide_eq_false c)) ?_
    refine call_intro _ (dNorm hw h1 (by omega)) ?_
    exact ret_intro (by rw [if_neg c]; rfl) rfl
theorem wsel_zero : ∀ (l : List Bool) (k : Int), 1 ≤ k → wsel l k = 0 → ∀ b ∈ l, b = false
  | [], _, _, _, b, hb => by cases hb
  | a :: l, k, hk, h, b, hb => by
    cases a with
    | true => exact absurd h (by show (k : Int) ≠ 0; omega)
    | false =>
      rcases List.mem_cons.1 hb with rfl | hb
      · rfl
      · exact wsel_zero l (k + 1) (by omega) h b hb
structure RD.Fit (r : RD) : Prop where
  all : r.l.all gd = true
  tol : 0 ≤ r.tol.q
  safe0 : 0 < r.safe.q
  safe1 : r.safe.q ≤ 1
  low0 : 0 < r.low.q
  low1 : r.low.q < 1
  high : 1 ≤ r.high.q
  least : 0 < r.least.q
  fine0 : 1 ≤ r.fine
  fine1 : r.fine ≤ 1024
theorem one_cast : ((1 : Int) : Rat) = 1 := rfl
theorem RD.fit {r : RD} (h : r.w = 0) : r.Fit := by
  have hb := wsel_zero _ _ (by omega) h
  unfold RD.bs at hb
  rw [one_cast] at hb
  have f1 := hb _ (List.mem_cons_self)
  have f2 := hb _ (List.mem_cons_of_mem _ (List.mem_cons_self))
  have f3 := hb _ (List.mem_cons_of_mem _ (List.mem_cons_of_mem _ (List.mem_cons_self)))
  have f4 := hb _ (List.mem_cons_of_mem _ (List.mem_cons_of_mem _ (List.mem_cons_of_mem _ (List.mem_cons_self))))
  have f5 := hb _ (List.mem_cons_of_mem _ (List.mem_cons_of_mem _ (List.mem_cons_of_mem _ (List.mem_cons_of_mem _ (List.mem_cons_self)))))
  have f6 := hb _ (List.mem_cons_of_mem _ (List.mem_cons_of_mem _ (List.mem_cons_of_mem _ (List.mem_cons_of_mem _ (List.mem_cons_of_mem _ (List.mem_cons_self))))))
  have f7 := hb _ (List.mem_cons_of_mem _ (List.mem_cons_of_mem _ (List.mem_cons_of_mem _ (List.mem_cons_of_mem _ (List.mem_cons_of_mem _ (List.mem_cons_of_mem _ (List.mem_cons_self)))))))
  clear hb
  rw [Bool.or_eq_false_iff] at f3 f4 f7
  simp only [decide_eq_false_iff_not] at f2 f3 f4 f5 f6 f7
  have c2 := sgn_cases r.tol.q
  have c3 := sgn_cases r.safe.q
  have c3' := sgn_cases (r.safe.q - 1)
  have c4 := sgn_cases r.low.q
  have c4' := sgn_cases (r.low.q - 1)
  have c5 := sgn_cases (r.high.q - 1)
  have c6 := sgn_cases r.least.q
  refine ⟨by simpa using f1, ?_, ?_, ?_, ?_, ?_, ?_, ?_, by omega, by omega⟩
  · rcases c2 with ⟨p, q⟩ | ⟨p, q⟩ | ⟨p, q⟩
    · grind
    · grind
    · omega
  · rcases c3 with ⟨p, q⟩ | ⟨p, q⟩ | ⟨p, q⟩
    · exact p
    · omega
    · omega
  · rcases c3' with ⟨p, q⟩ | ⟨p, q⟩ | ⟨p, q⟩
    · omega
    · grind
    · grind
  · rcases c4 with ⟨p, q⟩ | ⟨p, q⟩ | ⟨p, q⟩
    · exact p
    · omega
    · omega
  · rcases c4' with ⟨p, q⟩ | ⟨p, q⟩ | ⟨p, q⟩
    · omega
    · omega
    · grind
  · rcases c5 with ⟨p, q⟩ | ⟨p, q⟩ | ⟨p, q⟩
    · grind
    · grind
    · omega
  · rcases c6 with ⟨p, q⟩ | ⟨p, q⟩ | ⟨p, q⟩
    · exact p
    · omega
    · omega
theorem abs_nonneg (q : Rat) : 0 ≤ absQ q := by
  have := abs_num q
  have h : 0 ≤ (absQ q).num := by
    unfold absQ
    rw [this]; omega
  exact Rat.num_nonneg.1 h
theorem abs_sz {k : Nat} {q : Rat} (h : Sz k q) : Sz k (absQ q) := by
  unfold absQ
  split
  · exact Sz_neg h
  · exact h
end Go.Proofs.Ytolicidpfhgaoaa.Fw

/- The absolute fraction. -/
set_option linter.unusedVariables false
namespace Go.Proofs.Ytolicidpfhgaoaa.Fw
open Go Pu
theorem fNeg_spec {k : Nat} {s : Bool} {n d : List Int} (h : Fk k n d) (hk1 : 1 ≤ k) (hk : k ≤ 137438953472) : Runs Try.prog g_frac_Neg [fq s n d] (fr (-rv s n d)) := by
  refine run1 [] p_frac_Neg rfl rfl (fun B S F0 w0 V0 => ?_)
  refine call_intro _ (fNorm_spec h hk1 hk) ?_
  have hz := h.sz (s := s) hk1
  obtain ⟨q, hq⟩ : ∃ q, q = rv s n d := ⟨_, rfl⟩
  rw [← hq] at hz ⊢
  have hn := wNeg_spec (s := decide (q.num < 0)) (Wd.toW q.num.natAbs) (by have := hz.n; omega)
  rw [val_toW, sg_self] at hn
  refine call_intro _ hn ?_
  refine ret_intro ?_ rfl
  rw [fr_of (Rat.neg_num q) (Rat.neg_den q)]
  rfl
theorem fAbs_spec {k : Nat} {s : Bool} {n d : List Int} (h : Fk k n d) (hk1 : 1 ≤ k) (hk : k ≤ 137438953472) : Runs Try.prog g_frac_Abs [fq s n d] (fr (absQ (rv s n d))) := by
  refine run1 [] p_frac_Abs rfl rfl (fun B S F0 w0 V0 => ?_)
  refine call_intro _ (fNorm_spec h hk1 hk) ?_
  refine ret_intro (Eq.trans ?_ (fr_abs (rv s n d)).symm) rfl
  rfl
end Go.Proofs.Ytolicidpfhgaoaa.Fw

/- The law PaceBounds, walked. -/
set_option linter.unusedVariables false
namespace Go.Proofs.Ytolicidpfhgaoaa.Fw
open Go Pu
def cl2 (a b : FD) : List D := [.bool a.s, .words a.n, .words a.d, .bool b.s, .words b.n, .words b.d]
def cl3 (a b c : FD) : List D := [.bool a.s, .words a.n, .words a.d, .bool b.s, .words b.n, .words b.d, .bool c.s, .words c.n, .words c.d]
theorem inv_c2 {ds : List D} (h : AllR OkD (List.replicate 2 shF).flatten ds) : ∃ a b : FD, ds = cl2 a b ∧ (Wd a.n ∧ Wd a.d) ∧ (Wd b.n ∧ Wd b.d) := by
  have h : AllR OkD [.bool, .ws, .ws, .bool, .ws, .ws] ds := h
  obtain ⟨u0, t0, e0, a0, h⟩ := h.head
  obtain ⟨u1, t1, e1, a1, h⟩ := h.head
  obtain ⟨u2, t2, e2, a2, h⟩ := h.head
  obtain ⟨u3, t3, e3, a3, h⟩ := h.head
  obtain ⟨u4, t4, e4, a4, h⟩ := h.head
  obtain ⟨u5, t5, e5, a5, h⟩ := h.head
  obtain rfl := h.nil_of
  obtain ⟨b0, rfl⟩ := inv_bool a0
  obtain ⟨n0, rfl, w0, _⟩ := inv_ws a1
  obtain ⟨d0, rfl, v0, _⟩ := inv_ws a2
  obtain ⟨b1, rfl⟩ := inv_bool a3
  obtain ⟨n1, rfl, w1, _⟩ := inv_ws a4
  obtain ⟨d1, rfl, v1, _⟩ := inv_ws a5
  exact ⟨⟨b0, n0, d0⟩, ⟨b1, n1, d1⟩, by rw [e0, e1, e2, e3, e4, e5]; rfl, ⟨w0, v0⟩, ⟨w1, v1⟩⟩
theorem inv_c3 {ds : List D} (h : AllR OkD (List.replicate 3 shF).flatten ds) : ∃ a b c : FD, ds = cl3 a b c ∧ (Wd a.n ∧ Wd a.d) ∧ (Wd b.n ∧ Wd b.d) ∧ (Wd c.n ∧ Wd c.d) := by
  have h : AllR OkD [.bool, .ws, .ws, .bool, .ws, .ws, .bool, .ws, .ws] ds := h
  obtain ⟨u0, t0, e0, a0, h⟩ := h.head
  obtain ⟨u1, t1, e1, a1, h⟩ := h.head
  obtain ⟨u2, t2, e2, a2, h⟩ := h.head
  obtain ⟨u3, t3, e3, a3, h⟩ := h.head
  obtain ⟨u4, t4, e4, a4, h⟩ := h.head
  obtain ⟨u5, t5, e5, a5, h⟩ := h.head
  obtain ⟨u6, t6, e6, a6, h⟩ := h.head
  obtain ⟨u7, t7, e7, a7, h⟩ := h.head
  obtain ⟨u8, t8, e8, a8, h⟩ := h.head
  obtain rfl := h.nil_of
  obtain ⟨b0, rfl⟩ := inv_bool a0
  obtain ⟨n0, rfl, w0, _⟩ := inv_ws a1
  obtain ⟨d0, rfl, v0, _⟩ := inv_ws a2
  obtain ⟨b1, rfl⟩ := inv_bool a3
  obtain ⟨n1, rfl, w1, _⟩ := inv_ws a4
  obtain ⟨d1, rfl, v1, _⟩ := inv_ws a5
  obtain ⟨b2, rfl⟩ := inv_bool a6
  obtain ⟨n2, rfl, w2, _⟩ := inv_ws a7
  obtain ⟨d2, rfl, v2, _⟩ := inv_ws a8
  exact ⟨⟨b0, n0, d0⟩, ⟨b1, n1, d1⟩, ⟨b2, n2, d2⟩, by rw [e0, e1, e2, e3, e4, e5, e6, e7, e8]; rfl, ⟨w0, v0⟩, ⟨w1, v1⟩, ⟨w2, v2⟩⟩
theorem LongC (x : FD) (m : Int) : Runs Try.prog g_retrospectref09_Long [x.v, .d (.int .i64 m)] (.d (.bool (lb x m))) := LongD
theorem dAbs {k : Nat} {x : FD} (h : x.ok k) (h1 : 1 ≤ k) (hk : k ≤ 137438953472) : Runs Try.prog g_frac_Abs [x.v] (fr (absQ x.q)) := fAbs_spec h h1 hk
theorem le_sgn {p q : Rat} : decide (sgn (p - q).num ≤ 0) = decide (p ≤ q) := by
  have := gt_sgn (p := p) (q := q)
  rcases sgn_cases (p - q) with ⟨h, e⟩ | ⟨h, e⟩ | ⟨h, e⟩
  · rw [e, decide_eq_false (by omega), decide_eq_false (by grind)]
  · rw [e, decide_eq_true (by omega), decide_eq_true (by grind)]
  · rw [e, decide_eq_true (by omega), decide_eq_true (by grind)]
theorem ge_sgn {p q : Rat} : decide (sgn (p - q).num ≥ 0) = decide (q ≤ p) := by
  rcases sgn_cases (p - q) with ⟨h, e⟩ | ⟨h, e⟩ | ⟨h, e⟩
  · rw [e, decide_eq_true (by omega), decide_eq_true (by grind)]
  · rw [e, decide_eq_true (by omega), decide_eq_true (by grind)]
  · rw [e, decide_eq_false (by omega), decide_eq_false (by grind)]
theorem cut_le (t e w : Rat) : cutQ t e w ≤ w ∧ t + cutQ t e w ≤ e := by
  unfold cutQ
  split <;> constructor <;> grind
theorem RD.ok.mono' {j k : Nat} {r : RD} (h : r.ok j) (hk : j ≤ k) : r.ok k := ⟨h.1.mono hk, h.2.1.mono hk, h.2.2.1.mono hk, h.2.2.2.1.mono hk, h.2.2.2.2.mono hk⟩
set_option maxHeartbeats 4000000 in
theorem PaceBounds_runs {r : RD} {e0 e1 a b c : FD} (h : ∀ x ∈ r.l, Wd x.n ∧ Wd x.d) (he0 : Wd e0.n ∧ Wd e0.d) (he1 : Wd e1.n ∧ Wd e1.d) (ha : Wd a.n ∧ Wd a.d) (hb : Wd b.n ∧ Wd b.d) (hc : Wd c.n ∧ Wd c.d) :
    Runs Try.prog g_retrospectlaw36_PaceBounds [r.v, .agg 6 (cl2 e0 e1), .agg 9 (cl3 a b c)] (.d (.bool true)) := by
  obtain ⟨lg, hlg, hno⟩ := Long36_spec r 4
  refine run1 [] p_retrospectlaw36_PaceBounds rfl rfl (fun B S F0 w0 V0 => ?_)
  refine call_intro _ hlg ?_
  refine split_intro (fun g => ?_) (fun g => ?_)
  · refine split_true rfl ?_
    refine split_true rfl ?_
    refine split_true rfl ?_
    refine split_true rfl ?_
    refine split_true rfl ?_
    refine call_intro _ works36 ?_
    exact ret_intro rfl rfl
  have hok : r.ok 4 := RD.ok_lb h (hno g)
  refine call_intro _ (LongC e0 4) ?_
  refine split_intro (fun g => ?_) (fun g => ?_)
  · refine split_true rfl ?_
    refine split_true rfl ?_
    refine split_true rfl ?_
    refine split_true rfl ?_
    refine call_intro _ works36 ?_
    exact ret_intro rfl rfl
  have oe0 : e0.ok 4 := ok_lb he0 g
  refine call_intro _ (LongC e1 4) ?_
  refine split_intro (fun g => ?_) (fun g => ?_)
  · refine split_true rfl ?_
    refine split_true rfl ?_
    refine split_true rfl ?_
    refine call_intro _ works36 ?_
    exact ret_intro rfl rfl
  have oe1 : e1.ok 4 := ok_lb he1 g
  refine call_intro _ (LongC a 4) ?_
  refine split_intro (fun g => ?_) (fun g => ?_)
  · refine split_true rfl ?_
    refine split_true rfl ?_
    refine call_intro _ works36 ?_
    exact ret_intro rfl rfl
  have oa : a.ok 4 := ok_lb ha g
  refine call_intro _ (LongC b 4) ?_
  refine split_intro (fun g => ?_) (fun g => ?_)
  · refine split_true rfl ?_
    refine call_intro _ works36 ?_
    exact ret_intro rfl rfl
  have ob : b.ok 4 := ok_lb hb g
  refine call_intro _ (LongC c 4) ?_
  refine split_intro (fun g => ?_) (fun g => ?_)
  · refine call_intro _ works36 ?_
    exact ret_intro rfl rfl
  have oc : c.ok 4 := ok_lb hc g
  refine call_intro _ (Tell_spec r) ?_
  refine call_intro _ (Right_spec hok (by omega) (by omega)) ?_
  refine split_intro (fun g => ?_) (fun g => ?_)
  · refine call_intro _ works36 ?_
    exact ret_intro rfl rfl
  have hw : r.w = 0 := by
    have g : (!(r.w == 0)) = false := g
    simpa using g
  have fit := RD.fit hw
  obtain ⟨f, hf⟩ : ∃ f : Nat, r.fine = (f : Int) := ⟨r.fine.toNat, by have := fit.fine0; omega⟩
  have f0 : 1 ≤ f := by have := fit.fine0; omega
  have f1 : f ≤ 1024 := by have := fit.fine1; omega
  obtain ⟨n, en⟩ : ∃ n, n = absQ e0.q := ⟨_, rfl⟩
  obtain ⟨m, em⟩ : ∃ m, m = absQ e1.q := ⟨_, rfl⟩
  have n0 : 0 ≤ n := by rw [en]; exact abs_nonneg _
  have m0 : 0 ≤ m := by rw [em]; exact abs_nonneg _
  have sn : Sz 4 n := by rw [en]; exact abs_sz (oe0.sz (by omega))
  have sm : Sz 4 m := by rw [em]; exact abs_sz (oe1.sz (by omega))
  have a1 := dAbs oe0 (by omega) (by omega)
  have a2 := dAbs oe1 (by omega) (by omega)
  rw [← en] at a1
  rw [← em] at a2
  have a3 := dAdd (FD.ok_of sn) (FD.ok_of sm) (by omega) (by omega)
  rw [FD.q_of, FD.q_of] at a3
  obtain ⟨p, ep⟩ : ∃ p, p = n + m := ⟨_, rfl⟩
  have sp : Sz 9 p := by rw [ep]; exact Sz_add sn sm
  have np : n ≤ p := by grind
  rw [← ep] at a3
  have h9 := hok.mono' (show 4 ≤ 9 by omega)
  have lh : r.low.q ≤ r.high.q := by have := fit.low1; have := fit.high; grind
  have F1 := Factor_spec h9 (FD.ok_of (sn.mono (show 4 ≤ 9 by omega))) (by omega) (by omega) hf f0 f1
  have F2 := Factor_spec h9 (FD.ok_of sp) (by omega) (by omega) hf f0 f1
  have Z1 := fact_sz h9 (sn.mono (show 4 ≤ 9 by omega)) (by omega) f0 f1
  have Z2 := fact_sz h9 sp (by omega) f0 f1
  rw [FD.q_of] at F1 F2
  have l1 := fact_low (s := r.safe.q) (t := r.tol.q) (e := n) (fine := (f : Int)) lh
  have l2 := fact_high (s := r.safe.q) (t := r.tol.q) (e := n) (fine := (f : Int)) lh
  have l3 := fact_mono (s := r.safe.q) (t := r.tol.q) (a := n) (b := p) (fine := (f : Int)) (by omega) (by have := fit.safe0; grind) fit.tol lh n0 np
  have l4 := fun he => fact_lt (s := r.safe.q) (t := r.tol.q) (l := r.low.q) (h := r.high.q) (e := n) (fine := (f : Int)) (by omega) (by have := fit.safe0; grind) fit.safe1 fit.tol fit.low1 fit.high he
  obtain ⟨u, eu⟩ : ∃ u, u = factQ r.safe.q r.tol.q r.low.q r.high.q (f : Int) n := ⟨_, rfl⟩
  obtain ⟨v, ev⟩ : ∃ v, v = factQ r.safe.q r.tol.q r.low.q r.high.q (f : Int) p := ⟨_, rfl⟩
  rw [← eu] at F1 Z1 l1 l2 l3 l4
  rw [← ev] at F2 Z2 l3
  have c1 := dCmp (FD.ok_of Z1) (hok.2.2.1.mono (show 4 ≤ 29 by omega)) (by omega) (by omega)
  have c2 := dCmp (FD.ok_of Z1) (hok.2.2.2.1.mono (show 4 ≤ 29 by omega)) (by omega) (by omega)
  have c3 := dCmp (FD.ok_of Z2) (FD.ok_of Z1) (by omega) (by omega)
  have c4 := cmp_one (FD.ok_of Z1) (by omega) (by omega)
  have k1 := Accepts_spec h9 (FD.ok_of (sn.mono (show 4 ≤ 9 by omega))) (by omega) (by omega)
  have k2 := Accepts_spec h9 (FD.ok_of sp) (by omega) (by omega)
  rw [FD.q_of] at c1 c2 c4 k1 k2
  rw [FD.q_of, FD.q_of] at c3
  obtain ⟨w1, w2⟩ := cut_le a.q b.q c.q
  have hcut := Cut_spec oa ob oc (by omega) (by omega)
  have zc : Sz 9 (cutQ a.q b.q c.q) := by
    unfold cutQ
    split
    · exact Sz_sub (ob.sz (by omega)) (oa.sz (by omega))
    · exact (oc.sz (by omega)).mono (by omega)
  obtain ⟨x, ex⟩ : ∃ x, x = cutQ a.q b.q c.q := ⟨_, rfl⟩
  rw [← ex] at w1 w2 hcut zc
  have d1 := dCmp (FD.ok_of zc) (oc.mono (show 4 ≤ 9 by omega)) (by omega) (by omega)
  have d2 := dAdd (oa.mono (show 4 ≤ 9 by omega)) (FD.ok_of zc) (by omega) (by omega)
  have zd := Sz_add ((oa.sz (by omega)).mono (show 4 ≤ 9 by omega)) zc
  have d3 := dCmp (FD.ok_of zd) (ob.mono (show 4 ≤ 19 by omega)) (by omega) (by omega)
  rw [FD.q_of] at d1 d2 d3
  refine call_intro _ (ToD (x := e0)) ?_
  refine call_intro _ a1 ?_
  refine side_intro rfl ?_
  refine call_intro _ (ToD (x := e1)) ?_
  refine call_intro _ a2 ?_
  refine call_intro _ a3 ?_
  refine call_intro _ F1 ?_
  refine call_intro _ F2 ?_
  refine call_intro _ (ToD (x := a)) ?_
  refine call_intro _ (ToD (x := b)) ?_
  refine call_intro _ (ToD (x := c)) ?_
  refine call_intro _ hcut ?_
  refine side_intro rfl ?_
  refine call_intro _ c1 ?_
  refine split_false (lt_sgn.trans (decide_eq_false (Rat.not_lt.2 l1))) ?_
  refine call_intro _ c2 ?_
  refine split_false (gt_sgn.trans (decide_eq_false (Rat.not_lt.2 l2))) ?_
  refine call_intro _ c3 ?_
  refine split_false (gt_sgn.trans (decide_eq_false (Rat.not_lt.2 l3))) ?_
  refine call_intro _ k1 ?_
  have mono : p ≤ r.tol.q → n ≤ r.tol.q := fun h => Rat.le_trans np h
  by_cases hn : n ≤ r.tol.q
  · have q1 : decide (sgn (n - r.tol.q).num ≤ 0) = true := le_sgn.trans (decide_eq_true hn)
    refine split_false (by show (!decide (sgn (n - r.tol.q).num ≤ 0)) = false; rw [q1]; rfl) ?_
    refine split_false rfl ?_
    refine side_intro rfl ?_
    refine call_intro _ d1 ?_
    refine split_true (le_sgn.trans (decide_eq_true w1)) ?_
    refine call_intro _ d2 ?_
    refine call_intro _ d3 ?_
    refine split_true (le_sgn.trans (decide_eq_true w2)) ?_
    refine call_intro _ k2 ?_
    refine split_intro (fun g => ?_) (fun g => ?_)
    · refine split_true rfl ?_
      refine call_intro _ works36 ?_
      exact ret_intro rfl rfl
    · refine call_intro _ k1 ?_
      refine split_true q1 ?_
      refine call_intro _ works36 ?_
      exact ret_intro rfl rfl
  · have q1 : decide (sgn (n - r.tol.q).num ≤ 0) = false := le_sgn.trans (decide_eq_false hn)
    have q2 : decide (sgn (p - r.tol.q).num ≤ 0) = false := le_sgn.trans (decide_eq_false (fun h => hn (mono h)))
    have q3 := l4 (Rat.not_le.1 hn)
    refine split_true (by show (!decide (sgn (n - r.tol.q).num ≤ 0)) = true; rw [q1]; rfl) ?_
    refine call_intro _ (fOf_spec (z := 1) (by omega) (by omega)) ?_
    refine call_intro _ c4 ?_
    refine split_false (ge_sgn.trans (decide_eq_false (Rat.not_le.2 q3))) ?_
    refine side_intro rfl ?_
    refine call_intro _ d1 ?_
    refine split_true (le_sgn.trans (decide_eq_true w1)) ?_
    refine call_intro _ d2 ?_
    refine call_intro _ d3 ?_
    refine split_true (le_sgn.trans (decide_eq_true w2)) ?_
    refine call_intro _ k2 ?_
    refine split_true (by show (!decide (sgn (p - r.tol.q).num ≤ 0)) = true; rw [q2]; rfl) ?_
    refine split_true rfl ?_
    refine call_intro _ works36 ?_
    exact ret_intro rfl rfl
theorem PaceBounds_typed {x y z : List D} (h0 : AllR OkD (shF ++ shF ++ shF ++ shF ++ shF ++ [Sh.int .i64, Sh.int .i64]) x) (h1 : AllR OkD (List.replicate 2 shF).flatten y) (h2 : AllR OkD (List.replicate 3 shF).flatten z) :
    Runs Try.prog g_retrospectlaw36_PaceBounds [.agg (shF ++ shF ++ shF ++ shF ++ shF ++ [Sh.int .i64, Sh.int .i64]).length x, .agg (List.replicate 2 shF).flatten.length y, .agg (List.replicate 3 shF).flatten.length z] (.d (.bool true)) := by
  obtain ⟨r, rfl, hr, _⟩ := inv_rules h0
  obtain ⟨e0, e1, rfl, he0, he1⟩ := inv_c2 h1
  obtain ⟨a, b, c, rfl, ha, hb, hc⟩ := inv_c3 h2
  exact PaceBounds_runs hr he0 he1 ha hb hc
end Go.Proofs.Ytolicidpfhgaoaa.Fw
