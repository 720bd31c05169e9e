import Derived.Test.YthefflmebkcilaaFL
set_option linter.unusedVariables false
set_option linter.unusedSimpArgs false
namespace Go.Proofs.Ythefflmebkcilaa.Fw
open Go
variable {P : Program} {T : TT} {c : Ctx} {F : Nat → Prop} {ν : Nat → Value} {s : St} {a : Act} {w : World} {o : Oper} {keep : List Nat}

/-! ### Effects -/
structure Eff where
  u : Option (Nat × MO)
  d : Option Tmp
  v : V
def Eff.app (e : Eff) (s : St) : St := (match e.u with | some (j, ob) => s.upd j ob | none => s).put e.d e.v
theorem Eff.env (e : Eff) (s : St) (t : Nat) : (e.app s).env t = if e.d = some t then e.v else s.env t := by
  unfold Eff.app
  have hu : ∀ (s : St), (match e.u with | some (j, ob) => s.upd j ob | none => s).env = s.env := fun s => by cases e.u with
    | none => rfl
    | some x => rfl
  cases hd : e.d with
  | none => simp [St.put, hu]
  | some d =>
    rw [put_env, hu]
    by_cases h : t = d
    · subst h; simp
    · have : ¬ d = t := fun e => h e.symm
      simp [h, this]
theorem Eff.mem (e : Eff) (s : St) (j : Nat) : (e.app s).mem j = match e.u with | some (i, ob) => if j = i then some ob else s.mem j | none => s.mem j := by
  have hp : ∀ (s : St) (d : Option Tmp) (v : V), (s.put d v).mem = s.mem := fun s d v => by cases d <;> rfl
  unfold Eff.app
  rw [hp]
  cases e.u with
  | none => rfl
  | some x => exact upd_mem s x.1 x.2 j
theorem St.ext {s s' : St} (h1 : ∀ t, s.env t = s'.env t) (h2 : ∀ j, s.mem j = s'.mem j) : s = s' := by
  cases s; cases s'
  have e1 := funext h1
  have e2 := funext h2
  simp only at e1 e2
  subst e1; subst e2
  rfl
/-- A step has an effect; its footprint tells what it may write. -/
theorem step_eff {N : Nat} {ops : List Oper} {s1 : St} (h : StepR P T keep N ops o s s1) : ∃ e : Eff, s1 = e.app s ∧ e.d = o.dst ∧ (∀ j ob, e.u = some (j, ob) → j ∈ wrsOf (evalW T keep ops o s)) ∧
    ∀ s' : St, wants ops o s' = wants ops o s → (wants ops o s = .yes → eval1 T keep o s' = eval1 T keep o s) → StepR P T keep N ops o s' (e.app s') := by
  obtain ⟨hd, h⟩ := h
  unfold StepR evalW
  cases hw : wants ops o s with
  | bad => rw [hw] at h; exact h.elim
  | no =>
    rw [hw] at h
    subst h
    refine ⟨⟨none, o.dst, .tup []⟩, rfl, rfl, fun j ob hj => (by cases hj), fun s' h1 _ => ⟨hd, ?_⟩⟩
    rw [h1]; rfl
  | yes =>
    rw [hw] at h
    dsimp only at h
    cases he : eval1 T keep o s with
    | fail => rw [he] at h; exact h.elim
    | sem => rw [he] at h; exact h.elim
    | val v =>
      rw [he] at h; subst h
      refine ⟨⟨none, o.dst, v⟩, rfl, rfl, fun j ob hj => (by cases hj), fun s' h1 h2 => ⟨hd, ?_⟩⟩
      rw [h1]; dsimp only; rw [h2 rfl]; rfl
    | nval v =>
      rw [he] at h; subst h
      refine ⟨⟨none, o.dst, v⟩, rfl, rfl, fun j ob hj => (by cases hj), fun s' h1 h2 => ⟨hd, ?_⟩⟩
      rw [h1]; dsimp only; rw [h2 rfl]; rfl
    | sval p v =>
      rw [he] at h; obtain ⟨hp, rfl⟩ := h
      refine ⟨⟨none, o.dst, v⟩, rfl, rfl, fun j ob hj => (by cases hj), fun s' h1 h2 => ⟨hd, ?_⟩⟩
      rw [h1]; dsimp only; rw [h2 rfl]; exact ⟨hp, rfl⟩
    | idxw l j f =>
      rw [he] at h; obtain ⟨x, h3, h4, rfl⟩ := h
      refine ⟨⟨none, o.dst, f (wd x)⟩, rfl, rfl, fun j ob hj => (by cases hj), fun s' h1 h2 => ⟨hd, ?_⟩⟩
      rw [h1]; dsimp only; rw [h2 rfl]; exact ⟨x, h3, h4, rfl⟩
    | idxr l j f =>
      rw [he] at h; obtain ⟨x, h3, h4, rfl⟩ := h
      refine ⟨⟨none, o.dst, f x⟩, rfl, rfl, fun j ob hj => (by cases hj), fun s' h1 h2 => ⟨hd, ?_⟩⟩
      rw [h1]; dsimp only; rw [h2 rfl]; exact ⟨x, h3, h4, rfl⟩
    | upd j obj v =>
      rw [he] at h; subst h
      refine ⟨⟨some (j, obj), o.dst, v⟩, rfl, rfl, fun j' ob hj => by injection hj with hj; injection hj with hj; subst hj; simp [wrsOf], fun s' h1 h2 => ⟨hd, ?_⟩⟩
      rw [h1]; dsimp only; rw [h2 rfl]; rfl
    | call g args =>
      rw [he] at h; obtain ⟨r, h3, rfl⟩ := h
      refine ⟨⟨none, o.dst, r⟩, rfl, rfl, fun j ob hj => (by cases hj), fun s' h1 h2 => ⟨hd, ?_⟩⟩
      rw [h1]; dsimp only; rw [h2 rfl]; exact ⟨r, h3, rfl⟩
theorem eff_comm (e f : Eff) (s : St) (hd : ∀ t, e.d = some t → f.d ≠ some t) (hu : ∀ i ob j ob', e.u = some (i, ob) → f.u = some (j, ob') → i ≠ j) : f.app (e.app s) = e.app (f.app s) := by
  refine St.ext (fun t => ?_) (fun j => ?_)
  · rw [Eff.env, Eff.env, Eff.env, Eff.env]
    by_cases h1 : f.d = some t
    · by_cases h2 : e.d = some t
      · exact absurd h1 (hd t h2)
      · rw [if_pos h1, if_neg h2, if_pos h1]
    · rw [if_neg h1]
      by_cases h2 : e.d = some t
      · rw [if_pos h2, if_pos h2]
      · rw [if_neg h2, if_neg h2, if_neg h1]
  · rw [Eff.mem, Eff.mem, Eff.mem, Eff.mem]
    cases hf : f.u with
    | none => rfl
    | some x =>
      cases he : e.u with
      | none => rfl
      | some y =>
        have := hu y.1 y.2 x.1 x.2 he hf
        dsimp only
        by_cases h1 : j = x.1
        · have h2 : j ≠ y.1 := fun h => this (h ▸ h1)
          rw [if_pos h1, if_neg h2, if_pos h1]
        · rw [if_neg h1]
          by_cases h2 : j = y.1
          · rw [if_pos h2, if_pos h2]
          · rw [if_neg h2, if_neg h2, if_neg h1]

theorem rds_congr {s s' : St} (h : ∀ x ∈ o.op.operands.toList, s'.ev x = s.ev x) : rdsOf o s' = rdsOf o s := by
  unfold rdsOf
  rw [List.map_congr_left fun x hx => by rw [h x hx]]
theorem wants_congr {ops : List Oper} {s s' : St} (h : ∀ d, (∃ j w g, o.guard = some (j, w) ∧ ops[j]? = some g ∧ g.dst = some d) → s'.env d = s.env d) : wants ops o s' = wants ops o s := by
  unfold wants
  cases hg : o.guard with
  | none => rfl
  | some jw =>
    obtain ⟨j, want⟩ := jw
    dsimp only
    cases hj : ops[j]? with
    | none => rfl
    | some g =>
      dsimp only
      cases hd : g.dst with
      | none => rfl
      | some d => dsimp only; rw [h d ⟨j, want, g, hg, hj, hd⟩]
theorem step_ev {N : Nat} {ops : List Oper} {x y : Oper} {s s1 : St} (hx : StepR P T keep N ops x s s1) (hslots : apartL (dstL x) (tmpsOf ops y) = true) : (∀ z ∈ y.op.operands.toList, s1.ev z = s.ev z) ∧ wants ops y s1 = wants ops y s := by
  obtain ⟨e, rfl, hd, hu, _⟩ := step_eff hx
  have henv : ∀ t, t ∈ tmpsOf ops y → (e.app s).env t = s.env t := by
    intro t ht
    rw [Eff.env, if_neg]
    rw [hd]
    intro h
    exact apartL_iff.1 hslots t (by unfold dstL; rw [h]; simp) ht
  refine ⟨fun z hz => ev_congr fun t ht => henv t ?_, wants_congr fun d hd' => henv d ?_⟩
  · subst ht
    unfold tmpsOf Oper.looksAt
    exact List.mem_append_left _ (List.mem_filterMap.2 ⟨_, hz, rfl⟩)
  · obtain ⟨j, wt, g, h1, h2, h3⟩ := hd'
    unfold tmpsOf Oper.looksAt
    refine List.mem_append_right _ ?_
    rw [h1]
    simp [h2, h3]
/-- What a step doesn't write, another operation evaluates alike, ahead of it and behind. -/
theorem step_mem {N : Nat} {ops : List Oper} {x : Oper} {s s1 : St} (hx : StepR P T keep N ops x s s1) (L : List Nat) (hw : apartL (wrsOf (evalW T keep ops x s)) L = true) : ∀ j ∈ L, s1.mem j = s.mem j := by
  obtain ⟨e, rfl, hd, hu, _⟩ := step_eff hx
  intro j hj
  rw [Eff.mem]
  cases he : e.u with
  | none => rfl
  | some z =>
    dsimp only
    rw [if_neg]
    intro h
    exact apartL_iff.1 hw z.1 (hu z.1 z.2 he) (h ▸ hj)
theorem evalW_congr {ops : List Oper} {y : Oper} {s s' : St} (hev : ∀ z ∈ y.op.operands.toList, s'.ev z = s.ev z) (hwants : wants ops y s' = wants ops y s) (hrd : ∀ j ∈ rdsOf y s, s'.mem j = s.mem j) (hwr : ∀ j ∈ wrsOf (evalW T keep ops y s), s'.mem j = s.mem j)
    (hnf : wants ops y s = .yes → eval1 T keep y s ≠ .fail) : evalW T keep ops y s' = evalW T keep ops y s := by
  unfold evalW at hwr ⊢
  rw [hwants]
  cases hw : wants ops y s with
  | yes =>
    rw [hw] at hwr
    dsimp only at hwr ⊢
    refine eval1_congr T keep ⟨hev, hrd⟩ (fun d hd => ?_) (hnf hw)
    by_cases h : ∃ v obj, eval1 T keep y s = .upd d obj v
    · obtain ⟨v, obj, h⟩ := h
      exact .inl (hwr d (by rw [h]; simp [wrsOf]))
    · exact .inr fun v obj hv => h ⟨v, obj, hv⟩
  | _ => rfl
theorem step_nf {N : Nat} {ops : List Oper} {y : Oper} {s s1 : St} (h : StepR P T keep N ops y s s1) : wants ops y s = .yes → eval1 T keep y s ≠ .fail := by
  intro hw he
  have h2 := h.2
  rw [hw] at h2
  dsimp only at h2
  rw [he] at h2
  exact h2
/-- THE EXCHANGE of two operations that have nothing in common. -/
theorem exchange {N : Nat} {ops : List Oper} {x y : Oper} {s s1 s2 : St} (hx : StepR P T keep N ops x s s1) (hy : StepR P T keep N ops y s1 s2) (hsl : slotsApart ops x y = true) (hf : (footOf T keep ops x s).apart (footOf T keep ops y s1) = true) :
    ∃ s1', StepR P T keep N ops y s s1' ∧ StepR P T keep N ops x s1' s2 ∧ footOf T keep ops y s = footOf T keep ops y s1 ∧ footOf T keep ops x s1' = footOf T keep ops x s ∧ evalW T keep ops y s = evalW T keep ops y s1 ∧ evalW T keep ops x s1' = evalW T keep ops x s := by
  simp only [slotsApart, Bool.and_eq_true] at hsl
  obtain ⟨⟨sl1, sl2⟩, sl3⟩ := hsl
  simp only [Foot.apart, footOf, Bool.and_eq_true] at hf
  obtain ⟨⟨f1, f2⟩, f3⟩ := hf
  obtain ⟨hev, hwn⟩ := step_ev hx sl1
  have hrds : rdsOf y s1 = rdsOf y s := rds_congr hev
  have e1 : evalW T keep ops y s = evalW T keep ops y s1 := by
    refine evalW_congr (fun z hz => (hev z hz).symm) hwn.symm (fun j hj => ((step_mem hx _ f1) j hj).symm) (fun j hj => ((step_mem hx _ f2) j hj).symm) (step_nf hy)
  obtain ⟨f, hfe, hfd, hfu, hfa⟩ := step_eff hy
  have hys : StepR P T keep N ops y s (f.app s) := hfa s hwn.symm (fun hw => by
    have := e1
    unfold evalW at this
    rw [← hwn, hw] at this
    exact this)
  obtain ⟨e, hee, hed, heu, hea⟩ := step_eff hx
  obtain ⟨hev', hwn'⟩ := step_ev hys sl3
  have f3' : apartL (wrsOf (evalW T keep ops y s)) (rdsOf x s) = true := by rw [e1]; exact f3
  have f2' : apartL (wrsOf (evalW T keep ops y s)) (wrsOf (evalW T keep ops x s)) = true := by rw [e1]; exact apartL_symm f2
  have e2 : evalW T keep ops x (f.app s) = evalW T keep ops x s := evalW_congr hev' hwn' (step_mem hys _ f3') (step_mem hys _ f2') (step_nf hx)
  refine ⟨f.app s, hys, ?_, ?_, ?_, e1, e2⟩
  · have := hea (f.app s) hwn' (fun hw => by
      have := e2
      unfold evalW at this
      rw [hwn', hw] at this
      exact this)
    rw [hfe, hee, eff_comm e f s ?_ ?_]
    · exact this
    · intro t h1 h2
      rw [hed] at h1
      rw [hfd] at h2
      exact apartL_iff.1 sl2 t (by unfold dstL; rw [h1]; simp) (by unfold dstL; rw [h2]; simp)
    · intro i ob j ob' h1 h2 hij
      have h3 := heu i ob h1
      have h4 := hfu j ob' h2
      subst hij
      exact apartL_iff.1 f2 i h3 h4
  · unfold footOf; rw [e1, hrds]
  · unfold footOf; rw [e2, rds_congr hev']
end Go.Proofs.Ythefflmebkcilaa.Fw
