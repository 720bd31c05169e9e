import Derived.Test.YthefflmebkcilaaFJ
set_option linter.unusedVariables false
set_option linter.unusedSimpArgs false
namespace Go.Proofs.Ythefflmebkcilaa.Fw
open Go
variable {P : Program} {T : TT} {c : Ctx} {F : Nat → Prop} {ν : Nat → Value} {s : St} {a : Act} {w : World} {o : Oper} {keep : List Nat}

theorem fv_iff {v : V} {k : V → Prop} : fv v k ↔ k v := by cases v <;> exact Iff.rfl
theorem split_iff {t : Bool} {f : Bool → Prop} : SplitP t f ↔ f t := by
  unfold SplitP
  cases t <;> simp
theorem fin_iff {ops : List Oper} {i : Nat} {v : V} {K : St → Prop} : fin ops i o v K s ↔ K (s.put o.dst v) := by
  unfold fin
  rw [fv_iff]
  split
  · cases isGuard ops i with
    | true => simp only [cond_true]; rw [split_iff]
    | false => simp only [cond_false]
  · exact Iff.rfl
/-- What a light operation does. -/
def StepR (P : Program) (T : TT) (keep : List Nat) (N : Nat) (ops : List Oper) (o : Oper) (s s1 : St) : Prop :=
  dstOk N o = true ∧
  match wants ops o s with
  | .no => s1 = s.put o.dst (.tup [])
  | .bad => False
  | .yes => match eval1 T keep o s with
    | .fail => False
    | .val v => s1 = s.put o.dst v
    | .nval v => s1 = s.put o.dst v
    | .sval p v => p ∧ s1 = s.put o.dst v
    | .idxw l j f => ∃ x, 0 ≤ j ∧ l[j.toNat]? = some x ∧ s1 = s.put o.dst (f (wd x))
    | .idxr l j f => ∃ x, 0 ≤ j ∧ l[j.toNat]? = some x ∧ s1 = s.put o.dst (f x)
    | .upd j obj v => s1 = (s.upd j obj).put o.dst v
    | .call g args => ∃ r, Runs P g args r ∧ s1 = s.put o.dst r
    | .sem => False
theorem step_light {N : Nat} {ops : List Oper} {i : Nat} {K : St → Prop} (hh : heavy (evalW T keep ops o s) = false) : stepO P T keep c N ops i o K s ↔ ∃ s1, StepR P T keep N ops o s s1 ∧ K s1 := by
  unfold evalW at hh
  unfold stepO StepR evalK
  cases hd : dstOk N o with
  | false => simp
  | true =>
    simp only [cond_true, true_and]
    cases hw : wants ops o s with
    | no => simp
    | bad => simp
    | yes =>
      rw [hw] at hh
      dsimp only at hh ⊢
      cases he : eval1 T keep o s with
      | fail => simp
      | val v => simp [fin_iff]
      | nval v => simp [fin_iff]
      | sval p v => unfold SideP; simp [fin_iff, and_assoc]
      | idxw l j f => unfold IdxP; simp only []; constructor
                      · rintro ⟨x, h1, h2, h3⟩; exact ⟨_, ⟨x, h1, h2, rfl⟩, h3⟩
                      · rintro ⟨_, ⟨x, h1, h2, rfl⟩, h3⟩; exact ⟨x, h1, h2, h3⟩
      | idxr l j f => unfold IdxP; simp only []; constructor
                      · rintro ⟨x, h1, h2, h3⟩; exact ⟨_, ⟨x, h1, h2, rfl⟩, h3⟩
                      · rintro ⟨_, ⟨x, h1, h2, rfl⟩, h3⟩; exact ⟨x, h1, h2, h3⟩
      | upd j obj v => simp
      | call g args => unfold CallS; simp only []; constructor
                       · rintro ⟨r, h1, h2⟩; exact ⟨_, ⟨r, h1, rfl⟩, h2⟩
                       · rintro ⟨_, ⟨r, h1, rfl⟩, h2⟩; exact ⟨r, h1, h2⟩
      | sem => rw [he] at hh; cases hh

/-! ### One operation on the machine -/
theorem dst_lt {N : Nat} (h : dstOk N o = true) : ∀ d, o.dst = some d → d < N := by
  intro d hd
  unfold dstOk at h
  rw [hd] at h
  exact Nat.le_of_ble_eq_true h
theorem boolEq_iff {x y : Bool} : boolEq x y = (x == y) := by cases x <;> cases y <;> rfl
theorem want_yes {ops : Array Oper} (h : SRep c F ν s a w) : (wants ops.toList o s = .yes → Region.wanted o (yielded ops a.tmps) = true) ∧ (wants ops.toList o s = .no → Region.wanted o (yielded ops a.tmps) = false) := by
  unfold wants Region.wanted
  cases hg : o.guard with
  | none => simp
  | some jw =>
    obtain ⟨j, want⟩ := jw
    dsimp only
    cases hj : ops.toList[j]? with
    | none => simp
    | some g =>
      dsimp only
      cases hd : g.dst with
      | none => simp
      | some d =>
        dsimp only
        have he := h.env d
        cases hv : s.env d with
        | d x =>
          cases x with
          | bool t =>
            rw [hv] at he
            have hb := boolV he
            have hy : yielded ops a.tmps j = some t := by
              unfold yielded
              have h1 : ops[j]? = some g := by simpa using hj
              have h2 : a.tmps[d]? = some (.bool t) := by
                rw [Array.getD_eq_getD_getElem?] at hb
                cases hc : a.tmps[d]? with
                | none => rw [hc] at hb; cases hb
                | some u => rw [hc] at hb; simp at hb; rw [hb]
              simp [h1, hd, h2]
            rw [hy]
            dsimp only
            rw [boolEq_iff]
            cases t <;> cases want <;> simp
          | _ => simp
        | tup l =>
          cases l with
          | cons _ _ => simp
          | nil =>
            rw [hv] at he
            obtain ⟨vs, hvs, ha⟩ := he
            have h0 : vs = #[] := by
              have := ha.1
              apply Array.ext'
              exact (List.eq_nil_of_length_eq_zero this.symm)
            subst h0
            have hy : yielded ops a.tmps j = none := by
              unfold yielded
              have h1 : ops[j]? = some g := by simpa using hj
              have h2 : ∀ t : Bool, a.tmps[d]? ≠ some (.bool t) := by
                intro t hc
                rw [Array.getD_eq_getD_getElem?, hc] at hvs
                cases hvs
              simp only [h1, hd]
              cases hc : a.tmps[d]? with
              | none => simp [hd, hc]
              | some u =>
                cases u with
                | bool t => exact absurd hc (h2 t)
                | _ => simp [hd, hc]
            rw [hy]
            simp
        | _ => simp
theorem none_vr {r : V} {v : Value} {m : Mem} {w' : World} {F' F'' : Nat → Prop} (h : VR w' F' (fun _ => undef) (fun _ => none) r v) (hF : ∀ b, F' b → F'' b) (ν : Nat → Value) : VR w' F'' ν m r v :=
  VR.mono h hF (fun _ _ => rfl) (fun o obj ho => by cases ho)
/-- Behind a call: all that was there is there. -/
theorem SRep.after (h : SRep c F ν s a w) {w' : World} {F' : Nat → Prop} (hk : Keep w.heap.size (fun _ => False) w w') (hF' : ∀ b, F' b → b < w'.heap.size ∧ (F b ∨ w.heap.size ≤ b)) : SRep c (fun b => F b ∨ F' b) ν s a w' := by
  have hB : c.B ≤ w.heap.size := by rw [h.base]; exact h.keep.size
  have hold : ∀ k, k < w.heap.size → w'.heap[k]? = w.heap[k]? := fun k hk' => hk.block k hk' (fun x => x)
  have hF : ∀ k, F k → w'.heap[k]? = w.heap[k]? := fun k hk' => hold k (h.fin k hk').1
  refine ⟨h.sz, h.dfr, fun t' => VR.mono (h.env t') (fun _ hb => .inl hb) hF (fun o obj ho => ⟨obj, ho, SameSh.refl (h.mem o obj ho), rfl⟩),
    fun o obj ho => MRep.frame (h.mem o obj ho) (fun _ hb => .inl hb) hF (fun b hb => hold b (MRep.lt (h.mem o obj ho) hb)), fun o obj b ho hb => ?_, h.inj, fun b hb => ?_, h.keep.trans ⟨hk.os, hk.tape, hk.output, hk.size, fun k hk' _ => hold k (by omega)⟩, h.base, h.nu⟩
  · have h1 := h.sep o obj b ho hb
    refine ⟨fun hf => ?_, h1.2⟩
    rcases hf with hf | hf
    · exact h1.1 hf
    · rcases (hF' b hf).2 with h2 | h2
      · exact h1.1 h2
      · have := MRep.lt (h.mem o obj ho) hb
        omega
  · rcases hb with hb | hb
    · have := h.fin b hb
      have := hk.size
      exact ⟨by omega, (h.fin b hb).2⟩
    · refine ⟨(hF' b hb).1, ?_⟩
      rcases (hF' b hb).2 with h2 | h2
      · exact (h.fin b h2).2
      · exact .inr (by omega)
theorem wp_val {K : Act → World → Prop} {Q : Exit → Act → World → Prop} {x : Value} {w' : World} (h : (execOp a.eval o).run P w = .ok (.value x) w') (hK : K (a.put o.dst x) w') : o.wp P a w K Q := by
  unfold Oper.wp
  rw [h]
  exact hK
theorem wp_skp {K : Act → World → Prop} {Q : Exit → Act → World → Prop} {w' : World} (h : (execOp a.eval o).run P w = .ok .skip w') (hK : K (a.put o.dst undef) w') : o.wp P a w K Q := by
  unfold Oper.wp
  rw [h]
  exact hK
theorem evalK_sound (hT : TAll P T) {ops : List Oper} {i : Nat} {K : St → Prop} (h : SR c s a w) (hd : dstOk c.N o = true) (hs : evalK P T keep c ops i o K s) (Q : Exit → Act → World → Prop) : o.wp P a w (fun a' w' => ∃ s', K s' ∧ SR c s' a' w') Q := by
  obtain ⟨F, ν, h⟩ := h
  have hlt := dst_lt hd
  have hg := eval_good (P := P) (o := o) hT keep hlt h
  unfold evalK at hs
  cases he : eval1 T keep o s with
  | fail => rw [he] at hs; exact hs.elim
  | val v =>
    rw [he] at hs hg
    obtain ⟨x, hr, hv⟩ := hg
    exact wp_val hr ⟨_, fin_iff.1 hs, F, ν, h.put hv hlt⟩
  | nval v =>
    rw [he] at hs hg
    obtain ⟨x, w', F', hr, hs', hv⟩ := hg
    exact wp_val hr ⟨_, fin_iff.1 hs, F', ν, hs'.put hv hlt⟩
  | sval p v =>
    rw [he] at hs hg
    unfold SideP at hs
    obtain ⟨x, hr, hv⟩ := hg hs.1
    exact wp_val hr ⟨_, fin_iff.1 hs.2, F, ν, h.put hv hlt⟩
  | idxw l j f =>
    rw [he] at hs hg
    unfold IdxP at hs
    obtain ⟨y, h0, h1, hk⟩ := hs
    obtain ⟨x, hr, hv⟩ := hg y h0 h1
    exact wp_val hr ⟨_, hk, F, ν, h.put hv hlt⟩
  | idxr l j f =>
    rw [he] at hs hg
    unfold IdxP at hs
    obtain ⟨y, h0, h1, hk⟩ := hs
    obtain ⟨x, hr, hv⟩ := hg y h0 h1
    exact wp_val hr ⟨_, hk, F, ν, h.put hv hlt⟩
  | upd j obj v =>
    rw [he] at hs hg
    obtain ⟨x, w', ν', hr, hs', hv⟩ := hg
    rcases hr with hr | ⟨hr, rfl⟩
    · exact wp_val hr ⟨_, hs, F, ν', hs'.put hv hlt⟩
    · exact wp_skp hr ⟨_, hs, F, ν', hs'.put hv hlt⟩
  | call g args =>
    rw [he] at hs hg
    unfold CallS at hs
    obtain ⟨r, hruns, hk⟩ := hs
    unfold Runs at hruns
    obtain ⟨vals, hr, ha⟩ := hg hruns.1
    have hc := hruns.2 F w vals.toList (fun b hb => (h.fin b hb).1) ha
    unfold Oper.wp
    rw [hr]
    show Calls P g vals w _
    rw [Array.toArray_toList] at hc
    refine hc.mono ?_
    rintro e w' ⟨v, F', rfl, hv, hF', hkeep⟩
    exact ⟨_, hk, _, ν, (h.after hkeep hF').put (none_vr hv (fun b hb => .inr hb) ν) hlt⟩
  | sem =>
    rw [he] at hs
    unfold OpP at hs
    exact hs Q a w ⟨F, ν, h⟩
/-- THE STEP: from the pure side to the machine. -/
theorem step_sound (hT : TAll P T) {ops : Array Oper} {i : Nat} {K : St → Prop} (h : SR c s a w) (hs : stepO P T keep c c.N ops.toList i o K s) :
    (Region.wanted o (yielded ops a.tmps) = true → ∀ Q : Exit → Act → World → Prop, o.wp P a w (fun a' w' => ∃ s', K s' ∧ SR c s' a' w') Q) ∧
    (Region.wanted o (yielded ops a.tmps) = false → ∃ s', K s' ∧ SR c s' (a.put o.dst undef) w) := by
  have h0 := h
  obtain ⟨F, ν, h⟩ := h
  unfold stepO at hs
  cases hd : dstOk c.N o with
  | false => rw [hd] at hs; exact hs.elim
  | true =>
    rw [hd, cond_true] at hs
    have hlt := dst_lt hd
    obtain ⟨hy, hn⟩ := want_yes (o := o) (ops := ops) h
    cases hw : wants ops.toList o s with
    | bad => rw [hw] at hs; exact hs.elim
    | no =>
      rw [hw] at hs
      have := hn hw
      rw [this]
      exact ⟨fun e => absurd e (by simp), fun _ => ⟨_, hs, F, ν, h.put (v := .tup []) ⟨#[], rfl, AllR.nil⟩ hlt⟩⟩
    | yes =>
      rw [hw] at hs
      have := hy hw
      rw [this]
      exact ⟨fun _ Q => evalK_sound hT h0 hd hs Q, fun e => absurd e (by simp)⟩

/-! ### A region in the order of the text -/
theorem exO_sound (hT : TAll P T) {ops : Array Oper} {K : St → Prop} {Q : Exit → Act → World → Prop} (hQ : ∀ s a w, K s → SR c s a w → Q .normal a w) : ∀ (r : List Oper) (i : Nat) (s : St) (a : Act) (w : World), ops.toList.drop i = r → SR c s a w → exO P T keep c c.N ops.toList i r K s → wpOps P ops Q (List.range' i r.length) a w := by
  intro r
  induction r with
  | nil => intro i s a w _ h hs; exact hQ s a w hs h
  | cons o r ih =>
    intro i s a w hd h hs
    have ho : ops[i]? = some o := by
      have : ops.toList[i]? = some o := by
        have := congrArg List.head? hd
        rw [List.head?_drop] at this
        simpa using this
      simpa using this
    have hd' : ops.toList.drop (i + 1) = r := by
      have := congrArg List.tail hd
      rw [List.tail_drop] at this
      simpa using this
    obtain ⟨h1, h2⟩ := step_sound hT h hs
    simp only [List.length_cons, List.range'_succ, wpOps, ho]
    cases hw : Region.wanted o (yielded ops a.tmps) with
    | true =>
      simp only [if_true]
      refine .inl (Oper.wp_mono ?_ (h1 hw Q))
      rintro a' w' ⟨s', hk, hs'⟩
      exact ih (i + 1) s' a' w' hd' hs' hk
    | false =>
      simp only [Bool.false_eq_true, if_false]
      obtain ⟨s', hk, hs'⟩ := h2 hw
      exact ih (i + 1) s' _ w hd' hs' hk
theorem exO_region (hT : TAll P T) {id : Nat} {ops : Array Oper} {K : St → Prop} {Q : Exit → Act → World → Prop} (hQ : ∀ s a w, K s → SR c s a w → Q .normal a w) (h : SR c s a w) (hs : exO P T keep c c.N ops.toList 0 ops.toList K s) : (Code.region id ops false).wp P Q a w := by
  refine wp_region ?_
  have := exO_sound hT hQ ops.toList 0 s a w (by simp) h hs
  rwa [Array.length_toList, ← List.range_eq_range'] at this
end Go.Proofs.Ythefflmebkcilaa.Fw
