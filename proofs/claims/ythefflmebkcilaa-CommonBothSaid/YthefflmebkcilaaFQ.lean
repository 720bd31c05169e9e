import Derived.Test.YthefflmebkcilaaFP
set_option linter.unusedVariables false
set_option linter.unusedSimpArgs false
namespace Go.Proofs.Ythefflmebkcilaa.Fw
open Go
variable {P : Program} {T : TT} {c : Ctx} {F : Nat → Prop} {ν : Nat → Value} {s : St} {a : Act} {w : World} {o : Oper} {keep : List Nat}

def isDef : V → Bool | .undef => false | _ => true
/-- What may be handed back: what was read, and what is the call's own. -/
def Fend (F : Nat → Prop) (ν : Nat → Value) (s : St) : Nat → Prop := fun b => F b ∨ ∃ o obj, s.mem o = some obj ∧ blk (ν o) = some b
theorem ret1_run (hT : TAll P T) (h : SRep c F ν s a w) (rv : ResultVar) (t : TypeId) (hd : isDef (retV1 T s rv t) = true) :
    ∃ x, (match rv with
      | .tmp t => (pure (a.tmps.getD t undef) : Sem Value)
      | .cell y t => do loadVar t (← asAddr (a.tmps.getD y undef))).run P w = .ok x w ∧ VR1 w (Fend F ν s) (fun _ => undef) (fun _ => none) (retV1 T s rv t) x := by
  cases rv with
  | tmp x =>
    refine ⟨_, rfl, ?_⟩
    have he := h.env x
    unfold retV1 at hd ⊢
    dsimp only at hd ⊢
    cases hv : s.env x with
    | d y =>
      rw [hv] at he
      exact RepL.frame he (fun _ hb => .inl hb) (fun _ _ => rfl)
    | agg n l =>
      rw [hv] at he
      obtain ⟨hl, vs, hx, ha⟩ := he
      exact ⟨hl, vs, hx, ha.mono fun _ _ hh => hh.frame (fun _ hb => .inl hb) (fun _ _ => rfl)⟩
    | nils =>
      rw [hv] at he hd
      dsimp only at hd ⊢
      have hx : a.tmps.getD x undef = .slice none 0 0 := he
      rw [hx]
      have := empty_rep w (Fend F ν s) (fun _ => undef) (fun _ => none) T t
      refine VR.to1 this (fun l hl => ?_)
      unfold emptyOf at hl
      split at hl
      · split at hl <;> cases hl
      · cases hl
    | own o off len =>
      rw [hv] at he hd
      dsimp only at hd ⊢
      cases hm : s.mem o with
      | none => rw [hm] at hd; cases hd
      | some m =>
        rw [hm] at hd
        dsimp only at hd ⊢
        have := snap_rep h hm he (Fend F ν s) (fun _ hb => .inl hb) (fun b hb => .inr ⟨o, m, hm, hb⟩)
        refine VR.to1 this (fun l hl => ?_)
        unfold snapM at hl
        split at hl <;> cases hl
    | _ => rw [hv] at hd; cases hd
  | cell x ct =>
    have he := h.env x
    unfold retV1 at hd ⊢
    dsimp only at hd ⊢
    cases hv : s.env x with
    | addr i off =>
      rw [hv] at he hd
      cases off with
      | succ k => cases hd
      | zero =>
        obtain ⟨l, a0, hm, hν, hx⟩ := he
        simp only [hm] at hd ⊢
        cases hc : Nat.beq (T ct).sz l.length && (T ct).k.ok with
        | false => rw [hc] at hd; cases hd
        | true =>
          rw [cond_true]
          simp only [Bool.and_eq_true] at hc
          have hsz := Nat.eq_of_beq_eq_true hc.1
          obtain ⟨b, cur, ty, hν', hheap, ha⟩ := box_inv h hm
          rw [hν] at hν'
          injection hν' with hν'
          injection hν' with hν'
          subst hν'
          have ha0 : (⟨b, 0, none⟩ : Addr).add 0 = ⟨b, 0, none⟩ := rfl
          rw [ha0] at hx
          obtain ⟨y, hy, hr⟩ := load_run (P := P) (F := Fend F ν s) hT hc.2 ⟨b, 0, none⟩ cur.toList l (by rw [← ha.1]; exact hsz.symm) (row_cells w b cur ty hheap) (ha.mono fun _ _ hh => hh.frame (fun _ hb => .inl hb) (fun _ _ => rfl)) (fun _ => undef) (fun _ => none)
          refine ⟨y, ?_, ?_⟩
          · rw [hx]
            unfold Instr.loadAt at hy
            simp only [Instr.sureAddr, Sem.run_bind, Sem.run_pure, Result.andThen_ok] at hy
            simp only [asAddr, Sem.run_bind, Sem.run_pure, Result.andThen_ok, hy]
          · refine VR.to1 hr (fun l' hl => ?_)
            unfold ofCells at hl
            cases hg : (T ct).k.agg <;> rw [hg] at hl <;> cases hl
    | _ => rw [hv] at hd; cases hd
theorem mapM_ex {α β γ : Type} (f : α → Sem β) (R : γ → β → Prop) (w : World) : ∀ (l : List α) (m : List γ), l.length = m.length → (∀ (j : Nat) x y, l[j]? = some x → m[j]? = some y → ∃ z, (f x).run P w = .ok z w ∧ R y z) → ∃ zs, (l.mapM f).run P w = .ok zs w ∧ AllR R m zs := by
  intro l
  induction l with
  | nil =>
    intro m hm _
    have : m = [] := List.eq_nil_of_length_eq_zero (by simpa using hm.symm)
    subst this
    exact ⟨[], rfl, AllR.nil⟩
  | cons x l ih =>
    intro m hm h
    cases m with
    | nil => simp at hm
    | cons y m =>
      obtain ⟨z, hz, hR⟩ := h 0 x y rfl rfl
      obtain ⟨zs, hzs, hRs⟩ := ih m (by simpa using hm) (fun j x' y' hx hy => h (j + 1) x' y' (by simpa using hx) (by simpa using hy))
      exact ⟨z :: zs, by simp only [List.mapM_cons, Sem.run_bind, hz, hzs, Result.andThen_ok, Sem.run_pure], AllR.cons hR hRs⟩
theorem retVs_get : ∀ (rs : List ResultVar) (ts : List TypeId) (j : Nat) (r : ResultVar) (y : V), rs[j]? = some r → (retVs T s rs ts)[j]? = some y → ∃ t, y = retV1 T s r t := by
  intro rs
  induction rs with
  | nil => intro ts j r y h; simp at h
  | cons r0 rs ih =>
    intro ts j r y h1 h2
    cases j with
    | zero => simp [retVs] at h1 h2; subst h1; exact ⟨_, h2.symm⟩
    | succ j => simp [retVs] at h1 h2; exact ih ts.tail j r y h1 h2
theorem retVs_len : ∀ (rs : List ResultVar) (ts : List TypeId), (retVs T s rs ts).length = rs.length := by
  intro rs
  induction rs with
  | nil => intro ts; rfl
  | cons r rs ih => intro ts; simp [retVs, ih]
theorem ofCells_tup (t : TypeId) (l : List D) (m : List V) : ofCells T t l ≠ .tup m := by
  unfold ofCells
  cases (T t).k.agg <;> simp
theorem retV1_tup (r : ResultVar) (t : TypeId) (l : List V) : retV1 T s r t ≠ .tup l := by
  unfold retV1
  cases r with
  | tmp x =>
    dsimp only
    split
    · simp
    · simp
    · unfold emptyOf
      split
      · split <;> simp
      · simp
    · split
      · unfold snapM
        split <;> simp
      · simp
    · simp
  | cell x ct =>
    dsimp only
    split
    · split
      · generalize (Nat.beq _ _ && _) = b
        cases b
        · simp
        · exact ofCells_tup _ _ _
      · simp
    · simp
theorem mapM_arr {α β : Type} (f : α → Sem β) (w : World) (l : Array α) (zs : List β) (h : (l.toList.mapM f).run P w = .ok zs w) : (l.mapM f).run P w = .ok zs.toArray w := by
  rw [Array.mapM_eq_mapM_toList, Sem.run_map, h]
  rfl
theorem results_run (hT : TAll P T) (h : SRep c F ν s a w) (fn : Func) (hd : defd (retV T s fn.results.toList fn.resultTypes.toList) = true) :
    ∃ x, (results fn a.tmps).run P w = .ok x w ∧ VR w (Fend F ν s) (fun _ => undef) (fun _ => none) (retV T s fn.results.toList fn.resultTypes.toList) x := by
  have hall : ∀ y ∈ retVs T s fn.results.toList fn.resultTypes.toList, isDef y = true := by
    unfold retV at hd
    intro y hy
    split at hd
    · rename_i v hv
      rw [hv] at hy
      simp only [List.mem_singleton] at hy
      subst hy
      unfold defd at hd
      split at hd
      · cases hd
      · rename_i l
        obtain ⟨j, hj⟩ := List.getElem?_of_mem (by rw [hv]; simp : V.tup l ∈ retVs T s fn.results.toList fn.resultTypes.toList)
        have hlt := (List.getElem?_eq_some_iff.1 hj).1
        rw [retVs_len] at hlt
        obtain ⟨t, ht⟩ := retVs_get _ _ j _ _ (List.getElem?_eq_getElem hlt) hj
        exact absurd ht.symm (retV1_tup _ _ _)
      · rename_i h1 _
        unfold isDef
        split
        · exact absurd rfl h1
        · rfl
    · unfold defd at hd
      have := List.all_eq_true.1 hd y hy
      unfold isDef
      cases y <;> first | rfl | (simp at this)
  obtain ⟨zs, hz, hR⟩ := mapM_ex (P := P) (fun rv => match rv with
      | .tmp t => (pure (a.tmps.getD t undef) : Sem Value)
      | .cell y t => do loadVar t (← asAddr (a.tmps.getD y undef))) (VR1 w (Fend F ν s) (fun _ => undef) (fun _ => none)) w fn.results.toList (retVs T s fn.results.toList fn.resultTypes.toList) (retVs_len _ _).symm (fun j x y hx hy => by
        obtain ⟨t, rfl⟩ := retVs_get _ _ j x y hx hy
        exact ret1_run hT h x t (hall _ (List.mem_of_getElem? hy)))
  have harr := mapM_arr _ w fn.results zs hz
  unfold results
  refine ⟨if h : zs.toArray.size = 1 then zs.toArray[0] else .tuple zs.toArray, ?_, ?_⟩
  · simp only [Sem.run_bind]
    refine Eq.trans (congrArg (fun r => Result.andThen r _) harr) ?_
    rfl
  · unfold retV
    split
    · rename_i v hv
      rw [hv] at hR
      obtain ⟨u, us, rfl, h0, h1⟩ := hR.head
      obtain rfl := h1.nil_of
      simp only [List.size_toArray, List.length_cons, List.length_nil, Nat.zero_add, dite_true]
      exact VR.of1 h0
    · rename_i hne
      have hlen := hR.1
      rw [dif_neg (by
        intro h1
        rw [List.size_toArray, ← hlen] at h1
        match hv : retVs T s fn.results.toList fn.resultTypes.toList, h1 with
        | [v], _ => exact hne v hv)]
      exact ⟨_, rfl, hR⟩

/-- FROM THE PURE SIDE TO A CONTRACT. -/
theorem runs_of (hT : TAll P T) (hm : P.follows .mixedOrders = true) {g : FuncId} {fn : Func} {args : List V} {r : V} (hf : P.funcs[g]? = some fn) (hname : (fn.name == "runtime.NumGoroutine") = false) (hn : args.length ≤ fn.ntmps)
    (h : ∀ c : Ctx, c.N = fn.ntmps → (∀ b, ¬ c.S b) → exF P T keep c fn args r) : Runs P g args r := by
  unfold Runs
  have hb : ∃ b, fn.body = some b := by
    have := h ⟨fn.ntmps, 0, fun _ => False, fun _ => False, default, fun _ => undef⟩ rfl (fun _ hb => hb)
    unfold exF at this
    split at this
    · rename_i b hb; exact ⟨b, hb⟩
    · exact this.elim
  obtain ⟨b, hb⟩ := hb
  refine ⟨⟨fn, hf, hname, by rw [hb]; rfl⟩, fun F w vals hF ha => ?_⟩
  have hc := h ⟨fn.ntmps, w.heap.size, fun _ => False, F, w, fun _ => undef⟩ rfl (fun _ hb => hb)
  unfold exF at hc
  rw [hb] at hc
  dsimp only at hc
  refine calls_of_wp hf hb (wp_mono (ex_sound (c := ⟨fn.ntmps, w.heap.size, fun _ => False, F, w, fun _ => undef⟩) hT hm b _ _ _ w ⟨F, _, init_rep hF ha hn⟩ hc) ?_)
  intro e a w' hl
  have fin : ∀ s, RetP (retV T s fn.results.toList fn.resultTypes.toList) r → SR ⟨fn.ntmps, w.heap.size, fun _ => False, F, w, fun _ => undef⟩ s a w' → a.defers = [] ∧ ∃ v, (results fn a.tmps).run P w' = .ok v w' ∧
      ∃ v' F', Ending.returned v = .returned v' ∧ VR w' F' (fun _ => undef) (fun _ => none) r v' ∧ (∀ b, F' b → b < w'.heap.size ∧ (F b ∨ w.heap.size ≤ b)) ∧ Keep w.heap.size (fun _ => False) w w' := by
    intro s hret hs
    unfold RetP at hret
    obtain ⟨hr, hd⟩ := hret
    obtain ⟨F', ν, hs⟩ := hs
    rw [← hr] at hd
    obtain ⟨x, hx, hv⟩ := results_run (P := P) hT hs fn hd
    refine ⟨hs.dfr, x, hx, x, Fend F' ν s, rfl, hr ▸ hv, fun b hb => ?_, hs.keep⟩
    rcases hb with hb | ⟨o, obj, ho, hb⟩
    · exact hs.fin b hb
    · refine ⟨MRep.lt (hs.mem o obj ho) hb, ?_⟩
      rcases (hs.sep o obj b ho hb).2 with h1 | h1
      · exact .inr h1
      · exact h1.1.elim
  cases e with
  | normal => obtain ⟨s, hk, hs⟩ := hl; exact fin s hk hs
  | ret => obtain ⟨s, hk, hs⟩ := hl; exact fin s hk hs
  | exit id => obtain ⟨s, hk, hs⟩ := hl; exact hk.elim
  | _ => exact hl.elim
end Go.Proofs.Ythefflmebkcilaa.Fw
