import Derived.Test.YthefflmebkcilaaFS
set_option linter.unusedVariables false
set_option linter.unusedSimpArgs false
namespace Go.Proofs.Ythefflmebkcilaa.Fw
open Go
variable {P : Program} {T : TT} {c : Ctx} {F : Nat → Prop} {ν : Nat → Value} {s : St} {a : Act} {w : World} {o : Oper} {keep : List Nat}

/-- The same value, its objects named otherwise. -/
def renV1 (σ : Nat → Nat) : V → V
  | .own o a b => .own (σ o) a b
  | .addr o a => .addr (σ o) a
  | .ela o a b => .ela (σ o) a b
  | v => v
def renV (σ : Nat → Nat) : V → V
  | .tup l => .tup (l.map (renV1 σ))
  | .own o a b => .own (σ o) a b
  | .addr o a => .addr (σ o) a
  | .ela o a b => .ela (σ o) a b
  | v => v
theorem renV_one (σ : Nat → Nat) (v : V) (h : ∀ l, v ≠ .tup l) : renV σ v = renV1 σ v := by cases v <;> first | rfl | exact absurd rfl (h _)
def lk : List (Nat × Nat) → Nat → Nat
  | [], i => i
  | (a, b) :: r, i => bif Nat.beq i a then b else lk r i
def St.updL (s : St) (σ : Nat → Nat) : List (Nat × MO) → St
  | [] => s
  | (i, m) :: r => (s.updL σ r).upd (σ i) m
def nuL (σ : Nat → Nat) (ν' ν : Nat → Value) : List (Nat × MO) → Nat → Value
  | [] => ν
  | (i, _) :: r => fun x => if x = σ i then ν' i else nuL σ ν' ν r x
theorem updL_env (s : St) (σ : Nat → Nat) : ∀ (l : List (Nat × MO)), (s.updL σ l).env = s.env := by
  intro l
  induction l with
  | nil => rfl
  | cons p l ih => obtain ⟨i, m⟩ := p; exact ih
theorem updL_get (s : St) (σ : Nat → Nat) (ν' ν : Nat → Value) : ∀ (l : List (Nat × MO)) (x : Nat) (obj : MO), (s.updL σ l).mem x = some obj →
    (∃ i, x = σ i ∧ memL l i = some obj ∧ nuL σ ν' ν l x = ν' i) ∨ ((∀ i ob, memL l i = some ob → x ≠ σ i) ∧ s.mem x = some obj ∧ nuL σ ν' ν l x = ν x) := by
  intro l
  induction l with
  | nil => intro x obj h; exact .inr ⟨fun i ob hi => (by cases hi), h, rfl⟩
  | cons p l ih =>
    obtain ⟨i, m⟩ := p
    intro x obj h
    simp only [St.updL] at h
    by_cases e : x = σ i
    · refine .inl ⟨i, e, ?_, by simp [nuL, e]⟩
      rw [upd_mem, if_pos e] at h
      simp only [memL, Nat.beq_refl, cond_true]
      exact h
    · rw [upd_mem, if_neg e] at h
      rcases ih x obj h with ⟨j, h1, h2, h3⟩ | ⟨h1, h2, h3⟩
      · refine .inl ⟨j, h1, ?_, by simp [nuL, e]; exact h3⟩
        have : j ≠ i := fun e' => e (by rw [h1, e'])
        simp only [memL, beq_no this, cond_false]
        exact h2
      · refine .inr ⟨fun j ob hj => ?_, h2, by simp [nuL, e]; exact h3⟩
        simp only [memL] at hj
        by_cases e' : j = i
        · rw [e']; exact e
        · rw [beq_no e', cond_false] at hj; exact h1 j ob hj
theorem updL_at (s : St) (σ : Nat → Nat) (ν' ν : Nat → Value) : ∀ (l : List (Nat × MO)), (∀ i j x y, memL l i = some x → memL l j = some y → σ i = σ j → i = j) → ∀ (i : Nat) (obj : MO), memL l i = some obj → (s.updL σ l).mem (σ i) = some obj ∧ nuL σ ν' ν l (σ i) = ν' i := by
  intro l
  induction l with
  | nil => intro _ i obj h; cases h
  | cons p l ih =>
    obtain ⟨k, m⟩ := p
    intro hinj i obj h
    by_cases e : i = k
    · subst e
      simp only [memL, Nat.beq_refl, cond_true] at h
      exact ⟨by simp only [St.updL]; rw [upd_mem, if_pos rfl]; exact h, by simp [nuL]⟩
    · have hne : σ i ≠ σ k := fun e' => e (hinj i k obj m h (by simp [memL]) e')
      have h' : memL l i = some obj := by simp only [memL, beq_no e, cond_false] at h; exact h
      by_cases hk : ∃ y, memL l k = some y
      · refine (fun hi => ⟨by simp only [St.updL]; rw [upd_mem, if_neg hne]; exact hi.1, by simp [nuL, hne]; exact hi.2⟩) (ih (fun a b x y ha hb hab => ?_) i obj h')
        refine Classical.byContradiction fun hab' => ?_
        by_cases ea : a = k
        · subst ea
          have : memL ((a, m) :: l) b = some y := by simp only [memL, beq_no (fun e => hab' e.symm : b ≠ a), cond_false]; exact hb
          exact hab' (hinj a b m y (by simp [memL]) this hab)
        · by_cases eb : b = k
          · subst eb
            have : memL ((b, m) :: l) a = some x := by simp only [memL, beq_no ea, cond_false]; exact ha
            exact hab' (hinj a b x m this (by simp [memL]) hab)
          · exact hab' (hinj a b x y (by simp only [memL, beq_no ea, cond_false]; exact ha) (by simp only [memL, beq_no eb, cond_false]; exact hb) hab)
      · refine (fun hi => ⟨by simp only [St.updL]; rw [upd_mem, if_neg hne]; exact hi.1, by simp [nuL, hne]; exact hi.2⟩) (ih (fun a b x y ha hb hab => ?_) i obj h')
        have ha' : a ≠ k := fun e => hk ⟨x, by rw [← e]; exact ha⟩
        have hb' : b ≠ k := fun e => hk ⟨y, by rw [← e]; exact hb⟩
        exact hinj a b x y (by simp only [memL, beq_no ha', cond_false]; exact ha) (by simp only [memL, beq_no hb', cond_false]; exact hb) hab
def AllMr (s : St) (σ : Nat → Nat) : List (Nat × MO) → Prop
  | [] => True
  | (i, m) :: r => s.mem (σ i) = some m ∧ AllMr s σ r
theorem AllMr_get {s : St} {σ : Nat → Nat} : ∀ (l : List (Nat × MO)), AllMr s σ l → ∀ i m, memL l i = some m → s.mem (σ i) = some m := by
  intro l
  induction l with
  | nil => intro _ i m h; cases h
  | cons p l ih =>
    obtain ⟨k, x⟩ := p
    intro ha i m h
    simp only [memL] at h
    by_cases e : i = k
    · subst e; rw [Nat.beq_refl, cond_true] at h; exact ha.1.trans h
    · rw [beq_no e, cond_false] at h; exact ih ha.2 i m h
def shOf (x : MO) : Option MO → Prop
  | some y => SameSh x y
  | none => False
def ShL (mo : List (Nat × MO)) : List (Nat × MO) → Prop
  | [] => True
  | (i, m) :: r => shOf m (memL mo i) ∧ ShL mo r
theorem ShL_get {mo : List (Nat × MO)} : ∀ (l : List (Nat × MO)), ShL mo l → ∀ i m, memL l i = some m → ∃ m', memL mo i = some m' ∧ SameSh m m' := by
  intro l
  induction l with
  | nil => intro _ i m h; cases h
  | cons p l ih =>
    obtain ⟨k, x⟩ := p
    intro ha i m h
    simp only [memL] at h
    by_cases e : i = k
    · subst e
      rw [Nat.beq_refl, cond_true] at h
      cases h
      have := ha.1
      unfold shOf at this
      split at this
      · rename_i y hy; exact ⟨y, hy, this⟩
      · exact this.elim
    · rw [beq_no e, cond_false] at h; exact ih ha.2 i m h
def newOf (s : St) (N j : Nat) : Option MO → Prop
  | some _ => True
  | none => s.mem j = none ∧ j < N
def NewL (s : St) (N : Nat) (σ : Nat → Nat) (mi : List (Nat × MO)) : List (Nat × MO) → Prop
  | [] => True
  | (i, _) :: r => newOf s N (σ i) (memL mi i) ∧ NewL s N σ mi r
theorem NewL_get {s : St} {N : Nat} {σ : Nat → Nat} {mi : List (Nat × MO)} : ∀ (l : List (Nat × MO)), NewL s N σ mi l → ∀ i m, memL l i = some m → memL mi i = none → s.mem (σ i) = none ∧ σ i < N := by
  intro l
  induction l with
  | nil => intro _ i m h; cases h
  | cons p l ih =>
    obtain ⟨k, x⟩ := p
    intro ha i m h hn
    simp only [memL] at h
    by_cases e : i = k
    · subst e
      have := ha.1
      rw [hn] at this
      exact this
    · rw [beq_no e, cond_false] at h; exact ih ha.2 i m h hn
def injB (σ : Nat → Nat) (l : List (Nat × MO)) : Bool := l.all fun x => l.all fun y => !Nat.beq (σ x.1) (σ y.1) || Nat.beq x.1 y.1
theorem memL_mem : ∀ (l : List (Nat × MO)) (i : Nat) (m : MO), memL l i = some m → (i, m) ∈ l := by
  intro l
  induction l with
  | nil => intro i m h; cases h
  | cons p l ih =>
    obtain ⟨k, x⟩ := p
    intro i m h
    simp only [memL] at h
    by_cases e : i = k
    · subst e; rw [Nat.beq_refl, cond_true] at h; cases h; simp
    · rw [beq_no e, cond_false] at h; exact List.mem_cons_of_mem _ (ih i m h)
theorem injB_inj {σ : Nat → Nat} {l : List (Nat × MO)} (h : injB σ l = true) : ∀ i j x y, memL l i = some x → memL l j = some y → σ i = σ j → i = j := by
  intro i j x y hi hj e
  have h1 := List.all_eq_true.1 h _ (memL_mem l i x hi)
  have h2 := List.all_eq_true.1 h1 _ (memL_mem l j y hj)
  simp only [e, Nat.beq_refl, Bool.not_true, Bool.false_or] at h2
  exact Nat.eq_of_beq_eq_true h2
theorem unren {σ : Nat → Nat} {mi : List (Nat × MO)} {m : Mem} {x : V} {v : Value} (hl : liveB (memL mi) x = true) (hm : ∀ i ob, memL mi i = some ob → m (σ i) = some ob) (h : VR w F ν m (renV σ x) v) : VR1 w F (fun i => ν (σ i)) (memL mi) x v := by
  have key : ∀ {i obj}, isSome' (memL mi i) = true → m (σ i) = some obj → memL mi i = some obj := by
    intro i obj h1 h2
    unfold isSome' at h1
    split at h1
    · rename_i y hy; rw [hm i y hy] at h2; rw [hy, ← h2]
    · cases h1
  cases x with
  | own i off len =>
    obtain ⟨obj, e, sz, n, fl, A, n', cc, h1, h2⟩ := h
    simp only [liveB, objOf, List.all_cons, List.all_nil, Bool.and_true] at hl
    exact ⟨obj, e, sz, n, fl, A, n', cc, key hl h1, h2⟩
  | addr i off =>
    obtain ⟨l, a0, h1, h2⟩ := h
    simp only [liveB, objOf, List.all_cons, List.all_nil, Bool.and_true] at hl
    exact ⟨l, a0, key hl h1, h2⟩
  | ela i j q =>
    obtain ⟨obj, e, sz, n, fl, a0, n', cc, h1, h2⟩ := h
    simp only [liveB, objOf, List.all_cons, List.all_nil, Bool.and_true] at hl
    exact ⟨obj, e, sz, n, fl, a0, n', cc, key hl h1, h2⟩
  | tup l => cases hl
  | _ => exact h
theorem ren1 {σ : Nat → Nat} {ν' ν₂ : Nat → Value} {F' : Nat → Prop} {mo : List (Nat × MO)} {m : Mem} {x : V} {v : Value} (hm : ∀ i ob, memL mo i = some ob → m (σ i) = some ob ∧ ν₂ (σ i) = ν' i) (hF : ∀ b, F b → F' b) (h : VR1 w F ν' (memL mo) x v) : VR1 w F' ν₂ m (renV1 σ x) v := by
  cases x with
  | own i off len =>
    obtain ⟨obj, e, sz, n, fl, A, n', cc, h1, h2, h3, h4, h5, h6⟩ := h
    obtain ⟨h7, h8⟩ := hm i obj h1
    exact ⟨obj, e, sz, n, fl, A, n', cc, h7, h2, h3, h4, h8.trans h5, h6⟩
  | addr i off =>
    obtain ⟨l, a0, h1, h2, h3⟩ := h
    obtain ⟨h7, h8⟩ := hm i _ h1
    exact ⟨l, a0, h7, h8.trans h2, h3⟩
  | ela i j q =>
    obtain ⟨obj, e, sz, n, fl, a0, n', cc, h1, h2, h3, h5, h6⟩ := h
    obtain ⟨h7, h8⟩ := hm i obj h1
    exact ⟨obj, e, sz, n, fl, a0, n', cc, h7, h2, h3, h8.trans h5, h6⟩
  | d x => exact RepL.frame h hF (fun _ _ => rfl)
  | agg n l =>
    obtain ⟨hl, vs, hv, ha⟩ := h
    exact ⟨hl, vs, hv, ha.mono fun _ _ hh => hh.frame hF (fun _ _ => rfl)⟩
  | ro n l =>
    obtain ⟨hl, ad, cs, hv, ha, hc⟩ := h
    exact ⟨hl, ad, cs, hv, ha.mono fun _ _ hh => hh.frame hF (fun _ _ => rfl), fun j u hu => ⟨hF _ (hc j u hu).1, (hc j u hu).2⟩⟩
  | nils => exact h
  | nilp => exact h
  | undef => trivial
  | tup l => exact h.elim
theorem renR {σ : Nat → Nat} {ν' ν₂ : Nat → Value} {F' : Nat → Prop} {mo : List (Nat × MO)} {m : Mem} {x : V} {v : Value} (hm : ∀ i ob, memL mo i = some ob → m (σ i) = some ob ∧ ν₂ (σ i) = ν' i) (hF : ∀ b, F b → F' b) (h : VR w F ν' (memL mo) x v) : VR w F' ν₂ m (renV σ x) v := by
  cases x with
  | tup l =>
    obtain ⟨vs, rfl, ha⟩ := h
    refine ⟨vs, rfl, by rw [List.length_map]; exact ha.1, fun j y u hy hu => ?_⟩
    rw [List.getElem?_map] at hy
    cases hl : l[j]? with
    | none => rw [hl] at hy; cases hy
    | some z =>
      rw [hl] at hy
      simp only [Option.map_some, Option.some.injEq] at hy
      subst hy
      have := ren1 (w := w) (σ := σ) hm hF (ha.2 j z u hl hu)
      exact this
  | own i off len => exact ren1 (w := w) (x := .own i off len) hm hF h
  | addr i off => exact ren1 (w := w) (x := .addr i off) hm hF h
  | ela i j q => exact ren1 (w := w) (x := .ela i j q) hm hF h
  | d x => exact ren1 (w := w) (x := .d x) (σ := σ) hm hF h
  | agg n l => exact ren1 (w := w) (x := .agg n l) (σ := σ) hm hF h
  | ro n l => exact ren1 (w := w) (x := .ro n l) (σ := σ) hm hF h
  | nils => exact h
  | nilp => exact h
  | undef => trivial

/-- Behind a call that was handed objects. -/
theorem SRep.afterG (h : SRep c F ν s a w) {w' : World} {F' : Nat → Prop} {ν' : Nat → Value} {σ : Nat → Nat} {mi mo : List (Nat × MO)} (hmi : ∀ i m, memL mi i = some m → s.mem (σ i) = some m)
    (hsh : ∀ i m, memL mi i = some m → ∃ m', memL mo i = some m' ∧ SameSh m m') (hnew : ∀ i m, memL mo i = some m → memL mi i = none → s.mem (σ i) = none ∧ σ i < c.N) (hinj : ∀ i j x y, memL mo i = some x → memL mo j = some y → σ i = σ j → i = j)
    (hO : Objs w' F' ν' (memL mo) (fun o b => w.heap.size ≤ b ∨ (BlkOf (fun i => ν (σ i)) (memL mi) b ∧ ∃ ob, memL mi o = some ob))) (hF' : ∀ b, F' b → b < w'.heap.size ∧ (F b ∨ w.heap.size ≤ b))
    (hν : ∀ o obj, memL mi o = some obj → ν' o = ν (σ o)) (hk : Keep w.heap.size (BlkOf (fun i => ν (σ i)) (memL mi)) w w') :
    SRep c (fun b => F b ∨ F' b) (nuL σ ν' ν mo) (s.updL σ mo) a w' := by
  have hB : c.B ≤ w.heap.size := by rw [h.base]; exact h.keep.size
  have hF : ∀ k, F k → w'.heap[k]? = w.heap[k]? := fun k hk' => hk.block k (h.fin k hk').1 (fun ⟨i, m, h1, h2⟩ => (h.sep (σ i) m k (hmi i m h1) h2).1 hk')
  have hget := updL_get s σ ν' ν mo
  have hat := updL_at s σ ν' ν mo hinj
  have hmemOn : MemOn s.mem (s.updL σ mo).mem ν (nuL σ ν' ν mo) := by
    intro x obj hx
    by_cases hin : ∃ i m, memL mo i = some m ∧ x = σ i
    · obtain ⟨i, m, h1, rfl⟩ := hin
      cases hi : memL mi i with
      | none => have := (hnew i m h1 hi).1; rw [this] at hx; cases hx
      | some ob =>
        have := hmi i ob hi
        rw [this] at hx
        cases hx
        obtain ⟨m', h2, h3⟩ := hsh i obj hi
        exact ⟨m', (hat i m' h2).1, h3, (hat i m' h2).2.trans (hν i obj hi)⟩
    · have hno : ∀ (l : List (Nat × MO)), (∀ i m, memL l i = some m → x ≠ σ i) → (s.updL σ l).mem x = s.mem x ∧ nuL σ ν' ν l x = ν x := by
        intro l
        induction l with
        | nil => intro _; exact ⟨rfl, rfl⟩
        | cons p l ih =>
          obtain ⟨k, y⟩ := p
          intro hh
          have hk0 : x ≠ σ k := hh k y (by simp [memL])
          have := ih (fun i m hi => by
            by_cases e : i = k
            · rw [e]; exact hk0
            · exact hh i m (by simp only [memL, beq_no e, cond_false]; exact hi))
          exact ⟨by simp only [St.updL]; rw [upd_mem, if_neg hk0]; exact this.1, by simp [nuL, hk0]; exact this.2⟩
      have := hno mo (fun i m h1 e => hin ⟨i, m, h1, e⟩)
      exact ⟨obj, this.1.trans hx, SameSh.refl (h.mem x obj hx), this.2⟩
  have hblk : ∀ x obj b, (∀ i m, memL mo i = some m → x ≠ σ i) → s.mem x = some obj → blk (ν x) = some b → ¬ BlkOf (fun i => ν (σ i)) (memL mi) b := by
    rintro x obj b hx hxo hb ⟨i, m, h1, h2⟩
    obtain ⟨m', h3, _⟩ := hsh i m h1
    exact hx i m' h3 (h.inj x (σ i) obj m b hxo (hmi i m h1) hb h2)
  refine ⟨h.sz, h.dfr, fun t => by rw [updL_env]; exact VR.mono (h.env t) (fun _ hb => .inl hb) hF hmemOn, fun x obj hx => ?_, fun x obj b hx hb => ?_, fun x y obj obj' b hx hy hb hb' => ?_, fun b hb => ?_, ?_, h.base, fun x hx => ?_⟩
  · rcases hget x obj hx with ⟨i, rfl, h1, h2⟩ | ⟨h1, h2, h3⟩
    · rw [h2]; exact MRep.frame (hO.rep i obj h1) (fun _ hb => .inr hb) (fun _ _ => rfl) (fun _ _ => rfl)
    · rw [h3]
      exact MRep.frame (h.mem x obj h2) (fun _ hb => .inl hb) hF (fun b hb => hk.block b (MRep.lt (h.mem x obj h2) hb) (hblk x obj b h1 h2 hb))
  · rcases hget x obj hx with ⟨i, rfl, h1, h2⟩ | ⟨h1, h2, h3⟩
    · rw [h2] at hb
      obtain ⟨h4, h5⟩ := hO.sep i obj b h1 hb
      rcases h5 with h5 | ⟨⟨j, m, h6, h7⟩, ob, h8⟩
      · refine ⟨fun hf => ?_, .inl (by omega)⟩
        rcases hf with hf | hf
        · have := (h.fin b hf).1; omega
        · exact h4 hf
      · have hs := h.sep (σ j) m b (hmi j m h6) h7
        rw [hν i ob h8] at hb
        have e : σ i = σ j := h.inj _ _ ob m b (hmi i ob h8) (hmi j m h6) hb h7
        rw [e]
        exact ⟨fun hf => by rcases hf with hf | hf; exact hs.1 hf; exact h4 hf, hs.2⟩
    · rw [h3] at hb
      have hs := h.sep x obj b h2 hb
      refine ⟨fun hf => ?_, hs.2⟩
      rcases hf with hf | hf
      · exact hs.1 hf
      · rcases (hF' b hf).2 with h5 | h5
        · exact hs.1 h5
        · have := MRep.lt (h.mem x obj h2) hb; omega
  · have cross : ∀ i ob x obj, memL mo i = some ob → blk (ν' i) = some b → (∀ i m, memL mo i = some m → x ≠ σ i) → s.mem x = some obj → blk (ν x) = some b → False := by
      intro i ob x obj h1 h2 h3 h4 h5
      rcases (hO.sep i ob b h1 h2).2 with h6 | ⟨h6, _⟩
      · have := MRep.lt (h.mem x obj h4) h5; omega
      · exact hblk x obj b h3 h4 h5 h6
    rcases hget x obj hx with ⟨i, rfl, h1, h2⟩ | ⟨h1, h2, h3⟩ <;> rcases hget y obj' hy with ⟨i', rfl, h1', h2'⟩ | ⟨h1', h2', h3'⟩
    · rw [h2] at hb; rw [h2'] at hb'
      rw [hO.inj i i' obj obj' b h1 h1' hb hb']
    · rw [h2] at hb; rw [h3'] at hb'
      exact (cross i obj y obj' h1 hb h1' h2' hb').elim
    · rw [h3] at hb; rw [h2'] at hb'
      exact (cross i' obj' x obj h1' hb' h1 h2 hb).elim
    · rw [h3] at hb; rw [h3'] at hb'
      exact h.inj x y obj obj' b h2 h2' hb hb'
  · rcases hb with hb | hb
    · have := h.fin b hb
      have := hk.size
      exact ⟨by omega, (h.fin b hb).2⟩
    · refine ⟨(hF' b hb).1, ?_⟩
      rcases (hF' b hb).2 with h2 | h2
      · exact (h.fin b h2).2
      · exact .inr (by omega)
  · refine h.keep.trans ⟨hk.os, hk.tape, hk.output, hk.size, fun k hk' hS => hk.block k (by omega) ?_⟩
    rintro ⟨i, m, h1, h2⟩
    rcases (h.sep (σ i) m k (hmi i m h1) h2).2 with h3 | h3
    · omega
    · exact hS h3.1
  · by_cases hin : ∃ i m, memL mo i = some m ∧ x = σ i
    · obtain ⟨i, m, h1, rfl⟩ := hin
      cases hi : memL mi i with
      | none => have := (hnew i m h1 hi).2; omega
      | some ob => rw [(hat i m h1).2, hν i ob hi]; exact h.nu _ hx
    · have hno : ∀ (l : List (Nat × MO)), (∀ i m, memL l i = some m → x ≠ σ i) → nuL σ ν' ν l x = ν x := by
        intro l
        induction l with
        | nil => intro _; rfl
        | cons p l ih =>
          obtain ⟨k, y⟩ := p
          intro hh
          have hk0 : x ≠ σ k := hh k y (by simp [memL])
          have := ih (fun i m hi => by
            by_cases e : i = k
            · rw [e]; exact hk0
            · exact hh i m (by simp only [memL, beq_no e, cond_false]; exact hi))
          simp [nuL, hk0]; exact this
      rw [hno mo (fun i m h1 e => hin ⟨i, m, h1, e⟩)]
      exact h.nu x hx
theorem enter_run (h : SRep c F ν s a w) {cl : Call} {g : FuncId} (ho : o.op = .call cl) (hc : cl.callee = .value (.func g)) (hg : FOK P g) : (execOp a.eval o).run P w = .ok (.enter g (cl.args.map a.eval)) w := by
  obtain ⟨callee, args, tys⟩ := cl
  dsimp only at hc
  subst hc
  obtain ⟨fn, hf, hname, hbody⟩ := hg
  refine exec_call ho ?_
  unfold resolve
  simp only [Sem.run_bind, Result.andThen_ok]
  have : (Deferred.ofValue (a.eval (.func g)) (args.map a.eval)).run P w = .ok { target := .fn (.func g) #[], args := args.map a.eval } w := by
    simp [Act.eval, Deferred.ofValue]
  rw [this]
  simp only [Result.andThen_ok, invoke, Array.append_empty, callFunc, Sem.run_bind, run_program, hf, hname, hbody, Bool.false_eq_true, if_false, Sem.run_pure]
def liveA (m : Mem) : List V → Bool
  | [] => true
  | v :: r => liveB m v && liveA m r
theorem liveA_get {m : Mem} : ∀ (l : List V), liveA m l = true → ∀ (j : Nat) x, l[j]? = some x → liveB m x = true := by
  intro l
  induction l with
  | nil => intro _ j x h; simp at h
  | cons v l ih =>
    intro hl j x h
    simp only [liveA, Bool.and_eq_true] at hl
    cases j with
    | zero => simp at h; subst h; exact hl.1
    | succ j => simp at h; exact ih hl.2 j x h
/-- A CALL THAT IS HANDED OBJECTS, or hands back new ones. -/
theorem opp_callG {K : St → Prop} {cl : Call} {g : FuncId} {args : List V} {mi mo : List (Nat × MO)} {r : V} (σ : Nat → Nat) (hr : RunsG P g args mi r mo) (ho : o.op = .call cl) (hc : cl.callee = .value (.func g)) (hd : dstOk c.N o = true)
    (has : coeL T (cl.args.toList.map s.ev) cl.argTypes.toList = args.map (renV σ)) (hlive : liveA (memL mi) args = true) (hmi : AllMr s σ mi) (hsh : ShL mo mi) (hnew : NewL s c.N σ mi mo) (hinj : injB σ mo = true)
    (hK : K ((s.updL σ mo).put o.dst (renV σ r))) : OpP P c o s K := by
  unfold OpP
  rintro Q a w ⟨F, ν, h⟩
  unfold RunsG at hr
  have hmi' := AllMr_get mi hmi
  have hsh' := ShL_get mi hsh
  have hnew' := NewL_get mo hnew
  have hinj' := injB_inj hinj
  have hrun := enter_run (P := P) h ho hc hr.1
  have hav := coeL_rep T _ _ cl.argTypes.toList s.mem (args_rep h cl.args.toList)
  rw [has, show cl.args.toList.map a.eval = (cl.args.map a.eval).toList by simp] at hav
  have hav0 : args.length = (cl.args.map a.eval).toList.length := by have := hav.1; rw [List.length_map] at this; exact this
  have hav1 : AllR (VR1 w F (fun i => ν (σ i)) (memL mi)) args (cl.args.map a.eval).toList := by
    refine ⟨hav0, fun j x u hx hu => ?_⟩
    exact unren (liveA_get args hlive j x hx) hmi' (hav.2 j (renV σ x) u (by rw [List.getElem?_map, hx]; rfl) hu)
  have hOi : Objs w F (fun i => ν (σ i)) (memL mi) (fun _ _ => True) :=
    ⟨fun i m h1 => h.mem (σ i) m (hmi' i m h1), fun i m b h1 h2 => ⟨(h.sep (σ i) m b (hmi' i m h1) h2).1, trivial⟩, fun i j x y b h1 h2 h3 h4 => by
      obtain ⟨x', h5, _⟩ := hsh' i x h1
      obtain ⟨y', h6, _⟩ := hsh' j y h2
      exact hinj' i j x' y' h5 h6 (h.inj (σ i) (σ j) x y b (hmi' i x h1) (hmi' j y h2) h3 h4)⟩
  have hcall := hr.2 F (fun i => ν (σ i)) w _ (fun b hb => (h.fin b hb).1) hav1 hOi
  unfold Oper.wp
  rw [hrun]
  show Calls P g _ w _
  rw [Array.toArray_toList] at hcall
  refine hcall.mono ?_
  rintro e w' ⟨v, F', ν', rfl, hv, hO, hF', hν, hk⟩
  have hafter := h.afterG hmi' hsh' hnew' hinj' hO hF' hν hk
  exact ⟨_, hK, _, _, hafter.put (renR (fun i ob h1 => updL_at s σ ν' ν mo hinj' i ob h1) (fun b hb => .inr hb) hv) (dst_lt hd)⟩

/-! ### A call that reads what is the caller's own -/
def snapV (s : St) (v : V) : V := match v with
  | .own o off len => match s.mem o with
    | some m => snapM m off len
    | none => .undef
  | v => v
def scal : D → Bool | .bool _ => true | .int _ _ => true | _ => false
def scalV : V → Bool
  | .d x => scal x
  | .tup l => l.all fun v => match v with | .d x => scal x | _ => false
  | _ => false
theorem scal_rep {w w' : World} {F F' : Nat → Prop} {x : D} {v : Value} (hs : scal x = true) (h : RepL w F x v) : RepL w' F' x v := by
  cases x with
  | bool b => have := RepL.bool_inv h; subst this; exact .bool b
  | int k n => have := RepL.int_inv h; subst this; exact .int k n
  | _ => cases hs
theorem opp_callR {K : St → Prop} {cl : Call} {g : FuncId} {args : List V} {r : V} (hr : Runs P g args r) (ho : o.op = .call cl) (hc : cl.callee = .value (.func g)) (hd : dstOk c.N o = true)
    (has : (coeL T (cl.args.toList.map s.ev) cl.argTypes.toList).map (snapV s) = args) (hp : args.all plainV = true) (hsc : scalV r = true) (hK : K (s.put o.dst r)) : OpP P c o s K := by
  unfold OpP
  rintro Q a w ⟨F, ν, h⟩
  unfold Runs at hr
  have hrun := enter_run (P := P) h ho hc hr.1
  have hav := coeL_rep T _ _ cl.argTypes.toList s.mem (args_rep h cl.args.toList)
  rw [show cl.args.toList.map a.eval = (cl.args.map a.eval).toList by simp] at hav
  have hav1 : AllR (VR1 w (Fend F ν s) (fun _ => undef) (fun _ => none)) args (cl.args.map a.eval).toList := by
    refine ⟨by rw [← has, List.length_map]; exact hav.1, fun j x u hx hu => ?_⟩
    have hpx := List.all_eq_true.1 hp x (List.mem_of_getElem? hx)
    rw [← has, List.getElem?_map] at hx
    cases hy : (coeL T (cl.args.toList.map s.ev) cl.argTypes.toList)[j]? with
    | none => rw [hy] at hx; cases hx
    | some y =>
      rw [hy] at hx
      simp only [Option.map_some, Option.some.injEq] at hx
      have hr1 := hav.2 j y u hy hu
      subst hx
      cases y with
      | own i off len =>
        simp only [snapV] at hpx ⊢
        cases hm : s.mem i with
        | none => rw [hm] at hpx; cases hpx
        | some m =>
          rw [hm] at hpx
          simp only at hpx ⊢
          have := snap_rep h hm hr1 (Fend F ν s) (fun _ hb => .inl hb) (fun b hb => .inr ⟨i, m, hm, hb⟩)
          exact plain_rep hpx this _ _
      | d x => exact RepL.frame hr1 (fun _ hb => .inl hb) (fun _ _ => rfl)
      | agg n l =>
        obtain ⟨hl, vs, hx, ha⟩ := hr1
        exact ⟨hl, vs, hx, ha.mono fun _ _ hh => hh.frame (fun _ hb => .inl hb) (fun _ _ => rfl)⟩
      | _ => cases hpx
  have hcall := hr.2 (Fend F ν s) w _ (fun b hb => by
    rcases hb with hb | ⟨i, m, h1, h2⟩
    · exact (h.fin b hb).1
    · exact MRep.lt (h.mem i m h1) h2) hav1
  unfold Oper.wp
  rw [hrun]
  show Calls P g _ w _
  rw [Array.toArray_toList] at hcall
  refine hcall.mono ?_
  rintro e w' ⟨v, F', rfl, hv, hF', hk⟩
  have hafter := h.after (F' := fun _ => False) hk (fun b hb => hb.elim)
  refine ⟨_, hK, _, _, hafter.put ?_ (dst_lt hd)⟩
  cases r with
  | d x => exact scal_rep hsc hv
  | tup l =>
    obtain ⟨vs, rfl, ha⟩ := hv
    refine ⟨vs, rfl, ha.1, fun j y u hy hu => ?_⟩
    have := List.all_eq_true.1 hsc y (List.mem_of_getElem? hy)
    have h2 := ha.2 j y u hy hu
    cases y with
    | d x => exact scal_rep this h2
    | _ => cases this
  | _ => cases hsc
end Go.Proofs.Ythefflmebkcilaa.Fw
