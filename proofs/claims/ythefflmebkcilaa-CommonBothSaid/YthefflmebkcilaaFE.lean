import Derived.Test.YthefflmebkcilaaFD
set_option linter.unusedVariables false
set_option linter.unusedSimpArgs false
namespace Go.Proofs.Ythefflmebkcilaa.Fw
open Go
variable {P : Program} {T : TT} {c : Ctx} {F : Nat → Prop} {ν : Nat → Value} {s : St} {a : Act} {w : World} {o : Oper}

theorem ok_of {T : TT} {t : TypeId} {k : TK} (hk : (T t).k = k) (h : k.ok = true) : (T t).k.ok = true := by rw [hk]; exact h
theorem empty_rep (w : World) (F : Nat → Prop) (ν : Nat → Value) (m : Mem) (T : TT) (t : TypeId) : VR w F ν m (emptyOf T t) (.slice none 0 0) := by
  unfold emptyOf
  split
  · split
    · exact RepL.nilW w F
    · exact RepL.nilR w F _
  · trivial
theorem coe_rep {v : V} {x : Value} {m : Mem} (h : VR w F ν m v x) (T : TT) (t : TypeId) : VR w F ν m (coe T t v) x := by
  unfold coe
  split
  · have : x = .slice none 0 0 := h
    subst this
    exact empty_rep _ _ _ _ _ _
  · exact h
/-- The cells that a value is. -/
theorem cells_rep {v : V} {x : Value} {m : Mem} {t : TypeId} {l : List D} (h : VR w F ν m v x) (hc : cellsV T t v = some l) : AllR (RepL w F) l x.cells.toList ∧ (∀ u ∈ x.cells.toList, u.oneCell' = true) := by
  have key : ∀ {l : List D} {vs : List Value}, AllR (RepL w F) l vs → ∀ u ∈ vs, u.oneCell' = true := by
    intro l vs ha u hu
    obtain ⟨j, hj⟩ := List.getElem?_of_mem hu
    have hj' : j < l.length := by rw [ha.1]; exact (List.getElem?_eq_some_iff.1 hj).1
    exact (ha.2 j l[j] u (by simp [hj']) hj).one
  have h1 : AllR (RepL w F) l x.cells.toList := by
    unfold cellsV at hc
    split at hc
    · cases hg : (T t).k.agg with
      | true => rw [hg] at hc; cases hc
      | false =>
        rw [hg] at hc
        injection hc with hc
        subst hc
        have hh : RepL w F _ x := h
        rw [hh.cells]
        exact AllR.cons hh AllR.nil
    · rename_i n l'
      cases hg : (T t).k.agg && Nat.beq n (T t).sz with
      | false => rw [hg] at hc; cases hc
      | true =>
        rw [hg] at hc
        injection hc with hc
        subst hc
        obtain ⟨_, vs, rfl, ha⟩ := h
        exact ha
    · split at hc
      · rename_i y hy
        injection hc with hc
        subst hc
        have : x = .slice none 0 0 := h
        subst this
        have hh := empty_rep w F ν m T t
        rw [hy] at hh
        exact AllR.cons hh AllR.nil
      · cases hc
    · cases hc
  exact ⟨h1, key h1⟩
theorem exec_store (ρ : Operand → Value) (o : Oper) (t : TypeId) (p v : Operand) (ho : o.op = .store t p v) (w w' : World) (P : Program) (h : (Instr.storeAt t (ρ p) (ρ v)).run P w = .ok () w') : (execOp ρ o).run P w = .ok .skip w' := by
  unfold execOp
  rw [ho]
  simp only [Sem.run_bind, h, Result.andThen_ok, Sem.run_pure]
theorem store_run (hT : TAll P T) {t : TypeId} (hk : (T t).k.ok = true) (g o : Nat) (cur : Array Value) (ty : TypeId) (x : Value) (hg : w.heap[g]? = some (.cells cur ty (0, 0))) (hx : x.cells.size = (T t).sz) (ho : o + x.cells.size ≤ cur.size)
    (h1 : ∀ u ∈ x.cells.toList, u.oneCell' = true) : (Instr.storeAt t (.pointer (some ⟨g, o, none⟩)) x).run P w = .ok () (w.setRow g (cur.toList.take o ++ x.cells.toList ++ cur.toList.drop (o + x.cells.size)).toArray) := by
  obtain ⟨h2, _⟩ := hT t hk
  unfold Instr.storeAt storeVar
  have := run_storeCells_at P g o ty x.cells.toList 0 cur w hg (by simpa using ho) h1
  simp only [Nat.add_zero, Array.length_toList] at this
  simp only [Instr.sureAddr, Sem.run_bind, Sem.run_pure, Result.andThen_ok, run_szOf h2.size, hx, ne_eq, not_true, if_false, this]
theorem setRow_size (w : World) (g : Nat) (cs : Array Value) : (w.setRow g cs).heap.size = w.heap.size := by simp [World.setRow]

theorem set_eq {α : Type} (l : List α) (j : Nat) (x : α) (hj : j < l.length) : l.set j x = l.take j ++ ([x] ++ l.drop (j + 1)) := by
  induction l generalizing j with
  | nil => simp at hj
  | cons y l ih =>
    cases j with
    | zero => simp
    | succ j => simp [ih j (by simpa using hj)]
/-- A part of an owned row is written. -/
theorem own_write {e sz n : Nat} {v : Value} {cs : List Value} (how : w.ownsRow 0 e sz v n cs) {g n' cc : Nat} (hv : v = .slice (some ⟨g, 0, none⟩) n' cc) (cur : Array Value) (hg : w.heap[g]? = some (.cells cur e (0, 0))) (o : Nat) (us : List Value)
    (hfit : o + us.length ≤ n * sz) : (w.setRow g (cur.toList.take o ++ us ++ cur.toList.drop (o + us.length)).toArray).ownsRow 0 e sz v n (cs.take o ++ (us ++ cs.drop (o + us.length))) := by
  obtain ⟨g', cur', e1, e2, e3, e4, e5, e6, e7⟩ := own_addr how hv
  injection e1 with e1 _ _
  subst e1
  rw [hg] at e3
  injection e3 with e3
  injection e3 with e3 _ _
  subst e3
  subst e2
  have hlen := how.1
  have hle : n' * sz ≤ cc * sz := Nat.mul_le_mul_right _ e5
  refine ⟨by simp [hlen]; omega, .inr ⟨g, cc, _, hv, Nat.zero_le _, setRow_heap w g cur _ _ _ hg, e5, e6, ?_, ?_⟩⟩
  · simp only [List.size_toArray, List.length_append, List.length_take, List.length_drop, Array.length_toList]
    omega
  · rw [← e7]
    rw [List.append_assoc, List.take_append, List.take_append]
    have h1 : (cur.toList.take o).length = o := by simp; omega
    rw [List.take_of_length_le (l := cur.toList.take o) (by omega), List.take_of_length_le (l := us) (by omega), h1, List.take_take, Nat.min_eq_left (by omega), List.drop_take]
    congr 3
    omega

theorem good_store (hT : TAll P T) (h : SRep c F ν s a w) (t : TypeId) (p v : Operand) (ho : o.op = .store t p v) : Good P c o F ν s a w (bif (T t).k.ok && !isSome' o.dst then storeV T s t (s.ev p) (s.ev v) else .fail) := by
  have hp := ev_rep h p
  have hv := ev_rep h v
  cases hkk : (T t).k.ok && !isSome' o.dst with
  | false => trivial
  | true =>
    simp only [Bool.and_eq_true] at hkk
    have hk := hkk.1
    simp only [cond_true]
    generalize s.ev p = pv at hp ⊢
    generalize s.ev v = vv at hv ⊢
    unfold storeV
    split
    · trivial
    · rename_i cl hcl
      obtain ⟨hrep, hone⟩ := cells_rep hv hcl
      cases pv with
      | addr i off =>
        obtain ⟨l, a0, hm, hν, hpv⟩ := hp
        simp only [hm]
        cases hb : Nat.ble (off + (T t).sz) l.length && Nat.beq cl.length (T t).sz with
        | false => trivial
        | true =>
          simp only [Bool.and_eq_true] at hb
          have hle := Nat.le_of_ble_eq_true hb.1
          have hcz := Nat.eq_of_beq_eq_true hb.2
          obtain ⟨b, cur, ty, hν', hheap, ha⟩ := box_inv h hm
          rw [hν] at hν'
          injection hν' with hν'
          injection hν' with hν'
          subst hν'
          have e : (bif Nat.beq off 0 && Nat.beq (T t).sz l.length then cl else repl l off cl) = repl l off cl := by
            cases hc : Nat.beq off 0 && Nat.beq (T t).sz l.length with
            | false => rfl
            | true =>
              simp only [Bool.and_eq_true] at hc
              have h1 := Nat.eq_of_beq_eq_true hc.1
              have h2 := Nat.eq_of_beq_eq_true hc.2
              subst h1
              simp [repl, hcz, h2]
          simp only [cond_true]
          rw [e]
          have hx1 : (a.eval v).cells.size = cl.length := by have := hrep.1; simpa using this.symm
          have hl1 : l.length = cur.size := by have := ha.1; simpa using this
          rw [add_lit, Nat.zero_add] at hpv
          have hrun := store_run (P := P) hT hk b off cur ty (a.eval v) hheap (by omega) (by omega) hone
          obtain ⟨W, hW⟩ : ∃ W, W = w.setRow b (cur.toList.take off ++ (a.eval v).cells.toList ++ cur.toList.drop (off + (a.eval v).cells.size)).toArray := ⟨_, rfl⟩
          rw [← hW] at hrun
          refine ⟨undef, W, ν, .inr ⟨exec_store _ _ _ _ _ ho _ _ _ (by rw [hpv]; exact hrun), rfl⟩, ?_, trivial⟩
          have hsep := h.sep i _ b hm (by rw [hν]; rfl)
          have hoth : ∀ k, k ≠ b → W.heap[k]? = w.heap[k]? := fun k hk => by rw [hW]; exact setRow_other _ _ _ _ hk
          have fr : ∀ x u, RepL w F x u → RepL W F x u := fun x u hh => hh.frame (fun _ hb => hb) (fun k hk => hoth k (fun e => hsep.1 (e ▸ hk)))
          refine h.write hm (.inl ⟨l, repl l off cl, rfl, rfl⟩) (b := b) (by rw [hν]; rfl) (by rw [hW]; rfl) (by rw [hW]; rfl) (by rw [hW]; rfl) (by rw [hW]; exact setRow_size _ _ _) hoth ?_
          refine ⟨b, _, ty, hν, by rw [hW]; exact setRow_heap w b cur _ ty _ hheap, ?_⟩
          have := ((ha.take off).mono fr).app ((hrep.mono fr).app ((ha.drop (off + cl.length)).mono fr))
          unfold repl
          rw [List.append_assoc, hx1]
          exact this
      | ela i j q =>
        obtain ⟨obj, e, sz, n, fl, a0, n', cc, hm, hr, hj, hν, hpv⟩ := hp
        simp only [hm]
        cases obj with
        | box l => simp [MO.row?] at hr
        | words e' l =>
          simp only [MO.row?, Option.some.injEq, Prod.mk.injEq] at hr
          obtain ⟨rfl, rfl, rfl, rfl⟩ := hr
          dsimp only
          split
          · rename_i x
            cases hc : Nat.beq q 0 && Nat.beq (T t).sz 1 with
            | false => trivial
            | true =>
              simp only [Bool.and_eq_true] at hc
              have h1 := Nat.eq_of_beq_eq_true hc.1
              have h2 := Nat.eq_of_beq_eq_true hc.2
              subst h1
              simp only [cond_true]
              obtain ⟨cs, hz, how, ha⟩ := row_inv h hm (e := e') (sz := 1) (n := l.length) (fl := l.map wd) rfl
              obtain ⟨g, cur, rfl, rfl, hheap, hcz, hnc, hcm, htk⟩ := own_addr how hν
              have hx1 : (a.eval v).cells.size = 1 := by have := hrep.1; simpa using this.symm
              rw [add_lit, Nat.zero_add, Nat.mul_one, Nat.add_zero] at hpv
              have hrun := store_run (P := P) hT hk g j cur e' (a.eval v) hheap (by omega) (by omega) hone
              have hw := own_write how hν cur hheap j (a.eval v).cells.toList (by simp [hx1]; omega)
              rw [Array.length_toList] at hw
              obtain ⟨W, hW⟩ : ∃ W, W = w.setRow g (cur.toList.take j ++ (a.eval v).cells.toList ++ cur.toList.drop (j + (a.eval v).cells.size)).toArray := ⟨_, rfl⟩
              rw [← hW] at hrun hw
              refine ⟨undef, W, ν, .inr ⟨exec_store _ _ _ _ _ ho _ _ _ (by rw [hpv]; exact hrun), rfl⟩, ?_, trivial⟩
              have hsep := h.sep i _ g hm (by rw [hν]; rfl)
              have hoth : ∀ k, k ≠ g → W.heap[k]? = w.heap[k]? := fun k hk => by rw [hW]; exact setRow_other _ _ _ _ hk
              have fr : ∀ x u, RepL w F x u → RepL W F x u := fun x u hh => hh.frame (fun _ hb => hb) (fun k hk => hoth k (fun e => hsep.1 (e ▸ hk)))
              refine h.write hm (.inr ⟨e', 1, l.length, l.map wd, (l.set j x).map wd, rfl, by simp [MO.row?]⟩) (b := g) (by rw [hν]; rfl) (by rw [hW]; rfl) (by rw [hW]; rfl) (by rw [hW]; rfl) (by rw [hW]; exact setRow_size _ _ _) hoth ?_
              refine ⟨e', 1, l.length, (l.set j x).map wd, _, by simp [MO.row?], Nat.one_pos, hw, ?_⟩
              have := ((ha.take j).mono fr).app ((hrep.mono fr).app ((ha.drop (j + 1)).mono fr))
              rw [set_eq l j x hj, hx1]
              simp only [List.map_append, List.map_take, List.map_drop, List.map_cons, List.map_nil]
              exact this
          · trivial
        | rows e' sz' l =>
          dsimp only
          cases hc : Nat.beq q 0 && Nat.beq (T t).sz sz' && Nat.beq cl.length sz' with
          | false => trivial
          | true =>
            simp only [Bool.and_eq_true] at hc
            have h1 := Nat.eq_of_beq_eq_true hc.1.1
            have h2 := Nat.eq_of_beq_eq_true hc.1.2
            have h3 := Nat.eq_of_beq_eq_true hc.2
            subst h1
            simp only [cond_true]
            have hr0 := hr
            simp only [MO.row?] at hr
            split at hr
            · rename_i hall
              simp only [Option.some.injEq, Prod.mk.injEq] at hr
              obtain ⟨rfl, rfl, rfl, rfl⟩ := hr
              obtain ⟨cs, hz, how, ha⟩ := row_inv h hm hr0
              obtain ⟨g, cur, rfl, rfl, hheap, hcz, hnc, hcm, htk⟩ := own_addr how hν
              obtain ⟨hf1, hf2⟩ := flat_set l j cl hall hj h3
              have hx1 : (a.eval v).cells.size = sz' := by have := hrep.1; simp at this; omega
              rw [add_lit, Nat.zero_add, Nat.add_zero] at hpv
              have hle : (j + 1) * sz' ≤ l.length * sz' := Nat.mul_le_mul_right _ hj
              rw [Nat.succ_mul] at hle
              have hle2 : l.length * sz' ≤ cc * sz' := Nat.mul_le_mul_right _ hnc
              have hrun := store_run (P := P) hT hk g (j * sz') cur e' (a.eval v) hheap (by omega) (by omega) hone
              have hw := own_write how hν cur hheap (j * sz') (a.eval v).cells.toList (by rw [Array.length_toList]; omega)
              rw [Array.length_toList] at hw
              obtain ⟨W, hW⟩ : ∃ W, W = w.setRow g (cur.toList.take (j * sz') ++ (a.eval v).cells.toList ++ cur.toList.drop (j * sz' + (a.eval v).cells.size)).toArray := ⟨_, rfl⟩
              rw [← hW] at hrun hw
              refine ⟨undef, W, ν, .inr ⟨exec_store _ _ _ _ _ ho _ _ _ (by rw [hpv]; exact hrun), rfl⟩, ?_, trivial⟩
              have hrow : (MO.rows e' sz' (l.set j cl)).row? = some (e', sz', l.length, (l.set j cl).flatten) := by simp only [MO.row?, hf2, if_true, List.length_set]
              have hsep := h.sep i _ g hm (by rw [hν]; rfl)
              have hoth : ∀ k, k ≠ g → W.heap[k]? = w.heap[k]? := fun k hk => by rw [hW]; exact setRow_other _ _ _ _ hk
              have fr : ∀ x u, RepL w F x u → RepL W F x u := fun x u hh => hh.frame (fun _ hb => hb) (fun k hk => hoth k (fun e => hsep.1 (e ▸ hk)))
              refine h.write hm (.inr ⟨e', sz', l.length, l.flatten, (l.set j cl).flatten, hr0, hrow⟩) (b := g) (by rw [hν]; rfl) (by rw [hW]; rfl) (by rw [hW]; rfl) (by rw [hW]; rfl) (by rw [hW]; exact setRow_size _ _ _) hoth ?_
              refine ⟨e', sz', l.length, _, _, hrow, hz, hw, ?_⟩
              have := ((ha.take (j * sz')).mono fr).app ((hrep.mono fr).app ((ha.drop (j * sz' + sz')).mono fr))
              rw [hf1, hx1]
              exact this
            · cases hr
      | _ => trivial
end Go.Proofs.Ythefflmebkcilaa.Fw
