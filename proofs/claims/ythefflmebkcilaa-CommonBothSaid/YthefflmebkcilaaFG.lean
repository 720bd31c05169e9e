import Derived.Test.YthefflmebkcilaaFE
set_option linter.unusedVariables false
set_option linter.unusedSimpArgs false
namespace Go.Proofs.Ythefflmebkcilaa.Fw
open Go
variable {P : Program} {T : TT} {c : Ctx} {F : Nat → Prop} {ν : Nat → Value} {s : St} {a : Act} {w : World} {o : Oper}

theorem exec_val {ρ : Operand → Value} {o : Oper} {w w' : World} {P : Program} {v : Value} {m : Sem Value} (ho : execOp ρ o = (do pure (.value (← m)))) (h : m.run P w = .ok v w') : (execOp ρ o).run P w = .ok (.value v) w' := by
  rw [ho]
  simp only [Sem.run_bind, h, Result.andThen_ok, Sem.run_pure]

theorem field_und (hT : TAll P T) {t : TypeId} {f : Nat} {off : Nat} {ft : TypeId} (h : fieldOf T t f = some (off, ft)) : ∃ fs fd, P.underlying t = some (.struct fs) ∧ fs[f]? = some fd ∧ fd.offset = off ∧ fd.type = ft := by
  unfold fieldOf at h
  split at h
  · rename_i l hk
    obtain ⟨d, hd, fs, rfl, hm⟩ := und_of hT hk rfl
    rw [← hm, List.getElem?_map] at h
    obtain ⟨fd, h1, h2⟩ := Option.map_eq_some_iff.1 h
    injection h2 with h2 h3
    exact ⟨fs, fd, hd, by simpa using h1, h2, h3⟩
  · cases h
theorem good_fieldA (hT : TAll P T) (h : SRep c F ν s a w) (t : TypeId) (p : Operand) (f : Nat) (ho : o.op = .fieldAddr t p f) : Good P c o F ν s a w (fieldA T t (s.ev p) f) := by
  have hp := ev_rep h p
  unfold fieldA
  split
  · rename_i off ft hf
    cases hz : Nat.beq (T ft).sz 0 || !(T ft).k.ok with
    | true => trivial
    | false =>
      simp only [cond_false]
      simp only [Bool.or_eq_false_iff, Bool.not_eq_false'] at hz
      obtain ⟨fs, fd, hu, hfd, h1, h2⟩ := field_und hT hf
      have hsz := (hT ft hz.2).1.size
      have hne : (T ft).sz ≠ 0 := fun e => by rw [e] at hz; simp at hz
      have run : ∀ ad, (a.eval p) = .pointer (some ad) → (execOp a.eval o).run P w = .ok (.value (.pointer (some (ad.add off)))) w := by
        intro ad hv
        refine exec_val (m := Instr.fieldAt t (a.eval p) f) (by unfold execOp; rw [ho]) ?_
        rw [hv]
        unfold Instr.fieldAt fieldPlace
        simp only [Sem.run_bind, run_und hu, Result.andThen_ok, hfd, Instr.sureAddr, Sem.run_pure, h2, run_szOf hsz, hne, if_false, h1]
      generalize s.ev p = v at hp ⊢
      cases v with
      | addr i q =>
        obtain ⟨l, a0, hm, hν, hv⟩ := hp
        exact ⟨_, run _ hv, l, a0, hm, hν, by rw [add_add]⟩
      | ela i j q =>
        obtain ⟨obj, e, sz, n, fl, a0, n', cc, hm, hr, hj, hν, hv⟩ := hp
        exact ⟨_, run _ hv, obj, e, sz, n, fl, a0, n', cc, hm, hr, hj, hν, by rw [add_add, Nat.add_assoc]⟩
      | ro n l =>
        obtain ⟨hl, ad, cs, hv, ha, hcell⟩ := hp
        dsimp only
        cases hb : Nat.ble off n with
        | false => trivial
        | true =>
          refine ⟨_, run _ hv, by simp [hl], _, cs.drop off, rfl, ha.drop off, fun j u hu => ?_⟩
          rw [List.getElem?_drop] at hu
          rw [add_add, add_block]
          exact hcell _ u hu
      | _ => trivial
  · trivial

theorem good_fieldV (hT : TAll P T) (h : SRep c F ν s a w) (t : TypeId) (x : Operand) (f : Nat) (ho : o.op = .field t x f) : Good P c o F ν s a w (fieldV T t (s.ev x) f) := by
  have hx := ev_rep h x
  unfold fieldV
  split
  · rename_i off ft n l hf he
    cases hz : Nat.ble (off + (T ft).sz) n && (T ft).k.ok && !Nat.beq (T ft).sz 0 with
    | false => trivial
    | true =>
      simp only [Bool.and_eq_true] at hz
      simp only [cond_true]
      have hle := Nat.le_of_ble_eq_true hz.1.1
      obtain ⟨fs, fd, hu, hfd, h1, h2⟩ := field_und hT hf
      have ht := hT ft hz.1.2
      rw [he] at hx
      obtain ⟨hl, vs, hv, ha⟩ := hx
      have hlen : l.length = vs.size := by have := ha.1; simpa using this
      have run : ∀ y, (part ft vs off).run P w = .ok y w → (execOp a.eval o).run P w = .ok (.value y) w := by
        intro y hy
        refine exec_val (m := Instr.field t (a.eval x) f) (by unfold execOp; rw [ho]) ?_
        rw [hv]
        unfold Instr.field
        simp only [Sem.run_bind, run_und hu, Result.andThen_ok, hfd, asAgg, Sem.run_pure, h2, h1, hy]
      unfold ofCells
      cases hg : (T ft).k.agg with
      | true =>
        refine ⟨.agg (vs.extract off (off + (T ft).sz)), run _ ?_, ?_⟩
        · unfold part
          simp only [Sem.run_bind, ht.1.isAgg, hg, Result.andThen_ok, if_true, run_szOf ht.1.size, Sem.run_pure]
        · refine ⟨by simp; omega, _, rfl, ?_⟩
          have := (ha.drop off).take (T ft).sz
          simpa [List.extract_eq_take_drop] using this
      | false =>
        have hs := ht.2.1 hg
        have hlt : off < vs.size := by omega
        refine ⟨vs[off], run _ ?_, ?_⟩
        · unfold part
          simp only [Sem.run_bind, ht.1.isAgg, hg, Result.andThen_ok, Bool.false_eq_true, if_false]
          rw [Array.getElem?_eq_getElem hlt]
          rfl
        · simp only [cond_false]
          refine ha.2 off _ _ ?_ (by simp [hlt])
          rw [List.getD_eq_getElem?_getD, List.getElem?_take, if_pos (by omega), List.getElem?_drop, Nat.add_zero, List.getElem?_eq_getElem (by omega)]
          rfl
  · trivial

/-! ### New variables -/
theorem zval_rep (w : World) (F : Nat → Prop) (l : List D) (h : l.all zok = true) : AllR (RepL w F) l (l.map zval) := by
  refine AllR.map _ _ (fun x hx => ?_)
  have := List.all_eq_true.1 h x hx
  cases x with
  | bool b => exact .bool b
  | int k n => exact .int k n
  | words l =>
    cases l with
    | nil => exact RepL.nilW w F
    | cons _ _ => simp [zok] at this
  | rows sz l =>
    cases l with
    | nil => exact RepL.nilR w F sz
    | cons _ _ => simp [zok] at this
theorem new_box (h : SRep c F ν s a w) {d : Nat} (hdN : d < c.N) (hm : s.mem d = none) (t : TypeId) (cs : Array Value) (l : List D) (ha : AllR (RepL w F) l cs.toList) :
    SRep c F (nuSet ν d (.pointer (some ⟨w.heap.size, 0, none⟩))) (s.upd d (.box l)) a (w.alloc (.cells cs t)) ∧ VR (w.alloc (.cells cs t)) F (nuSet ν d (.pointer (some ⟨w.heap.size, 0, none⟩))) (s.upd d (.box l)).mem (.addr d 0) (.pointer (some ⟨w.heap.size, 0, none⟩)) := by
  have hold : ∀ k, k < w.heap.size → (w.alloc (.cells cs t)).heap[k]? = w.heap[k]? := fun k hk => RowKit.Below.heap_alloc w _ k hk
  refine ⟨h.new hdN hm (fun b hb => by simp [blk] at hb; omega) rfl rfl rfl (by simp) hold ?_, ?_⟩
  · exact ⟨w.heap.size, cs, t, rfl, heap_alloc_new w _, ha.mono fun _ _ hh => hh.frame (fun _ hb => hb) (fun k hk => hold k (h.fin k hk).1)⟩
  · exact ⟨l, ⟨w.heap.size, 0, none⟩, by simp [upd_mem], by simp [nuSet], by simp [Addr.add]⟩
theorem good_alloc (hT : TAll P T) (hdk : ∀ d, o.dst = some d → d < c.N) (h : SRep c F ν s a w) (t : TypeId) (ho : o.op = .alloc t) : Good P c o F ν s a w (match o.dst, (T t).k.ok with
    | some d, true => match s.mem d with
      | none => .upd d (.box (T t).zero) (.addr d 0)
      | some _ => .fail
    | _, _ => .fail) := by
  split
  · rename_i d hk _ hd
    split
    · rename_i hm
      obtain ⟨h1, h2, h3, h4⟩ := hT t hd
      obtain ⟨i, z, hi, _, _, hz, hc⟩ := h1.all
      have hn := new_box h (hdk _ (by assumption)) hm t z.cells (T t).zero (by rw [hc]; exact zval_rep w F _ h4)
      refine ⟨_, _, _, .inl (exec_val (m := Instr.alloc t true (.tuple #[])) (by unfold execOp; rw [ho]) ?_), hn.1, hn.2⟩
      unfold Instr.alloc zeroValue typeInfo
      simp only [Sem.run_bind, run_program, Result.andThen_ok, hi, Sem.run_pure, hz, newVar, newRow, run_newObj]
      rfl
    · trivial
  · trivial
theorem good_box (hT : TAll P T) (hdk : ∀ d, o.dst = some d → d < c.N) (h : SRep c F ν s a w) (t : TypeId) (x : Operand) (ho : o.op = .box t x) : Good P c o F ν s a w (match o.dst, (T t).k.ok with
    | some d, true => match s.mem d, cellsV T t (s.ev x) with
      | none, some c => .upd d (.box c) (.addr d 0)
      | _, _ => .fail
    | _, _ => .fail) := by
  split
  · rename_i d hk _ hd
    split
    · rename_i cl hm hcl
      obtain ⟨hrep, _⟩ := cells_rep (ev_rep h x) hcl
      have hn := new_box h (hdk _ (by assumption)) hm t (a.eval x).cells cl hrep
      refine ⟨_, _, _, .inl (exec_val (m := Instr.box t (a.eval x)) (by unfold execOp; rw [ho]) ?_), hn.1, hn.2⟩
      unfold Instr.box
      simp only [Sem.run_bind, newVar, newRow, run_newObj, Result.andThen_ok, Sem.run_pure]
      rfl
    · trivial
  · trivial

/-! ### Literals -/
theorem foldl_set (vs : List Value) : ∀ (k off : Nat) (cs : Array Value), off + k + vs.length ≤ cs.size →
    ((vs.zipIdx k).foldl (fun cs (x : Value × Nat) => cs.setIfInBounds (off + x.2) x.1) cs).toList = cs.toList.take (off + k) ++ (vs ++ cs.toList.drop (off + k + vs.length)) := by
  induction vs with
  | nil => intro k off cs _; simp
  | cons v vs ih =>
    intro k off cs hl
    simp only [List.length_cons] at hl
    simp only [List.zipIdx_cons, List.foldl_cons]
    rw [ih (k + 1) off _ (by simp; omega)]
    simp only [Array.toList_setIfInBounds]
    rw [set_eq _ _ _ (by simp; omega)]
    have e1 : (cs.toList.take (off + k)).length = off + k := by simp; omega
    rw [show off + (k + 1) = (off + k) + 1 by omega, List.take_append, List.drop_append, e1]
    rw [List.take_of_length_le (by omega), show off + k + 1 - (off + k) = 1 by omega, List.drop_of_length_le (l := cs.toList.take (off + k)) (by omega)]
    simp only [List.singleton_append, List.take_succ_cons, List.take_zero, List.nil_append, List.append_assoc, List.length_cons]
    rw [show off + k + 1 + vs.length - (off + k) = vs.length + 1 by omega, List.drop_succ_cons, List.drop_drop]
    simp only [List.cons_append, List.nil_append]
    congr 4
    omega
theorem arr_foldl_set (vs : Array Value) (off : Nat) (cs : Array Value) (hl : off + vs.size ≤ cs.size) :
    (vs.zipIdx.foldl (fun cs (c, j) => cs.setIfInBounds (off + j) c) cs).toList = cs.toList.take off ++ (vs.toList ++ cs.toList.drop (off + vs.size)) := by
  have := foldl_set vs.toList 0 off cs (by simpa using hl)
  simp only [Nat.add_zero, Array.length_toList] at this
  rw [← this, ← Array.foldl_toList]
  simp [Array.toList_zipIdx]

theorem fill_rep (places : Nat → Option (Nat × Nat)) (fs : List (Nat × TypeId)) (hpl : ∀ i off ft, fs[i]? = some (off, ft) → places i = some (off, (T ft).sz)) : ∀ (ps : List (Nat × Operand)) (acc l : List D) (cells : Array Value),
    (∀ p ∈ ps, VR w F ν s.mem (s.ev p.2) (a.eval p.2)) → AllR (RepL w F) acc cells.toList → fillB T fs acc (ps.map fun (i, x) => (i, s.ev x)) = some l →
    ∃ cells', Instr.fill places cells (ps.map fun (i, x) => (i, a.eval x)) = some cells' ∧ AllR (RepL w F) l cells'.toList := by
  intro ps
  induction ps with
  | nil =>
    intro acc l cells _ ha hf
    simp only [List.map_nil, fillB, Option.some.injEq] at hf
    subst hf
    exact ⟨cells, rfl, ha⟩
  | cons p ps ih =>
    obtain ⟨i, x⟩ := p
    intro acc l cells hv ha hf
    simp only [List.map_cons, fillB] at hf
    split at hf
    · rename_i off ft hfi
      split at hf
      · rename_i cl hcl
        cases hb : Nat.beq cl.length (T ft).sz && Nat.ble (off + cl.length) acc.length with
        | false => rw [hb] at hf; cases hf
        | true =>
          rw [hb, cond_true] at hf
          simp only [Bool.and_eq_true] at hb
          have h1 := Nat.eq_of_beq_eq_true hb.1
          have h2 := Nat.le_of_ble_eq_true hb.2
          obtain ⟨hrep, _⟩ := cells_rep (hv (i, x) (by simp)) hcl
          have hsz : (a.eval x).cells.size = cl.length := by have := hrep.1; simpa using this.symm
          have hac : acc.length = cells.size := by have := ha.1; simpa using this
          simp only [List.map_cons, Instr.fill, hpl i off ft hfi]
          rw [if_neg (by simp [hsz, h1]; omega)]
          refine ih (repl acc off cl) l _ (fun p hp => hv p (by simp [hp])) ?_ hf
          rw [arr_foldl_set _ _ _ (by omega), hsz]
          exact (ha.take off).app (hrep.app (ha.drop _))
      · cases hf
    · cases hf
theorem mapM_run {α β : Type} (f : α → Sem β) (g : α → β) (w : World) : ∀ (l : List α), (∀ x ∈ l, (f x).run P w = .ok (g x) w) → (l.mapM f).run P w = .ok (l.map g) w := by
  intro l
  induction l with
  | nil => intro _; rfl
  | cons x l ih =>
    intro h
    simp only [List.mapM_cons, Sem.run_bind, h x (by simp), Result.andThen_ok, ih (fun y hy => h y (by simp [hy])), Sem.run_pure, List.map_cons]
theorem arr_mapM_run {α β : Type} (f : α → Sem β) (g : α → β) (w : World) (l : Array α) (h : ∀ x ∈ l.toList, (f x).run P w = .ok (g x) w) : (l.mapM f).run P w = .ok (l.map g) w := by
  rw [Array.mapM_eq_mapM_toList, Sem.run_map, mapM_run f g w l.toList h]
  simp only [Result.andThen_ok]
  rw [← Array.toList_map, Array.toArray_toList]

theorem fill_len (fs : List (Nat × TypeId)) : ∀ (ps : List (Nat × V)) (acc l : List D), fillB T fs acc ps = some l → l.length = acc.length := by
  intro ps
  induction ps with
  | nil => intro acc l h; simp only [fillB, Option.some.injEq] at h; rw [h]
  | cons p ps ih =>
    obtain ⟨i, x⟩ := p
    intro acc l h
    simp only [fillB] at h
    split at h
    · split at h
      · rename_i off ft _ _ cl _
        cases hb : Nat.beq cl.length (T ft).sz && Nat.ble (off + cl.length) acc.length with
        | false => rw [hb] at h; cases h
        | true =>
          rw [hb, cond_true] at h
          simp only [Bool.and_eq_true] at hb
          have h2 := Nat.le_of_ble_eq_true hb.2
          rw [ih _ _ h]
          simp [repl]; omega
      · cases h
    · cases h
theorem good_build (hT : TAll P T) (h : SRep c F ν s a w) (t : TypeId) (ps : Array (Nat × Operand)) (ho : o.op = .build t ps) : Good P c o F ν s a w (bif (T t).k.ok then buildV T t (ps.toList.map fun (i, x) => (i, s.ev x)) else .fail) := by
  cases hk : (T t).k.ok with
  | false => trivial
  | true =>
    simp only [cond_true]
    unfold buildV
    split
    · rename_i fs hfs
      cases hall : fs.all (fun x => (T x.2).k.ok) with
      | false => trivial
      | true =>
        simp only [cond_true]
        split
        · rename_i l hf
          obtain ⟨h1, h2, h3, h4⟩ := hT t hk
          obtain ⟨i, z, hi, _, _, hz, hc⟩ := h1.all
          obtain ⟨d, hd, fds, rfl, hm⟩ := und_of hT hfs rfl
          have hpl : (fds.mapM fun f => do pure (f.offset, ← sizeOf f.type) : Sem (Array (Nat × Nat))).run P w = .ok (fds.map fun f => (f.offset, (T f.type).sz)) w := by
            refine arr_mapM_run _ _ w fds (fun f hf => ?_)
            have : (f.offset, f.type) ∈ fs := by rw [← hm]; exact List.mem_map.2 ⟨f, hf, rfl⟩
            have := (hT f.type (List.all_eq_true.1 hall _ this)).1.size
            simp only [Sem.run_bind, run_szOf this, Result.andThen_ok, Sem.run_pure]
          obtain ⟨cells', hfill, ha⟩ := fill_rep (F := F) (ν := ν) (w := w) (s := s) (a := a) (T := T) (fun i => (fds.map fun f => (f.offset, (T f.type).sz))[i]?) fs (fun i off ft hx => by
              rw [← hm, List.getElem?_map] at hx
              obtain ⟨fd, h1, h2⟩ := Option.map_eq_some_iff.1 hx
              injection h2 with h2 h3
              subst h2; subst h3
              rw [Array.getElem?_map]
              have : fds[i]? = some fd := by simpa using h1
              rw [this]; rfl) ps.toList (T t).zero l z.cells (fun p _ => ev_rep h p.2) (by rw [hc]; exact zval_rep w F _ h4) hf
          refine ⟨.agg cells', exec_val (m := Instr.build t (ps.map fun (i, x) => (i, a.eval x))) (by unfold execOp; rw [ho]) ?_, by rw [fill_len fs _ _ _ hf, h3], cells', rfl, ha⟩
          unfold Instr.build zeroValue typeInfo
          simp only [Sem.run_bind, run_program, Result.andThen_ok, hi, Sem.run_pure, hz, run_und hd, hpl]
          rw [Array.toList_map, hfill]
          rfl
        · trivial
    · trivial
end Go.Proofs.Ythefflmebkcilaa.Fw
