import Derived.Test.YthefflmebkcilaaFC
set_option linter.unusedVariables false
set_option linter.unusedSimpArgs false
namespace Go.Proofs.Ythefflmebkcilaa.Fw
open Go
variable {P : Program} {T : TT} {c : Ctx} {F : Nat → Prop} {ν : Nat → Value} {s : St} {a : Act} {w : World} {o : Oper}

theorem good_move (h : SRep c F ν s a w) (x : Operand) (ho : o.op = .move x ∨ o.op = .assign x) : Good P c o F ν s a w (.val (s.ev x)) := by
  refine ⟨a.eval x, ?_, ev_rep h x⟩
  rcases ho with ho | ho <;> · unfold execOp; rw [ho]; rfl

/-! ### Loads -/
theorem flat_seg {α : Type} {sz : Nat} : ∀ (l : List (List α)) (j : Nat) (y : List α), l.all (fun x => x.length == sz) = true → l[j]? = some y → (l.flatten.drop (j * sz)).take sz = y := by
  intro l
  induction l with
  | nil => intro j y _ hy; simp at hy
  | cons x l ih =>
    intro j y hl hy
    simp only [List.all_cons, Bool.and_eq_true, beq_iff_eq] at hl
    cases j with
    | zero =>
      simp at hy
      subst hy
      simp [hl.1]
    | succ j =>
      have := ih j y hl.2 (by simpa using hy)
      rw [List.flatten_cons, Nat.succ_mul, Nat.add_comm, ← List.drop_drop]
      rw [← hl.1] at this ⊢
      rw [List.drop_left]
      exact this
theorem flat_len {α : Type} {sz : Nat} : ∀ (l : List (List α)), l.all (fun x => x.length == sz) = true → l.flatten.length = l.length * sz := by
  intro l
  induction l with
  | nil => simp
  | cons x l ih =>
    intro hl
    simp only [List.all_cons, Bool.and_eq_true, beq_iff_eq] at hl
    rw [List.flatten_cons, List.length_append, ih hl.2, hl.1, List.length_cons, Nat.succ_mul]
    omega
theorem flat_set {α : Type} {sz : Nat} : ∀ (l : List (List α)) (j : Nat) (y : List α), l.all (fun x => x.length == sz) = true → j < l.length → y.length = sz → (l.set j y).flatten = l.flatten.take (j * sz) ++ (y ++ l.flatten.drop (j * sz + sz)) ∧ (l.set j y).all (fun x => x.length == sz) = true := by
  intro l
  induction l with
  | nil => intro j y _ hj; simp at hj
  | cons x l ih =>
    intro j y hl hj hy
    simp only [List.all_cons, Bool.and_eq_true, beq_iff_eq] at hl
    cases j with
    | zero =>
      refine ⟨?_, by simp [hl.2, hy]⟩
      simp only [List.set_cons_zero, List.flatten_cons, Nat.zero_mul, List.take_zero, List.nil_append, Nat.zero_add]
      rw [← hl.1, List.drop_left]
    | succ j =>
      obtain ⟨h1, h2⟩ := ih j y hl.2 (by simpa using hj) hy
      refine ⟨?_, by simp [hl.1, h2]⟩
      simp only [List.set_cons_succ, List.flatten_cons, h1]
      have e1 : (j + 1) * sz = x.length + j * sz := by rw [Nat.succ_mul, hl.1]; omega
      have e2 : (j + 1) * sz + sz = x.length + (j * sz + sz) := by omega
      rw [e2, e1, List.take_append, List.drop_append]
      simp only [Nat.add_sub_cancel_left, List.append_assoc]
      congr 1
      · rw [List.take_of_length_le (by omega)]
      · congr 1
        rw [List.drop_of_length_le (l := x) (by omega)]
        rfl

theorem load_run (hT : TAll P T) {t : TypeId} (hk : (T t).k.ok = true) (ad : Addr) (cs : List Value) (l : List D) (hl : cs.length = (T t).sz) (hc : ∀ (j : Nat) u, cs[j]? = some u → w.cell? (ad.add j) = some u)
    (ha : AllR (RepL w F) l cs) (ν : Nat → Value) (m : Mem) : ∃ x, (Instr.loadAt t (.pointer (some ad))).run P w = .ok x w ∧ VR w F ν m (ofCells T t l) x := by
  obtain ⟨h1, h2, h3, _⟩ := hT t hk
  unfold Instr.loadAt loadVar ofCells
  simp only [Instr.sureAddr, Sem.run_bind, Sem.run_pure, Result.andThen_ok, h1.isAgg]
  cases hg : (T t).k.agg with
  | true =>
    simp only [if_true, Sem.run_bind, run_szOf h1.size, Result.andThen_ok, cond_true]
    rw [← hl, run_loadCells_list w ad cs hc]
    exact ⟨_, rfl, ha.1, _, rfl, by simpa using ha⟩
  | false =>
    have hs := h2 hg
    rw [hs] at hl
    match cs, hl with
    | [u], _ =>
      obtain ⟨x, hx⟩ : ∃ x, l = [x] := by
        have := ha.1
        match l, this with
        | [x], _ => exact ⟨x, rfl⟩
      subst hx
      have hu := hc 0 u rfl
      have : ad.add 0 = ad := by simp [Addr.add]
      rw [this] at hu
      refine ⟨u, ?_, ?_⟩
      · simp only [Bool.false_eq_true, if_false, run_load, hu]
      · simp only [cond_false, List.getD_cons_zero]
        exact ha.2 0 x u rfl rfl

theorem box_inv (h : SRep c F ν s a w) {i : Nat} {l : List D} (hi : s.mem i = some (.box l)) : ∃ b cur t, ν i = .pointer (some ⟨b, 0, none⟩) ∧ w.heap[b]? = some (.cells cur t (0, 0)) ∧ AllR (RepL w F) l cur.toList := h.mem i _ hi
theorem row_inv (h : SRep c F ν s a w) {i : Nat} {obj : MO} (hi : s.mem i = some obj) {e sz n : Nat} {fl : List D} (hr : obj.row? = some (e, sz, n, fl)) :
    ∃ cs, 0 < sz ∧ w.ownsRow 0 e sz (ν i) n cs ∧ AllR (RepL w F) fl cs := by
  have hm := h.mem i obj hi
  cases obj with
  | box l => simp [MO.row?] at hr
  | words e' l =>
    obtain ⟨e2, sz2, n2, fl2, cs, hr2, hz, ho, ha⟩ := hm
    rw [hr] at hr2
    simp only [Option.some.injEq, Prod.mk.injEq] at hr2
    obtain ⟨rfl, rfl, rfl, rfl⟩ := hr2
    exact ⟨cs, hz, ho, ha⟩
  | rows e' sz' l =>
    obtain ⟨e2, sz2, n2, fl2, cs, hr2, hz, ho, ha⟩ := hm
    rw [hr] at hr2
    simp only [Option.some.injEq, Prod.mk.injEq] at hr2
    obtain ⟨rfl, rfl, rfl, rfl⟩ := hr2
    exact ⟨cs, hz, ho, ha⟩
theorem seg_cells {ad : Addr} {cs : List Value} (hc : ∀ (j : Nat) u, cs[j]? = some u → w.cell? (ad.add j) = some u) (o n : Nat) : ∀ (j : Nat) u, ((cs.drop o).take n)[j]? = some u → w.cell? ((ad.add o).add j) = some u := by
  intro j u hu
  rw [List.getElem?_take] at hu
  split at hu
  · rw [List.getElem?_drop] at hu
    rw [add_add]
    exact hc _ _ hu
  · cases hu
theorem row_cells (w : World) (b : Nat) (cur : Array Value) (t : TypeId) (hb : w.heap[b]? = some (.cells cur t (0, 0))) : ∀ (j : Nat) u, cur.toList[j]? = some u → w.cell? ((⟨b, 0, none⟩ : Addr).add j) = some u := by
  intro j u hu
  rw [add_lit, Nat.zero_add, cell_of_row w b j cur t (0, 0) hb]
  simpa using hu
theorem exec_load (ρ : Operand → Value) (o : Oper) (t : TypeId) (p : Operand) (ho : o.op = .load t p) (w : World) (P : Program) (v : Value) (h : (Instr.loadAt t (ρ p)).run P w = .ok v w) : (execOp ρ o).run P w = .ok (.value v) w := by
  unfold execOp
  rw [ho]
  simp only [Sem.run_bind, h, Result.andThen_ok, Sem.run_pure]
theorem own_addr {e sz n : Nat} {v : Value} {cs : List Value} (ho : w.ownsRow 0 e sz v n cs) {ad : Addr} {n' cc : Nat} (hv : v = .slice (some ad) n' cc) : ∃ g cur, ad = ⟨g, 0, none⟩ ∧ n' = n ∧ w.heap[g]? = some (.cells cur e (0, 0)) ∧ cur.size = cc * sz ∧ n ≤ cc ∧ cc ≤ maxLen ∧ cur.toList.take (n * sz) = cs := by
  rcases ho.2 with ⟨h1, _⟩ | ⟨g, cap, cur, h1, _, h2, h3, h4, h5, h6⟩
  · rw [hv] at h1; cases h1
  · rw [hv] at h1
    injection h1 with h1 h1' h1''
    injection h1 with h1
    subst h1; subst h1'; subst h1''
    exact ⟨g, cur, rfl, rfl, h2, h5, h3, h4, h6⟩

theorem good_load (hT : TAll P T) (h : SRep c F ν s a w) (t : TypeId) (p : Operand) (ho : o.op = .load t p) : Good P c o F ν s a w (bif (T t).k.ok then loadV T s t (s.ev p) else .fail) := by
  have hp := ev_rep h p
  cases hk : (T t).k.ok with
  | false => trivial
  | true =>
    simp only [cond_true]
    have hone := (hT t hk).2.1
    have hsz := (hT t hk)
    generalize s.ev p = v at hp ⊢
    unfold loadV
    cases v with
    | addr i off =>
      obtain ⟨l, a0, hm, hν, hv⟩ := hp
      simp only [hm]
      cases hb : Nat.ble (off + (T t).sz) l.length with
      | false => trivial
      | true =>
        have hle := Nat.le_of_ble_eq_true hb
        obtain ⟨b, cur, ty, hν', hheap, ha⟩ := box_inv h hm
        rw [hν] at hν'
        injection hν' with hν'
        injection hν' with hν'
        subst hν'
        have e : (bif Nat.beq off 0 && Nat.beq (T t).sz l.length then l else (l.drop off).take (T t).sz) = (l.drop off).take (T t).sz := by
          cases hc : Nat.beq off 0 && Nat.beq (T t).sz l.length with
          | false => rfl
          | true =>
            simp only [Bool.and_eq_true] at hc
            have h1 := Nat.eq_of_beq_eq_true hc.1
            have h2 := Nat.eq_of_beq_eq_true hc.2
            subst h1
            simp [h2]
        simp only [cond_true]
        rw [e]
        obtain ⟨x, hx, hr⟩ := load_run (P := P) hT hk ((⟨b, 0, none⟩ : Addr).add off) ((cur.toList.drop off).take (T t).sz) ((l.drop off).take (T t).sz) (by have := ha.1; simp at this ⊢; omega)
          (seg_cells (row_cells w b cur ty hheap) off _) ((ha.drop off).take _) ν s.mem
        exact ⟨x, exec_load _ _ _ _ ho _ _ _ (by rw [hv]; exact hx), hr⟩
    | ela i j q =>
      obtain ⟨obj, e, sz, n, fl, a0, n', cc, hm, hr, hj, hν, hv⟩ := hp
      simp only [hm]
      cases obj with
      | box l => simp [MO.row?] at hr
      | words e' l =>
        simp only [MO.row?, Option.some.injEq, Prod.mk.injEq] at hr
        obtain ⟨rfl, rfl, rfl, rfl⟩ := hr
        cases hc : Nat.beq q 0 && Nat.beq (T t).sz 1 && !(T t).k.agg with
        | false => trivial
        | true =>
          simp only [Bool.and_eq_true, Bool.not_eq_true'] at hc
          have h1 := Nat.eq_of_beq_eq_true hc.1.1
          have h2 := Nat.eq_of_beq_eq_true hc.1.2
          subst h1
          simp only [cond_true]
          intro y _ hy
          rw [Int.toNat_natCast] at hy
          obtain ⟨cs, hz, how, ha⟩ := row_inv h hm (e := e') (sz := 1) (n := l.length) (fl := l.map wd) rfl
          obtain ⟨g, cur, rfl, rfl, hheap, hcz, hnc, hcm, htk⟩ := own_addr how hν
          have hy' : (l.map wd)[j]? = some (wd y) := by rw [List.getElem?_map, hy]; rfl
          obtain ⟨u, hu, hru⟩ := ha.get hy'
          have hcell := how.cells (g := g) (by rw [hν]; rfl) j u hu
          obtain ⟨x, hx, hr⟩ := load_run (P := P) (w := w) (F := F) hT hk ((⟨g, 0, none⟩ : Addr).add (j * 1 + 0)) [u] [wd y] (by rw [h2]; rfl)
            (by intro k v hk'; cases k with
              | zero => simp at hk'; subst hk'; simpa [Addr.add] using hcell
              | succ k => simp at hk') (AllR.cons hru AllR.nil) ν s.mem
          refine ⟨x, exec_load _ _ _ _ ho _ _ _ (by rw [hv]; exact hx), ?_⟩
          unfold ofCells at hr
          rw [hc.2] at hr
          exact hr
      | rows e' sz' l =>
        dsimp only
        cases hc : Nat.beq q 0 && Nat.beq (T t).sz sz' with
        | false => trivial
        | true =>
          simp only [Bool.and_eq_true] at hc
          have h1 := Nat.eq_of_beq_eq_true hc.1
          have h2 := Nat.eq_of_beq_eq_true hc.2
          subst h1
          simp only [cond_true]
          intro y _ hy
          rw [Int.toNat_natCast] at hy
          have hr0 := hr
          simp only [MO.row?] at hr
          split at hr
          · rename_i hall
            simp only [Option.some.injEq, Prod.mk.injEq] at hr
            obtain ⟨rfl, rfl, rfl, rfl⟩ := hr
            obtain ⟨cs, hz, how, ha⟩ := row_inv h hm hr0
            obtain ⟨g, cur, rfl, rfl, hheap, hcz, hnc, hcm, htk⟩ := own_addr how hν
            have hcell := how.cells (g := g) (by rw [hν]; rfl)
            have hseg := flat_seg l j y hall hy
            obtain ⟨x, hx, hr⟩ := load_run (P := P) (w := w) (F := F) hT hk ((⟨g, 0, none⟩ : Addr).add (j * sz' + 0)) ((cs.drop (j * sz')).take sz') y
              (by have h3 := ha.1; rw [flat_len l hall] at h3
                  have h4 : (j + 1) * sz' ≤ l.length * sz' := Nat.mul_le_mul_right _ hj
                  rw [Nat.succ_mul] at h4
                  simp; omega)
              (by rw [Nat.add_zero]; exact seg_cells hcell _ _) (by rw [← hseg]; exact (ha.drop _).take _) ν s.mem
            exact ⟨x, exec_load _ _ _ _ ho _ _ _ (by rw [hv]; exact hx), hr⟩
          · cases hr
    | ro n l =>
      obtain ⟨hl, ad, cs, hv, ha, hcell⟩ := hp
      dsimp only
      cases hb : Nat.ble (T t).sz n with
      | false => trivial
      | true =>
        have hle := Nat.le_of_ble_eq_true hb
        have e : (bif Nat.beq (T t).sz n then l else l.take (T t).sz) = l.take (T t).sz := by
          cases hc : Nat.beq (T t).sz n with
          | false => rfl
          | true =>
            have h2 := Nat.eq_of_beq_eq_true hc
            rw [h2, ← hl]
            simp
        simp only [cond_true]
        rw [e]
        obtain ⟨x, hx, hr⟩ := load_run (P := P) hT hk ad (cs.take (T t).sz) (l.take (T t).sz) (by have := ha.1; simp; omega)
          (fun j u hu => by
            rw [List.getElem?_take] at hu
            split at hu
            · exact (hcell j u hu).2
            · cases hu) (ha.take _) ν s.mem
        exact ⟨x, exec_load _ _ _ _ ho _ _ _ (by rw [hv]; exact hx), hr⟩
    | _ => trivial
end Go.Proofs.Ythefflmebkcilaa.Fw
