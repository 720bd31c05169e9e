import Derived.Test.YthefflmebkcilaaFG
set_option linter.unusedVariables false
set_option linter.unusedSimpArgs false
namespace Go.Proofs.Ythefflmebkcilaa.Fw
open Go
variable {P : Program} {T : TT} {c : Ctx} {F : Nat → Prop} {ν : Nat → Value} {s : St} {a : Act} {w : World} {o : Oper}

theorem elems_len (T : TT) (e : TypeId) : ∀ (ps : List (Nat × V)) (i : Nat) (l : List (List D)), elems T e i ps = some l → l.length = ps.length ∧ l.all (fun x => x.length == (T e).sz) = true := by
  intro ps
  induction ps with
  | nil => intro i l h; simp only [elems, Option.some.injEq] at h; subst h; simp
  | cons p ps ih =>
    obtain ⟨j, v⟩ := p
    intro i l h
    simp only [elems] at h
    cases hb : Nat.beq i j with
    | false => rw [hb] at h; cases h
    | true =>
      rw [hb, cond_true] at h
      split at h
      · rename_i cl hcl
        cases hc : Nat.beq cl.length (T e).sz with
        | false => rw [hc] at h; cases h
        | true =>
          rw [hc, cond_true] at h
          split at h
          · rename_i l' hl'
            injection h with h
            subst h
            obtain ⟨h1, h2⟩ := ih _ _ hl'
            exact ⟨by simp [h1], by simp [h2, Nat.eq_of_beq_eq_true hc]⟩
          · cases h
      · cases h
/-- A slice's literal, place by place. -/
theorem fill_elems {e : TypeId} (hz : 0 < (T e).sz) : ∀ (ps : List (Nat × Operand)) (i : Nat) (l : List (List D)) (done : List D) (cells : Array Value),
    (∀ p ∈ ps, VR w F ν s.mem (s.ev p.2) (a.eval p.2)) → done.length = i * (T e).sz → AllR (RepL w F) done (cells.toList.take (i * (T e).sz)) → cells.size = (i + ps.length) * (T e).sz →
    elems T e i (ps.map fun (i, x) => (i, s.ev x)) = some l →
    ∃ cells', Instr.fill (fun i => some (i * (T e).sz, (T e).sz)) cells (ps.map fun (i, x) => (i, a.eval x)) = some cells' ∧ AllR (RepL w F) (done ++ l.flatten) cells'.toList := by
  intro ps
  induction ps with
  | nil =>
    intro i l done cells _ hd ha hs hf
    simp only [List.map_nil, elems, Option.some.injEq] at hf
    subst hf
    refine ⟨cells, rfl, ?_⟩
    simp only [List.length_nil, Nat.add_zero] at hs
    rw [List.take_of_length_le (by simp; omega)] at ha
    simpa using ha
  | cons p ps ih =>
    obtain ⟨j, x⟩ := p
    intro i l done cells hv hd ha hs hf
    simp only [List.map_cons, elems] at hf
    cases hb : Nat.beq i j with
    | false => rw [hb] at hf; cases hf
    | true =>
      have hij := Nat.eq_of_beq_eq_true hb
      subst hij
      rw [hb, cond_true] at hf
      split at hf
      · rename_i cl hcl
        cases hc : Nat.beq cl.length (T e).sz with
        | false => rw [hc] at hf; cases hf
        | true =>
          rw [hc, cond_true] at hf
          have h1 := Nat.eq_of_beq_eq_true hc
          split at hf
          · rename_i l' hl'
            injection hf with hf
            subst hf
            obtain ⟨hrep, _⟩ := cells_rep (hv (i, x) (by simp)) hcl
            have hsz : (a.eval x).cells.size = cl.length := by have := hrep.1; simpa using this.symm
            simp only [List.length_cons] at hs
            have hs' : cells.size = i * (T e).sz + (T e).sz + ps.length * (T e).sz := by rw [hs, Nat.add_mul, Nat.add_mul]; omega
            simp only [List.map_cons, Instr.fill]
            rw [if_neg (by simp [hsz, h1]; omega)]
            have hA := arr_foldl_set (a.eval x).cells (i * (T e).sz) cells (by omega)
            obtain ⟨cells', hfill, hr⟩ := ih (i + 1) l' (done ++ cl) ((a.eval x).cells.zipIdx.foldl (fun cs (c, j) => cs.setIfInBounds (i * (T e).sz + j) c) cells) (fun p hp => hv p (by simp [hp])) (by rw [List.length_append, hd, h1, Nat.succ_mul])
              (by
                rw [hA, ← List.append_assoc, List.take_left' (by simp [hsz, h1, Nat.succ_mul]; omega)]
                exact ha.app hrep)
              (by
                have : ((a.eval x).cells.zipIdx.foldl (fun cs (c, j) => cs.setIfInBounds (i * (T e).sz + j) c) cells).size = cells.size := by
                  rw [← Array.length_toList, hA]
                  simp [hsz, h1]; omega
                rw [this, hs]
                congr 1
                omega) hl'
            exact ⟨cells', hfill, by rw [List.flatten_cons, ← List.append_assoc]; exact hr⟩
          · cases hf
      · cases hf
theorem wordsOf_eq : ∀ (l : List (List D)) (x : List Int), wordsOf l = some x → l = x.map (fun y => [wd y]) := by
  intro l
  induction l with
  | nil => intro x h; simp only [wordsOf, Option.some.injEq] at h; subst h; rfl
  | cons y l ih =>
    intro x h
    unfold wordsOf at h
    split at h
    · rename_i e; cases e
    · rename_i z r e
      injection e with e1 e2
      subst e1; subst e2
      split at h
      · rename_i l' hl'
        injection h with h
        subst h
        rw [ih _ hl']
        rfl
      · cases h
    · cases h
theorem flat_single {α β : Type} (f : α → β) (l : List α) : (l.map (fun y => [f y])).flatten = l.map f := by induction l <;> simp_all
/-- A new slice that is only read. -/
theorem new_read (h : SRep c F ν s a w) (cs : Array Value) (t : TypeId) (d : D) (sz n cap : Nat) (fl : List D) (hd : d.sl? = some (sz, n, fl)) (ha : AllR (RepL w F) fl cs.toList) (hn : n ≤ cap) (hcap : cap ≤ maxLen) :
    SRep c (fun b => F b ∨ b = w.heap.size) ν s a (w.alloc (.cells cs t)) ∧ RepL (w.alloc (.cells cs t)) (fun b => F b ∨ b = w.heap.size) d (.slice (some ⟨w.heap.size, 0, none⟩) n cap) := by
  have hold : ∀ k, k < w.heap.size → (w.alloc (.cells cs t)).heap[k]? = w.heap[k]? := fun k hk => RowKit.Below.heap_alloc w _ k hk
  have hB : c.B ≤ w.heap.size := by rw [h.base]; exact h.keep.size
  have hF : ∀ k, F k → (w.alloc (.cells cs t)).heap[k]? = w.heap[k]? := fun k hk => hold k (h.fin k hk).1
  refine ⟨⟨h.sz, h.dfr, fun t' => VR.mono (h.env t') (fun _ hb => .inl hb) hF (fun o obj ho => ⟨obj, ho, SameSh.refl (h.mem o obj ho), rfl⟩),
    fun o obj ho => MRep.frame (h.mem o obj ho) (fun _ hb => .inl hb) hF (fun b hb => hold b (MRep.lt (h.mem o obj ho) hb)), fun o obj b ho hb => ?_, h.inj, fun b hb => ?_, h.keep.trans ⟨rfl, rfl, rfl, by simp, fun k hk _ => hold k (by omega)⟩, h.base, h.nu⟩, ?_⟩
  · have := h.sep o obj b ho hb
    refine ⟨fun hf => ?_, this.2⟩
    rcases hf with hf | hf
    · exact this.1 hf
    · have := MRep.lt (h.mem o obj ho) hb
      omega
  · rcases hb with hb | hb
    · have := h.fin b hb
      exact ⟨by simp; omega, this.2⟩
    · subst hb
      exact ⟨by simp, .inr hB⟩
  · refine .sl hd _ cap cs.toList hn hcap ha.1.symm (fun j u hu => ⟨_, rfl, .inr rfl, ?_⟩) (fun j x u hx hu => (ha.2 j x u hx hu).frame (fun _ hb => .inl hb) hF)
    rw [add_lit, Nat.zero_add, World.cell?_alloc_new]
    simpa using hu

theorem row_sl {T : TT} {e : TypeId} {l : List (List D)} {x : D} (hall : l.all (fun x => x.length == (T e).sz) = true) (hx : rowV T e l = some x) (h1 : isW T e = true → (T e).sz = 1) : x.sl? = some ((T e).sz, l.length, l.flatten) := by
  unfold rowV at hx
  cases hw : isW T e with
  | true =>
    rw [hw, cond_true] at hx
    split at hx
    · rename_i y hy
      injection hx with hx
      subst hx
      have := wordsOf_eq l y hy
      subst this
      rw [h1 hw, flat_single]
      simp [D.sl?]
    · cases hx
  | false =>
    rw [hw, cond_false] at hx
    injection hx with hx
    subst hx
    simp only [D.sl?, hall, if_true]
theorem good_buildSl (hT : TAll P T) (h : SRep c F ν s a w) (t : TypeId) (n : Nat) (ps : Array (Nat × Operand)) (ho : o.op = .buildSlice t n ps) : Good P c o F ν s a w (bif (T t).k.ok then buildSl T t n (ps.toList.map fun (i, x) => (i, s.ev x)) else .fail) := by
  cases hk : (T t).k.ok with
  | false => trivial
  | true =>
    simp only [cond_true]
    unfold buildSl
    split
    · rename_i e hsl
      split
      · rename_i l hl
        cases hb : Nat.beq l.length n && Nat.ble (n * (T e).sz) 1000 && (T e).k.ok && !Nat.beq (T e).sz 0 with
        | false => trivial
        | true =>
          simp only [Bool.and_eq_true] at hb
          have hn := Nat.eq_of_beq_eq_true hb.1.1.1
          have hle := Nat.le_of_ble_eq_true hb.1.1.2
          have hek := hb.1.2
          have hz : 0 < (T e).sz := by
            rcases Nat.eq_zero_or_pos (T e).sz with h0 | h0
            · have := hb.2; rw [h0] at this; simp at this
            · exact h0
          simp only [cond_true]
          split
          · rename_i x hx
            obtain ⟨d, hd, hf⟩ := und_of hT hsl rfl
            simp only [TK.fits] at hf
            subst hf
            obtain ⟨h1, h2, h3, h4⟩ := hT e hek
            obtain ⟨i, z, hi, hisz, _, hzz, hc⟩ := h1.all
            have hel := elems_len T e _ 0 l hl
            rw [List.length_map] at hel
            have hzs : z.cells.size = (T e).sz := by rw [hc]; simp [h3]
            obtain ⟨cells', hfill, ha⟩ := fill_elems (F := F) (ν := ν) (w := w) (s := s) (a := a) hz ps.toList 0 l [] ((Array.range (n * (T e).sz)).map (z.cells[· % z.cells.size]!)) (fun p _ => ev_rep h p.2) (by simp) (by simpa using AllR.nil) (by
                simp only [Array.size_map, Array.size_range, Nat.zero_add]; rw [← hn, hel.1]) hl
            rw [List.nil_append] at ha
            have hn' := new_read h cells' e x (T e).sz l.length l.length l.flatten (row_sl hel.2 hx (fun hw => h2 (by
              unfold isW at hw
              split at hw
              · rename_i hkk; rw [hkk]; rfl
              · cases hw))) ha (Nat.le_refl _) (by
                have : l.length ≤ l.length * (T e).sz := Nat.le_mul_of_pos_right _ hz
                unfold maxLen
                rw [hn] at this ⊢
                omega)
            refine ⟨.slice (some ⟨w.heap.size, 0, none⟩) n n, _, _, exec_val (m := Instr.buildSlice t n (ps.map fun (i, x) => (i, a.eval x))) (by unfold execOp; rw [ho]) ?_, hn'.1, by rw [← hn]; exact hn'.2⟩
            unfold Instr.buildSlice
            have hle2 : ¬ (n * (T e).sz > 2 ^ 24) := by omega
            by_cases h0 : n * (T e).sz = 0
            · have e0 : ((Array.range (n * (T e).sz)).map (z.cells[· % z.cells.size]!)) = #[] := by rw [h0]; simp
              rw [e0] at hfill
              simp only [Sem.run_bind, run_und hd, Result.andThen_ok, run_szOf h1.size, if_neg hle2, if_pos h0, Sem.run_pure]
              rw [h0]
              have e1 : (Array.map (fun (x : Nat) => (#[] : Array Value)[x % (#[] : Array Value).size]!) (Array.range 0)) = #[] := by simp
              rw [e1, Array.toList_map, hfill]
              simp only [Sem.run_bind, newRow, run_newObj, Result.andThen_ok, Sem.run_pure]
              rfl
            · simp only [Sem.run_bind, run_und hd, Result.andThen_ok, run_szOf h1.size, if_neg hle2, if_neg h0, Sem.run_pure, zeroValue, typeInfo, run_program, hi, hzz]
              rw [Array.toList_map, hfill]
              simp only [Sem.run_bind, newRow, run_newObj, Result.andThen_ok, Sem.run_pure]
              rfl
          · trivial
      · trivial
    · trivial

theorem natLit_rep {v : V} {n : Nat} {m : Mem} {x : Value} (h : natLit v = some n) (hx : VR w F ν m v x) : ∃ k, x = .int k (n : Int) := by
  unfold natLit at h
  split at h
  · injection h with h
    subst h
    exact ⟨_, intV hx⟩
  · cases h
theorem read_el {d : D} {v : Value} {sz n : Nat} {fl : List D} (h : RepL w F d v) (hs : d.sl? = some (sz, n, fl)) (hfl : fl.length = n * sz) (hz : 0 < sz) (j : Nat) (hj : j < n) :
    ∃ ad cc, v = .slice (some ad) n cc ∧ ∃ cs, AllR (RepL w F) ((fl.drop (j * sz)).take sz) cs ∧ ∀ (q : Nat) u, cs[q]? = some u → F ad.block ∧ w.cell? ((ad.add (j * sz)).add q) = some u := by
  obtain ⟨A, cc, cs, rfl, hn, hc, ha, hcell⟩ := h.sl_inv hs
  have hlen : cs.length = n * sz := by rw [← ha.1, hfl]
  have h1 : (j + 1) * sz ≤ n * sz := Nat.mul_le_mul_right _ hj
  rw [Nat.succ_mul] at h1
  obtain ⟨ad, rfl, _, _⟩ := hcell (j * sz) _ (List.getElem?_eq_getElem (by omega))
  refine ⟨ad, cc, rfl, (cs.drop (j * sz)).take sz, (ha.drop _).take _, fun q u hu => ?_⟩
  rw [List.getElem?_take] at hu
  split at hu
  · rw [List.getElem?_drop] at hu
    obtain ⟨ad', e, hf, hcl⟩ := hcell _ u hu
    injection e with e
    subst e
    rw [add_add]
    exact ⟨hf, hcl⟩
  · cases hu

theorem RepL.rows_all {sz : Nat} {l : List (List D)} {v : Value} (h : RepL w F (.rows sz l) v) : l.all (fun x => x.length == sz) = true := by
  cases h with
  | sl hd' =>
    simp only [D.sl?] at hd'
    split at hd'
    · assumption
    · cases hd'
theorem row_esz {obj : MO} {e sz n : Nat} {fl : List D} (h : obj.row? = some (e, sz, n, fl)) : obj.esz = sz := by
  cases obj with
  | box l => simp [MO.row?] at h
  | words e' l => simp only [MO.row?, Option.some.injEq, Prod.mk.injEq] at h; exact h.2.1
  | rows e' sz' l =>
    simp only [MO.row?] at h
    split at h
    · simp only [Option.some.injEq, Prod.mk.injEq] at h; exact h.2.1
    · cases h
theorem good_index (hT : TAll P T) (h : SRep c F ν s a w) (t : TypeId) (x i : Operand) (ho : o.op = .indexAddr t x i) : Good P c o F ν s a w (indexV T s t (s.ev x) (s.ev i)) := by
  have hx := ev_rep h x
  have hi := ev_rep h i
  unfold indexV
  split
  · rename_i e hsl
    cases hek : (T e).k.ok with
    | false => trivial
    | true =>
      simp only [cond_true]
      obtain ⟨d, hd, hf⟩ := und_of hT hsl rfl
      simp only [TK.fits] at hf
      subst hf
      have h1 := (hT e hek).1
      have run : ∀ (k : IntKind) (n : Int) (ad : Addr) (len cc : Nat), a.eval i = .int k n → a.eval x = .slice (some ad) len cc → 0 ≤ n → n < len → (execOp a.eval o).run P w = .ok (.value (.pointer (some (ad.add (n.toNat * (T e).sz))))) w := by
        intro k n ad len cc hi hx h0 hlt
        refine exec_val (m := Instr.indexAt t (a.eval x) (a.eval i)) (by unfold execOp; rw [ho]) ?_
        rw [hi, hx]
        unfold Instr.indexAt
        simp only [Sem.run_bind, asIntOf, Sem.run_pure, Result.andThen_ok, run_und hd, if_pos (show 0 ≤ n ∧ n < (len : Int) from ⟨h0, hlt⟩), run_szOf h1.size]
      split
      · rename_i k n hei
        rw [hei] at hi
        have hin := intV hi
        split
        · rename_i l hex
          rw [hex] at hx
          cases hb : Nat.beq (T e).sz 1 with
          | false => trivial
          | true =>
            have hs := Nat.eq_of_beq_eq_true hb
            simp only [cond_true]
            intro y h0 hy
            have hj : n.toNat < l.length := (List.getElem?_eq_some_iff.1 hy).1
            obtain ⟨ad, cc, hxv, cs, ha, hcell⟩ := read_el (d := .words l) (sz := 1) (n := l.length) (fl := l.map wd) hx rfl (by simp) Nat.one_pos n.toNat hj
            have hrun := run k n ad _ cc hin hxv h0 (by omega)
            rw [hs] at hrun
            refine ⟨_, hrun, rfl, _, cs, rfl, ?_, fun q u hu => ?_⟩
            · have : (List.drop (n.toNat * 1) (l.map wd)).take 1 = [wd y] := by
                rw [Nat.mul_one]
                have h2 : (l.map wd)[n.toNat]? = some (wd y) := by rw [List.getElem?_map, hy]; rfl
                rw [List.drop_eq_getElem_cons (by simpa using hj)]
                have h3 := (List.getElem?_eq_some_iff.1 h2).2
                rw [h3]
                rfl
              rw [this] at ha
              exact ha
            · rw [add_block]; exact hcell q u hu
        · rename_i sz l hex
          rw [hex] at hx
          cases hb : Nat.beq (T e).sz sz && !Nat.beq sz 0 with
          | false => trivial
          | true =>
            simp only [Bool.and_eq_true] at hb
            have hs := Nat.eq_of_beq_eq_true hb.1
            simp only [cond_true]
            intro y h0 hy
            have hj : n.toNat < l.length := (List.getElem?_eq_some_iff.1 hy).1
            have hrep : RepL w F (.rows sz l) (a.eval x) := hx
            have hall : l.all (fun x => x.length == sz) = true := hrep.rows_all
            have hsz : y.length = sz := by
              have := List.all_eq_true.1 hall y (List.mem_of_getElem? hy)
              simpa using this
            have hz : 0 < sz := by
              rcases Nat.eq_zero_or_pos sz with h0 | h0
              · subst h0; simp at hb
              · exact h0
            · obtain ⟨ad, cc, hxv, cs, ha, hcell⟩ := read_el (d := .rows sz l) (sz := sz) (n := l.length) (fl := l.flatten) hx (by simp only [D.sl?, hall, if_true]) (flat_len l hall) hz n.toNat hj
              have hrun := run k n ad _ cc hin hxv h0 (by omega)
              rw [hs] at hrun
              rw [flat_seg l _ y hall hy] at ha
              exact ⟨_, hrun, hsz, _, cs, rfl, ha, fun q u hu => by rw [add_block]; exact hcell q u hu⟩
        · rename_i oo off len hex
          rw [hex] at hx
          split
          · rename_i obj0 hm0
            cases hb : Nat.beq (T e).sz obj0.esz with
            | false => trivial
            | true =>
              simp only [cond_true]
              have hs := Nat.eq_of_beq_eq_true hb
              intro hp
              obtain ⟨obj, e', sz, m, fl, A, n', cc, hm, hr, hle, hzz, hν, hv⟩ := hx
              rw [hm0] at hm
              injection hm with hm
              subst hm
              have hesz := row_esz hr
              obtain ⟨cs, hz, how, ha⟩ := row_inv h hm0 hr
              cases A with
              | none =>
                rcases how.2 with ⟨h1', h2'⟩ | ⟨g, cap, cur, h1', _⟩
                · omega
                · rw [hν] at h1'; cases h1'
              | some ad =>
                have hrun := run k n _ _ _ hin hv hp.1 hp.2
                refine ⟨_, hrun, obj0, e', sz, m, fl, ad, n', cc, hm0, hr, by omega, hν, ?_⟩
                rw [add_add, hs, hesz, ← Nat.add_mul, Nat.add_zero]
          · trivial
        · trivial
      · trivial
  · rename_i m e harr
    cases hek : (T e).k.ok with
    | false => trivial
    | true =>
      simp only [cond_true]
      obtain ⟨d, hd, hf⟩ := und_of hT harr rfl
      simp only [TK.fits] at hf
      subst hf
      have h1 := (hT e hek).1
      split
      · rename_i oo off n hex hnl
        cases hb : Nat.blt n m with
        | false => trivial
        | true =>
          simp only [cond_true]
          have hlt : n < m := by
            have h5 : n + 1 ≤ m := Nat.le_of_ble_eq_true hb
            omega
          rw [hex] at hx
          obtain ⟨k, hk⟩ := natLit_rep hnl hi
          obtain ⟨l, a0, hm, hν, hv⟩ := hx
          refine ⟨_, exec_val (m := Instr.indexAt t (a.eval x) (a.eval i)) (by unfold execOp; rw [ho]) (v := .pointer (some ((a0.add off).add (n * (T e).sz)))) ?_, l, a0, hm, hν, by rw [add_add]⟩
          rw [hk, hv]
          unfold Instr.indexAt
          simp only [Sem.run_bind, asIntOf, Sem.run_pure, Result.andThen_ok, run_und hd, Instr.sureAddr, if_pos (show 0 ≤ (n : Int) ∧ (n : Int) < (m : Int) by omega), run_szOf h1.size, Int.toNat_natCast]
      · trivial
  · trivial
end Go.Proofs.Ythefflmebkcilaa.Fw
