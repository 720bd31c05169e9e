import Derived.Test.YthefflmebkcilaaFU
set_option linter.unusedVariables false
set_option linter.unusedSimpArgs false
namespace Go.Proofs.Ythefflmebkcilaa.Fw
open Go
variable {P : Program} {T : TT} {c : Ctx} {F : Nat → Prop} {ν : Nat → Value} {s : St} {a : Act} {w : World} {o : Oper} {keep : List Nat}

/-- A literal that becomes a row of the call's own. -/
theorem opp_lit (hT : TAll P T) {K : St → Prop} {t e : TypeId} {d n : Nat} {ps : Array (Nat × Operand)} {l : List (List D)} {obj : MO} (ho : o.op = .buildSlice t n ps) (hd : o.dst = some d) (hdN : d < c.N) (ht : (T t).k = .sl e) (hek : (T e).k.ok = true) (hz : 0 < (T e).sz)
    (hl : elems T e 0 (ps.toList.map fun (i, x) => (i, s.ev x)) = some l) (hn : l.length = n) (hle : n * (T e).sz ≤ 1000) (hm : s.mem d = none) (hr : obj.row? = some (e, (T e).sz, n, l.flatten))
    (hK : K ((s.upd d obj).put (some d) (.own d 0 n))) : OpP P c o s K := by
  unfold OpP
  rintro Q a w ⟨F, ν, h⟩
  obtain ⟨dd, hu, hf⟩ := und_of hT ht rfl
  simp only [TK.fits] at hf
  subst hf
  obtain ⟨h1, h2, h3, h4⟩ := hT e hek
  obtain ⟨i, z, hi, hisz, _, hzz, hc⟩ := h1.all
  have hel := elems_len T e _ 0 l hl
  rw [List.length_map] at hel
  have hzs : z.cells.size = (T e).sz := by rw [hc]; simp [h3]
  obtain ⟨cells', hfill, ha⟩ := fill_elems (F := F) (ν := ν) (w := w) (s := s) (a := a) hz ps.toList 0 l [] ((Array.range (n * (T e).sz)).map (z.cells[· % z.cells.size]!)) (fun p _ => ev_rep h p.2) (by simp) (by simpa using AllR.nil) (by
      simp only [Array.size_map, Array.size_range, Nat.zero_add]; rw [← hn, hel.1]) hl
  rw [List.nil_append] at ha
  have hsz : cells'.size = n * (T e).sz := by
    have := ha.1
    rw [flat_len l hel.2, hn] at this
    simpa using this.symm
  have hold : ∀ k, k < w.heap.size → (w.alloc (.cells cells' e)).heap[k]? = w.heap[k]? := fun k hk => RowKit.Below.heap_alloc w _ k hk
  have how := World.ownsRow_lit (base := 0) (e := e) (size := (T e).sz) w cells' n (Nat.zero_le _) (by
    have : n ≤ n * (T e).sz := Nat.le_mul_of_pos_right _ hz
    unfold maxLen
    omega) hsz
  have hrep : MRep (w.alloc (.cells cells' e)) F obj (.slice (some ⟨w.heap.size, 0, none⟩) n n) := MRep.ofRow hr hz how (ha.mono fun _ _ hh => hh.frame (fun _ hb => hb) (fun k hk => hold k (h.fin k hk).1))
  have hnew := h.new (w' := w.alloc (.cells cells' e)) (i := d) (obj := obj) hdN hm (v := .slice (some ⟨w.heap.size, 0, none⟩) n n) (fun b hb => by simp [blk] at hb; omega) rfl rfl rfl (by simp) hold hrep
  refine wp_val (w' := w.alloc (.cells cells' e)) (x := .slice (some ⟨w.heap.size, 0, none⟩) n n) (exec_val (m := Instr.buildSlice t n (ps.map fun (i, x) => (i, a.eval x))) (by unfold execOp; rw [ho]) ?_) ⟨_, hK, F, nuSet ν d (.slice (some ⟨w.heap.size, 0, none⟩) n n), ?_⟩
  · unfold Instr.buildSlice
    have hle2 : ¬ (n * (T e).sz > 2 ^ 24) := by omega
    by_cases h0 : n * (T e).sz = 0
    · have e0 : ((Array.range (n * (T e).sz)).map (z.cells[· % z.cells.size]!)) = #[] := by rw [h0]; simp
      rw [e0] at hfill
      simp only [Sem.run_bind, run_und hu, Result.andThen_ok, run_szOf h1.size, if_neg hle2, if_pos h0, Sem.run_pure]
      rw [h0]
      have e1 : (Array.map (fun (x : Nat) => (#[] : Array Value)[x % (#[] : Array Value).size]!) (Array.range 0)) = #[] := by simp
      rw [e1, Array.toList_map, hfill]
      simp only [Sem.run_bind, newRow, run_newObj, Result.andThen_ok, Sem.run_pure]
      rfl
    · simp only [Sem.run_bind, run_und hu, Result.andThen_ok, run_szOf h1.size, if_neg hle2, if_neg h0, Sem.run_pure, zeroValue, typeInfo, run_program, hi, hzz]
      rw [Array.toList_map, hfill]
      simp only [Sem.run_bind, newRow, run_newObj, Result.andThen_ok, Sem.run_pure]
      rfl
  · have := hnew.put (o := some d) (v := .own d 0 n) (x := .slice (some ⟨w.heap.size, 0, none⟩) n n) (by
      refine ⟨obj, e, _, n, _, some ⟨w.heap.size, 0, none⟩, n, n, by simp [upd_mem], hr, by omega, .inl rfl, by simp [nuSet], ?_⟩
      simp [Addr.add]) (fun d' hd' => by injection hd' with hd'; subst hd'; exact hdN)
    rw [hd]
    exact this

/-- copy into a row of words. -/
theorem opp_copy (hT : TAll P T) {K : St → Prop} {x y : Operand} {t t' e : TypeId} {i len : Nat} {l m : List Int} (ho : o.op = .call ⟨.builtin .copy, #[x, y], #[t, t']⟩) (hd : dstOk c.N o = true) (ht : (T t).k = .sl e) (he : (T e).k.ok = true) (hsz : (T e).sz = 1)
    (hx : s.ev x = .own i 0 len) (hm : s.mem i = some (.words e l)) (hlen : len = l.length) (hy : s.ev y = .d (.words m)) (hml : m.length ≤ l.length)
    (hK : K ((s.upd i (.words e (m ++ l.drop m.length))).put o.dst (.d (.int .i64 (m.length : Int))))) : OpP P c o s K := by
  unfold OpP
  rintro Q a w ⟨F, ν, h⟩
  have hxr := ev_rep h x
  have hyr := ev_rep h y
  rw [hx] at hxr
  rw [hy] at hyr
  have hr : (MO.words e l).row? = some (e, 1, l.length, l.map wd) := rfl
  have hv := own_zero h hm hr hlen hxr
  obtain ⟨cs, hz0, how, ha⟩ := row_inv h hm hr
  obtain ⟨A, cc, cs2, hye, hn, hc, ha2, hcell⟩ := RepL.sl_inv hyr (sz := 1) (n := m.length) (fl := m.map wd) rfl
  obtain ⟨dd, hu, hf⟩ := und_of hT ht rfl
  simp only [TK.fits] at hf
  subst hf
  obtain ⟨h1, h2, h3, h4⟩ := hT e he
  obtain ⟨ti, z, hi, hisz, hib, hzz, hcz⟩ := h1.all
  rw [hsz] at hisz
  have hcs2 : cs2.length = m.length := by have := ha2.1; simpa using this.symm
  have hargs : (#[x, y] : Array Operand).map a.eval = #[a.eval x, a.eval y] := by simp
  have run : ∀ w' v, (Builtin.copy_ #[t, t'] o.type #[ν i, .slice A m.length cc]).run P w = .ok v w' → (execOp a.eval o).run P w = .ok (.value v) w' := fun w' v hrun => exec_builtin ho (n := .value v) (fun cs => by
    rw [hargs, hv, hye]
    show (do pure (.value (← Builtin.copy_ #[t, t'] o.type #[ν i, .slice A m.length cc])) : Sem Next).run P w = _
    simp only [Sem.run_bind, hrun, Result.andThen_ok, Sem.run_pure])
  by_cases hm0 : m = []
  · subst hm0
    have hK' : K ((s.upd i (.words e l)).put o.dst (.d (.int .i64 0))) := hK
    have hsame : Weak c (s.upd i (.words e l)) s := by
      unfold Weak
      rintro a w ⟨F, ν, h⟩
      have e1 : (s.upd i (.words e l)) = s := by
        unfold St.upd
        congr
        funext x
        by_cases ex : x = i
        · subst ex; rw [Nat.beq_refl, cond_true, hm]
        · rw [beq_no ex, cond_false]
      rw [e1]
      exact ⟨F, ν, h⟩
    have hrun : (Builtin.copy_ #[t, t'] o.type #[ν i, .slice A 0 cc]).run P w = .ok (goInt 0) w := by
      rcases how.2 with ⟨h7, h8⟩ | ⟨g, cap, cur, h7, _⟩
      · rw [h7]
        cases A <;> simp [Builtin.copy_, run_underlying hu, Builtin.lenOf, Builtin.firstCells, sizeOf, typeInfo, hi, storeCells, loadCells, loadCellsFrom, hisz]
      · rw [h7]
        cases A <;> simp [Builtin.copy_, run_underlying hu, Builtin.lenOf, Builtin.firstCells, sizeOf, typeInfo, hi, storeCells, loadCells, loadCellsFrom, hisz]
    unfold Weak at hsame
    obtain ⟨F1, ν1, h1'⟩ := hsame a w ⟨F, ν, h⟩
    exact wp_val (run w _ hrun) ⟨_, hK', F1, ν1, h1'.put (VR.int _ _ _ _ _ _) (dst_lt hd)⟩
  · have hmp : 0 < m.length := List.length_pos_iff.2 hm0
    obtain ⟨ad, hA, _⟩ := hcell 0 (cs2[0]'(by omega)) (List.getElem?_eq_getElem (by omega))
    subst hA
    rcases how.2 with ⟨h7, h8⟩ | ⟨g, cap, cur, h7, hbg, hg, hnc, hcm, hcs, htake⟩
    · exfalso; omega
    have hcsl : cs.length = l.length := by have := how.1; simpa using this
    have hrun := run_copy_row P w t t' o.type e g 0 l.length cap ad m.length cc cur e cs2 hu (by rw [hi]; simp [hisz]) hg (by rw [hcs2]; simp only [Nat.min_def]; split <;> omega) (fun j v hj => by
      obtain ⟨ad', e1, _, e2⟩ := hcell j v hj
      cases e1
      exact e2) (by rw [hcs, Nat.mul_one, hcs2]; omega) (fun u hu => by
        obtain ⟨j, hj⟩ := List.getElem?_of_mem hu
        have hlt := (List.getElem?_eq_some_iff.1 hj).1
        have hltm : j < (m.map wd).length := by rw [List.length_map]; omega
        exact (ha2.2 j (m.map wd)[j] u (List.getElem?_eq_getElem hltm) hj).one)
    rw [← h7] at hrun
    have hrun' := run _ _ hrun
    have hww := own_write how h7 cur hg 0 cs2 (by rw [hcs2, Nat.mul_one]; omega)
    obtain ⟨W, hW⟩ : ∃ W, W = w.setRow g (cur.toList.take 0 ++ cs2 ++ cur.toList.drop (0 + cs2.length)).toArray := ⟨_, rfl⟩
    rw [← hW] at hrun' hww
    have hb : blk (ν i) = some g := by rw [h7]; rfl
    have hsep := h.sep i _ g hm hb
    have hoth : ∀ k, k ≠ g → W.heap[k]? = w.heap[k]? := fun k hk => by rw [hW]; exact setRow_other _ _ _ _ hk
    have fr : ∀ x u, RepL w F x u → RepL W F x u := fun x u hh => hh.frame (fun _ hb => hb) (fun k hk => hoth k (fun e => hsep.1 (e ▸ hk)))
    have hlen2 : (m ++ l.drop m.length).length = l.length := by simp; omega
    have hr2 : (MO.words e (m ++ l.drop m.length)).row? = some (e, 1, l.length, m.map wd ++ (l.map wd).drop m.length) := by
      simp only [MO.row?, List.map_append, List.map_drop, hlen2]
    have hwr := h.write (w' := W) hm (.inr ⟨e, 1, l.length, _, _, hr, hr2⟩) hb (by rw [hW]; rfl) (by rw [hW]; rfl) (by rw [hW]; rfl) (by rw [hW]; exact setRow_size _ _ _) hoth (MRep.ofRow hr2 (by omega) hww (by
      simp only [List.take_zero, List.nil_append, Nat.zero_add, hcs2]
      exact (ha2.mono fr).app ((ha.drop _).mono fr)))
    refine wp_val hrun' ⟨_, hK, F, ν, ?_⟩
    rw [hcs2]
    exact hwr.put (VR.int _ _ _ _ _ _) (dst_lt hd)

/-! ### A fresh row that is handed back is also only read -/
def snapL (mo : List (Nat × MO)) : V → V
  | .own o off len => match memL mo o with
    | some m => snapM m off len
    | none => .undef
  | v => v
def snapR (mo : List (Nat × MO)) : V → V
  | .tup l => .tup (l.map (snapL mo))
  | v => snapL mo v
def okSnap : V → Bool
  | .d _ => true
  | .agg _ _ => true
  | _ => false
def okSnapR : V → Bool
  | .tup l => l.all okSnap
  | v => okSnap v
theorem snap_objs {F' : Nat → Prop} (hFw : ∀ b, F b → b < w.heap.size) {S : Nat → Nat → Prop} {mo : List (Nat × MO)} (h : Objs w F ν (memL mo) S) {x : V} {v : Value} (hv : VR1 w F ν (memL mo) x v) (hk : okSnap (snapL mo x) = true) (hF : ∀ b, F b → F' b) (hb : ∀ o m b, memL mo o = some m → blk (ν o) = some b → F' b) : VR1 w F' (fun _ => undef) (fun _ => none) (snapL mo x) v := by
  cases x with
  | d y => exact RepL.frame hv hF (fun _ _ => rfl)
  | agg n l =>
    obtain ⟨hl, vs, hx, ha⟩ := hv
    exact ⟨hl, vs, hx, ha.mono fun _ _ hh => hh.frame hF (fun _ _ => rfl)⟩
  | own o off len =>
    simp only [snapL] at hk ⊢
    cases hm : memL mo o with
    | none => rw [hm] at hk; cases hk
    | some m =>
      rw [hm] at hk
      simp only at hk ⊢
      -- a state that has just these objects
      obtain ⟨n, hn⟩ : ∃ n : Nat, n = w.heap.size := ⟨_, rfl⟩
      have hs : SRep ⟨0, 0, fun _ => True, F, { w with heap := #[] }, ν⟩ F ν ⟨fun _ => .undef, memL mo⟩ { tmps := #[], defers := [] } w :=
        ⟨rfl, rfl, fun t => trivial, h.rep, fun o obj b h1 h2 => ⟨(h.sep o obj b h1 h2).1, .inl (Nat.zero_le _)⟩, h.inj, fun b hb => ⟨hFw b hb, .inl hb⟩, ⟨rfl, rfl, rfl, Nat.zero_le _, fun k hk _ => (Nat.not_lt_zero k hk).elim⟩, rfl, fun _ _ => rfl⟩
      have := snap_rep hs hm (v := v) (VR.of1 hv) F' hF (fun b hb' => hb o m b hm hb')
      exact VR.to1 this (fun l hl => by rw [hl] at hk; cases hk)
  | _ => cases hk
theorem snapR_tup {mo : List (Nat × MO)} {x : V} (h : okSnap (snapL mo x) = true) : snapR mo x = snapL mo x := by
  cases x with
  | tup l => cases h
  | _ => rfl
theorem runs_of_G {g : FuncId} {args : List V} {r : V} {mo : List (Nat × MO)} (h : RunsG P g args [] r mo) (hp : args.all plainV = true) (hok : okSnapR (snapR mo r) = true) : Runs P g args (snapR mo r) := by
  unfold RunsG at h
  unfold Runs
  refine ⟨h.1, fun F w vals hF ha => ?_⟩
  have ha' : AllR (VR1 w F (fun _ => undef) (memL [])) args vals := ha
  refine (h.2 F (fun _ => undef) w vals hF ha' ⟨fun o obj ho => (by cases ho), fun o obj b ho => (by cases ho), fun o o' obj obj' b ho => (by cases ho)⟩).mono ?_
  rintro e w' ⟨v, F', ν', rfl, hv, hO, hF', hν, hk⟩
  have hnb : ∀ b, ¬ BlkOf (fun _ => undef) (memL []) b := fun b ⟨o, obj, ho, _⟩ => by cases ho
  refine ⟨v, fun b => F' b ∨ BlkOf ν' (memL mo) b, rfl, ?_, fun b hb => ?_, ⟨hk.os, hk.tape, hk.output, hk.size, fun k hk' _ => hk.block k hk' (hnb k)⟩⟩
  · have key : ∀ {x : V} {u : Value}, okSnap (snapL mo x) = true → VR1 w' F' ν' (memL mo) x u → VR1 w' (fun b => F' b ∨ BlkOf ν' (memL mo) b) (fun _ => undef) (fun _ => none) (snapL mo x) u :=
      fun hk hv => snap_objs (fun b hb => (hF' b hb).1) hO hv hk (fun b hb => .inl hb) (fun o m b h1 h2 => .inr ⟨o, m, h1, h2⟩)
    cases r with
    | tup l =>
      obtain ⟨vs, rfl, ha⟩ := hv
      refine ⟨vs, rfl, by rw [List.length_map]; exact ha.1, fun j y u hy hu => ?_⟩
      rw [List.getElem?_map] at hy
      cases hl : l[j]? with
      | none => rw [hl] at hy; cases hy
      | some z =>
        rw [hl] at hy
        simp only [Option.map_some, Option.some.injEq] at hy
        subst hy
        have hok' : (l.map (snapL mo)).all okSnap = true := hok
        exact key (List.all_eq_true.1 hok' _ (List.mem_map_of_mem (List.mem_of_getElem? hl))) (ha.2 j z u hl hu)
    | d y => exact VR.of1 (key (x := .d y) hok hv)
    | agg n l => exact VR.of1 (key (x := .agg n l) hok hv)
    | own o off len =>
      have h2 : okSnap (snapL mo (.own o off len)) = true := by
        have h3 : okSnapR (snapL mo (.own o off len)) = true := hok
        cases hx : snapL mo (.own o off len) with
        | tup l =>
          simp only [snapL] at hx
          cases hm : memL mo o with
          | none => rw [hm] at hx; cases hx
          | some m => rw [hm] at hx; simp only at hx; cases m <;> simp [snapM] at hx
        | _ => rw [hx] at h3; exact h3
      exact VR.of1 (key (x := .own o off len) h2 hv)
    | _ => cases hok
  · rcases hb with hb | ⟨o, obj, h1, h2⟩
    · exact hF' b hb
    · refine ⟨MRep.lt (hO.rep o obj h1) h2, ?_⟩
      rcases (hO.sep o obj b h1 h2).2 with h3 | h3
      · exact .inr h3
      · exact (hnb b h3.1).elim
end Go.Proofs.Ythefflmebkcilaa.Fw
