import Derived.Test.YthefflmebkcilaaFQ
set_option linter.unusedVariables false
set_option linter.unusedSimpArgs false
namespace Go.Proofs.Ythefflmebkcilaa.Fw
open Go
variable {P : Program} {T : TT} {c : Ctx} {F : Nat → Prop} {ν : Nat → Value} {s : St} {a : Act} {w : World} {o : Oper} {keep : List Nat}

/-! ### The events, answered -/
theorem loop_intro {body : (Ex → St → Prop) → St → Prop} {K : Ex → St → Prop} {α : Type} (f : α → St) (μ : α → Nat) (I : α → Prop) (x0 : α) (h0 : I x0) (hw : Weak c (f x0) s)
    (h : ∀ x, I x → body (kseq (fun s' => ∃ y, I y ∧ μ y < μ x ∧ Weak c (f y) s') K) (f x)) : LoopP c body K s := by
  unfold LoopP
  exact ⟨α, f, μ, I, x0, h0, hw, h⟩
theorem split_intro {t : Bool} {f : Bool → Prop} (h1 : t = true → f true) (h2 : t = false → f false) : SplitP t f := by unfold SplitP; exact ⟨h1, h2⟩
theorem split_true {t : Bool} {f : Bool → Prop} (ht : t = true) (h1 : f true) : SplitP t f := split_intro (fun _ => h1) (fun h => by rw [ht] at h; cases h)
theorem split_false {t : Bool} {f : Bool → Prop} (ht : t = false) (h1 : f false) : SplitP t f := split_intro (fun h => by rw [ht] at h; cases h) (fun _ => h1)
theorem side_intro {p X : Prop} (h1 : p) (h2 : X) : SideP p X := by unfold SideP; exact ⟨h1, h2⟩
theorem idx_intro {α : Type} {l : List α} {i : Int} {k : α → Prop} (x : α) (h0 : 0 ≤ i) (h1 : l[i.toNat]? = some x) (h2 : k x) : IdxP l i k := by unfold IdxP; exact ⟨x, h0, h1, h2⟩
theorem call_intro {g : FuncId} {args : List V} {K : V → Prop} (r : V) (h : Runs P g args r) (k : K r) : CallS P g args K := by unfold CallS; exact ⟨r, h, k⟩
theorem ret_intro {x r : V} (h : x = r) (hd : defd r = true) : RetP x r := by unfold RetP; exact ⟨h, hd⟩

/-! ### States that are told by lists -/
def envL : List (Nat × V) → Nat → V
  | [], _ => .undef
  | (t, v) :: r, x => bif Nat.beq x t then v else envL r x
def memL : List (Nat × MO) → Mem
  | [], _ => none
  | (t, v) :: r, x => bif Nat.beq x t then some v else memL r x
def st (l : List (Nat × V)) (m : List (Nat × MO)) : St := ⟨envL l, memL m⟩
def AllE (s : St) : List (Nat × V) → Prop
  | [] => True
  | (t, v) :: r => s.env t = v ∧ AllE s r
def AllM (s : St) : List (Nat × MO) → Prop
  | [] => True
  | (t, v) :: r => s.mem t = some v ∧ AllM s r
def liveB (m : Mem) (v : V) : Bool := match v with | .tup _ => false | v => (objOf v).all fun o => isSome' (m o)
def liveL (m : Mem) : List (Nat × V) → Bool
  | [] => true
  | (_, v) :: r => liveB m v && liveL m r
theorem envL_get {s : St} : ∀ (l : List (Nat × V)) (m : Mem) (t : Nat), AllE s l → liveL m l = true → envL l t = .undef ∨ (envL l t = s.env t ∧ liveB m (s.env t) = true) := by
  intro l
  induction l with
  | nil => intro m t _ _; exact .inl rfl
  | cons p l ih =>
    obtain ⟨k, v⟩ := p
    intro m t h hl
    simp only [liveL, Bool.and_eq_true] at hl
    simp only [envL]
    by_cases e : t = k
    · subst e
      rw [Nat.beq_refl, cond_true]
      exact .inr ⟨h.1.symm, by rw [h.1]; exact hl.1⟩
    · rw [beq_no e, cond_false]
      exact ih m t h.2 hl.2
theorem memL_get {s : St} : ∀ (m : List (Nat × MO)) (o : Nat) (obj : MO), AllM s m → memL m o = some obj → s.mem o = some obj := by
  intro m
  induction m with
  | nil => intro o obj _ h; cases h
  | cons p m ih =>
    obtain ⟨k, v⟩ := p
    intro o obj h ho
    simp only [memL] at ho
    by_cases e : o = k
    · subst e
      rw [Nat.beq_refl, cond_true] at ho
      exact h.1.trans ho
    · rw [beq_no e, cond_false] at ho
      exact ih o obj h.2 ho
theorem VR.sub {x : V} {v : Value} {m m' : Mem} (h : VR w F ν m x v) (hl : liveB m' x = true) (hm : ∀ o obj, m' o = some obj → m o = some obj) : VR w F ν m' x v := by
  have key : ∀ o, o ∈ objOf x → m' o = m o := by
    intro o ho
    unfold liveB at hl
    split at hl
    · cases hl
    · have := List.all_eq_true.1 hl o ho
      unfold isSome' at this
      split at this
      · rename_i obj hh; rw [hh, hm o obj hh]
      · cases this
  cases x with
  | own i off len =>
    obtain ⟨obj, e, sz, n, fl, A, n', cc, h1, h2⟩ := h
    exact ⟨obj, e, sz, n, fl, A, n', cc, (key i (by simp [objOf])).trans h1, h2⟩
  | addr i off =>
    obtain ⟨l, a0, h1, h2⟩ := h
    exact ⟨l, a0, (key i (by simp [objOf])).trans h1, h2⟩
  | ela i j q =>
    obtain ⟨obj, e, sz, n, fl, a0, n', cc, h1, h2⟩ := h
    exact ⟨obj, e, sz, n, fl, a0, n', cc, (key i (by simp [objOf])).trans h1, h2⟩
  | tup l => cases hl
  | _ => exact h
theorem weak_st (l : List (Nat × V)) (m : List (Nat × MO)) (he : AllE s l) (hm : AllM s m) (hl : liveL (memL m) l = true) : Weak c (st l m) s := by
  unfold Weak
  rintro a w ⟨F, ν, h⟩
  have hmm := fun o obj => memL_get m o obj hm
  refine ⟨F, ν, h.sz, h.dfr, fun t => ?_, fun o obj ho => h.mem o obj (hmm o obj ho), fun o obj b ho hb => h.sep o obj b (hmm o obj ho) hb, fun o o' obj obj' b ho ho' => h.inj o o' obj obj' b (hmm o obj ho) (hmm o' obj' ho'), h.fin, h.keep, h.base, h.nu⟩
  rcases envL_get l (memL m) t he hl with h1 | ⟨h1, h2⟩
  · show VR w F ν _ (envL l t) _
    rw [h1]
    trivial
  · show VR w F ν _ (envL l t) _
    rw [h1]
    exact VR.sub (h.env t) h2 hmm

/-! ### Operations that are met by rules -/
theorem opp_weak {K : St → Prop} (s0 : St) (hw : Weak c s0 s) (h : OpP P c o s0 K) : OpP P c o s K := by
  unfold OpP at h ⊢
  unfold Weak at hw
  exact fun Q a w hs => h Q a w (hw a w hs)
theorem opp_eval (hT : TAll P T) {K : St → Prop} (hd : dstOk c.N o = true) (h : evalK P T keep c [] 0 o K s) : OpP P c o s K := by
  unfold OpP
  exact fun Q a w hs => evalK_sound hT hs hd h Q
/-- A row of the call's own is from now on only read. -/
def frzV (i : Nat) (m : MO) (v : V) : V :=
  match v with
  | .own o off len => bif Nat.beq o i then snapM m off len else .own o off len
  | .addr o q => bif Nat.beq o i then .undef else .addr o q
  | .ela o j q => bif Nat.beq o i then .undef else .ela o j q
  | .tup _ => .undef
  | v => v
def freeze (i : Nat) (m : MO) (s : St) : St := ⟨fun t => frzV i m (s.env t), fun x => bif Nat.beq x i then none else s.mem x⟩
theorem weak_freeze {i : Nat} {m : MO} (hiN : i < c.N) (hi : s.mem i = some m) : Weak c (freeze i m s) s := by
  unfold Weak
  rintro a w ⟨F, ν, h⟩
  have hmem : ∀ x, (freeze i m s).mem x = if x = i then none else s.mem x := by
    intro x
    simp only [freeze]
    by_cases e : x = i
    · subst e; simp
    · rw [beq_no e]; simp [e]
  have hget : ∀ x obj, (freeze i m s).mem x = some obj → x ≠ i ∧ s.mem x = some obj := by
    intro x obj hx
    rw [hmem] at hx
    split at hx
    · cases hx
    · exact ⟨by assumption, hx⟩
  have hF : ∀ b, F b → F b ∨ blk (ν i) = some b := fun b hb => .inl hb
  have hlive : ∀ o, o ≠ i → ∀ obj, s.mem o = some obj → (freeze i m s).mem o = some obj := fun o ho obj hobj => by rw [hmem, if_neg ho]; exact hobj
  refine ⟨fun b => F b ∨ blk (ν i) = some b, ν, h.sz, h.dfr, fun t => ?_, fun o obj ho => MRep.frame (h.mem o obj (hget o obj ho).2) hF (fun _ _ => rfl) (fun _ _ => rfl), fun o obj b ho hb => ?_,
    fun o o' obj obj' b ho ho' => h.inj o o' obj obj' b (hget o obj ho).2 (hget o' obj' ho').2, fun b hb => ?_, h.keep, h.base, h.nu⟩
  · have he := h.env t
    show VR w _ ν _ (frzV i m (s.env t)) _
    generalize s.env t = v at he ⊢
    cases v with
    | own o off len =>
      simp only [frzV]
      by_cases e : o = i
      · subst e
        rw [Nat.beq_refl, cond_true]
        have := snap_rep h hi he (fun b => F b ∨ blk (ν o) = some b) hF (fun b hb => .inr hb)
        exact VR.mono this (fun _ hb => hb) (fun _ _ => rfl) (fun x obj hx => by cases hx)
      · rw [beq_no e, cond_false]
        obtain ⟨obj, e', sz, n, fl, A, n', cc, h1, h2⟩ := he
        exact ⟨obj, e', sz, n, fl, A, n', cc, hlive o e obj h1, h2⟩
    | addr o q =>
      simp only [frzV]
      by_cases e : o = i
      · subst e; rw [Nat.beq_refl, cond_true]; trivial
      · rw [beq_no e, cond_false]
        obtain ⟨l, a0, h1, h2⟩ := he
        exact ⟨l, a0, hlive o e _ h1, h2⟩
    | ela o j q =>
      simp only [frzV]
      by_cases e : o = i
      · subst e; rw [Nat.beq_refl, cond_true]; trivial
      · rw [beq_no e, cond_false]
        obtain ⟨obj, e', sz, n, fl, a0, n', cc, h1, h2⟩ := he
        exact ⟨obj, e', sz, n, fl, a0, n', cc, hlive o e obj h1, h2⟩
    | tup l => trivial
    | d x => exact RepL.frame he hF (fun _ _ => rfl)
    | agg n l =>
      obtain ⟨hl, vs, hv, ha⟩ := he
      exact ⟨hl, vs, hv, ha.mono fun _ _ hh => hh.frame hF (fun _ _ => rfl)⟩
    | ro n l =>
      obtain ⟨hl, ad, cs, hv, ha, hc⟩ := he
      exact ⟨hl, ad, cs, hv, ha.mono fun _ _ hh => hh.frame hF (fun _ _ => rfl), fun j u hu => ⟨.inl (hc j u hu).1, (hc j u hu).2⟩⟩
    | nils => exact he
    | nilp => exact he
    | undef => trivial
  · obtain ⟨hne, ho⟩ := hget o obj ho
    have := h.sep o obj b ho hb
    refine ⟨fun hf => ?_, this.2⟩
    rcases hf with hf | hf
    · exact this.1 hf
    · exact hne (h.inj o i obj m b ho hi hb hf)
  · rcases hb with hb | hb
    · exact h.fin b hb
    · refine ⟨MRep.lt (h.mem i m hi) hb, ?_⟩
      rcases (h.sep i m b hi hb).2 with h1 | h1
      · exact .inr h1
      · omega

/-! ### make -/
def zeroMO (T : TT) (e : TypeId) (n : Nat) : MO := bif isW T e then .words e (List.replicate n 0) else .rows e (T e).sz (List.replicate n (T e).zero)
theorem all_rep {α : Type} (n k : Nat) (x : List α) (h : x.length = k) : (List.replicate n x).all (fun y => y.length == k) = true := by
  induction n with
  | zero => rfl
  | succ n ih => simp [List.replicate_succ, h, ih]
theorem madeCells_eq (z : List Value) (k : Nat) : ∀ (n : Nat), z.length = k → 0 < k → (madeCells z.toArray (n * k)).toList = (List.replicate n z).flatten := by
  intro n hz hk
  apply List.ext_getElem?
  intro j
  unfold madeCells
  by_cases hj : j < n * k
  · have hlen : ((List.replicate n z).flatten).length = n * k := by
      rw [flat_len (sz := k) _ (all_rep n k z hz)]; simp
    have hq : j / k < n := (Nat.div_lt_iff_lt_mul hk).2 hj
    have hseg := flat_seg (sz := k) (List.replicate n z) (j / k) z (all_rep n k z hz) (by simp [hq])
    have hmod : j % k < k := Nat.mod_lt _ hk
    have h1 : (List.replicate n z).flatten[j]? = z[j % k]? := by
      have h5 : z[j % k]? = ((((List.replicate n z).flatten).drop (j / k * k)).take k)[j % k]? := by rw [hseg]
      rw [h5, List.getElem?_take, if_pos hmod, List.getElem?_drop, Nat.div_add_mod' j k]
    rw [h1]
    have h2 : ((Array.range (n * k)).map fun x => z.toArray[x % z.toArray.size]!).toList[j]? = some (z.toArray[j % z.toArray.size]!) := by
      simp [hj]
    rw [h2]
    have h3 : j % z.toArray.size = j % k := by simp [hz]
    rw [h3]
    have h4 : j % k < z.toArray.size := by simp [hz]; exact hmod
    rw [getElem!_pos z.toArray (j % k) h4]
    simp [List.getElem?_eq_getElem (show j % k < z.length by omega)]
  · rw [List.getElem?_eq_none (by simp; omega), List.getElem?_eq_none (by
      rw [flat_len (sz := k) _ (all_rep n k z hz)]; simp; omega)]
theorem zeroMO_row (hT : TAll P T) {e : TypeId} (he : (T e).k.ok = true) (n : Nat) : (zeroMO T e n).row? = some (e, (T e).sz, n, (List.replicate n (T e).zero).flatten) ∨ (isW T e = true ∧ (T e).zero ≠ [wd 0]) := by
  unfold zeroMO
  cases hw : isW T e with
  | true =>
    by_cases hz : (T e).zero = [wd 0]
    · left
      have hsz : (T e).sz = 1 := by have := (hT e he).2.2.1; rw [hz] at this; simpa using this.symm
      simp only [cond_true, MO.row?, List.length_replicate, hsz, hz]
      congr 3
      induction n with
      | zero => rfl
      | succ n ih => simp [List.replicate_succ, ih]
    · exact .inr ⟨rfl, hz⟩
  | false =>
    left
    simp only [cond_false, MO.row?, List.length_replicate, all_rep n _ _ (hT e he).2.2.1, if_true]
theorem opp_make (hT : TAll P T) {K : St → Prop} {t e : TypeId} {x y : Operand} {d : Nat} {k k' : IntKind} {n : Int} (ho : o.op = .makeSlice t x y) (hd : o.dst = some d) (hdN : d < c.N) (ht : (T t).k = .sl e) (he : (T e).k.ok = true) (hz : 0 < (T e).sz)
    (hzero : isW T e = true → (T e).zero = [wd 0]) (hx : s.ev x = .d (.int k n)) (hy : s.ev y = .d (.int k' n)) (hm : s.mem d = none) (h0 : 0 ≤ n) (hn : (T e).bytes * n.toNat ≤ 281474976710656) (hn2 : n.toNat ≤ maxLen)
    (hK : K ((s.upd d (zeroMO T e n.toNat)).put (some d) (.own d 0 n.toNat))) : OpP P c o s K := by
  unfold OpP
  rintro Q a w ⟨F, ν, h⟩
  have hxr := ev_rep h x
  have hyr := ev_rep h y
  rw [hx] at hxr
  rw [hy] at hyr
  obtain ⟨dd, hu, hf⟩ := und_of hT ht rfl
  simp only [TK.fits] at hf
  subst hf
  obtain ⟨h1, h2, h3, h4⟩ := hT e he
  obtain ⟨i, z, hi, hisz, hib, hzz, hc⟩ := h1.all
  have hn2' : n ≤ 9223372036854775807 := by unfold maxLen at hn2; omega
  have hb : (i.bytes : Int) * n ≤ 281474976710656 := by
    rw [hib]
    have : (((T e).bytes * n.toNat : Nat) : Int) ≤ 281474976710656 := by omega
    rw [Int.natCast_mul, Int.toNat_of_nonneg h0] at this
    exact this
  have hrun := run_make (P := P) w t e i z hu hi hzz k k' n n h0 (Int.le_refl _) hb hn2'
  rw [hisz] at hrun
  have hcs : (madeCells z.cells (n.toNat * (T e).sz)).toList = (List.replicate n.toNat ((T e).zero.map zval)).flatten := by
    rw [hc]
    exact madeCells_eq _ _ _ (by simp [h3]) hz
  have hrep : AllR (RepL w F) (List.replicate n.toNat (T e).zero).flatten (madeCells z.cells (n.toNat * (T e).sz)).toList := by
    rw [hcs]
    have : ∀ m : Nat, AllR (RepL w F) (List.replicate m (T e).zero).flatten (List.replicate m ((T e).zero.map zval)).flatten := by
      intro m
      induction m with
      | zero => exact AllR.nil
      | succ m ih =>
        simp only [List.replicate_succ, List.flatten_cons]
        exact (zval_rep w F _ h4).app ih
    exact this _
  have hrow : (zeroMO T e n.toNat).row? = some (e, (T e).sz, n.toNat, (List.replicate n.toNat (T e).zero).flatten) := by
    rcases zeroMO_row hT he n.toNat with h5 | ⟨h5, h6⟩
    · exact h5
    · exact absurd (hzero h5) h6
  obtain ⟨cs, hcse⟩ : ∃ cs, cs = madeCells z.cells (n.toNat * (T e).sz) := ⟨_, rfl⟩
  rw [← hcse] at hrun hrep
  have hsz : cs.size = n.toNat * (T e).sz := by rw [hcse]; exact size_madeCells _ _
  have hold : ∀ k, k < w.heap.size → (w.alloc (.cells cs e)).heap[k]? = w.heap[k]? := fun k hk => RowKit.Below.heap_alloc w _ k hk
  have how : (w.alloc (.cells cs e)).ownsRow 0 e (T e).sz (.slice (some ⟨w.heap.size, 0, none⟩) n.toNat n.toNat) n.toNat cs.toList :=
    ⟨by simp [hsz], .inr ⟨w.heap.size, n.toNat, cs, rfl, Nat.zero_le _, heap_alloc_new w _, Nat.le_refl _, hn2, hsz, by rw [List.take_of_length_le (by simp [hsz])]⟩⟩
  have hmrep : MRep (w.alloc (.cells cs e)) F (zeroMO T e n.toNat) (.slice (some ⟨w.heap.size, 0, none⟩) n.toNat n.toNat) := by
    have : ∃ e' sz n' fl cs', (zeroMO T e n.toNat).row? = some (e', sz, n', fl) ∧ 0 < sz ∧ (w.alloc (.cells cs e)).ownsRow 0 e' sz (.slice (some ⟨w.heap.size, 0, none⟩) n.toNat n.toNat) n' cs' ∧ AllR (RepL (w.alloc (.cells cs e)) F) fl cs' :=
      ⟨e, _, _, _, cs.toList, hrow, hz, how, hrep.mono fun _ _ hh => hh.frame (fun _ hb => hb) (fun k hk => hold k (h.fin k hk).1)⟩
    generalize hM : zeroMO T e n.toNat = M at this hrow
    cases M with
    | box l => simp [MO.row?] at hrow
    | words _ _ => exact this
    | rows _ _ _ => exact this
  have hnew := h.new (w' := w.alloc (.cells cs e)) (i := d) (obj := zeroMO T e n.toNat) hdN hm (v := .slice (some ⟨w.heap.size, 0, none⟩) n.toNat n.toNat) (fun b hb => by simp [blk] at hb; omega) rfl rfl rfl (by simp) hold hmrep
  refine wp_val (w' := w.alloc (.cells cs e)) (x := .slice (some ⟨w.heap.size, 0, none⟩) n.toNat n.toNat) (exec_val (m := Instr.makeSlice t (a.eval x) (a.eval y)) (by unfold execOp; rw [ho]) (by rw [intV hxr, intV hyr]; exact hrun)) ⟨_, hK, F, nuSet ν d (.slice (some ⟨w.heap.size, 0, none⟩) n.toNat n.toNat), ?_⟩
  have := hnew.put (o := some d) (v := .own d 0 n.toNat) (x := .slice (some ⟨w.heap.size, 0, none⟩) n.toNat n.toNat) (by
    refine ⟨_, e, _, n.toNat, _, some ⟨w.heap.size, 0, none⟩, n.toNat, n.toNat, by simp [upd_mem], hrow, by omega, .inl rfl, by simp [nuSet], ?_⟩
    simp [Addr.add]) (fun d' hd' => by injection hd' with hd'; subst hd'; exact hdN)
  rw [hd]
  exact this
end Go.Proofs.Ythefflmebkcilaa.Fw
