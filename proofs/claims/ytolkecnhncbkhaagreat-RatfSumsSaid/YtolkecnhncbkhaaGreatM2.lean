/- Texts of the proof, one after the other: FR FS FT FU FV. -/
import Derived.Laws.OwnMore
import Derived.Test.YtolkecnhncbkhaaGreatM1
set_option linter.unusedSimpArgs false
set_option linter.unusedVariables false
set_option linter.unusedVariables false
set_option linter.unusedSimpArgs false
namespace Go.Proofs.YtolkecnhncbkhaaGreat.Fw
open Go
variable {P : Program} {T : TT} {c : Ctx} {F : Nat → Prop} {ν : Nat → Value} {s : St} {a : Act} {w : World} {o : Oper} {keep : List Nat}

/-! ### The events, answered -/
theorem loop_intro {body : (Ex → St → Prop) → St → Prop} {K : Ex → St → Prop} {α : Type} (f : α → St) (μ : α → Nat) (I : α → Prop) (x0 : α) (h0 : I x0) (hw : Weak c (f x0) s)
    (h : ∀ x, I x → body (kseq (fun s' => ∃ y, I y ∧ μ y < μ x ∧ Weak c (f y) s') K) (f x)) : LoopP c body K s := by
  unfold LoopP
  exact ⟨α, f, μ, I, x0, h0, hw, h⟩
theorem split_intro {t : Bool} {f : Bool → Prop} (h1 : t = true → f true) (h2 : t = false → f false) : SplitP t f := by unfold SplitP; exact ⟨h1, h2⟩
theorem split_true {t : Bool} {f : Bool → Prop} (ht : t = true) (h1 : f true) : SplitP t f := split_intro (fun _ => h1) (fun h => by rw [ht] at h; cases h)
theorem split_false {t : Bool} {f : Bool → Prop} (ht : t = false) (h1 : f false) : SplitP t f := split_intro (fun h => by rw [ht] at h; cases h) (fun _ => h1)
theorem side_intro {p X : Prop} (h1 : p) (h2 : X) : SideP p X := by unfold SideP; exact ⟨h1, h2⟩
theorem idx_intro {α : Type} {l : List α} {i : Int} {k : α → Prop} (x : α) (h0 : 0 ≤ i) (h1 : l[i.toNat]? = some x) (h2 : k x) : IdxP l i k := by unfold IdxP; exact ⟨x, h0, h1, h2⟩
theorem call_intro {g : FuncId} {args : List V} {K : V → Prop} (r : V) (h : Runs P g args r) (k : K r) : CallS P g args K := by unfold CallS; exact ⟨r, h, k⟩
theorem ret_intro {x r : V} (h : x = r) (hd : defd r = true) : RetP x r := by unfold RetP; exact ⟨h, hd⟩

/-! ### States that are told by lists -/
def envL : List (Nat × V) → Nat → V
  | [], _ => .undef
  | (t, v) :: r, x => bif Nat.beq x t then v else envL r x
def memL : List (Nat × MO) → Mem
  | [], _ => none
  | (t, v) :: r, x => bif Nat.beq x t then some v else memL r x
def st (l : List (Nat × V)) (m : List (Nat × MO)) : St := ⟨envL l, memL m⟩
def AllE (s : St) : List (Nat × V) → Prop
  | [] => True
  | (t, v) :: r => s.env t = v ∧ AllE s r
def AllM (s : St) : List (Nat × MO) → Prop
  | [] => True
  | (t, v) :: r => s.mem t = some v ∧ AllM s r
def liveB (m : Mem) (v : V) : Bool := match v with | .tup _ => false | v => (objOf v).all fun o => isSome' (m o)
def liveL (m : Mem) : List (Nat × V) → Bool
  | [] => true
  | (_, v) :: r => liveB m v && liveL m r
theorem envL_get {s : St} : ∀ (l : List (Nat × V)) (m : Mem) (t : Nat), AllE s l → liveL m l = true → envL l t = .undef ∨ (envL l t = s.env t ∧ liveB m (s.env t) = true) := by
  intro l
  induction l with
  | nil => intro m t _ _; exact .inl rfl
  | cons p l ih =>
    obtain ⟨k, v⟩ := p
    intro m t h hl
    simp only [liveL, Bool.and_eq_true] at hl
    simp only [envL]
    by_cases e : t = k
    · subst e
      rw [Nat.beq_refl, cond_true]
      exact .inr ⟨h.1.symm, by rw [h.1]; exact hl.1⟩
    · rw [beq_no e, cond_false]
      exact ih m t h.2 hl.2
theorem memL_get {s : St} : ∀ (m : List (Nat × MO)) (o : Nat) (obj : MO), AllM s m → memL m o = some obj → s.mem o = some obj := by
  intro m
  induction m with
  | nil => intro o obj _ h; cases h
  | cons p m ih =>
    obtain ⟨k, v⟩ := p
    intro o obj h ho
    simp only [memL] at ho
    by_cases e : o = k
    · subst e
      rw [Nat.beq_refl, cond_true] at ho
      exact h.1.trans ho
    · rw [beq_no e, cond_false] at ho
      exact ih o obj h.2 ho
theorem VR.sub {x : V} {v : Value} {m m' : Mem} (h : VR w F ν m x v) (hl : liveB m' x = true) (hm : ∀ o obj, m' o = some obj → m o = some obj) : VR w F ν m' x v := by
  have key : ∀ o, o ∈ objOf x → m' o = m o := by
    intro o ho
    unfold liveB at hl
    split at hl
    · cases hl
    · have := List.all_eq_true.1 hl o ho
      unfold isSome' at this
      split at this
      · rename_i obj hh; rw [hh, hm o obj hh]
      · cases this
  cases x with
  | own i off len =>
    obtain ⟨obj, e, sz, n, fl, A, n', cc, h1, h2⟩ := h
    exact ⟨obj, e, sz, n, fl, A, n', cc, (key i (by simp [objOf])).trans h1, h2⟩
  | addr i off =>
    obtain ⟨l, a0, h1, h2⟩ := h
    exact ⟨l, a0, (key i (by simp [objOf])).trans h1, h2⟩
  | ela i j q =>
    obtain ⟨obj, e, sz, n, fl, a0, n', cc, h1, h2⟩ := h
    exact ⟨obj, e, sz, n, fl, a0, n', cc, (key i (by simp [objOf])).trans h1, h2⟩
  | tup l => cases hl
  | _ => exact h
theorem weak_st (l : List (Nat × V)) (m : List (Nat × MO)) (he : AllE s l) (hm : AllM s m) (hl : liveL (memL m) l = true) : Weak c (st l m) s := by
  unfold Weak
  rintro a w ⟨F, ν, h⟩
  have hmm := fun o obj => memL_get m o obj hm
  refine ⟨F, ν, h.sz, h.dfr, fun t => ?_, fun o obj ho => h.mem o obj (hmm o obj ho), fun o obj b ho hb => h.sep o obj b (hmm o obj ho) hb, fun o o' obj obj' b ho ho' => h.inj o o' obj obj' b (hmm o obj ho) (hmm o' obj' ho'), h.fin, h.keep, h.base, h.nu⟩
  rcases envL_get l (memL m) t he hl with h1 | ⟨h1, h2⟩
  · show VR w F ν _ (envL l t) _
    rw [h1]
    trivial
  · show VR w F ν _ (envL l t) _
    rw [h1]
    exact VR.sub (h.env t) h2 hmm

/-! ### Operations that are met by rules -/
theorem opp_weak {K : St → Prop} (s0 : St) (hw : Weak c s0 s) (h : OpP P c o s0 K) : OpP P c o s K := by
  unfold OpP at h ⊢
  unfold Weak at hw
  exact fun Q a w hs => h Q a w (hw a w hs)
theorem opp_eval (hT : TAll P T) {K : St → Prop} (hd : dstOk c.N o = true) (h : evalK P T keep c [] 0 o K s) : OpP P c o s K := by
  unfold OpP
  exact fun Q a w hs => evalK_sound hT hs hd h Q
/-- A row of the call's own is from now on only read. -/
def frzV (i : Nat) (m : MO) (v : V) : V :=
  match v with
  | .own o off len => bif Nat.beq o i then snapM m off len else .own o off len
  | .addr o q => bif Nat.beq o i then .undef else .addr o q
  | .ela o j q => bif Nat.beq o i then .undef else .ela o j q
  | .tup _ => .undef
  | v => v
def freeze (i : Nat) (m : MO) (s : St) : St := ⟨fun t => frzV i m (s.env t), fun x => bif Nat.beq x i then none else s.mem x⟩
theorem weak_freeze {i : Nat} {m : MO} (hiN : i < c.N) (hi : s.mem i = some m) : Weak c (freeze i m s) s := by
  unfold Weak
  rintro a w ⟨F, ν, h⟩
  have hmem : ∀ x, (freeze i m s).mem x = if x = i then none else s.mem x := by
    intro x
    simp only [freeze]
    by_cases e : x = i
    · subst e; simp
    · rw [beq_no e]; simp [e]
  have hget : ∀ x obj, (freeze i m s).mem x = some obj → x ≠ i ∧ s.mem x = some obj := by
    intro x obj hx
    rw [hmem] at hx
    split at hx
    · cases hx
    · exact ⟨by assumption, hx⟩
  have hF : ∀ b, F b → F b ∨ blk (ν i) = some b := fun b hb => .inl hb
  have hlive : ∀ o, o ≠ i → ∀ obj, s.mem o = some obj → (freeze i m s).mem o = some obj := fun o ho obj hobj => by rw [hmem, if_neg ho]; exact hobj
  refine ⟨fun b => F b ∨ blk (ν i) = some b, ν, h.sz, h.dfr, fun t => ?_, fun o obj ho => MRep.frame (h.mem o obj (hget o obj ho).2) hF (fun _ _ => rfl) (fun _ _ => rfl), fun o obj b ho hb => ?_,
    fun o o' obj obj' b ho ho' => h.inj o o' obj obj' b (hget o obj ho).2 (hget o' obj' ho').2, fun b hb => ?_, h.keep, h.base, h.nu⟩
  · have he := h.env t
    show VR w _ ν _ (frzV i m (s.env t)) _
    generalize s.env t = v at he ⊢
    cases v with
    | own o off len =>
      simp only [frzV]
      by_cases e : o = i
      · subst e
        rw [Nat.beq_refl, cond_true]
        have := snap_rep h hi he (fun b => F b ∨ blk (ν o) = some b) hF (fun b hb => .inr hb)
        exact VR.mono this (fun _ hb => hb) (fun _ _ => rfl) (fun x obj hx => by cases hx)
      · rw [beq_no e, cond_false]
        obtain ⟨obj, e', sz, n, fl, A, n', cc, h1, h2⟩ := he
        exact ⟨obj, e', sz, n, fl, A, n', cc, hlive o e obj h1, h2⟩
    | addr o q =>
      simp only [frzV]
      by_cases e : o = i
      · subst e; rw [Nat.beq_refl, cond_true]; trivial
      · rw [beq_no e, cond_false]
        obtain ⟨l, a0, h1, h2⟩ := he
        exact ⟨l, a0, hlive o e _ h1, h2⟩
    | ela o j q =>
      simp only [frzV]
      by_cases e : o = i
      · subst e; rw [Nat.beq_refl, cond_true]; trivial
      · rw [beq_no e, cond_false]
        obtain ⟨obj, e', sz, n, fl, a0, n', cc, h1, h2⟩ := he
        exact ⟨obj, e', sz, n, fl, a0, n', cc, hlive o e obj h1, h2⟩
    | tup l => trivial
    | d x => exact RepL.frame he hF (fun _ _ => rfl)
    | agg n l =>
      obtain ⟨hl, vs, hv, ha⟩ := he
      exact ⟨hl, vs, hv, ha.mono fun _ _ hh => hh.frame hF (fun _ _ => rfl)⟩
    | ro n l =>
      obtain ⟨hl, ad, cs, hv, ha, hc⟩ := he
      exact ⟨hl, ad, cs, hv, ha.mono fun _ _ hh => hh.frame hF (fun _ _ => rfl), fun j u hu => ⟨.inl (hc j u hu).1, (hc j u hu).2⟩⟩
    | nils => exact he
    | nilp => exact he
    | undef => trivial
  · obtain ⟨hne, ho⟩ := hget o obj ho
    have := h.sep o obj b ho hb
    refine ⟨fun hf => ?_, this.2⟩
    rcases hf with hf | hf
    · exact this.1 hf
    · exact hne (h.inj o i obj m b ho hi hb hf)
  · rcases hb with hb | hb
    · exact h.fin b hb
    · refine ⟨MRep.lt (h.mem i m hi) hb, ?_⟩
      rcases (h.sep i m b hi hb).2 with h1 | h1
      · exact .inr h1
      · omega

/-! ### make -/
def zeroMO (T : TT) (e : TypeId) (n : Nat) : MO := bif isW T e then .words e (List.replicate n 0) else .rows e (T e).sz (List.replicate n (T e).zero)
theorem all_rep {α : Type} (n k : Nat) (x : List α) (h : x.length = k) : (List.replicate n x).all (fun y => y.length == k) = true := by
  induction n with
  | zero => rfl
  | succ n ih => simp [List.replicate_succ, h, ih]
theorem madeCells_eq (z : List Value) (k : Nat) : ∀ (n : Nat), z.length = k → 0 < k → (madeCells z.toArray (n * k)).toList = (List.replicate n z).flatten := by
  intro n hz hk
  apply List.ext_getElem?
  intro j
  unfold madeCells
  by_cases hj : j < n * k
  · have hlen : ((List.replicate n z).flatten).length = n * k := by
      rw [flat_len (sz := k) _ (all_rep n k z hz)]; simp
    have hq : j / k < n := (Nat.div_lt_iff_lt_mul hk).2 hj
    have hseg := flat_seg (sz := k) (List.replicate n z) (j / k) z (all_rep n k z hz) (by simp [hq])
    have hmod : j % k < k := Nat.mod_lt _ hk
    have h1 : (List.replicate n z).flatten[j]? = z[j % k]? := by
      have h5 : z[j % k]? = ((((List.replicate n z).flatten).drop (j / k * k)).take k)[j % k]? := by rw [hseg]
      rw [h5, List.getElem?_take, if_pos hmod, List.getElem?_drop, Nat.div_add_mod' j k]
    rw [h1]
    have h2 : ((Array.range (n * k)).map fun x => z.toArray[x % z.toArray.size]!).toList[j]? = some (z.toArray[j % z.toArray.size]!) := by
      simp [hj]
    rw [h2]
    have h3 : j % z.toArray.size = j % k := by simp [hz]
    rw [h3]
    have h4 : j % k < z.toArray.size := by simp [hz]; exact hmod
    rw [getElem!_pos z.toArray (j % k) h4]
    simp [List.getElem?_eq_getElem (show j % k < z.length by omega)]
  · rw [List.getElem?_eq_none (by simp; omega), List.getElem?_eq_none (by
      rw [flat_len (sz := k) _ (all_rep n k z hz)]; simp; omega)]
theorem zeroMO_row (hT : TAll P T) {e : TypeId} (he : (T e).k.ok = true) (n : Nat) : (zeroMO T e n).row? = some (e, (T e).sz, n, (List.replicate n (T e).zero).flatten) ∨ (isW T e = true ∧ (T e).zero ≠ [wd 0]) := by
  unfold zeroMO
  cases hw : isW T e with
  | true =>
    by_cases hz : (T e).zero = [wd 0]
    · left
      have hsz : (T e).sz = 1 := by have := (hT e he).2.2.1; rw [hz] at this; simpa using this.symm
      simp only [cond_true, MO.row?, List.length_replicate, hsz, hz]
      congr 3
      induction n with
      | zero => rfl
      | succ n ih => simp [List.replicate_succ, ih]
    · exact .inr ⟨rfl, hz⟩
  | false =>
    left
    simp only [cond_false, MO.row?, List.length_replicate, all_rep n _ _ (hT e he).2.2.1, if_true]
theorem opp_make (hT : TAll P T) {K : St → Prop} {t e : TypeId} {x y : Operand} {d : Nat} {k k' : IntKind} {n : Int} (ho : o.op = .makeSlice t x y) (hd : o.dst = some d) (hdN : d < c.N) (ht : (T t).k = .sl e) (he : (T e).k.ok = true) (hz : 0 < (T e).sz)
    (hzero : isW T e = true → (T e).zero = [wd 0]) (hx : s.ev x = .d (.int k n)) (hy : s.ev y = .d (.int k' n)) (hm : s.mem d = none) (h0 : 0 ≤ n) (hn : (T e).bytes * n.toNat ≤ 281474976710656) (hn2 : n.toNat ≤ maxLen)
    (hK : K ((s.upd d (zeroMO T e n.toNat)).put (some d) (.own d 0 n.toNat))) : OpP P c o s K := by
  unfold OpP
  rintro Q a w ⟨F, ν, h⟩
  have hxr := ev_rep h x
  have hyr := ev_rep h y
  rw [hx] at hxr
  rw [hy] at hyr
  obtain ⟨dd, hu, hf⟩ := und_of hT ht rfl
  simp only [TK.fits] at hf
  subst hf
  obtain ⟨h1, h2, h3, h4⟩ := hT e he
  obtain ⟨i, z, hi, hisz, hib, hzz, hc⟩ := h1.all
  have hn2' : n ≤ 9223372036854775807 := by unfold maxLen at hn2; omega
  have hb : (i.bytes : Int) * n ≤ 281474976710656 := by
    rw [hib]
    have : (((T e).bytes * n.toNat : Nat) : Int) ≤ 281474976710656 := by omega
    rw [Int.natCast_mul, Int.toNat_of_nonneg h0] at this
    exact this
  have hrun := run_make (P := P) w t e i z hu hi hzz k k' n n h0 (Int.le_refl _) hb hn2'
  rw [hisz] at hrun
  have hcs : (madeCells z.cells (n.toNat * (T e).sz)).toList = (List.replicate n.toNat ((T e).zero.map zval)).flatten := by
    rw [hc]
    exact madeCells_eq _ _ _ (by simp [h3]) hz
  have hrep : AllR (RepL w F) (List.replicate n.toNat (T e).zero).flatten (madeCells z.cells (n.toNat * (T e).sz)).toList := by
    rw [hcs]
    have : ∀ m : Nat, AllR (RepL w F) (List.replicate m (T e).zero).flatten (List.replicate m ((T e).zero.map zval)).flatten := by
      intro m
      induction m with
      | zero => exact AllR.nil
      | succ m ih =>
        simp only [List.replicate_succ, List.flatten_cons]
        exact (zval_rep w F _ h4).app ih
    exact this _
  have hrow : (zeroMO T e n.toNat).row? = some (e, (T e).sz, n.toNat, (List.replicate n.toNat (T e).zero).flatten) := by
    rcases zeroMO_row hT he n.toNat with h5 | ⟨h5, h6⟩
    · exact h5
    · exact absurd (hzero h5) h6
  obtain ⟨cs, hcse⟩ : ∃ cs, cs = madeCells z.cells (n.toNat * (T e).sz) := ⟨_, rfl⟩
  rw [← hcse] at hrun hrep
  have hsz : cs.size = n.toNat * (T e).sz := by rw [hcse]; exact size_madeCells _ _
  have hold : ∀ k, k < w.heap.size → (w.alloc (.cells cs e)).heap[k]? = w.heap[k]? := fun k hk => RowKit.Below.heap_alloc w _ k hk
  have how : (w.alloc (.cells cs e)).ownsRow 0 e (T e).sz (.slice (some ⟨w.heap.size, 0, none⟩) n.toNat n.toNat) n.toNat cs.toList :=
    ⟨by simp [hsz], .inr ⟨w.heap.size, n.toNat, cs, rfl, Nat.zero_le _, heap_alloc_new w _, Nat.le_refl _, hn2, hsz, by rw [List.take_of_length_le (by simp [hsz])]⟩⟩
  have hmrep : MRep (w.alloc (.cells cs e)) F (zeroMO T e n.toNat) (.slice (some ⟨w.heap.size, 0, none⟩) n.toNat n.toNat) := by
    have : ∃ e' sz n' fl cs', (zeroMO T e n.toNat).row? = some (e', sz, n', fl) ∧ 0 < sz ∧ (w.alloc (.cells cs e)).ownsRow 0 e' sz (.slice (some ⟨w.heap.size, 0, none⟩) n.toNat n.toNat) n' cs' ∧ AllR (RepL (w.alloc (.cells cs e)) F) fl cs' :=
      ⟨e, _, _, _, cs.toList, hrow, hz, how, hrep.mono fun _ _ hh => hh.frame (fun _ hb => hb) (fun k hk => hold k (h.fin k hk).1)⟩
    generalize hM : zeroMO T e n.toNat = M at this hrow
    cases M with
    | box l => simp [MO.row?] at hrow
    | words _ _ => exact this
    | rows _ _ _ => exact this
  have hnew := h.new (w' := w.alloc (.cells cs e)) (i := d) (obj := zeroMO T e n.toNat) hdN hm (v := .slice (some ⟨w.heap.size, 0, none⟩) n.toNat n.toNat) (fun b hb => by simp [blk] at hb; omega) rfl rfl rfl (by simp) hold hmrep
  refine wp_val (w' := w.alloc (.cells cs e)) (x := .slice (some ⟨w.heap.size, 0, none⟩) n.toNat n.toNat) (exec_val (m := Instr.makeSlice t (a.eval x) (a.eval y)) (by unfold execOp; rw [ho]) (by rw [intV hxr, intV hyr]; exact hrun)) ⟨_, hK, F, nuSet ν d (.slice (some ⟨w.heap.size, 0, none⟩) n.toNat n.toNat), ?_⟩
  have := hnew.put (o := some d) (v := .own d 0 n.toNat) (x := .slice (some ⟨w.heap.size, 0, none⟩) n.toNat n.toNat) (by
    refine ⟨_, e, _, n.toNat, _, some ⟨w.heap.size, 0, none⟩, n.toNat, n.toNat, by simp [upd_mem], hrow, by omega, .inl rfl, by simp [nuSet], ?_⟩
    simp [Addr.add]) (fun d' hd' => by injection hd' with hd'; subst hd'; exact hdN)
  rw [hd]
  exact this
end Go.Proofs.YtolkecnhncbkhaaGreat.Fw

set_option linter.unusedVariables false
set_option linter.unusedSimpArgs false
namespace Go.Proofs.YtolkecnhncbkhaaGreat.Fw
open Go
variable {P : Program} {T : TT} {c : Ctx} {F : Nat → Prop} {ν : Nat → Value} {s : St} {a : Act} {w : World} {o : Oper} {keep : List Nat}

/-! ### Calls that are handed rows and boxes of the caller's own, or hand back new ones -/
def BlkOf (ν : Nat → Value) (m : Mem) : Nat → Prop := fun b => ∃ o obj, m o = some obj ∧ blk (ν o) = some b
structure Objs (w : World) (F : Nat → Prop) (ν : Nat → Value) (m : Mem) (S : Nat → Nat → Prop) : Prop where
  rep : ∀ o obj, m o = some obj → MRep w F obj (ν o)
  sep : ∀ o obj b, m o = some obj → blk (ν o) = some b → ¬ F b ∧ S o b
  inj : ∀ o o' obj obj' b, m o = some obj → m o' = some obj' → blk (ν o) = some b → blk (ν o') = some b → o = o'
/-- Function g, called with these values, of which some lead to the objects mi, hands back r and leaves the objects mo. -/
@[irreducible] def RunsG (P : Program) (g : FuncId) (args : List V) (mi : List (Nat × MO)) (r : V) (mo : List (Nat × MO)) : Prop :=
  FOK P g ∧ ∀ (F : Nat → Prop) (ν : Nat → Value) (w : World) (vals : List Value), (∀ b, F b → b < w.heap.size) → AllR (VR1 w F ν (memL mi)) args vals → Objs w F ν (memL mi) (fun _ _ => True) →
    Calls P g vals.toArray w fun e w' => ∃ v F' ν', e = .returned v ∧ VR w' F' ν' (memL mo) r v ∧ Objs w' F' ν' (memL mo) (fun o b => w.heap.size ≤ b ∨ (BlkOf ν (memL mi) b ∧ ∃ ob, memL mi o = some ob)) ∧
      (∀ b, F' b → b < w'.heap.size ∧ (F b ∨ w.heap.size ≤ b)) ∧ (∀ o obj, memL mi o = some obj → ν' o = ν o) ∧ Keep w.heap.size (BlkOf ν (memL mi)) w w'

def retG1 (T : TT) (s : St) (rv : ResultVar) (t : TypeId) : V :=
  match rv with
  | .tmp x => match s.env x with
    | .d y => .d y
    | .agg n l => .agg n l
    | .nils => emptyOf T t
    | .own o off len => .own o off len
    | .addr o off => .addr o off
    | _ => .undef
  | .cell x ct => match s.env x with
    | .addr o 0 => match s.mem o with
      | some (.box l) => bif Nat.beq (T ct).sz l.length && (T ct).k.ok then ofCells T ct l else .undef
      | _ => .undef
    | _ => .undef
def retGs (T : TT) (s : St) : List ResultVar → List TypeId → List V
  | [], _ => []
  | r :: rs, ts => retG1 T s r (ts.headD 0) :: retGs T s rs ts.tail
def retG (T : TT) (s : St) (rs : List ResultVar) (ts : List TypeId) : V :=
  match retGs T s rs ts with
  | [v] => v
  | l => .tup l
def liveR (m : Mem) (v : V) : Bool := match v with | .tup l => l.all (liveB m) | v => liveB m v
@[irreducible] def RetG (x r : V) (s : St) (mo : List (Nat × MO)) : Prop := x = r ∧ defd r = true ∧ AllM s mo ∧ liveR (memL mo) r = true
def kretG (T : TT) (fn : Func) (r : V) (mo : List (Nat × MO)) (e : Ex) (s : St) : Prop :=
  match e with
  | .exit _ => False
  | .normal => RetG (retG T s fn.results.toList fn.resultTypes.toList) r s mo
  | .ret => RetG (retG T s fn.results.toList fn.resultTypes.toList) r s mo
def exG (P : Program) (T : TT) (keep : List Nat) (c : Ctx) (fn : Func) (args : List V) (mi : List (Nat × MO)) (r : V) (mo : List (Nat × MO)) : Prop :=
  match fn.body with
  | some b => ex P T keep c fn.ntmps b (kretG T fn r mo) ⟨initE args, memL mi⟩
  | none => False
theorem retG_intro {x r : V} {s : St} {mo : List (Nat × MO)} (h : x = r) (hd : defd r = true) (hm : AllM s mo) (hl : liveR (memL mo) r = true) : RetG x r s mo := by unfold RetG; exact ⟨h, hd, hm, hl⟩

theorem ret1_runG (hT : TAll P T) (h : SRep c F ν s a w) (rv : ResultVar) (t : TypeId) (hd : isDef (retG1 T s rv t) = true) :
    ∃ x, (match rv with
      | .tmp t => (pure (a.tmps.getD t undef) : Sem Value)
      | .cell y t => do loadVar t (← asAddr (a.tmps.getD y undef))).run P w = .ok x w ∧ VR1 w F ν s.mem (retG1 T s rv t) x := by
  cases rv with
  | tmp x =>
    refine ⟨_, rfl, ?_⟩
    have he := h.env x
    unfold retG1 at hd ⊢
    dsimp only at hd ⊢
    cases hv : s.env x with
    | d y => rw [hv] at he; exact he
    | agg n l => rw [hv] at he; exact he
    | nils =>
      rw [hv] at he hd
      dsimp only at hd ⊢
      have hx : a.tmps.getD x undef = .slice none 0 0 := he
      rw [hx]
      have := empty_rep w F ν s.mem T t
      refine VR.to1 this (fun l hl => ?_)
      unfold emptyOf at hl
      split at hl
      · split at hl <;> cases hl
      · cases hl
    | own o off len => rw [hv] at he; exact he
    | addr o off => rw [hv] at he; exact he
    | _ => rw [hv] at hd; cases hd
  | cell x ct =>
    have he := h.env x
    unfold retG1 at hd ⊢
    dsimp only at hd ⊢
    cases hv : s.env x with
    | addr i off =>
      rw [hv] at he hd
      cases off with
      | succ k => cases hd
      | zero =>
        obtain ⟨l, a0, hm, hν, hx⟩ := he
        simp only [hm] at hd ⊢
        cases hc : Nat.beq (T ct).sz l.length && (T ct).k.ok with
        | false => rw [hc] at hd; cases hd
        | true =>
          rw [cond_true]
          simp only [Bool.and_eq_true] at hc
          have hsz := Nat.eq_of_beq_eq_true hc.1
          obtain ⟨b, cur, ty, hν', hheap, ha⟩ := box_inv h hm
          rw [hν] at hν'
          injection hν' with hν'
          injection hν' with hν'
          subst hν'
          have ha0 : (⟨b, 0, none⟩ : Addr).add 0 = ⟨b, 0, none⟩ := rfl
          rw [ha0] at hx
          obtain ⟨y, hy, hr⟩ := load_run (P := P) (F := F) hT hc.2 ⟨b, 0, none⟩ cur.toList l (by rw [← ha.1]; exact hsz.symm) (row_cells w b cur ty hheap) ha ν s.mem
          refine ⟨y, ?_, ?_⟩
          · rw [hx]
            unfold Instr.loadAt at hy
            simp only [Instr.sureAddr, Sem.run_bind, Sem.run_pure, Result.andThen_ok] at hy
            simp only [asAddr, Sem.run_bind, Sem.run_pure, Result.andThen_ok, hy]
          · refine VR.to1 hr (fun l' hl => ?_)
            unfold ofCells at hl
            cases hg : (T ct).k.agg <;> rw [hg] at hl <;> cases hl
    | _ => rw [hv] at hd; cases hd
theorem retGs_get : ∀ (rs : List ResultVar) (ts : List TypeId) (j : Nat) (r : ResultVar) (y : V), rs[j]? = some r → (retGs T s rs ts)[j]? = some y → ∃ t, y = retG1 T s r t := by
  intro rs
  induction rs with
  | nil => intro ts j r y h; simp at h
  | cons r0 rs ih =>
    intro ts j r y h1 h2
    cases j with
    | zero => simp [retGs] at h1 h2; subst h1; exact ⟨_, h2.symm⟩
    | succ j => simp [retGs] at h1 h2; exact ih ts.tail j r y h1 h2
theorem retGs_len : ∀ (rs : List ResultVar) (ts : List TypeId), (retGs T s rs ts).length = rs.length := by
  intro rs
  induction rs with
  | nil => intro ts; rfl
  | cons r rs ih => intro ts; simp [retGs, ih]
theorem retG1_tup (r : ResultVar) (t : TypeId) (l : List V) : retG1 T s r t ≠ .tup l := by
  unfold retG1
  cases r with
  | tmp x =>
    dsimp only
    split
    · simp
    · simp
    · unfold emptyOf
      split
      · split <;> simp
      · simp
    · simp
    · simp
    · simp
  | cell x ct =>
    dsimp only
    split
    · split
      · generalize (Nat.beq _ _ && _) = b
        cases b
        · simp
        · exact ofCells_tup _ _ _
      · simp
    · simp
theorem results_runG (hT : TAll P T) (h : SRep c F ν s a w) (fn : Func) (hd : defd (retG T s fn.results.toList fn.resultTypes.toList) = true) :
    ∃ x, (results fn a.tmps).run P w = .ok x w ∧ VR w F ν s.mem (retG T s fn.results.toList fn.resultTypes.toList) x := by
  have hall : ∀ y ∈ retGs T s fn.results.toList fn.resultTypes.toList, isDef y = true := by
    unfold retG at hd
    intro y hy
    split at hd
    · rename_i v hv
      rw [hv] at hy
      simp only [List.mem_singleton] at hy
      subst hy
      unfold defd at hd
      split at hd
      · cases hd
      · rename_i l
        obtain ⟨j, hj⟩ := List.getElem?_of_mem (by rw [hv]; simp : V.tup l ∈ retGs T s fn.results.toList fn.resultTypes.toList)
        have hlt := (List.getElem?_eq_some_iff.1 hj).1
        rw [retGs_len] at hlt
        obtain ⟨t, ht⟩ := retGs_get _ _ j _ _ (List.getElem?_eq_getElem hlt) hj
        exact absurd ht.symm (retG1_tup _ _ _)
      · rename_i h1 _
        unfold isDef
        split
        · exact absurd rfl h1
        · rfl
    · unfold defd at hd
      have := List.all_eq_true.1 hd y hy
      unfold isDef
      cases y <;> first | rfl | (simp at this)
  obtain ⟨zs, hz, hR⟩ := mapM_ex (P := P) (fun rv => match rv with
      | .tmp t => (pure (a.tmps.getD t undef) : Sem Value)
      | .cell y t => do loadVar t (← asAddr (a.tmps.getD y undef))) (VR1 w F ν s.mem) w fn.results.toList (retGs T s fn.results.toList fn.resultTypes.toList) (retGs_len _ _).symm (fun j x y hx hy => by
        obtain ⟨t, rfl⟩ := retGs_get _ _ j x y hx hy
        exact ret1_runG hT h x t (hall _ (List.mem_of_getElem? hy)))
  have harr := mapM_arr _ w fn.results zs hz
  unfold results
  refine ⟨if h : zs.toArray.size = 1 then zs.toArray[0] else .tuple zs.toArray, ?_, ?_⟩
  · simp only [Sem.run_bind]
    refine Eq.trans (congrArg (fun r => Result.andThen r _) harr) ?_
    rfl
  · unfold retG
    split
    · rename_i v hv
      rw [hv] at hR
      obtain ⟨u, us, rfl, h0, h1⟩ := hR.head
      obtain rfl := h1.nil_of
      simp only [List.size_toArray, List.length_cons, List.length_nil, Nat.zero_add, dite_true]
      exact VR.of1 h0
    · rename_i hne
      have hlen := hR.1
      rw [dif_neg (by
        intro h1
        rw [List.size_toArray, ← hlen] at h1
        match hv : retGs T s fn.results.toList fn.resultTypes.toList, h1 with
        | [v], _ => exact hne v hv)]
      exact ⟨_, rfl, hR⟩
theorem VR.subR {x : V} {v : Value} {m m' : Mem} (h : VR w F ν m x v) (hl : liveR m' x = true) (hm : ∀ o obj, m' o = some obj → m o = some obj) : VR w F ν m' x v := by
  cases x with
  | tup l =>
    obtain ⟨vs, rfl, ha⟩ := h
    refine ⟨vs, rfl, ha.1, fun j x u hx hu => ?_⟩
    have hlx := List.all_eq_true.1 hl x (List.mem_of_getElem? hx)
    have hne : ∀ l, x ≠ .tup l := fun l e => by subst e; cases hlx
    have := VR.sub (m' := m') (VR.of1 (ha.2 j x u hx hu)) hlx hm
    exact VR.to1 this hne
  | _ => exact VR.sub h hl hm
theorem init_repG {n : Nat} {args : List V} {mi : List (Nat × MO)} {vals : List Value} (hF : ∀ b, F b → b < w.heap.size) (ha : AllR (VR1 w F ν (memL mi)) args vals) (ho : Objs w F ν (memL mi) (fun _ _ => True))
    (hn : args.length ≤ n) (hk : ∀ o obj, memL mi o = some obj → n ≤ o) :
    SRep ⟨n, w.heap.size, BlkOf ν (memL mi), F, w, ν⟩ F ν ⟨initE args, memL mi⟩ { tmps := vals.toArray ++ Array.replicate (n - vals.toArray.size) undef, defers := [] } w := by
  have hlen := ha.1
  refine ⟨by simp; omega, rfl, fun t => ?_, ho.rep, fun o obj b h1 h2 => ⟨(ho.sep o obj b h1 h2).1, .inr ⟨⟨o, obj, h1, h2⟩, hk o obj h1⟩⟩, ho.inj, fun b hb => ⟨hF b hb, .inl hb⟩, Keep.refl _ _ _, rfl, fun _ _ => rfl⟩
  show VR w F _ _ (initE args t) _
  rw [initE_get, getD_app]
  by_cases ht : t < args.length
  · rw [List.getD_eq_getElem?_getD, List.getD_eq_getElem?_getD, List.getElem?_eq_getElem ht, List.getElem?_eq_getElem (by omega)]
    exact VR.of1 (ha.2 t args[t] vals[t] (by simp [ht]) (by simp [show t < vals.length by omega]))
  · rw [List.getD_eq_getElem?_getD, List.getElem?_eq_none (by omega)]
    trivial
def keysOk (n : Nat) : List (Nat × MO) → Bool
  | [] => true
  | (i, _) :: r => Nat.ble n i && keysOk n r
theorem keysOk_le {n : Nat} : ∀ (l : List (Nat × MO)), keysOk n l = true → ∀ o obj, memL l o = some obj → n ≤ o := by
  intro l
  induction l with
  | nil => intro _ o obj h; cases h
  | cons p l ih =>
    obtain ⟨i, ob⟩ := p
    intro hk o obj h
    simp only [keysOk, Bool.and_eq_true] at hk
    simp only [memL] at h
    by_cases e : o = i
    · subst e; exact Nat.le_of_ble_eq_true hk.1
    · rw [beq_no e, cond_false] at h; exact ih hk.2 o obj h

def moOk (n : Nat) (mi : List (Nat × MO)) : List (Nat × MO) → Bool
  | [] => true
  | (i, _) :: r => (Nat.blt i n || isSome' (memL mi i)) && moOk n mi r
theorem moOk_in {n : Nat} {mi : List (Nat × MO)} : ∀ (l : List (Nat × MO)), moOk n mi l = true → ∀ o obj, memL l o = some obj → n ≤ o → ∃ ob, memL mi o = some ob := by
  intro l
  induction l with
  | nil => intro _ o obj h; cases h
  | cons p l ih =>
    obtain ⟨i, ob⟩ := p
    intro hk o obj h hn
    simp only [moOk, Bool.and_eq_true, Bool.or_eq_true] at hk
    simp only [memL] at h
    by_cases e : o = i
    · subst e
      rcases hk.1 with h1 | h1
      · have := Nat.le_of_ble_eq_true h1; omega
      · unfold isSome' at h1
        split at h1
        · rename_i x hx; exact ⟨x, hx⟩
        · cases h1
    · rw [beq_no e, cond_false] at h; exact ih hk.2 o obj h hn

/-- FROM THE PURE SIDE TO A CONTRACT, with objects. -/
theorem runsG_of (hT : TAll P T) (hm : P.follows .mixedOrders = true) {g : FuncId} {fn : Func} {args : List V} {mi mo : List (Nat × MO)} {r : V} (hf : P.funcs[g]? = some fn) (hname : (fn.name == "runtime.NumGoroutine") = false) (hn : args.length ≤ fn.ntmps)
    (hk : keysOk fn.ntmps mi = true) (hko : moOk fn.ntmps mi mo = true) (h : ∀ c : Ctx, c.N = fn.ntmps → exG P T keep c fn args mi r mo) : RunsG P g args mi r mo := by
  unfold RunsG
  have hb : ∃ b, fn.body = some b := by
    have := h ⟨fn.ntmps, 0, fun _ => False, fun _ => False, default, fun _ => undef⟩ rfl
    unfold exG at this
    split at this
    · rename_i b hb; exact ⟨b, hb⟩
    · exact this.elim
  obtain ⟨b, hb⟩ := hb
  refine ⟨⟨fn, hf, hname, by rw [hb]; rfl⟩, fun F ν w vals hF ha ho => ?_⟩
  have hc := h ⟨fn.ntmps, w.heap.size, BlkOf ν (memL mi), F, w, ν⟩ rfl
  unfold exG at hc
  rw [hb] at hc
  dsimp only at hc
  refine calls_of_wp hf hb (wp_mono (ex_sound (c := ⟨fn.ntmps, w.heap.size, BlkOf ν (memL mi), F, w, ν⟩) hT hm b _ _ _ w ⟨F, _, init_repG hF ha ho hn (keysOk_le mi hk)⟩ hc) ?_)
  intro e a w' hl
  have fin : ∀ s, RetG (retG T s fn.results.toList fn.resultTypes.toList) r s mo → SR ⟨fn.ntmps, w.heap.size, BlkOf ν (memL mi), F, w, ν⟩ s a w' → a.defers = [] ∧ ∃ v, (results fn a.tmps).run P w' = .ok v w' ∧
      ∃ v' F' ν', Ending.returned v = .returned v' ∧ VR w' F' ν' (memL mo) r v' ∧ Objs w' F' ν' (memL mo) (fun o b => w.heap.size ≤ b ∨ (BlkOf ν (memL mi) b ∧ ∃ ob, memL mi o = some ob)) ∧
      (∀ b, F' b → b < w'.heap.size ∧ (F b ∨ w.heap.size ≤ b)) ∧ (∀ o obj, memL mi o = some obj → ν' o = ν o) ∧ Keep w.heap.size (BlkOf ν (memL mi)) w w' := by
    intro s hret hs
    unfold RetG at hret
    obtain ⟨hr, hd, hmo, hlv⟩ := hret
    obtain ⟨F', ν', hs⟩ := hs
    rw [← hr] at hd
    obtain ⟨x, hx, hv⟩ := results_runG (P := P) hT hs fn hd
    rw [hr] at hv
    have hmm := fun o obj => memL_get mo o obj hmo
    refine ⟨hs.dfr, x, hx, x, F', ν', rfl, VR.subR hv hlv hmm, ⟨fun o obj h1 => hs.mem o obj (hmm o obj h1), fun o obj b h1 h2 => ?_, fun o o' obj obj' b h1 h2 => hs.inj o o' obj obj' b (hmm o obj h1) (hmm o' obj' h2)⟩,
      hs.fin, fun o obj h1 => hs.nu o (keysOk_le mi hk o obj h1), hs.keep⟩
    have := hs.sep o obj b (hmm o obj h1) h2
    refine ⟨this.1, ?_⟩
    rcases this.2 with h3 | h3
    · exact .inl h3
    · exact .inr ⟨h3.1, moOk_in mo hko o obj h1 h3.2⟩
  cases e with
  | normal => obtain ⟨s, hk, hs⟩ := hl; exact fin s hk hs
  | ret => obtain ⟨s, hk, hs⟩ := hl; exact fin s hk hs
  | exit id => obtain ⟨s, hk, hs⟩ := hl; exact hk.elim
  | _ => exact hl.elim
end Go.Proofs.YtolkecnhncbkhaaGreat.Fw

set_option linter.unusedVariables false
set_option linter.unusedSimpArgs false
namespace Go.Proofs.YtolkecnhncbkhaaGreat.Fw
open Go
variable {P : Program} {T : TT} {c : Ctx} {F : Nat → Prop} {ν : Nat → Value} {s : St} {a : Act} {w : World} {o : Oper} {keep : List Nat}

/-- The same value, its objects named otherwise. -/
def renV1 (σ : Nat → Nat) : V → V
  | .own o a b => .own (σ o) a b
  | .addr o a => .addr (σ o) a
  | .ela o a b => .ela (σ o) a b
  | v => v
def renV (σ : Nat → Nat) : V → V
  | .tup l => .tup (l.map (renV1 σ))
  | .own o a b => .own (σ o) a b
  | .addr o a => .addr (σ o) a
  | .ela o a b => .ela (σ o) a b
  | v => v
theorem renV_one (σ : Nat → Nat) (v : V) (h : ∀ l, v ≠ .tup l) : renV σ v = renV1 σ v := by cases v <;> first | rfl | exact absurd rfl (h _)
def lk : List (Nat × Nat) → Nat → Nat
  | [], i => i
  | (a, b) :: r, i => bif Nat.beq i a then b else lk r i
def St.updL (s : St) (σ : Nat → Nat) : List (Nat × MO) → St
  | [] => s
  | (i, m) :: r => (s.updL σ r).upd (σ i) m
def nuL (σ : Nat → Nat) (ν' ν : Nat → Value) : List (Nat × MO) → Nat → Value
  | [] => ν
  | (i, _) :: r => fun x => if x = σ i then ν' i else nuL σ ν' ν r x
theorem updL_env (s : St) (σ : Nat → Nat) : ∀ (l : List (Nat × MO)), (s.updL σ l).env = s.env := by
  intro l
  induction l with
  | nil => rfl
  | cons p l ih => obtain ⟨i, m⟩ := p; exact ih
theorem updL_get (s : St) (σ : Nat → Nat) (ν' ν : Nat → Value) : ∀ (l : List (Nat × MO)) (x : Nat) (obj : MO), (s.updL σ l).mem x = some obj →
    (∃ i, x = σ i ∧ memL l i = some obj ∧ nuL σ ν' ν l x = ν' i) ∨ ((∀ i ob, memL l i = some ob → x ≠ σ i) ∧ s.mem x = some obj ∧ nuL σ ν' ν l x = ν x) := by
  intro l
  induction l with
  | nil => intro x obj h; exact .inr ⟨fun i ob hi => (by cases hi), h, rfl⟩
  | cons p l ih =>
    obtain ⟨i, m⟩ := p
    intro x obj h
    simp only [St.updL] at h
    by_cases e : x = σ i
    · refine .inl ⟨i, e, ?_, by simp [nuL, e]⟩
      rw [upd_mem, if_pos e] at h
      simp only [memL, Nat.beq_refl, cond_true]
      exact h
    · rw [upd_mem, if_neg e] at h
      rcases ih x obj h with ⟨j, h1, h2, h3⟩ | ⟨h1, h2, h3⟩
      · refine .inl ⟨j, h1, ?_, by simp [nuL, e]; exact h3⟩
        have : j ≠ i := fun e' => e (by rw [h1, e'])
        simp only [memL, beq_no this, cond_false]
        exact h2
      · refine .inr ⟨fun j ob hj => ?_, h2, by simp [nuL, e]; exact h3⟩
        simp only [memL] at hj
        by_cases e' : j = i
        · rw [e']; exact e
        · rw [beq_no e', cond_false] at hj; exact h1 j ob hj
theorem updL_at (s : St) (σ : Nat → Nat) (ν' ν : Nat → Value) : ∀ (l : List (Nat × MO)), (∀ i j x y, memL l i = some x → memL l j = some y → σ i = σ j → i = j) → ∀ (i : Nat) (obj : MO), memL l i = some obj → (s.updL σ l).mem (σ i) = some obj ∧ nuL σ ν' ν l (σ i) = ν' i := by
  intro l
  induction l with
  | nil => intro _ i obj h; cases h
  | cons p l ih =>
    obtain ⟨k, m⟩ := p
    intro hinj i obj h
    by_cases e : i = k
    · subst e
      simp only [memL, Nat.beq_refl, cond_true] at h
      exact ⟨by simp only [St.updL]; rw [upd_mem, if_pos rfl]; exact h, by simp [nuL]⟩
    · have hne : σ i ≠ σ k := fun e' => e (hinj i k obj m h (by simp [memL]) e')
      have h' : memL l i = some obj := by simp only [memL, beq_no e, cond_false] at h; exact h
      by_cases hk : ∃ y, memL l k = some y
      · refine (fun hi => ⟨by simp only [St.updL]; rw [upd_mem, if_neg hne]; exact hi.1, by simp [nuL, hne]; exact hi.2⟩) (ih (fun a b x y ha hb hab => ?_) i obj h')
        refine Classical.byContradiction fun hab' => ?_
        by_cases ea : a = k
        · subst ea
          have : memL ((a, m) :: l) b = some y := by simp only [memL, beq_no (fun e => hab' e.symm : b ≠ a), cond_false]; exact hb
          exact hab' (hinj a b m y (by simp [memL]) this hab)
        · by_cases eb : b = k
          · subst eb
            have : memL ((b, m) :: l) a = some x := by simp only [memL, beq_no ea, cond_false]; exact ha
            exact hab' (hinj a b x m this (by simp [memL]) hab)
          · exact hab' (hinj a b x y (by simp only [memL, beq_no ea, cond_false]; exact ha) (by simp only [memL, beq_no eb, cond_false]; exact hb) hab)
      · refine (fun hi => ⟨by simp only [St.updL]; rw [upd_mem, if_neg hne]; exact hi.1, by simp [nuL, hne]; exact hi.2⟩) (ih (fun a b x y ha hb hab => ?_) i obj h')
        have ha' : a ≠ k := fun e => hk ⟨x, by rw [← e]; exact ha⟩
        have hb' : b ≠ k := fun e => hk ⟨y, by rw [← e]; exact hb⟩
        exact hinj a b x y (by simp only [memL, beq_no ha', cond_false]; exact ha) (by simp only [memL, beq_no hb', cond_false]; exact hb) hab
def AllMr (s : St) (σ : Nat → Nat) : List (Nat × MO) → Prop
  | [] => True
  | (i, m) :: r => s.mem (σ i) = some m ∧ AllMr s σ r
theorem AllMr_get {s : St} {σ : Nat → Nat} : ∀ (l : List (Nat × MO)), AllMr s σ l → ∀ i m, memL l i = some m → s.mem (σ i) = some m := by
  intro l
  induction l with
  | nil => intro _ i m h; cases h
  | cons p l ih =>
    obtain ⟨k, x⟩ := p
    intro ha i m h
    simp only [memL] at h
    by_cases e : i = k
    · subst e; rw [Nat.beq_refl, cond_true] at h; exact ha.1.trans h
    · rw [beq_no e, cond_false] at h; exact ih ha.2 i m h
def shOf (x : MO) : Option MO → Prop
  | some y => SameSh x y
  | none => False
def ShL (mo : List (Nat × MO)) : List (Nat × MO) → Prop
  | [] => True
  | (i, m) :: r => shOf m (memL mo i) ∧ ShL mo r
theorem ShL_get {mo : List (Nat × MO)} : ∀ (l : List (Nat × MO)), ShL mo l → ∀ i m, memL l i = some m → ∃ m', memL mo i = some m' ∧ SameSh m m' := by
  intro l
  induction l with
  | nil => intro _ i m h; cases h
  | cons p l ih =>
    obtain ⟨k, x⟩ := p
    intro ha i m h
    simp only [memL] at h
    by_cases e : i = k
    · subst e
      rw [Nat.beq_refl, cond_true] at h
      cases h
      have := ha.1
      unfold shOf at this
      split at this
      · rename_i y hy; exact ⟨y, hy, this⟩
      · exact this.elim
    · rw [beq_no e, cond_false] at h; exact ih ha.2 i m h
def newOf (s : St) (N j : Nat) : Option MO → Prop
  | some _ => True
  | none => s.mem j = none ∧ j < N
def NewL (s : St) (N : Nat) (σ : Nat → Nat) (mi : List (Nat × MO)) : List (Nat × MO) → Prop
  | [] => True
  | (i, _) :: r => newOf s N (σ i) (memL mi i) ∧ NewL s N σ mi r
theorem NewL_get {s : St} {N : Nat} {σ : Nat → Nat} {mi : List (Nat × MO)} : ∀ (l : List (Nat × MO)), NewL s N σ mi l → ∀ i m, memL l i = some m → memL mi i = none → s.mem (σ i) = none ∧ σ i < N := by
  intro l
  induction l with
  | nil => intro _ i m h; cases h
  | cons p l ih =>
    obtain ⟨k, x⟩ := p
    intro ha i m h hn
    simp only [memL] at h
    by_cases e : i = k
    · subst e
      have := ha.1
      rw [hn] at this
      exact this
    · rw [beq_no e, cond_false] at h; exact ih ha.2 i m h hn
def injB (σ : Nat → Nat) (l : List (Nat × MO)) : Bool := l.all fun x => l.all fun y => !Nat.beq (σ x.1) (σ y.1) || Nat.beq x.1 y.1
theorem memL_mem : ∀ (l : List (Nat × MO)) (i : Nat) (m : MO), memL l i = some m → (i, m) ∈ l := by
  intro l
  induction l with
  | nil => intro i m h; cases h
  | cons p l ih =>
    obtain ⟨k, x⟩ := p
    intro i m h
    simp only [memL] at h
    by_cases e : i = k
    · subst e; rw [Nat.beq_refl, cond_true] at h; cases h; simp
    · rw [beq_no e, cond_false] at h; exact List.mem_cons_of_mem _ (ih i m h)
theorem injB_inj {σ : Nat → Nat} {l : List (Nat × MO)} (h : injB σ l = true) : ∀ i j x y, memL l i = some x → memL l j = some y → σ i = σ j → i = j := by
  intro i j x y hi hj e
  have h1 := List.all_eq_true.1 h _ (memL_mem l i x hi)
  have h2 := List.all_eq_true.1 h1 _ (memL_mem l j y hj)
  simp only [e, Nat.beq_refl, Bool.not_true, Bool.false_or] at h2
  exact Nat.eq_of_beq_eq_true h2
theorem unren {σ : Nat → Nat} {mi : List (Nat × MO)} {m : Mem} {x : V} {v : Value} (hl : liveB (memL mi) x = true) (hm : ∀ i ob, memL mi i = some ob → m (σ i) = some ob) (h : VR w F ν m (renV σ x) v) : VR1 w F (fun i => ν (σ i)) (memL mi) x v := by
  have key : ∀ {i obj}, isSome' (memL mi i) = true → m (σ i) = some obj → memL mi i = some obj := by
    intro i obj h1 h2
    unfold isSome' at h1
    split at h1
    · rename_i y hy; rw [hm i y hy] at h2; rw [hy, ← h2]
    · cases h1
  cases x with
  | own i off len =>
    obtain ⟨obj, e, sz, n, fl, A, n', cc, h1, h2⟩ := h
    simp only [liveB, objOf, List.all_cons, List.all_nil, Bool.and_true] at hl
    exact ⟨obj, e, sz, n, fl, A, n', cc, key hl h1, h2⟩
  | addr i off =>
    obtain ⟨l, a0, h1, h2⟩ := h
    simp only [liveB, objOf, List.all_cons, List.all_nil, Bool.and_true] at hl
    exact ⟨l, a0, key hl h1, h2⟩
  | ela i j q =>
    obtain ⟨obj, e, sz, n, fl, a0, n', cc, h1, h2⟩ := h
    simp only [liveB, objOf, List.all_cons, List.all_nil, Bool.and_true] at hl
    exact ⟨obj, e, sz, n, fl, a0, n', cc, key hl h1, h2⟩
  | tup l => cases hl
  | _ => exact h
theorem ren1 {σ : Nat → Nat} {ν' ν₂ : Nat → Value} {F' : Nat → Prop} {mo : List (Nat × MO)} {m : Mem} {x : V} {v : Value} (hm : ∀ i ob, memL mo i = some ob → m (σ i) = some ob ∧ ν₂ (σ i) = ν' i) (hF : ∀ b, F b → F' b) (h : VR1 w F ν' (memL mo) x v) : VR1 w F' ν₂ m (renV1 σ x) v := by
  cases x with
  | own i off len =>
    obtain ⟨obj, e, sz, n, fl, A, n', cc, h1, h2, h3, h4, h5, h6⟩ := h
    obtain ⟨h7, h8⟩ := hm i obj h1
    exact ⟨obj, e, sz, n, fl, A, n', cc, h7, h2, h3, h4, h8.trans h5, h6⟩
  | addr i off =>
    obtain ⟨l, a0, h1, h2, h3⟩ := h
    obtain ⟨h7, h8⟩ := hm i _ h1
    exact ⟨l, a0, h7, h8.trans h2, h3⟩
  | ela i j q =>
    obtain ⟨obj, e, sz, n, fl, a0, n', cc, h1, h2, h3, h5, h6⟩ := h
    obtain ⟨h7, h8⟩ := hm i obj h1
    exact ⟨obj, e, sz, n, fl, a0, n', cc, h7, h2, h3, h8.trans h5, h6⟩
  | d x => exact RepL.frame h hF (fun _ _ => rfl)
  | agg n l =>
    obtain ⟨hl, vs, hv, ha⟩ := h
    exact ⟨hl, vs, hv, ha.mono fun _ _ hh => hh.frame hF (fun _ _ => rfl)⟩
  | ro n l =>
    obtain ⟨hl, ad, cs, hv, ha, hc⟩ := h
    exact ⟨hl, ad, cs, hv, ha.mono fun _ _ hh => hh.frame hF (fun _ _ => rfl), fun j u hu => ⟨hF _ (hc j u hu).1, (hc j u hu).2⟩⟩
  | nils => exact h
  | nilp => exact h
  | undef => trivial
  | tup l => exact h.elim
theorem renR {σ : Nat → Nat} {ν' ν₂ : Nat → Value} {F' : Nat → Prop} {mo : List (Nat × MO)} {m : Mem} {x : V} {v : Value} (hm : ∀ i ob, memL mo i = some ob → m (σ i) = some ob ∧ ν₂ (σ i) = ν' i) (hF : ∀ b, F b → F' b) (h : VR w F ν' (memL mo) x v) : VR w F' ν₂ m (renV σ x) v := by
  cases x with
  | tup l =>
    obtain ⟨vs, rfl, ha⟩ := h
    refine ⟨vs, rfl, by rw [List.length_map]; exact ha.1, fun j y u hy hu => ?_⟩
    rw [List.getElem?_map] at hy
    cases hl : l[j]? with
    | none => rw [hl] at hy; cases hy
    | some z =>
      rw [hl] at hy
      simp only [Option.map_some, Option.some.injEq] at hy
      subst hy
      have := ren1 (w := w) (σ := σ) hm hF (ha.2 j z u hl hu)
      exact this
  | own i off len => exact ren1 (w := w) (x := .own i off len) hm hF h
  | addr i off => exact ren1 (w := w) (x := .addr i off) hm hF h
  | ela i j q => exact ren1 (w := w) (x := .ela i j q) hm hF h
  | d x => exact ren1 (w := w) (x := .d x) (σ := σ) hm hF h
  | agg n l => exact ren1 (w := w) (x := .agg n l) (σ := σ) hm hF h
  | ro n l => exact ren1 (w := w) (x := .ro n l) (σ := σ) hm hF h
  | nils => exact h
  | nilp => exact h
  | undef => trivial

/-- Behind a call that was handed objects. -/
theorem SRep.afterG (h : SRep c F ν s a w) {w' : World} {F' : Nat → Prop} {ν' : Nat → Value} {σ : Nat → Nat} {mi mo : List (Nat × MO)} (hmi : ∀ i m, memL mi i = some m → s.mem (σ i) = some m)
    (hsh : ∀ i m, memL mi i = some m → ∃ m', memL mo i = some m' ∧ SameSh m m') (hnew : ∀ i m, memL mo i = some m → memL mi i = none → s.mem (σ i) = none ∧ σ i < c.N) (hinj : ∀ i j x y, memL mo i = some x → memL mo j = some y → σ i = σ j → i = j)
    (hO : Objs w' F' ν' (memL mo) (fun o b => w.heap.size ≤ b ∨ (BlkOf (fun i => ν (σ i)) (memL mi) b ∧ ∃ ob, memL mi o = some ob))) (hF' : ∀ b, F' b → b < w'.heap.size ∧ (F b ∨ w.heap.size ≤ b))
    (hν : ∀ o obj, memL mi o = some obj → ν' o = ν (σ o)) (hk : Keep w.heap.size (BlkOf (fun i => ν (σ i)) (memL mi)) w w') :
    SRep c (fun b => F b ∨ F' b) (nuL σ ν' ν mo) (s.updL σ mo) a w' := by
  have hB : c.B ≤ w.heap.size := by rw [h.base]; exact h.keep.size
  have hF : ∀ k, F k → w'.heap[k]? = w.heap[k]? := fun k hk' => hk.block k (h.fin k hk').1 (fun ⟨i, m, h1, h2⟩ => (h.sep (σ i) m k (hmi i m h1) h2).1 hk')
  have hget := updL_get s σ ν' ν mo
  have hat := updL_at s σ ν' ν mo hinj
  have hmemOn : MemOn s.mem (s.updL σ mo).mem ν (nuL σ ν' ν mo) := by
    intro x obj hx
    by_cases hin : ∃ i m, memL mo i = some m ∧ x = σ i
    · obtain ⟨i, m, h1, rfl⟩ := hin
      cases hi : memL mi i with
      | none => have := (hnew i m h1 hi).1; rw [this] at hx; cases hx
      | some ob =>
        have := hmi i ob hi
        rw [this] at hx
        cases hx
        obtain ⟨m', h2, h3⟩ := hsh i obj hi
        exact ⟨m', (hat i m' h2).1, h3, (hat i m' h2).2.trans (hν i obj hi)⟩
    · have hno : ∀ (l : List (Nat × MO)), (∀ i m, memL l i = some m → x ≠ σ i) → (s.updL σ l).mem x = s.mem x ∧ nuL σ ν' ν l x = ν x := by
        intro l
        induction l with
        | nil => intro _; exact ⟨rfl, rfl⟩
        | cons p l ih =>
          obtain ⟨k, y⟩ := p
          intro hh
          have hk0 : x ≠ σ k := hh k y (by simp [memL])
          have := ih (fun i m hi => by
            by_cases e : i = k
            · rw [e]; exact hk0
            · exact hh i m (by simp only [memL, beq_no e, cond_false]; exact hi))
          exact ⟨by simp only [St.updL]; rw [upd_mem, if_neg hk0]; exact this.1, by simp [nuL, hk0]; exact this.2⟩
      have := hno mo (fun i m h1 e => hin ⟨i, m, h1, e⟩)
      exact ⟨obj, this.1.trans hx, SameSh.refl (h.mem x obj hx), this.2⟩
  have hblk : ∀ x obj b, (∀ i m, memL mo i = some m → x ≠ σ i) → s.mem x = some obj → blk (ν x) = some b → ¬ BlkOf (fun i => ν (σ i)) (memL mi) b := by
    rintro x obj b hx hxo hb ⟨i, m, h1, h2⟩
    obtain ⟨m', h3, _⟩ := hsh i m h1
    exact hx i m' h3 (h.inj x (σ i) obj m b hxo (hmi i m h1) hb h2)
  refine ⟨h.sz, h.dfr, fun t => by rw [updL_env]; exact VR.mono (h.env t) (fun _ hb => .inl hb) hF hmemOn, fun x obj hx => ?_, fun x obj b hx hb => ?_, fun x y obj obj' b hx hy hb hb' => ?_, fun b hb => ?_, ?_, h.base, fun x hx => ?_⟩
  · rcases hget x obj hx with ⟨i, rfl, h1, h2⟩ | ⟨h1, h2, h3⟩
    · rw [h2]; exact MRep.frame (hO.rep i obj h1) (fun _ hb => .inr hb) (fun _ _ => rfl) (fun _ _ => rfl)
    · rw [h3]
      exact MRep.frame (h.mem x obj h2) (fun _ hb => .inl hb) hF (fun b hb => hk.block b (MRep.lt (h.mem x obj h2) hb) (hblk x obj b h1 h2 hb))
  · rcases hget x obj hx with ⟨i, rfl, h1, h2⟩ | ⟨h1, h2, h3⟩
    · rw [h2] at hb
      obtain ⟨h4, h5⟩ := hO.sep i obj b h1 hb
      rcases h5 with h5 | ⟨⟨j, m, h6, h7⟩, ob, h8⟩
      · refine ⟨fun hf => ?_, .inl (by omega)⟩
        rcases hf with hf | hf
        · have := (h.fin b hf).1; omega
        · exact h4 hf
      · have hs := h.sep (σ j) m b (hmi j m h6) h7
        rw [hν i ob h8] at hb
        have e : σ i = σ j := h.inj _ _ ob m b (hmi i ob h8) (hmi j m h6) hb h7
        rw [e]
        exact ⟨fun hf => by rcases hf with hf | hf; exact hs.1 hf; exact h4 hf, hs.2⟩
    · rw [h3] at hb
      have hs := h.sep x obj b h2 hb
      refine ⟨fun hf => ?_, hs.2⟩
      rcases hf with hf | hf
      · exact hs.1 hf
      · rcases (hF' b hf).2 with h5 | h5
        · exact hs.1 h5
        · have := MRep.lt (h.mem x obj h2) hb; omega
  · have cross : ∀ i ob x obj, memL mo i = some ob → blk (ν' i) = some b → (∀ i m, memL mo i = some m → x ≠ σ i) → s.mem x = some obj → blk (ν x) = some b → False := by
      intro i ob x obj h1 h2 h3 h4 h5
      rcases (hO.sep i ob b h1 h2).2 with h6 | ⟨h6, _⟩
      · have := MRep.lt (h.mem x obj h4) h5; omega
      · exact hblk x obj b h3 h4 h5 h6
    rcases hget x obj hx with ⟨i, rfl, h1, h2⟩ | ⟨h1, h2, h3⟩ <;> rcases hget y obj' hy with ⟨i', rfl, h1', h2'⟩ | ⟨h1', h2', h3'⟩
    · rw [h2] at hb; rw [h2'] at hb'
      rw [hO.inj i i' obj obj' b h1 h1' hb hb']
    · rw [h2] at hb; rw [h3'] at hb'
      exact (cross i obj y obj' h1 hb h1' h2' hb').elim
    · rw [h3] at hb; rw [h2'] at hb'
      exact (cross i' obj' x obj h1' hb' h1 h2 hb).elim
    · rw [h3] at hb; rw [h3'] at hb'
      exact h.inj x y obj obj' b h2 h2' hb hb'
  · rcases hb with hb | hb
    · have := h.fin b hb
      have := hk.size
      exact ⟨by omega, (h.fin b hb).2⟩
    · refine ⟨(hF' b hb).1, ?_⟩
      rcases (hF' b hb).2 with h2 | h2
      · exact (h.fin b h2).2
      · exact .inr (by omega)
  · refine h.keep.trans ⟨hk.os, hk.tape, hk.output, hk.size, fun k hk' hS => hk.block k (by omega) ?_⟩
    rintro ⟨i, m, h1, h2⟩
    rcases (h.sep (σ i) m k (hmi i m h1) h2).2 with h3 | h3
    · omega
    · exact hS h3.1
  · by_cases hin : ∃ i m, memL mo i = some m ∧ x = σ i
    · obtain ⟨i, m, h1, rfl⟩ := hin
      cases hi : memL mi i with
      | none => have := (hnew i m h1 hi).2; omega
      | some ob => rw [(hat i m h1).2, hν i ob hi]; exact h.nu _ hx
    · have hno : ∀ (l : List (Nat × MO)), (∀ i m, memL l i = some m → x ≠ σ i) → nuL σ ν' ν l x = ν x := by
        intro l
        induction l with
        | nil => intro _; rfl
        | cons p l ih =>
          obtain ⟨k, y⟩ := p
          intro hh
          have hk0 : x ≠ σ k := hh k y (by simp [memL])
          have := ih (fun i m hi => by
            by_cases e : i = k
            · rw [e]; exact hk0
            · exact hh i m (by simp only [memL, beq_no e, cond_false]; exact hi))
          simp [nuL, hk0]; exact this
      rw [hno mo (fun i m h1 e => hin ⟨i, m, h1, e⟩)]
      exact h.nu x hx
theorem enter_run (h : SRep c F ν s a w) {cl : Call} {g : FuncId} (ho : o.op = .call cl) (hc : cl.callee = .value (.func g)) (hg : FOK P g) : (execOp a.eval o).run P w = .ok (.enter g (cl.args.map a.eval)) w := by
  obtain ⟨callee, args, tys⟩ := cl
  dsimp only at hc
  subst hc
  obtain ⟨fn, hf, hname, hbody⟩ := hg
  refine exec_call ho ?_
  unfold resolve
  simp only [Sem.run_bind, Result.andThen_ok]
  have : (Deferred.ofValue (a.eval (.func g)) (args.map a.eval)).run P w = .ok { target := .fn (.func g) #[], args := args.map a.eval } w := by
    simp [Act.eval, Deferred.ofValue]
  rw [this]
  simp only [Result.andThen_ok, invoke, Array.append_empty, callFunc, Sem.run_bind, run_program, hf, hname, hbody, Bool.false_eq_true, if_false, Sem.run_pure]
def liveA (m : Mem) : List V → Bool
  | [] => true
  | v :: r => liveB m v && liveA m r
theorem liveA_get {m : Mem} : ∀ (l : List V), liveA m l = true → ∀ (j : Nat) x, l[j]? = some x → liveB m x = true := by
  intro l
  induction l with
  | nil => intro _ j x h; simp at h
  | cons v l ih =>
    intro hl j x h
    simp only [liveA, Bool.and_eq_true] at hl
    cases j with
    | zero => simp at h; subst h; exact hl.1
    | succ j => simp at h; exact ih hl.2 j x h
/-- A CALL THAT IS HANDED OBJECTS, or hands back new ones. -/
theorem opp_callG {K : St → Prop} {cl : Call} {g : FuncId} {args : List V} {mi mo : List (Nat × MO)} {r : V} (σ : Nat → Nat) (hr : RunsG P g args mi r mo) (ho : o.op = .call cl) (hc : cl.callee = .value (.func g)) (hd : dstOk c.N o = true)
    (has : coeL T (cl.args.toList.map s.ev) cl.argTypes.toList = args.map (renV σ)) (hlive : liveA (memL mi) args = true) (hmi : AllMr s σ mi) (hsh : ShL mo mi) (hnew : NewL s c.N σ mi mo) (hinj : injB σ mo = true)
    (hK : K ((s.updL σ mo).put o.dst (renV σ r))) : OpP P c o s K := by
  unfold OpP
  rintro Q a w ⟨F, ν, h⟩
  unfold RunsG at hr
  have hmi' := AllMr_get mi hmi
  have hsh' := ShL_get mi hsh
  have hnew' := NewL_get mo hnew
  have hinj' := injB_inj hinj
  have hrun := enter_run (P := P) h ho hc hr.1
  have hav := coeL_rep T _ _ cl.argTypes.toList s.mem (args_rep h cl.args.toList)
  rw [has, show cl.args.toList.map a.eval = (cl.args.map a.eval).toList by simp] at hav
  have hav0 : args.length = (cl.args.map a.eval).toList.length := by have := hav.1; rw [List.length_map] at this; exact this
  have hav1 : AllR (VR1 w F (fun i => ν (σ i)) (memL mi)) args (cl.args.map a.eval).toList := by
    refine ⟨hav0, fun j x u hx hu => ?_⟩
    exact unren (liveA_get args hlive j x hx) hmi' (hav.2 j (renV σ x) u (by rw [List.getElem?_map, hx]; rfl) hu)
  have hOi : Objs w F (fun i => ν (σ i)) (memL mi) (fun _ _ => True) :=
    ⟨fun i m h1 => h.mem (σ i) m (hmi' i m h1), fun i m b h1 h2 => ⟨(h.sep (σ i) m b (hmi' i m h1) h2).1, trivial⟩, fun i j x y b h1 h2 h3 h4 => by
      obtain ⟨x', h5, _⟩ := hsh' i x h1
      obtain ⟨y', h6, _⟩ := hsh' j y h2
      exact hinj' i j x' y' h5 h6 (h.inj (σ i) (σ j) x y b (hmi' i x h1) (hmi' j y h2) h3 h4)⟩
  have hcall := hr.2 F (fun i => ν (σ i)) w _ (fun b hb => (h.fin b hb).1) hav1 hOi
  unfold Oper.wp
  rw [hrun]
  show Calls P g _ w _
  rw [Array.toArray_toList] at hcall
  refine hcall.mono ?_
  rintro e w' ⟨v, F', ν', rfl, hv, hO, hF', hν, hk⟩
  have hafter := h.afterG hmi' hsh' hnew' hinj' hO hF' hν hk
  exact ⟨_, hK, _, _, hafter.put (renR (fun i ob h1 => updL_at s σ ν' ν mo hinj' i ob h1) (fun b hb => .inr hb) hv) (dst_lt hd)⟩

/-! ### A call that reads what is the caller's own -/
def snapV (s : St) (v : V) : V := match v with
  | .own o off len => match s.mem o with
    | some m => snapM m off len
    | none => .undef
  | v => v
def scal : D → Bool | .bool _ => true | .int _ _ => true | _ => false
def scalV : V → Bool
  | .d x => scal x
  | .tup l => l.all fun v => match v with | .d x => scal x | _ => false
  | _ => false
theorem scal_rep {w w' : World} {F F' : Nat → Prop} {x : D} {v : Value} (hs : scal x = true) (h : RepL w F x v) : RepL w' F' x v := by
  cases x with
  | bool b => have := RepL.bool_inv h; subst this; exact .bool b
  | int k n => have := RepL.int_inv h; subst this; exact .int k n
  | _ => cases hs
theorem opp_callR {K : St → Prop} {cl : Call} {g : FuncId} {args : List V} {r : V} (hr : Runs P g args r) (ho : o.op = .call cl) (hc : cl.callee = .value (.func g)) (hd : dstOk c.N o = true)
    (has : (coeL T (cl.args.toList.map s.ev) cl.argTypes.toList).map (snapV s) = args) (hp : args.all plainV = true) (hsc : scalV r = true) (hK : K (s.put o.dst r)) : OpP P c o s K := by
  unfold OpP
  rintro Q a w ⟨F, ν, h⟩
  unfold Runs at hr
  have hrun := enter_run (P := P) h ho hc hr.1
  have hav := coeL_rep T _ _ cl.argTypes.toList s.mem (args_rep h cl.args.toList)
  rw [show cl.args.toList.map a.eval = (cl.args.map a.eval).toList by simp] at hav
  have hav1 : AllR (VR1 w (Fend F ν s) (fun _ => undef) (fun _ => none)) args (cl.args.map a.eval).toList := by
    refine ⟨by rw [← has, List.length_map]; exact hav.1, fun j x u hx hu => ?_⟩
    have hpx := List.all_eq_true.1 hp x (List.mem_of_getElem? hx)
    rw [← has, List.getElem?_map] at hx
    cases hy : (coeL T (cl.args.toList.map s.ev) cl.argTypes.toList)[j]? with
    | none => rw [hy] at hx; cases hx
    | some y =>
      rw [hy] at hx
      simp only [Option.map_some, Option.some.injEq] at hx
      have hr1 := hav.2 j y u hy hu
      subst hx
      cases y with
      | own i off len =>
        simp only [snapV] at hpx ⊢
        cases hm : s.mem i with
        | none => rw [hm] at hpx; cases hpx
        | some m =>
          rw [hm] at hpx
          simp only at hpx ⊢
          have := snap_rep h hm hr1 (Fend F ν s) (fun _ hb => .inl hb) (fun b hb => .inr ⟨i, m, hm, hb⟩)
          exact plain_rep hpx this _ _
      | d x => exact RepL.frame hr1 (fun _ hb => .inl hb) (fun _ _ => rfl)
      | agg n l =>
        obtain ⟨hl, vs, hx, ha⟩ := hr1
        exact ⟨hl, vs, hx, ha.mono fun _ _ hh => hh.frame (fun _ hb => .inl hb) (fun _ _ => rfl)⟩
      | _ => cases hpx
  have hcall := hr.2 (Fend F ν s) w _ (fun b hb => by
    rcases hb with hb | ⟨i, m, h1, h2⟩
    · exact (h.fin b hb).1
    · exact MRep.lt (h.mem i m h1) h2) hav1
  unfold Oper.wp
  rw [hrun]
  show Calls P g _ w _
  rw [Array.toArray_toList] at hcall
  refine hcall.mono ?_
  rintro e w' ⟨v, F', rfl, hv, hF', hk⟩
  have hafter := h.after (F' := fun _ => False) hk (fun b hb => hb.elim)
  refine ⟨_, hK, _, _, hafter.put ?_ (dst_lt hd)⟩
  cases r with
  | d x => exact scal_rep hsc hv
  | tup l =>
    obtain ⟨vs, rfl, ha⟩ := hv
    refine ⟨vs, rfl, ha.1, fun j y u hy hu => ?_⟩
    have := List.all_eq_true.1 hsc y (List.mem_of_getElem? hy)
    have h2 := ha.2 j y u hy hu
    cases y with
    | d x => exact scal_rep this h2
    | _ => cases this
  | _ => cases hsc
end Go.Proofs.YtolkecnhncbkhaaGreat.Fw

set_option linter.unusedVariables false
set_option linter.unusedSimpArgs false
namespace Go.Proofs.YtolkecnhncbkhaaGreat.Fw
open Go
variable {P : Program} {T : TT} {c : Ctx} {F : Nat → Prop} {ν : Nat → Value} {s : St} {a : Act} {w : World} {o : Oper} {keep : List Nat}

/-! ### An object is let go of -/
def drpV (i : Nat) (v : V) : V :=
  match v with
  | .own o off len => bif Nat.beq o i then .undef else .own o off len
  | .addr o q => bif Nat.beq o i then .undef else .addr o q
  | .ela o j q => bif Nat.beq o i then .undef else .ela o j q
  | .tup _ => .undef
  | v => v
def drop1 (i : Nat) (s : St) : St := ⟨fun t => drpV i (s.env t), fun x => bif Nat.beq x i then none else s.mem x⟩
theorem drop1_mem (i : Nat) (s : St) (x : Nat) : (drop1 i s).mem x = if x = i then none else s.mem x := by
  simp only [drop1]
  by_cases e : x = i
  · subst e; simp
  · rw [beq_no e]; simp [e]
theorem SRep.drop1 (h : SRep c F ν s a w) (i : Nat) : SRep c F ν (drop1 i s) a w := by
  have hget : ∀ x obj, (Fw.drop1 i s).mem x = some obj → x ≠ i ∧ s.mem x = some obj := by
    intro x obj hx
    rw [drop1_mem] at hx
    split at hx
    · cases hx
    · exact ⟨by assumption, hx⟩
  have hlive : ∀ o, o ≠ i → ∀ obj, s.mem o = some obj → (Fw.drop1 i s).mem o = some obj := fun o ho obj hobj => by rw [drop1_mem, if_neg ho]; exact hobj
  refine ⟨h.sz, h.dfr, fun t => ?_, fun o obj ho => h.mem o obj (hget o obj ho).2, fun o obj b ho hb => h.sep o obj b (hget o obj ho).2 hb, fun o o' obj obj' b ho ho' => h.inj o o' obj obj' b (hget o obj ho).2 (hget o' obj' ho').2, h.fin, h.keep, h.base, h.nu⟩
  have he := h.env t
  show VR w _ ν _ (drpV i (s.env t)) _
  generalize s.env t = v at he ⊢
  cases v with
  | own o off len =>
    simp only [drpV]
    by_cases e : o = i
    · subst e; rw [Nat.beq_refl, cond_true]; trivial
    · rw [beq_no e, cond_false]
      obtain ⟨obj, e', sz, n, fl, A, n', cc, h1, h2⟩ := he
      exact ⟨obj, e', sz, n, fl, A, n', cc, hlive o e obj h1, h2⟩
  | addr o q =>
    simp only [drpV]
    by_cases e : o = i
    · subst e; rw [Nat.beq_refl, cond_true]; trivial
    · rw [beq_no e, cond_false]
      obtain ⟨l, a0, h1, h2⟩ := he
      exact ⟨l, a0, hlive o e _ h1, h2⟩
  | ela o j q =>
    simp only [drpV]
    by_cases e : o = i
    · subst e; rw [Nat.beq_refl, cond_true]; trivial
    · rw [beq_no e, cond_false]
      obtain ⟨obj, e', sz, n, fl, a0, n', cc, h1, h2⟩ := he
      exact ⟨obj, e', sz, n, fl, a0, n', cc, hlive o e obj h1, h2⟩
  | tup l => trivial
  | _ => exact he
/-- A new object, which may lie where one was that is let go of. -/
theorem SRep.renew (h : SRep c F ν s a w) {w' : World} {i : Nat} {obj : MO} (hiN : i < c.N) (hi : s.mem i = none) {v : Value} {old : Option Nat}
    (hold : ∀ b, old = some b → ¬ F b ∧ c.B ≤ b ∧ b < w.heap.size ∧ ∀ o ob, s.mem o = some ob → blk (ν o) ≠ some b) (hv : ∀ b, blk v = some b → w.heap.size ≤ b ∨ old = some b)
    (hg : w.grownBy w' old) (hm : MRep w' F obj v) : SRep c F (nuSet ν i v) (s.upd i obj) a w' := by
  have hF : ∀ k, F k → w'.heap[k]? = w.heap[k]? := fun k hk => hg.block k (h.fin k hk).1 (fun e => (hold k e.symm).1 hk)
  have hmo : MemOn s.mem (s.upd i obj).mem ν (nuSet ν i v) := by
    intro o ob ho
    have e : o ≠ i := fun e => by rw [e, hi] at ho; cases ho
    exact ⟨ob, by simp [upd_mem, e]; exact ho, SameSh.refl (h.mem o ob ho), by simp [nuSet, e]⟩
  have hget : ∀ o ob, (s.upd i obj).mem o = some ob → (o = i ∧ ob = obj ∧ nuSet ν i v o = v) ∨ (o ≠ i ∧ s.mem o = some ob ∧ nuSet ν i v o = ν o) := by
    intro o ob ho
    by_cases e : o = i
    · subst e; simp [upd_mem] at ho; exact .inl ⟨rfl, ho.symm, by simp [nuSet]⟩
    · simp [upd_mem, e] at ho; exact .inr ⟨e, ho, by simp [nuSet, e]⟩
  have hB : c.B ≤ w.heap.size := by rw [h.base]; exact h.keep.size
  have hlt : ∀ b, w.heap.size ≤ b ∨ old = some b → ∀ o ob, s.mem o = some ob → blk (ν o) ≠ some b := by
    intro b hb o ob ho hbo
    rcases hb with hb | hb
    · have := MRep.lt (h.mem o ob ho) hbo; omega
    · exact (hold b hb).2.2.2 o ob ho hbo
  refine ⟨h.sz, h.dfr, fun t => VR.mono (h.env t) (fun _ hb => hb) hF hmo, fun o ob ho => ?_, fun o ob b' ho hb' => ?_, fun o o' ob ob' b' ho ho' hb1 hb2 => ?_, fun k hk => ?_, ?_, h.base, fun o ho => by simp [nuSet, show o ≠ i by omega]; exact h.nu o ho⟩
  · rcases hget o ob ho with ⟨rfl, rfl, hn⟩ | ⟨hne, ho, hn⟩
    · rw [hn]; exact hm
    · rw [hn]
      exact MRep.frame (h.mem o ob ho) (fun _ hb => hb) hF (fun b' hb' => hg.block b' (MRep.lt (h.mem o ob ho) hb') (fun e => (hold b' e.symm).2.2.2 o ob ho hb'))
  · rcases hget o ob ho with ⟨rfl, rfl, hn⟩ | ⟨hne, ho, hn⟩
    · rw [hn] at hb'
      rcases hv b' hb' with h1 | h1
      · exact ⟨fun hf => by have := (h.fin b' hf).1; omega, .inl (by omega)⟩
      · exact ⟨(hold b' h1).1, .inl (hold b' h1).2.1⟩
    · rw [hn] at hb'
      exact h.sep _ ob b' ho hb'
  · rcases hget o ob ho with ⟨he, _, hn⟩ | ⟨hne, hoo, hn⟩ <;> rcases hget o' ob' ho' with ⟨he', _, hn'⟩ | ⟨hne', hoo', hn'⟩
    · rw [he, he']
    · rw [hn] at hb1; rw [hn'] at hb2
      exact (hlt b' (hv b' hb1) o' ob' hoo' hb2).elim
    · rw [hn] at hb1; rw [hn'] at hb2
      exact (hlt b' (hv b' hb2) o ob hoo hb1).elim
    · rw [hn] at hb1; rw [hn'] at hb2
      exact h.inj o o' ob ob' b' hoo hoo' hb1 hb2
  · have := h.fin k hk
    have := hg.size
    exact ⟨by omega, (h.fin k hk).2⟩
  · exact h.keep.trans ⟨hg.os, hg.tape, hg.output, hg.size, fun k hk _ => hg.block k (by omega) (fun e => by have := (hold k e.symm).2.1; omega)⟩
theorem ownsRow_base {base : Nat} {e : TypeId} {size : Nat} {v : Value} {n : Nat} {xs : List Value} (h : w.ownsRow base e size v n xs) : w.ownsRow 0 e size v n xs := by
  refine ⟨h.1, ?_⟩
  rcases h.2 with h2 | ⟨g, cap, cur, h3, h4, h5⟩
  · exact .inl h2
  · exact .inr ⟨g, cap, cur, h3, Nat.zero_le _, h5⟩
theorem run_append_empty {t e : TypeId} (ty : TypeId) {i : TypeInfo} {size : Nat} (ht : P.underlying t = some (.slice e)) (hi : P.info? e = some i) {v : Value} {n : Nat} {xs : List Value} (hown : w.ownsRow 0 e size v n xs) (cc : Nat) :
    (Builtin.append_ #[t, t] ty #[v, .slice none 0 cc]).run P w = .ok v w := by
  rcases hown.2 with ⟨rfl, rfl⟩ | ⟨g, cap, cur, rfl, _, _, hnc, _⟩
  · simp [Builtin.append_, run_underlying ht, sizeOf, typeInfo, hi, Builtin.lenOf, Builtin.firstCells]
  · simp [Builtin.append_, run_underlying ht, sizeOf, typeInfo, hi, Builtin.lenOf, Builtin.firstCells, hnc, storeCells]
theorem append_run {t e : TypeId} (ty : TypeId) {i : TypeInfo} {z : Value} {size : Nat} (ht : P.underlying t = some (.slice e)) (hi : P.info? e = some i) (hz : i.zero = some z) (hsize : i.size = size) (hzs : z.cells.size = size) (hsz : 0 < size)
    {v : Value} {n : Nat} {xs : List Value} (hown : w.ownsRow 0 e size v n xs) (A : Option Addr) (m cc : Nat) (news : List Value) (hl : news.length = m * size) (hnews : ∀ (j : Nat) u, news[j]? = some u → ∃ ad, A = some ad ∧ w.cell? (ad.add j) = some u) (h1 : ∀ u ∈ news, u.oneCell' = true)
    (h63 : n + m ≤ maxLen) (hbytes : (n + m) * i.bytes ≤ 140737488355328) :
    ∃ v' w', (Builtin.append_ #[t, t] ty #[v, .slice A m cc]).run P w = .ok v' w' ∧ w'.ownsRow 0 e size v' (n + m) (xs ++ news) ∧ w.grownBy w' v.ownBlock ∧ (∀ b, blk v' = some b → w.heap.size ≤ b ∨ blk v = some b) := by
  cases A with
  | none =>
    have hn : news = [] := by
      cases news with
      | nil => rfl
      | cons u us => obtain ⟨ad, h, _⟩ := hnews 0 u rfl; cases h
    subst hn
    have hm : m = 0 := by
      rcases Nat.eq_zero_or_pos m with h | h
      · exact h
      · have := Nat.mul_pos h hsz; simp at hl; omega
    subst hm
    exact ⟨v, w, run_append_empty ty ht hi hown cc, by simpa using hown, ⟨rfl, rfl, rfl, Nat.le_refl _, fun _ _ _ => rfl⟩, fun b hb => .inr hb⟩
  | some ad =>
    have hnews' : ∀ (j : Nat) u, news[j]? = some u → w.cell? (ad.add j) = some u := fun j u hu => by
      obtain ⟨ad', h, h2⟩ := hnews j u hu
      cases h
      exact h2
    rcases hown.2 with ⟨rfl, rfl⟩ | ⟨g, cap, cur, rfl, hbg, hg, hnc, hcm, hcs, htake⟩
    · have hx : xs = [] := List.eq_nil_of_length_eq_zero (by simpa using hown.1)
      subst hx
      obtain ⟨v', w', h2, h3, h4, _⟩ := run_append_own (P := P) w w.heap.size t ty e i z size i.bytes ht hi hz hsize rfl hzs hsz _ _ _ (World.ownsRow_nil w w.heap.size e size) ad m cc news hl hnews' h1 h63 hbytes (Nat.le_refl _)
      refine ⟨v', w', h2, ownsRow_base h3, h4, fun b hb => .inl ?_⟩
      refine (h3.lt b ?_).1
      cases v' with
      | slice A' _ _ => cases A' with
        | none => cases hb
        | some _ => exact hb
      | pointer A' =>
        rcases h3.2 with ⟨h5, _⟩ | ⟨_, _, _, h5, _⟩ <;> cases h5
      | _ => cases hb
    · obtain ⟨v', w', h2, h3, h4, _⟩ := run_append_own (P := P) w 0 t ty e i z size i.bytes ht hi hz hsize rfl hzs hsz _ _ _ hown ad m cc news hl hnews' h1 h63 hbytes (Nat.zero_le _)
      refine ⟨v', w', h2, h3, h4, fun b hb => ?_⟩
      by_cases hroom : n + m ≤ cap
      · obtain ⟨w2, h5, _⟩ := run_append_fits (P := P) w 0 t ty e i size ht hi hsize g n cap xs hown ad m cc news hl hnews' h1 hroom
        rw [h5] at h2
        injection h2 with h2
        subst h2
        exact .inr hb
      · have holds : ∀ (j : Nat) u, xs[j]? = some u → w.cell? ((⟨g, 0, none⟩ : Addr).add j) = some u := hown.cells (g := g) rfl
        have hsmall : n + m ≤ 9223372036854775807 := by simp only [maxLen] at h63; omega
        subst hsize
        have hr := run_append_grow (P := P) w t ty e i z ht hi hz ⟨g, 0, none⟩ n cap xs hown.1 holds ad m cc news hl hnews' (by omega) (by omega) (growslice_fits (by omega) hbytes)
        rw [hr] at h2
        injection h2 with h2
        subst h2
        simp only [blk, Option.some.injEq] at hb
        exact .inl (by omega)
/-- Of a source of cells: what it is. -/
def srcOf (T : TT) (e : TypeId) : V → Option (Nat × List D)
  | .d x => match x.sl? with
    | some (sz, m, fl) => bif Nat.beq sz (T e).sz then some (m, fl) else none
    | none => none
  | .nils => some (0, [])
  | _ => none
theorem src_rep {e : TypeId} {v : V} {x : Value} {mm : Mem} (h : VR w F ν mm v x) {m : Nat} {fl : List D} (hs : srcOf T e v = some (m, fl)) (hall : fl.length = m * (T e).sz) : ∃ A cc news, x = .slice A m cc ∧ AllR (RepL w F) fl news ∧ (∀ (j : Nat) u, news[j]? = some u → ∃ ad, A = some ad ∧ w.cell? (ad.add j) = some u) := by
  unfold srcOf at hs
  split at hs
  · rename_i y
    split at hs
    · rename_i sz m' fl' hsl
      cases hb : Nat.beq sz (T e).sz with
      | false => rw [hb] at hs; cases hs
      | true =>
        rw [hb, cond_true] at hs
        cases hs
        obtain ⟨A, cc, cs, e1, hn, hc, ha, hcell⟩ := RepL.sl_inv h hsl
        exact ⟨A, cc, cs, e1, ha, fun j u hu => by obtain ⟨ad, h1, _, h2⟩ := hcell j u hu; exact ⟨ad, h1, h2⟩⟩
    · cases hs
  · cases hs
    exact ⟨none, 0, [], h, AllR.nil, fun j u hu => by simp at hu⟩
  · cases hs
theorem MRep.ofRow {obj : MO} {v : Value} {e sz n : Nat} {fl : List D} {cs : List Value} (hr : obj.row? = some (e, sz, n, fl)) (hz : 0 < sz) (ho : w.ownsRow 0 e sz v n cs) (ha : AllR (RepL w F) fl cs) : MRep w F obj v := by
  have : ∃ e' sz n' fl cs', obj.row? = some (e', sz, n', fl) ∧ 0 < sz ∧ w.ownsRow 0 e' sz v n' cs' ∧ AllR (RepL w F) fl cs' := ⟨e, sz, n, fl, cs, hr, hz, ho, ha⟩
  cases obj with
  | box l => simp [MO.row?] at hr
  | words _ _ => exact this
  | rows _ _ _ => exact this
theorem own_zero {e sz n : Nat} {fl : List D} {obj : MO} {i len : Nat} {v : Value} (h : SRep c F ν s a w) (hm : s.mem i = some obj) (hr : obj.row? = some (e, sz, n, fl)) (hlen : len = n) (hv : VR w F ν s.mem (.own i 0 len) v) : v = ν i := by
  obtain ⟨obj', e', sz', n', fl', A, n2, cc, h1, h2, h3, h4, h5, h6⟩ := hv
  rw [hm] at h1
  cases h1
  rw [hr] at h2
  simp only [Option.some.injEq, Prod.mk.injEq] at h2
  obtain ⟨rfl, rfl, rfl, rfl⟩ := h2
  obtain ⟨cs, hz0, how, ha⟩ := row_inv h hm hr
  have hn2 : n2 = n := by
    rcases how.2 with ⟨h7, h8⟩ | ⟨g, cap, cur, h7, _⟩
    · rw [h5] at h7; injection h7 with _ h7 _; omega
    · rw [h5] at h7; injection h7 with _ h7 _
  rw [h6, h5, hn2, hlen]
  simp only [Nat.zero_mul, Nat.sub_zero]
  cases A with
  | none => rfl
  | some ad => simp [Addr.add]
/-- append to a row of the call's own, which is let go of. -/
theorem opp_append_own (hT : TAll P T) {K : St → Prop} {x y : Operand} {t e : TypeId} {i j len n m : Nat} {fl fl2 : List D} {obj obj2 : MO} (ho : o.op = .call ⟨.builtin .append, #[x, y], #[t, t]⟩) (hd : dstOk c.N o = true) (ht : (T t).k = .sl e) (he : (T e).k.ok = true)
    (hx : s.ev x = .own i 0 len) (hm : s.mem i = some obj) (hr : obj.row? = some (e, (T e).sz, n, fl)) (hlen : len = n) (hy : srcOf T e (s.ev y) = some (m, fl2)) (hfl : fl2.length = m * (T e).sz) (hiN : i < c.N) (hjN : j < c.N) (hj : j = i ∨ s.mem j = none)
    (hr2 : obj2.row? = some (e, (T e).sz, n + m, fl ++ fl2)) (hb : (n + m) * ((T e).bytes + 1) ≤ 140737488355328)
    (hK : K (((drop1 i s).upd j obj2).put o.dst (.own j 0 (n + m)))) : OpP P c o s K := by
  unfold OpP
  rintro Q a w ⟨F, ν, h⟩
  have hxr := ev_rep h x
  have hyr := ev_rep h y
  rw [hx] at hxr
  have hv := own_zero h hm hr hlen hxr
  obtain ⟨cs, hz0, how, ha⟩ := row_inv h hm hr
  obtain ⟨A, cc, news, hye, hna, hnc⟩ := src_rep hyr hy hfl
  obtain ⟨dd, hu, hf⟩ := und_of hT ht rfl
  simp only [TK.fits] at hf
  subst hf
  obtain ⟨h1, h2, h3, h4⟩ := hT e he
  obtain ⟨ti, z, hi, hisz, hib, hzz, hc⟩ := h1.all
  have hmul : (n + m) * ((T e).bytes + 1) = (n + m) * (T e).bytes + (n + m) := by rw [Nat.mul_add, Nat.mul_one]
  obtain ⟨v', w', hrun, how', hg, hblk⟩ := append_run (P := P) o.type hu hi hzz hisz (by rw [hc]; simp [h3]) hz0 how A m cc news (by rw [← hna.1]; exact hfl) hnc (fun u hu => by
      obtain ⟨j, hj⟩ := List.getElem?_of_mem hu
      have hlt := (List.getElem?_eq_some_iff.1 hj).1
      rw [← hna.1] at hlt
      exact (hna.2 j fl2[j] u (by simp [hlt]) hj).one) (by unfold maxLen; omega) (by rw [hib]; omega)
  have hdr := h.drop1 i
  have hF : ∀ k, F k → w'.heap[k]? = w.heap[k]? := fun k hk => hg.block k (h.fin k hk).1 (fun e => by
    have : blk (ν i) = some k := by
      revert e
      cases ν i with
      | slice A _ _ => cases A <;> simp [Value.ownBlock, blk] <;> (intro e; exact e.symm)
      | _ => simp [Value.ownBlock]
    exact (h.sep i obj k hm this).1 hk)
  have hown : ∀ b, (ν i).ownBlock = some b → blk (ν i) = some b := by
    intro b
    cases ν i with
    | slice A _ _ => cases A <;> simp [Value.ownBlock, blk]
    | _ => simp [Value.ownBlock]
  have hown' : ∀ b, blk (ν i) = some b → (ν i).ownBlock = some b := by
    intro b hb
    rcases how.2 with ⟨h7, _⟩ | ⟨g, cap, cur, h7, _⟩
    · rw [h7] at hb; cases hb
    · rw [h7] at hb ⊢; exact hb
  have hrep : MRep w' F obj2 v' := MRep.ofRow hr2 hz0 how' ((ha.mono fun _ _ hh => hh.frame (fun _ hb => hb) hF).app (hna.mono fun _ _ hh => hh.frame (fun _ hb => hb) hF))
  have hnew := hdr.renew (w' := w') (i := j) (obj := obj2) hjN (by
    rw [drop1_mem]
    rcases hj with rfl | hj
    · simp
    · split
      · rfl
      · exact hj) (v := v') (old := (ν i).ownBlock) (fun b hb => by
    have hbb := hown b hb
    have hs := h.sep i obj b hm hbb
    refine ⟨hs.1, by rcases hs.2 with h5 | h5 <;> omega, MRep.lt (h.mem i obj hm) hbb, fun o ob hoo hbo => ?_⟩
    rw [drop1_mem] at hoo
    split at hoo
    · cases hoo
    · rename_i hne
      exact hne (h.inj o i ob obj b hoo hm hbo hbb)) (fun b hb => by
    rcases hblk b hb with h5 | h5
    · exact .inl h5
    · exact .inr (hown' b h5)) hg hrep
  refine wp_val (w' := w') (x := v') (exec_builtin ho (n := .value v') (fun cs => ?_)) ⟨_, hK, F, _, hnew.put ?_ (dst_lt hd)⟩
  · have : (#[x, y] : Array Operand).map a.eval = #[a.eval x, a.eval y] := by simp
    rw [this, hv, hye]
    show (do pure (.value (← Builtin.append_ #[t, t] o.type #[ν i, .slice A m cc])) : Sem Next).run P w = _
    simp only [Sem.run_bind, hrun, Result.andThen_ok, Sem.run_pure]
  · rcases how'.2 with ⟨h7, h8⟩ | ⟨g, cap, cur, h7, _⟩
    · subst h7
      refine ⟨obj2, e, (T e).sz, n + m, _, none, 0, 0, by rw [upd_mem]; simp, hr2, by omega, .inl rfl, by simp [nuSet], ?_⟩
      rw [h8]
      simp
    · subst h7
      refine ⟨obj2, e, (T e).sz, n + m, _, some ⟨g, 0, none⟩, n + m, cap, by rw [upd_mem]; simp, hr2, by omega, .inl rfl, by simp [nuSet], ?_⟩
      simp [Addr.add]
/-- append to nil. -/
theorem opp_append_nils (hT : TAll P T) {K : St → Prop} {x y : Operand} {t e : TypeId} {j m : Nat} {fl2 : List D} {obj2 : MO} (ho : o.op = .call ⟨.builtin .append, #[x, y], #[t, t]⟩) (hd : dstOk c.N o = true) (ht : (T t).k = .sl e) (he : (T e).k.ok = true) (hz0 : 0 < (T e).sz)
    (hx : s.ev x = .nils) (hy : srcOf T e (s.ev y) = some (m, fl2)) (hfl : fl2.length = m * (T e).sz) (hjN : j < c.N) (hj : s.mem j = none)
    (hr2 : obj2.row? = some (e, (T e).sz, m, fl2)) (hb : m * ((T e).bytes + 1) ≤ 140737488355328)
    (hK : K ((s.upd j obj2).put o.dst (.own j 0 m))) : OpP P c o s K := by
  unfold OpP
  rintro Q a w ⟨F, ν, h⟩
  have hxr := ev_rep h x
  have hyr := ev_rep h y
  rw [hx] at hxr
  have hv : a.eval x = .slice none 0 0 := hxr
  obtain ⟨A, cc, news, hye, hna, hnc⟩ := src_rep hyr hy hfl
  obtain ⟨dd, hu, hf⟩ := und_of hT ht rfl
  simp only [TK.fits] at hf
  subst hf
  obtain ⟨h1, h2, h3, h4⟩ := hT e he
  obtain ⟨ti, z, hi, hisz, hib, hzz, hc⟩ := h1.all
  have hmul : m * ((T e).bytes + 1) = m * (T e).bytes + m := by rw [Nat.mul_add, Nat.mul_one]
  obtain ⟨v', w', hrun, how', hg, hblk⟩ := append_run (P := P) o.type hu hi hzz hisz (by rw [hc]; simp [h3]) hz0 (World.ownsRow_nil w 0 e (T e).sz) A m cc news (by rw [← hna.1]; exact hfl) hnc (fun u hu => by
      obtain ⟨j, hj⟩ := List.getElem?_of_mem hu
      have hlt := (List.getElem?_eq_some_iff.1 hj).1
      rw [← hna.1] at hlt
      exact (hna.2 j fl2[j] u (by simp [hlt]) hj).one) (by unfold maxLen; omega) (by rw [hib, Nat.zero_add]; omega)
  rw [Nat.zero_add, List.nil_append] at how'
  have hF : ∀ k, F k → w'.heap[k]? = w.heap[k]? := fun k hk => hg.block k (h.fin k hk).1 (fun e => by simp [Value.ownBlock] at e)
  have hrep : MRep w' F obj2 v' := MRep.ofRow hr2 hz0 how' (hna.mono fun _ _ hh => hh.frame (fun _ hb => hb) hF)
  have hnew := h.renew (w' := w') (i := j) (obj := obj2) hjN hj (v := v') (old := none) (fun b hb => by cases hb) (fun b hb => by
    rcases hblk b hb with h5 | h5
    · exact .inl h5
    · cases h5) hg hrep
  refine wp_val (w' := w') (x := v') (exec_builtin ho (n := .value v') (fun cs => ?_)) ⟨_, hK, F, _, hnew.put ?_ (dst_lt hd)⟩
  · have : (#[x, y] : Array Operand).map a.eval = #[a.eval x, a.eval y] := by simp
    rw [this, hv, hye]
    show (do pure (.value (← Builtin.append_ #[t, t] o.type #[.slice none 0 0, .slice A m cc])) : Sem Next).run P w = _
    simp only [Sem.run_bind, hrun, Result.andThen_ok, Sem.run_pure]
  · rcases how'.2 with ⟨h7, h8⟩ | ⟨g, cap, cur, h7, _⟩
    · subst h7
      refine ⟨obj2, e, (T e).sz, m, _, none, 0, 0, by rw [upd_mem]; simp, hr2, by omega, .inl rfl, by simp [nuSet], ?_⟩
      rw [h8]
      simp
    · subst h7
      refine ⟨obj2, e, (T e).sz, m, _, some ⟨g, 0, none⟩, m, cap, by rw [upd_mem]; simp, hr2, by omega, .inl rfl, by simp [nuSet], ?_⟩
      simp [Addr.add]
end Go.Proofs.YtolkecnhncbkhaaGreat.Fw

set_option linter.unusedVariables false
set_option linter.unusedSimpArgs false
namespace Go.Proofs.YtolkecnhncbkhaaGreat.Fw
open Go
variable {P : Program} {T : TT} {c : Ctx} {F : Nat → Prop} {ν : Nat → Value} {s : St} {a : Act} {w : World} {o : Oper} {keep : List Nat}

/-- A literal that becomes a row of the call's own. -/
theorem opp_lit (hT : TAll P T) {K : St → Prop} {t e : TypeId} {d n : Nat} {ps : Array (Nat × Operand)} {l : List (List D)} {obj : MO} (ho : o.op = .buildSlice t n ps) (hd : o.dst = some d) (hdN : d < c.N) (ht : (T t).k = .sl e) (hek : (T e).k.ok = true) (hz : 0 < (T e).sz)
    (hl : elems T e 0 (ps.toList.map fun (i, x) => (i, s.ev x)) = some l) (hn : l.length = n) (hle : n * (T e).sz ≤ 1000) (hm : s.mem d = none) (hr : obj.row? = some (e, (T e).sz, n, l.flatten))
    (hK : K ((s.upd d obj).put (some d) (.own d 0 n))) : OpP P c o s K := by
  unfold OpP
  rintro Q a w ⟨F, ν, h⟩
  obtain ⟨dd, hu, hf⟩ := und_of hT ht rfl
  simp only [TK.fits] at hf
  subst hf
  obtain ⟨h1, h2, h3, h4⟩ := hT e hek
  obtain ⟨i, z, hi, hisz, _, hzz, hc⟩ := h1.all
  have hel := elems_len T e _ 0 l hl
  rw [List.length_map] at hel
  have hzs : z.cells.size = (T e).sz := by rw [hc]; simp [h3]
  obtain ⟨cells', hfill, ha⟩ := fill_elems (F := F) (ν := ν) (w := w) (s := s) (a := a) hz ps.toList 0 l [] ((Array.range (n * (T e).sz)).map (z.cells[· % z.cells.size]!)) (fun p _ => ev_rep h p.2) (by simp) (by simpa using AllR.nil) (by
      simp only [Array.size_map, Array.size_range, Nat.zero_add]; rw [← hn, hel.1]) hl
  rw [List.nil_append] at ha
  have hsz : cells'.size = n * (T e).sz := by
    have := ha.1
    rw [flat_len l hel.2, hn] at this
    simpa using this.symm
  have hold : ∀ k, k < w.heap.size → (w.alloc (.cells cells' e)).heap[k]? = w.heap[k]? := fun k hk => RowKit.Below.heap_alloc w _ k hk
  have how := World.ownsRow_lit (base := 0) (e := e) (size := (T e).sz) w cells' n (Nat.zero_le _) (by
    have : n ≤ n * (T e).sz := Nat.le_mul_of_pos_right _ hz
    unfold maxLen
    omega) hsz
  have hrep : MRep (w.alloc (.cells cells' e)) F obj (.slice (some ⟨w.heap.size, 0, none⟩) n n) := MRep.ofRow hr hz how (ha.mono fun _ _ hh => hh.frame (fun _ hb => hb) (fun k hk => hold k (h.fin k hk).1))
  have hnew := h.new (w' := w.alloc (.cells cells' e)) (i := d) (obj := obj) hdN hm (v := .slice (some ⟨w.heap.size, 0, none⟩) n n) (fun b hb => by simp [blk] at hb; omega) rfl rfl rfl (by simp) hold hrep
  refine wp_val (w' := w.alloc (.cells cells' e)) (x := .slice (some ⟨w.heap.size, 0, none⟩) n n) (exec_val (m := Instr.buildSlice t n (ps.map fun (i, x) => (i, a.eval x))) (by unfold execOp; rw [ho]) ?_) ⟨_, hK, F, nuSet ν d (.slice (some ⟨w.heap.size, 0, none⟩) n n), ?_⟩
  · unfold Instr.buildSlice
    have hle2 : ¬ (n * (T e).sz > 2 ^ 24) := by omega
    by_cases h0 : n * (T e).sz = 0
    · have e0 : ((Array.range (n * (T e).sz)).map (z.cells[· % z.cells.size]!)) = #[] := by rw [h0]; simp
      rw [e0] at hfill
      simp only [Sem.run_bind, run_und hu, Result.andThen_ok, run_szOf h1.size, if_neg hle2, if_pos h0, Sem.run_pure]
      rw [h0]
      have e1 : (Array.map (fun (x : Nat) => (#[] : Array Value)[x % (#[] : Array Value).size]!) (Array.range 0)) = #[] := by simp
      rw [e1, Array.toList_map, hfill]
      simp only [Sem.run_bind, newRow, run_newObj, Result.andThen_ok, Sem.run_pure]
      rfl
    · simp only [Sem.run_bind, run_und hu, Result.andThen_ok, run_szOf h1.size, if_neg hle2, if_neg h0, Sem.run_pure, zeroValue, typeInfo, run_program, hi, hzz]
      rw [Array.toList_map, hfill]
      simp only [Sem.run_bind, newRow, run_newObj, Result.andThen_ok, Sem.run_pure]
      rfl
  · have := hnew.put (o := some d) (v := .own d 0 n) (x := .slice (some ⟨w.heap.size, 0, none⟩) n n) (by
      refine ⟨obj, e, _, n, _, some ⟨w.heap.size, 0, none⟩, n, n, by simp [upd_mem], hr, by omega, .inl rfl, by simp [nuSet], ?_⟩
      simp [Addr.add]) (fun d' hd' => by injection hd' with hd'; subst hd'; exact hdN)
    rw [hd]
    exact this

/-- copy into a row of words. -/
theorem opp_copy (hT : TAll P T) {K : St → Prop} {x y : Operand} {t t' e : TypeId} {i len : Nat} {l m : List Int} (ho : o.op = .call ⟨.builtin .copy, #[x, y], #[t, t']⟩) (hd : dstOk c.N o = true) (ht : (T t).k = .sl e) (he : (T e).k.ok = true) (hsz : (T e).sz = 1)
    (hx : s.ev x = .own i 0 len) (hm : s.mem i = some (.words e l)) (hlen : len = l.length) (hy : s.ev y = .d (.words m)) (hml : m.length ≤ l.length)
    (hK : K ((s.upd i (.words e (m ++ l.drop m.length))).put o.dst (.d (.int .i64 (m.length : Int))))) : OpP P c o s K := by
  unfold OpP
  rintro Q a w ⟨F, ν, h⟩
  have hxr := ev_rep h x
  have hyr := ev_rep h y
  rw [hx] at hxr
  rw [hy] at hyr
  have hr : (MO.words e l).row? = some (e, 1, l.length, l.map wd) := rfl
  have hv := own_zero h hm hr hlen hxr
  obtain ⟨cs, hz0, how, ha⟩ := row_inv h hm hr
  obtain ⟨A, cc, cs2, hye, hn, hc, ha2, hcell⟩ := RepL.sl_inv hyr (sz := 1) (n := m.length) (fl := m.map wd) rfl
  obtain ⟨dd, hu, hf⟩ := und_of hT ht rfl
  simp only [TK.fits] at hf
  subst hf
  obtain ⟨h1, h2, h3, h4⟩ := hT e he
  obtain ⟨ti, z, hi, hisz, hib, hzz, hcz⟩ := h1.all
  rw [hsz] at hisz
  have hcs2 : cs2.length = m.length := by have := ha2.1; simpa using this.symm
  have hargs : (#[x, y] : Array Operand).map a.eval = #[a.eval x, a.eval y] := by simp
  have run : ∀ w' v, (Builtin.copy_ #[t, t'] o.type #[ν i, .slice A m.length cc]).run P w = .ok v w' → (execOp a.eval o).run P w = .ok (.value v) w' := fun w' v hrun => exec_builtin ho (n := .value v) (fun cs => by
    rw [hargs, hv, hye]
    show (do pure (.value (← Builtin.copy_ #[t, t'] o.type #[ν i, .slice A m.length cc])) : Sem Next).run P w = _
    simp only [Sem.run_bind, hrun, Result.andThen_ok, Sem.run_pure])
  by_cases hm0 : m = []
  · subst hm0
    have hK' : K ((s.upd i (.words e l)).put o.dst (.d (.int .i64 0))) := hK
    have hsame : Weak c (s.upd i (.words e l)) s := by
      unfold Weak
      rintro a w ⟨F, ν, h⟩
      have e1 : (s.upd i (.words e l)) = s := by
        unfold St.upd
        congr
        funext x
        by_cases ex : x = i
        · subst ex; rw [Nat.beq_refl, cond_true, hm]
        · rw [beq_no ex, cond_false]
      rw [e1]
      exact ⟨F, ν, h⟩
    have hrun : (Builtin.copy_ #[t, t'] o.type #[ν i, .slice A 0 cc]).run P w = .ok (goInt 0) w := by
      rcases how.2 with ⟨h7, h8⟩ | ⟨g, cap, cur, h7, _⟩
      · rw [h7]
        cases A <;> simp [Builtin.copy_, run_underlying hu, Builtin.lenOf, Builtin.firstCells, sizeOf, typeInfo, hi, storeCells, loadCells, loadCellsFrom, hisz]
      · rw [h7]
        cases A <;> simp [Builtin.copy_, run_underlying hu, Builtin.lenOf, Builtin.firstCells, sizeOf, typeInfo, hi, storeCells, loadCells, loadCellsFrom, hisz]
    unfold Weak at hsame
    obtain ⟨F1, ν1, h1'⟩ := hsame a w ⟨F, ν, h⟩
    exact wp_val (run w _ hrun) ⟨_, hK', F1, ν1, h1'.put (VR.int _ _ _ _ _ _) (dst_lt hd)⟩
  · have hmp : 0 < m.length := List.length_pos_iff.2 hm0
    obtain ⟨ad, hA, _⟩ := hcell 0 (cs2[0]'(by omega)) (List.getElem?_eq_getElem (by omega))
    subst hA
    rcases how.2 with ⟨h7, h8⟩ | ⟨g, cap, cur, h7, hbg, hg, hnc, hcm, hcs, htake⟩
    · exfalso; omega
    have hcsl : cs.length = l.length := by have := how.1; simpa using this
    have hrun := run_copy_row P w t t' o.type e g 0 l.length cap ad m.length cc cur e cs2 hu (by rw [hi]; simp [hisz]) hg (by rw [hcs2]; simp only [Nat.min_def]; split <;> omega) (fun j v hj => by
      obtain ⟨ad', e1, _, e2⟩ := hcell j v hj
      cases e1
      exact e2) (by rw [hcs, Nat.mul_one, hcs2]; omega) (fun u hu => by
        obtain ⟨j, hj⟩ := List.getElem?_of_mem hu
        have hlt := (List.getElem?_eq_some_iff.1 hj).1
        have hltm : j < (m.map wd).length := by rw [List.length_map]; omega
        exact (ha2.2 j (m.map wd)[j] u (List.getElem?_eq_getElem hltm) hj).one)
    rw [← h7] at hrun
    have hrun' := run _ _ hrun
    have hww := own_write how h7 cur hg 0 cs2 (by rw [hcs2, Nat.mul_one]; omega)
    obtain ⟨W, hW⟩ : ∃ W, W = w.setRow g (cur.toList.take 0 ++ cs2 ++ cur.toList.drop (0 + cs2.length)).toArray := ⟨_, rfl⟩
    rw [← hW] at hrun' hww
    have hb : blk (ν i) = some g := by rw [h7]; rfl
    have hsep := h.sep i _ g hm hb
    have hoth : ∀ k, k ≠ g → W.heap[k]? = w.heap[k]? := fun k hk => by rw [hW]; exact setRow_other _ _ _ _ hk
    have fr : ∀ x u, RepL w F x u → RepL W F x u := fun x u hh => hh.frame (fun _ hb => hb) (fun k hk => hoth k (fun e => hsep.1 (e ▸ hk)))
    have hlen2 : (m ++ l.drop m.length).length = l.length := by simp; omega
    have hr2 : (MO.words e (m ++ l.drop m.length)).row? = some (e, 1, l.length, m.map wd ++ (l.map wd).drop m.length) := by
      simp only [MO.row?, List.map_append, List.map_drop, hlen2]
    have hwr := h.write (w' := W) hm (.inr ⟨e, 1, l.length, _, _, hr, hr2⟩) hb (by rw [hW]; rfl) (by rw [hW]; rfl) (by rw [hW]; rfl) (by rw [hW]; exact setRow_size _ _ _) hoth (MRep.ofRow hr2 (by omega) hww (by
      simp only [List.take_zero, List.nil_append, Nat.zero_add, hcs2]
      exact (ha2.mono fr).app ((ha.drop _).mono fr)))
    refine wp_val hrun' ⟨_, hK, F, ν, ?_⟩
    rw [hcs2]
    exact hwr.put (VR.int _ _ _ _ _ _) (dst_lt hd)

/-! ### A fresh row that is handed back is also only read -/
def snapL (mo : List (Nat × MO)) : V → V
  | .own o off len => match memL mo o with
    | some m => snapM m off len
    | none => .undef
  | v => v
def snapR (mo : List (Nat × MO)) : V → V
  | .tup l => .tup (l.map (snapL mo))
  | v => snapL mo v
def okSnap : V → Bool
  | .d _ => true
  | .agg _ _ => true
  | _ => false
def okSnapR : V → Bool
  | .tup l => l.all okSnap
  | v => okSnap v
theorem snap_objs {F' : Nat → Prop} (hFw : ∀ b, F b → b < w.heap.size) {S : Nat → Nat → Prop} {mo : List (Nat × MO)} (h : Objs w F ν (memL mo) S) {x : V} {v : Value} (hv : VR1 w F ν (memL mo) x v) (hk : okSnap (snapL mo x) = true) (hF : ∀ b, F b → F' b) (hb : ∀ o m b, memL mo o = some m → blk (ν o) = some b → F' b) : VR1 w F' (fun _ => undef) (fun _ => none) (snapL mo x) v := by
  cases x with
  | d y => exact RepL.frame hv hF (fun _ _ => rfl)
  | agg n l =>
    obtain ⟨hl, vs, hx, ha⟩ := hv
    exact ⟨hl, vs, hx, ha.mono fun _ _ hh => hh.frame hF (fun _ _ => rfl)⟩
  | own o off len =>
    simp only [snapL] at hk ⊢
    cases hm : memL mo o with
    | none => rw [hm] at hk; cases hk
    | some m =>
      rw [hm] at hk
      simp only at hk ⊢
      -- a state that has just these objects
      obtain ⟨n, hn⟩ : ∃ n : Nat, n = w.heap.size := ⟨_, rfl⟩
      have hs : SRep ⟨0, 0, fun _ => True, F, { w with heap := #[] }, ν⟩ F ν ⟨fun _ => .undef, memL mo⟩ { tmps := #[], defers := [] } w :=
        ⟨rfl, rfl, fun t => trivial, h.rep, fun o obj b h1 h2 => ⟨(h.sep o obj b h1 h2).1, .inl (Nat.zero_le _)⟩, h.inj, fun b hb => ⟨hFw b hb, .inl hb⟩, ⟨rfl, rfl, rfl, Nat.zero_le _, fun k hk _ => (Nat.not_lt_zero k hk).elim⟩, rfl, fun _ _ => rfl⟩
      have := snap_rep hs hm (v := v) (VR.of1 hv) F' hF (fun b hb' => hb o m b hm hb')
      exact VR.to1 this (fun l hl => by rw [hl] at hk; cases hk)
  | _ => cases hk
theorem snapR_tup {mo : List (Nat × MO)} {x : V} (h : okSnap (snapL mo x) = true) : snapR mo x = snapL mo x := by
  cases x with
  | tup l => cases h
  | _ => rfl
theorem runs_of_G {g : FuncId} {args : List V} {r : V} {mo : List (Nat × MO)} (h : RunsG P g args [] r mo) (hp : args.all plainV = true) (hok : okSnapR (snapR mo r) = true) : Runs P g args (snapR mo r) := by
  unfold RunsG at h
  unfold Runs
  refine ⟨h.1, fun F w vals hF ha => ?_⟩
  have ha' : AllR (VR1 w F (fun _ => undef) (memL [])) args vals := ha
  refine (h.2 F (fun _ => undef) w vals hF ha' ⟨fun o obj ho => (by cases ho), fun o obj b ho => (by cases ho), fun o o' obj obj' b ho => (by cases ho)⟩).mono ?_
  rintro e w' ⟨v, F', ν', rfl, hv, hO, hF', hν, hk⟩
  have hnb : ∀ b, ¬ BlkOf (fun _ => undef) (memL []) b := fun b ⟨o, obj, ho, _⟩ => by cases ho
  refine ⟨v, fun b => F' b ∨ BlkOf ν' (memL mo) b, rfl, ?_, fun b hb => ?_, ⟨hk.os, hk.tape, hk.output, hk.size, fun k hk' _ => hk.block k hk' (hnb k)⟩⟩
  · have key : ∀ {x : V} {u : Value}, okSnap (snapL mo x) = true → VR1 w' F' ν' (memL mo) x u → VR1 w' (fun b => F' b ∨ BlkOf ν' (memL mo) b) (fun _ => undef) (fun _ => none) (snapL mo x) u :=
      fun hk hv => snap_objs (fun b hb => (hF' b hb).1) hO hv hk (fun b hb => .inl hb) (fun o m b h1 h2 => .inr ⟨o, m, h1, h2⟩)
    cases r with
    | tup l =>
      obtain ⟨vs, rfl, ha⟩ := hv
      refine ⟨vs, rfl, by rw [List.length_map]; exact ha.1, fun j y u hy hu => ?_⟩
      rw [List.getElem?_map] at hy
      cases hl : l[j]? with
      | none => rw [hl] at hy; cases hy
      | some z =>
        rw [hl] at hy
        simp only [Option.map_some, Option.some.injEq] at hy
        subst hy
        have hok' : (l.map (snapL mo)).all okSnap = true := hok
        exact key (List.all_eq_true.1 hok' _ (List.mem_map_of_mem (List.mem_of_getElem? hl))) (ha.2 j z u hl hu)
    | d y => exact VR.of1 (key (x := .d y) hok hv)
    | agg n l => exact VR.of1 (key (x := .agg n l) hok hv)
    | own o off len =>
      have h2 : okSnap (snapL mo (.own o off len)) = true := by
        have h3 : okSnapR (snapL mo (.own o off len)) = true := hok
        cases hx : snapL mo (.own o off len) with
        | tup l =>
          simp only [snapL] at hx
          cases hm : memL mo o with
          | none => rw [hm] at hx; cases hx
          | some m => rw [hm] at hx; simp only at hx; cases m <;> simp [snapM] at hx
        | _ => rw [hx] at h3; exact h3
      exact VR.of1 (key (x := .own o off len) h2 hv)
    | _ => cases hok
  · rcases hb with hb | ⟨o, obj, h1, h2⟩
    · exact hF' b hb
    · refine ⟨MRep.lt (hO.rep o obj h1) h2, ?_⟩
      rcases (hO.sep o obj b h1 h2).2 with h3 | h3
      · exact .inr h3
      · exact (hnb b h3.1).elim
end Go.Proofs.YtolkecnhncbkhaaGreat.Fw
