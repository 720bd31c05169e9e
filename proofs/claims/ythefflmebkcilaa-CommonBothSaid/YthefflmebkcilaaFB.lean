import Derived.Test.YthefflmebkcilaaFA
import Derived.DataElems
set_option linter.unusedVariables false
namespace Go.Proofs.Ythefflmebkcilaa.Fw
open Go

theorem add_block (a : Addr) (j : Nat) : (a.add j).block = a.block := by unfold Addr.add; split <;> rfl
theorem add_add (a : Addr) (i j : Nat) : (a.add i).add j = a.add (i + j) := by
  unfold Addr.add
  by_cases hi : i = 0 <;> by_cases hj : j = 0 <;> simp [hi, hj, Nat.add_assoc]
theorem add_lit (b i j : Nat) : (⟨b, i, none⟩ : Addr).add j = ⟨b, i + j, none⟩ := by unfold Addr.add; split <;> simp_all

theorem AllR.nil {α β : Type} {R : α → β → Prop} : AllR R [] [] := ⟨rfl, by simp⟩
theorem AllR.len {α β : Type} {R : α → β → Prop} {l : List α} {vs : List β} (h : AllR R l vs) : l.length = vs.length := h.1
theorem AllR.cons {α β : Type} {R : α → β → Prop} {x : α} {u : β} {l : List α} {vs : List β} (h0 : R x u) (h : AllR R l vs) : AllR R (x :: l) (u :: vs) := by
  refine ⟨by simp [h.1], fun j y z hy hz => ?_⟩
  cases j with
  | zero => simp at hy hz; subst hy; subst hz; exact h0
  | succ j => exact h.2 j y z (by simpa using hy) (by simpa using hz)
theorem AllR.head {α β : Type} {R : α → β → Prop} {x : α} {l : List α} {vs : List β} (h : AllR R (x :: l) vs) : ∃ u us, vs = u :: us ∧ R x u ∧ AllR R l us := by
  cases vs with
  | nil => have := h.1; simp at this
  | cons u us => exact ⟨u, us, rfl, h.2 0 x u rfl rfl, by have := h.1; simpa using this, fun j y z hy hz => h.2 (j + 1) y z (by simpa using hy) (by simpa using hz)⟩
theorem AllR.nil_of {α β : Type} {R : α → β → Prop} {vs : List β} (h : AllR R ([] : List α) vs) : vs = [] := by
  have := h.1; simp at this; exact List.eq_nil_of_length_eq_zero this.symm
theorem AllR.mono {α β : Type} {R R' : α → β → Prop} {l : List α} {vs : List β} (h : AllR R l vs) (hr : ∀ x u, R x u → R' x u) : AllR R' l vs := ⟨h.1, fun j x u hx hu => hr x u (h.2 j x u hx hu)⟩
theorem AllR.app {α β : Type} {R : α → β → Prop} {l m : List α} {vs us : List β} (h : AllR R l vs) (k : AllR R m us) : AllR R (l ++ m) (vs ++ us) := by
  refine ⟨by simp [h.1, k.1], fun j x u hx hu => ?_⟩
  by_cases hj : j < l.length
  · rw [List.getElem?_append_left hj] at hx
    rw [List.getElem?_append_left (by rw [← h.1]; exact hj)] at hu
    exact h.2 j x u hx hu
  · rw [List.getElem?_append_right (by omega)] at hx
    rw [List.getElem?_append_right (by rw [← h.1]; omega), ← h.1] at hu
    exact k.2 _ x u hx hu
theorem AllR.take {α β : Type} {R : α → β → Prop} {l : List α} {vs : List β} (h : AllR R l vs) (n : Nat) : AllR R (l.take n) (vs.take n) := by
  refine ⟨by simp [h.1], fun j x u hx hu => ?_⟩
  rw [List.getElem?_take] at hx hu
  split at hx
  · rename_i hj
    rw [if_pos hj] at hu
    exact h.2 j x u hx hu
  · cases hx
theorem AllR.drop {α β : Type} {R : α → β → Prop} {l : List α} {vs : List β} (h : AllR R l vs) (n : Nat) : AllR R (l.drop n) (vs.drop n) := by
  refine ⟨by simp [h.1], fun j x u hx hu => ?_⟩
  rw [List.getElem?_drop] at hx hu
  exact h.2 _ x u hx hu
theorem AllR.get {α β : Type} {R : α → β → Prop} {l : List α} {vs : List β} (h : AllR R l vs) {j : Nat} {x : α} (hx : l[j]? = some x) : ∃ u, vs[j]? = some u ∧ R x u := by
  have hj : j < l.length := (List.getElem?_eq_some_iff.1 hx).1
  have hj' : j < vs.length := by rw [← h.1]; exact hj
  exact ⟨vs[j], by simp [hj'], h.2 j x _ hx (by simp [hj'])⟩
theorem AllR.set {α β : Type} {R : α → β → Prop} {l : List α} {vs : List β} (h : AllR R l vs) (i : Nat) {x : α} {u : β} (h0 : R x u) : AllR R (l.set i x) (vs.set i u) := by
  refine ⟨by simp [h.1], fun j y z hy hz => ?_⟩
  rw [List.getElem?_set] at hy hz
  by_cases hij : i = j
  · subst hij
    simp only [if_true] at hy hz
    split at hy
    · split at hz
      · cases hy; cases hz; exact h0
      · cases hz
    · cases hy
  · simp only [if_neg hij] at hy hz
    exact h.2 j y z hy hz
theorem AllR.map {α β : Type} {R : α → β → Prop} (f : α → β) (l : List α) (h : ∀ x ∈ l, R x (f x)) : AllR R l (l.map f) := by
  refine ⟨by simp, fun j x u hx hu => ?_⟩
  rw [List.getElem?_map, hx] at hu
  simp at hu
  subst hu
  exact h x (List.mem_of_getElem? hx)

theorem RepL.frame {w w' : World} {F F' : Nat → Prop} {d : D} {v : Value} (h : RepL w F d v) (hF : ∀ b, F b → F' b) (hw : ∀ b, F b → w'.heap[b]? = w.heap[b]?) : RepL w' F' d v := by
  induction h with
  | bool b => exact .bool b
  | int k n => exact .int k n
  | sl hd A c cs hn hc hl hcell hr ih =>
    refine .sl hd A c cs hn hc hl (fun j u hu => ?_) (fun j x u hx hu => ih j x u hx hu)
    obtain ⟨ad, e, hf, hcl⟩ := hcell j u hu
    refine ⟨ad, e, hF _ hf, ?_⟩
    rw [← hcl]
    exact World.cell?_of_block (by rw [add_block]; exact hw _ hf)
theorem RepL.one {w : World} {F : Nat → Prop} {d : D} {v : Value} (h : RepL w F d v) : v.oneCell' = true := by cases h <;> rfl
theorem RepL.cells {w : World} {F : Nat → Prop} {d : D} {v : Value} (h : RepL w F d v) : v.cells = #[v] := by cases h <;> rfl
theorem RepL.int_inv {w : World} {F : Nat → Prop} {k : IntKind} {n : Int} {v : Value} (h : RepL w F (.int k n) v) : v = .int k n := by
  cases h with
  | int => rfl
  | sl hd => simp [D.sl?] at hd
theorem RepL.bool_inv {w : World} {F : Nat → Prop} {b : Bool} {v : Value} (h : RepL w F (.bool b) v) : v = .bool b := by
  cases h with
  | bool => rfl
  | sl hd => simp [D.sl?] at hd
/-- A slice that is read. -/
theorem RepL.sl_inv {w : World} {F : Nat → Prop} {d : D} {v : Value} {sz n : Nat} {fl : List D} (h : RepL w F d v) (hs : d.sl? = some (sz, n, fl)) :
    ∃ A c cs, v = .slice A n c ∧ n ≤ c ∧ c ≤ maxLen ∧ AllR (RepL w F) fl cs ∧ ∀ (j : Nat) u, cs[j]? = some u → ∃ ad, A = some ad ∧ F ad.block ∧ w.cell? (ad.add j) = some u := by
  cases h with
  | bool => simp [D.sl?] at hs
  | int => simp [D.sl?] at hs
  | sl hd A c cs hn hc hl hcell hr =>
    rw [hs] at hd
    simp only [Option.some.injEq, Prod.mk.injEq] at hd
    obtain ⟨rfl, rfl, rfl⟩ := hd
    exact ⟨A, c, cs, rfl, hn, hc, ⟨hl.symm, hr⟩, hcell⟩
theorem RepL.nilW (w : World) (F : Nat → Prop) : RepL w F (.words []) (.slice none 0 0) :=
  .sl (sz := 1) (n := 0) (fl := []) rfl none 0 [] (Nat.le_refl _) (Nat.zero_le _) rfl (by simp) (by simp)
theorem RepL.nilR (w : World) (F : Nat → Prop) (sz : Nat) : RepL w F (.rows sz []) (.slice none 0 0) :=
  .sl (sz := sz) (n := 0) (fl := []) rfl none 0 [] (Nat.le_refl _) (Nat.zero_le _) rfl (by simp) (by simp)

def SameSh (x y : MO) : Prop := (∃ l l', x = .box l ∧ y = .box l') ∨ ∃ e sz n fl fl', x.row? = some (e, sz, n, fl) ∧ y.row? = some (e, sz, n, fl')
/-- The old objects live on, in the same shape and place. -/
def MemOn (m m' : Mem) (ν ν' : Nat → Value) : Prop := ∀ o obj, m o = some obj → ∃ obj', m' o = some obj' ∧ SameSh obj obj' ∧ ν' o = ν o
theorem SameSh.refl {x : MO} {v : Value} {w : World} {F : Nat → Prop} (h : MRep w F x v) : SameSh x x := by
  cases x with
  | box l => exact .inl ⟨l, l, rfl, rfl⟩
  | words e l => exact .inr ⟨_, _, _, _, _, rfl, rfl⟩
  | rows e sz l =>
    obtain ⟨e', sz', n, fl, cs, hr, _⟩ := h
    exact .inr ⟨_, _, _, _, _, hr, hr⟩

theorem VR1.mono {w w' : World} {F F' : Nat → Prop} {ν ν' : Nat → Value} {m m' : Mem} {x : V} {v : Value} (h : VR1 w F ν m x v) (hF : ∀ b, F b → F' b) (hw : ∀ b, F b → w'.heap[b]? = w.heap[b]?)
    (hm : MemOn m m' ν ν') : VR1 w' F' ν' m' x v := by
  cases x with
  | d y => exact RepL.frame h hF hw
  | agg n l =>
    obtain ⟨hl, vs, rfl, ha⟩ := h
    exact ⟨hl, vs, rfl, ha.mono fun _ _ hh => hh.frame hF hw⟩
  | own o off len =>
    obtain ⟨obj, e, sz, n, fl, A, n', c, ho, hr, hle, hz, hv, rfl⟩ := h
    obtain ⟨obj', ho', hs, hv'⟩ := hm o obj ho
    rcases hs with ⟨l, l', rfl, rfl⟩ | ⟨e2, sz2, n2, fl2, fl2', h1, h2⟩
    · simp [MO.row?] at hr
    · rw [hr] at h1
      simp only [Option.some.injEq, Prod.mk.injEq] at h1
      obtain ⟨rfl, rfl, rfl, rfl⟩ := h1
      exact ⟨obj', e, sz, n, fl2', A, n', c, ho', h2, hle, hz, hv'.trans hv, rfl⟩
  | addr o off =>
    obtain ⟨l, a, ho, hv, rfl⟩ := h
    obtain ⟨obj', ho', hs, hv'⟩ := hm o _ ho
    rcases hs with ⟨l1, l', h1, rfl⟩ | ⟨e2, sz2, n2, fl2, fl2', h1, h2⟩
    · exact ⟨l', a, ho', hv'.trans hv, rfl⟩
    · simp [MO.row?] at h1
  | ela o j q =>
    obtain ⟨obj, e, sz, n, fl, a, n', c, ho, hr, hj, hv, rfl⟩ := h
    obtain ⟨obj', ho', hs, hv'⟩ := hm o obj ho
    rcases hs with ⟨l, l', rfl, rfl⟩ | ⟨e2, sz2, n2, fl2, fl2', h1, h2⟩
    · simp [MO.row?] at hr
    · rw [hr] at h1
      simp only [Option.some.injEq, Prod.mk.injEq] at h1
      obtain ⟨rfl, rfl, rfl, rfl⟩ := h1
      exact ⟨obj', e, sz, n, fl2', a, n', c, ho', h2, hj, hv'.trans hv, rfl⟩
  | ro n l =>
    obtain ⟨hl, ad, cs, rfl, ha, hc⟩ := h
    refine ⟨hl, ad, cs, rfl, ha.mono fun _ _ hh => hh.frame hF hw, fun j u hu => ?_⟩
    obtain ⟨hf, hcl⟩ := hc j u hu
    refine ⟨hF _ hf, ?_⟩
    rw [← hcl]
    exact World.cell?_of_block (by rw [add_block]; exact hw _ hf)
  | nils => exact h
  | nilp => exact h
  | undef => exact h
  | tup l => exact h
theorem VR_eq {w : World} {F : Nat → Prop} {ν : Nat → Value} {m : Mem} {x : V} {v : Value} (hp : ∀ l, x ≠ .tup l) : VR w F ν m x v = VR1 w F ν m x v := by
  cases x <;> first | rfl | exact absurd rfl (hp _)
theorem VR.mono {w w' : World} {F F' : Nat → Prop} {ν ν' : Nat → Value} {m m' : Mem} {x : V} {v : Value} (h : VR w F ν m x v) (hF : ∀ b, F b → F' b) (hw : ∀ b, F b → w'.heap[b]? = w.heap[b]?)
    (hm : MemOn m m' ν ν') : VR w' F' ν' m' x v := by
  cases x with
  | tup l =>
    obtain ⟨vs, rfl, ha⟩ := h
    exact ⟨vs, rfl, ha.mono fun _ _ hh => VR1.mono hh hF hw hm⟩
  | _ =>
    rw [VR_eq (by simp)] at h ⊢
    exact VR1.mono h hF hw hm
theorem VR.of1 {w : World} {F : Nat → Prop} {ν : Nat → Value} {m : Mem} {x : V} {v : Value} (h : VR1 w F ν m x v) : VR w F ν m x v := by
  cases x with
  | tup l => exact h.elim
  | _ => exact h
theorem VR.to1 {w : World} {F : Nat → Prop} {ν : Nat → Value} {m : Mem} {x : V} {v : Value} (h : VR w F ν m x v) (hp : ∀ l, x ≠ .tup l) : VR1 w F ν m x v := by
  cases x with
  | tup l => exact (hp l rfl).elim
  | _ => exact h

theorem MRep.frame {w w' : World} {F F' : Nat → Prop} {obj : MO} {v : Value} (h : MRep w F obj v) (hF : ∀ b, F b → F' b) (hw : ∀ b, F b → w'.heap[b]? = w.heap[b]?) (hb : ∀ b, blk v = some b → w'.heap[b]? = w.heap[b]?) : MRep w' F' obj v := by
  have key : ∀ {obj : MO}, (∃ e sz n fl cs, obj.row? = some (e, sz, n, fl) ∧ 0 < sz ∧ w.ownsRow 0 e sz v n cs ∧ AllR (RepL w F) fl cs) → (∃ e sz n fl cs, obj.row? = some (e, sz, n, fl) ∧ 0 < sz ∧ w'.ownsRow 0 e sz v n cs ∧ AllR (RepL w' F') fl cs) := by
    rintro obj ⟨e, sz, n, fl, cs, hr, hz, ho, ha⟩
    refine ⟨e, sz, n, fl, cs, hr, hz, ⟨ho.1, ?_⟩, ha.mono fun _ _ hh => hh.frame hF hw⟩
    rcases ho.2 with hn | ⟨g, cap, cur, rfl, hg, hh, rest⟩
    · exact .inl hn
    · exact .inr ⟨g, cap, cur, rfl, hg, by rw [hb g rfl]; exact hh, rest⟩
  cases obj with
  | box l =>
    obtain ⟨b, cur, t, rfl, hh, ha⟩ := h
    exact ⟨b, cur, t, rfl, by rw [hb b rfl]; exact hh, ha.mono fun _ _ hh => hh.frame hF hw⟩
  | words e l => exact key h
  | rows e sz l => exact key h
theorem MRep.lt {w : World} {F : Nat → Prop} {obj : MO} {v : Value} (h : MRep w F obj v) {b : Nat} (hb : blk v = some b) : b < w.heap.size := by
  have key : ∀ {obj : MO}, (∃ e sz n fl cs, obj.row? = some (e, sz, n, fl) ∧ 0 < sz ∧ w.ownsRow 0 e sz v n cs ∧ AllR (RepL w F) fl cs) → b < w.heap.size := by
    rintro obj ⟨e, sz, n, fl, cs, hr, hz, ho, ha⟩
    rcases ho.2 with ⟨rfl, _⟩ | ⟨g, cap, cur, rfl, hg, hh, rest⟩
    · simp [blk] at hb
    · simp [blk] at hb
      subst hb
      exact (Array.getElem?_eq_some_iff.1 hh).1
  cases obj with
  | box l =>
    obtain ⟨b', cur, t, rfl, hh, ha⟩ := h
    simp [blk] at hb
    subst hb
    exact (Array.getElem?_eq_some_iff.1 hh).1
  | words e l => exact key h
  | rows e sz l => exact key h

theorem Keep.refl (B : Nat) (S : Nat → Prop) (w : World) : Keep B S w w := ⟨rfl, rfl, rfl, Nat.le_refl _, fun _ _ _ => rfl⟩
theorem Keep.trans {B : Nat} {S : Nat → Prop} {a b c : World} (h : Keep B S a b) (k : Keep B S b c) : Keep B S a c :=
  ⟨k.os.trans h.os, k.tape.trans h.tape, k.output.trans h.output, Nat.le_trans h.size k.size, fun i hi hs => (k.block i hi hs).trans (h.block i hi hs)⟩

/-! ### Steps of a state -/
theorem beq_no {x y : Nat} (h : x ≠ y) : Nat.beq x y = false := by
  cases hb : Nat.beq x y with
  | false => rfl
  | true => exact absurd (Nat.eq_of_beq_eq_true hb) h
theorem upd_mem (s : St) (i : Nat) (o : MO) (x : Nat) : (s.upd i o).mem x = if x = i then some o else s.mem x := by
  simp only [St.upd]
  by_cases h : x = i
  · subst h; simp
  · rw [beq_no h]; simp [h]
theorem put_env (s : St) (d : Tmp) (v : V) (t : Nat) : (s.put (some d) v).env t = if t = d then v else s.env t := by
  simp only [St.put]
  by_cases h : t = d
  · subst h; simp
  · rw [beq_no h]; simp [h]
variable {P : Program} {c : Ctx} {F : Nat → Prop} {ν : Nat → Value} {s : St} {a : Act} {w w' : World}

theorem put_tmps (a : Act) (d : Tmp) (x : Value) (t : Nat) (hd : d < a.tmps.size) : (a.put (some d) x).tmps.getD t undef = if t = d then x else a.tmps.getD t undef := by
  simp only [Act.put, Array.getD_eq_getD_getElem?, Array.getElem?_setIfInBounds]
  by_cases h : t = d
  · subst h; simp [hd]
  · have : ¬ d = t := fun e => h e.symm
    simp [h, this]
theorem SRep.put (h : SRep c F ν s a w) {o : Option Tmp} {v : V} {x : Value} (hx : VR w F ν s.mem v x) (hd : ∀ d, o = some d → d < c.N) : SRep c F ν (s.put o v) (a.put o x) w := by
  cases o with
  | none => exact h
  | some d =>
    have hd' : d < a.tmps.size := by rw [h.sz]; exact hd d rfl
    refine ⟨by simp [Act.put, h.sz], h.dfr, fun t => ?_, h.mem, h.sep, h.inj, h.fin, h.keep, h.base, h.nu⟩
    rw [put_tmps a d x t hd', put_env]
    by_cases e : t = d
    · rw [if_pos e, if_pos e]; exact hx
    · rw [if_neg e, if_neg e]; exact h.env t
/-- A region's draw. -/
theorem SRep.drew (h : SRep c F ν s a w) : SRep c F ν s a { w with drawn := w.drawn + 1 } :=
  ⟨h.sz, h.dfr, fun t => VR.mono (h.env t) (fun _ hb => hb) (fun _ _ => rfl) (fun o obj ho => ⟨obj, ho, SameSh.refl (h.mem o obj ho), rfl⟩),
    fun o obj ho => MRep.frame (h.mem o obj ho) (fun _ hb => hb) (fun _ _ => rfl) (fun _ _ => rfl), h.sep, h.inj, h.fin, h.keep.trans ⟨rfl, rfl, rfl, Nat.le_refl _, fun _ _ _ => rfl⟩, h.base, h.nu⟩
/-- What is written is one object's own block. -/
theorem SRep.write (h : SRep c F ν s a w) {i : Nat} {obj obj' : MO} (hi : s.mem i = some obj) (hs : SameSh obj obj') {b : Nat} (hb : blk (ν i) = some b)
    (hos : w'.os = w.os) (htp : w'.tape = w.tape) (hout : w'.output = w.output) (hsz : w'.heap.size = w.heap.size) (hbl : ∀ k, k ≠ b → w'.heap[k]? = w.heap[k]?) (hm : MRep w' F obj' (ν i)) : SRep c F ν (s.upd i obj') a w' := by
  have hsep := h.sep i obj b hi hb
  have hF : ∀ k, F k → w'.heap[k]? = w.heap[k]? := fun k hk => hbl k (fun e => hsep.1 (e ▸ hk))
  have hmo : MemOn s.mem (s.upd i obj').mem ν ν := by
    intro o ob ho
    by_cases e : o = i
    · subst e
      rw [hi] at ho
      cases ho
      exact ⟨obj', by simp [upd_mem], hs, rfl⟩
    · exact ⟨ob, by simp [upd_mem, e]; exact ho, SameSh.refl (h.mem o ob ho), rfl⟩
  have hget : ∀ o ob, (s.upd i obj').mem o = some ob → (o = i ∧ ob = obj') ∨ (o ≠ i ∧ s.mem o = some ob) := by
    intro o ob ho
    by_cases e : o = i
    · subst e; simp [upd_mem] at ho; exact .inl ⟨rfl, ho.symm⟩
    · simp [upd_mem, e] at ho; exact .inr ⟨e, ho⟩
  refine ⟨h.sz, h.dfr, fun t => VR.mono (h.env t) (fun _ hb => hb) hF hmo, fun o ob ho => ?_, fun o ob b' ho hb' => ?_, fun o o' ob ob' b' ho ho' hb1 hb2 => ?_, fun k hk => ?_, ?_, h.base, h.nu⟩
  · rcases hget o ob ho with ⟨rfl, rfl⟩ | ⟨hne, ho⟩
    · exact hm
    · exact MRep.frame (h.mem o ob ho) (fun _ hb => hb) hF (fun b' hb' => hbl b' (fun e => hne (h.inj o i ob obj b' ho hi hb' (by rw [hb, e]))))
  · rcases hget o ob ho with ⟨rfl, rfl⟩ | ⟨hne, ho⟩
    · exact h.sep _ obj b' hi hb'
    · exact h.sep _ ob b' ho hb'
  · have f1 : ∃ x, s.mem o = some x := by rcases hget o ob ho with ⟨rfl, rfl⟩ | ⟨_, ho⟩ <;> exact ⟨_, by assumption⟩
    have f2 : ∃ x, s.mem o' = some x := by rcases hget o' ob' ho' with ⟨rfl, rfl⟩ | ⟨_, ho⟩ <;> exact ⟨_, by assumption⟩
    obtain ⟨x1, f1⟩ := f1
    obtain ⟨x2, f2⟩ := f2
    exact h.inj o o' x1 x2 b' f1 f2 hb1 hb2
  · rw [hsz]; exact h.fin k hk
  · refine h.keep.trans ⟨hos, htp, hout, by omega, fun k hk hsk => hbl k (fun e => ?_)⟩
    subst e
    rcases hsep.2 with h1 | h1
    · omega
    · exact hsk h1.1
def nuSet (ν : Nat → Value) (i : Nat) (v : Value) : Nat → Value := fun x => if x = i then v else ν x
/-- A new object. -/
theorem SRep.new (h : SRep c F ν s a w) {i : Nat} {obj : MO} (hiN : i < c.N) (hi : s.mem i = none) {v : Value} (hv : ∀ b, blk v = some b → w.heap.size ≤ b)
    (hos : w'.os = w.os) (htp : w'.tape = w.tape) (hout : w'.output = w.output) (hsz : w.heap.size ≤ w'.heap.size) (hbl : ∀ k, k < w.heap.size → w'.heap[k]? = w.heap[k]?) (hm : MRep w' F obj v) : SRep c F (nuSet ν i v) (s.upd i obj) a w' := by
  have hF : ∀ k, F k → w'.heap[k]? = w.heap[k]? := fun k hk => hbl k (h.fin k hk).1
  have hmo : MemOn s.mem (s.upd i obj).mem ν (nuSet ν i v) := by
    intro o ob ho
    have e : o ≠ i := fun e => by rw [e, hi] at ho; cases ho
    exact ⟨ob, by simp [upd_mem, e]; exact ho, SameSh.refl (h.mem o ob ho), by simp [nuSet, e]⟩
  have hget : ∀ o ob, (s.upd i obj).mem o = some ob → (o = i ∧ ob = obj ∧ nuSet ν i v o = v) ∨ (o ≠ i ∧ s.mem o = some ob ∧ nuSet ν i v o = ν o) := by
    intro o ob ho
    by_cases e : o = i
    · subst e; simp [upd_mem] at ho; exact .inl ⟨rfl, ho.symm, by simp [nuSet]⟩
    · simp [upd_mem, e] at ho; exact .inr ⟨e, ho, by simp [nuSet, e]⟩
  have hB : c.B ≤ w.heap.size := by rw [h.base]; exact h.keep.size
  refine ⟨h.sz, h.dfr, fun t => VR.mono (h.env t) (fun _ hb => hb) hF hmo, fun o ob ho => ?_, fun o ob b' ho hb' => ?_, fun o o' ob ob' b' ho ho' hb1 hb2 => ?_, fun k hk => ?_, ?_, h.base, fun o ho => by simp [nuSet, show o ≠ i by omega]; exact h.nu o ho⟩
  · rcases hget o ob ho with ⟨rfl, rfl, hn⟩ | ⟨hne, ho, hn⟩
    · rw [hn]; exact hm
    · rw [hn]
      exact MRep.frame (h.mem o ob ho) (fun _ hb => hb) hF (fun b' hb' => hbl b' (MRep.lt (h.mem o ob ho) hb'))
  · rcases hget o ob ho with ⟨rfl, rfl, hn⟩ | ⟨hne, ho, hn⟩
    · rw [hn] at hb'
      have := hv b' hb'
      exact ⟨fun hf => by have := (h.fin b' hf).1; omega, .inl (by omega)⟩
    · rw [hn] at hb'
      exact h.sep _ ob b' ho hb'
  · rcases hget o ob ho with ⟨he, _, hn⟩ | ⟨hne, hoo, hn⟩ <;> rcases hget o' ob' ho' with ⟨he', _, hn'⟩ | ⟨hne', hoo', hn'⟩
    · rw [he, he']
    · rw [hn] at hb1; rw [hn'] at hb2
      have := hv b' hb1; have := MRep.lt (h.mem o' ob' hoo') hb2; omega
    · rw [hn] at hb1; rw [hn'] at hb2
      have := hv b' hb2; have := MRep.lt (h.mem o ob hoo) hb1; omega
    · rw [hn] at hb1; rw [hn'] at hb2
      exact h.inj o o' ob ob' b' hoo hoo' hb1 hb2
  · have := h.fin k hk
    exact ⟨by omega, this.2⟩
  · exact h.keep.trans ⟨hos, htp, hout, hsz, fun k hk _ => hbl k (by omega)⟩
end Go.Proofs.Ythefflmebkcilaa.Fw
