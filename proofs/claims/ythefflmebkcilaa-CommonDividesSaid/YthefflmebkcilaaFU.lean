import Derived.Test.YthefflmebkcilaaFT
import Derived.Laws.OwnMore
set_option linter.unusedVariables false
set_option linter.unusedSimpArgs false
namespace Go.Proofs.Ythefflmebkcilaa.Fw
open Go
variable {P : Program} {T : TT} {c : Ctx} {F : Nat → Prop} {ν : Nat → Value} {s : St} {a : Act} {w : World} {o : Oper} {keep : List Nat}

/-! ### An object is let go of -/
def drpV (i : Nat) (v : V) : V :=
  match v with
  | .own o off len => bif Nat.beq o i then .undef else .own o off len
  | .addr o q => bif Nat.beq o i then .undef else .addr o q
  | .ela o j q => bif Nat.beq o i then .undef else .ela o j q
  | .tup _ => .undef
  | v => v
def drop1 (i : Nat) (s : St) : St := ⟨fun t => drpV i (s.env t), fun x => bif Nat.beq x i then none else s.mem x⟩
theorem drop1_mem (i : Nat) (s : St) (x : Nat) : (drop1 i s).mem x = if x = i then none else s.mem x := by
  simp only [drop1]
  by_cases e : x = i
  · subst e; simp
  · rw [beq_no e]; simp [e]
theorem SRep.drop1 (h : SRep c F ν s a w) (i : Nat) : SRep c F ν (drop1 i s) a w := by
  have hget : ∀ x obj, (Fw.drop1 i s).mem x = some obj → x ≠ i ∧ s.mem x = some obj := by
    intro x obj hx
    rw [drop1_mem] at hx
    split at hx
    · cases hx
    · exact ⟨by assumption, hx⟩
  have hlive : ∀ o, o ≠ i → ∀ obj, s.mem o = some obj → (Fw.drop1 i s).mem o = some obj := fun o ho obj hobj => by rw [drop1_mem, if_neg ho]; exact hobj
  refine ⟨h.sz, h.dfr, fun t => ?_, fun o obj ho => h.mem o obj (hget o obj ho).2, fun o obj b ho hb => h.sep o obj b (hget o obj ho).2 hb, fun o o' obj obj' b ho ho' => h.inj o o' obj obj' b (hget o obj ho).2 (hget o' obj' ho').2, h.fin, h.keep, h.base, h.nu⟩
  have he := h.env t
  show VR w _ ν _ (drpV i (s.env t)) _
  generalize s.env t = v at he ⊢
  cases v with
  | own o off len =>
    simp only [drpV]
    by_cases e : o = i
    · subst e; rw [Nat.beq_refl, cond_true]; trivial
    · rw [beq_no e, cond_false]
      obtain ⟨obj, e', sz, n, fl, A, n', cc, h1, h2⟩ := he
      exact ⟨obj, e', sz, n, fl, A, n', cc, hlive o e obj h1, h2⟩
  | addr o q =>
    simp only [drpV]
    by_cases e : o = i
    · subst e; rw [Nat.beq_refl, cond_true]; trivial
    · rw [beq_no e, cond_false]
      obtain ⟨l, a0, h1, h2⟩ := he
      exact ⟨l, a0, hlive o e _ h1, h2⟩
  | ela o j q =>
    simp only [drpV]
    by_cases e : o = i
    · subst e; rw [Nat.beq_refl, cond_true]; trivial
    · rw [beq_no e, cond_false]
      obtain ⟨obj, e', sz, n, fl, a0, n', cc, h1, h2⟩ := he
      exact ⟨obj, e', sz, n, fl, a0, n', cc, hlive o e obj h1, h2⟩
  | tup l => trivial
  | _ => exact he
/-- A new object, which may lie where one was that is let go of. -/
theorem SRep.renew (h : SRep c F ν s a w) {w' : World} {i : Nat} {obj : MO} (hiN : i < c.N) (hi : s.mem i = none) {v : Value} {old : Option Nat}
    (hold : ∀ b, old = some b → ¬ F b ∧ c.B ≤ b ∧ b < w.heap.size ∧ ∀ o ob, s.mem o = some ob → blk (ν o) ≠ some b) (hv : ∀ b, blk v = some b → w.heap.size ≤ b ∨ old = some b)
    (hg : w.grownBy w' old) (hm : MRep w' F obj v) : SRep c F (nuSet ν i v) (s.upd i obj) a w' := by
  have hF : ∀ k, F k → w'.heap[k]? = w.heap[k]? := fun k hk => hg.block k (h.fin k hk).1 (fun e => (hold k e.symm).1 hk)
  have hmo : MemOn s.mem (s.upd i obj).mem ν (nuSet ν i v) := by
    intro o ob ho
    have e : o ≠ i := fun e => by rw [e, hi] at ho; cases ho
    exact ⟨ob, by simp [upd_mem, e]; exact ho, SameSh.refl (h.mem o ob ho), by simp [nuSet, e]⟩
  have hget : ∀ o ob, (s.upd i obj).mem o = some ob → (o = i ∧ ob = obj ∧ nuSet ν i v o = v) ∨ (o ≠ i ∧ s.mem o = some ob ∧ nuSet ν i v o = ν o) := by
    intro o ob ho
    by_cases e : o = i
    · subst e; simp [upd_mem] at ho; exact .inl ⟨rfl, ho.symm, by simp [nuSet]⟩
    · simp [upd_mem, e] at ho; exact .inr ⟨e, ho, by simp [nuSet, e]⟩
  have hB : c.B ≤ w.heap.size := by rw [h.base]; exact h.keep.size
  have hlt : ∀ b, w.heap.size ≤ b ∨ old = some b → ∀ o ob, s.mem o = some ob → blk (ν o) ≠ some b := by
    intro b hb o ob ho hbo
    rcases hb with hb | hb
    · have := MRep.lt (h.mem o ob ho) hbo; omega
    · exact (hold b hb).2.2.2 o ob ho hbo
  refine ⟨h.sz, h.dfr, fun t => VR.mono (h.env t) (fun _ hb => hb) hF hmo, fun o ob ho => ?_, fun o ob b' ho hb' => ?_, fun o o' ob ob' b' ho ho' hb1 hb2 => ?_, fun k hk => ?_, ?_, h.base, fun o ho => by simp [nuSet, show o ≠ i by omega]; exact h.nu o ho⟩
  · rcases hget o ob ho with ⟨rfl, rfl, hn⟩ | ⟨hne, ho, hn⟩
    · rw [hn]; exact hm
    · rw [hn]
      exact MRep.frame (h.mem o ob ho) (fun _ hb => hb) hF (fun b' hb' => hg.block b' (MRep.lt (h.mem o ob ho) hb') (fun e => (hold b' e.symm).2.2.2 o ob ho hb'))
  · rcases hget o ob ho with ⟨rfl, rfl, hn⟩ | ⟨hne, ho, hn⟩
    · rw [hn] at hb'
      rcases hv b' hb' with h1 | h1
      · exact ⟨fun hf => by have := (h.fin b' hf).1; omega, .inl (by omega)⟩
      · exact ⟨(hold b' h1).1, .inl (hold b' h1).2.1⟩
    · rw [hn] at hb'
      exact h.sep _ ob b' ho hb'
  · rcases hget o ob ho with ⟨he, _, hn⟩ | ⟨hne, hoo, hn⟩ <;> rcases hget o' ob' ho' with ⟨he', _, hn'⟩ | ⟨hne', hoo', hn'⟩
    · rw [he, he']
    · rw [hn] at hb1; rw [hn'] at hb2
      exact (hlt b' (hv b' hb1) o' ob' hoo' hb2).elim
    · rw [hn] at hb1; rw [hn'] at hb2
      exact (hlt b' (hv b' hb2) o ob hoo hb1).elim
    · rw [hn] at hb1; rw [hn'] at hb2
      exact h.inj o o' ob ob' b' hoo hoo' hb1 hb2
  · have := h.fin k hk
    have := hg.size
    exact ⟨by omega, (h.fin k hk).2⟩
  · exact h.keep.trans ⟨hg.os, hg.tape, hg.output, hg.size, fun k hk _ => hg.block k (by omega) (fun e => by have := (hold k e.symm).2.1; omega)⟩
theorem ownsRow_base {base : Nat} {e : TypeId} {size : Nat} {v : Value} {n : Nat} {xs : List Value} (h : w.ownsRow base e size v n xs) : w.ownsRow 0 e size v n xs := by
  refine ⟨h.1, ?_⟩
  rcases h.2 with h2 | ⟨g, cap, cur, h3, h4, h5⟩
  · exact .inl h2
  · exact .inr ⟨g, cap, cur, h3, Nat.zero_le _, h5⟩
theorem run_append_empty {t e : TypeId} (ty : TypeId) {i : TypeInfo} {size : Nat} (ht : P.underlying t = some (.slice e)) (hi : P.info? e = some i) {v : Value} {n : Nat} {xs : List Value} (hown : w.ownsRow 0 e size v n xs) (cc : Nat) :
    (Builtin.append_ #[t, t] ty #[v, .slice none 0 cc]).run P w = .ok v w := by
  rcases hown.2 with ⟨rfl, rfl⟩ | ⟨g, cap, cur, rfl, _, _, hnc, _⟩
  · simp [Builtin.append_, run_underlying ht, sizeOf, typeInfo, hi, Builtin.lenOf, Builtin.firstCells]
  · simp [Builtin.append_, run_underlying ht, sizeOf, typeInfo, hi, Builtin.lenOf, Builtin.firstCells, hnc, storeCells]
theorem append_run {t e : TypeId} (ty : TypeId) {i : TypeInfo} {z : Value} {size : Nat} (ht : P.underlying t = some (.slice e)) (hi : P.info? e = some i) (hz : i.zero = some z) (hsize : i.size = size) (hzs : z.cells.size = size) (hsz : 0 < size)
    {v : Value} {n : Nat} {xs : List Value} (hown : w.ownsRow 0 e size v n xs) (A : Option Addr) (m cc : Nat) (news : List Value) (hl : news.length = m * size) (hnews : ∀ (j : Nat) u, news[j]? = some u → ∃ ad, A = some ad ∧ w.cell? (ad.add j) = some u) (h1 : ∀ u ∈ news, u.oneCell' = true)
    (h63 : n + m ≤ maxLen) (hbytes : (n + m) * i.bytes ≤ 140737488355328) :
    ∃ v' w', (Builtin.append_ #[t, t] ty #[v, .slice A m cc]).run P w = .ok v' w' ∧ w'.ownsRow 0 e size v' (n + m) (xs ++ news) ∧ w.grownBy w' v.ownBlock ∧ (∀ b, blk v' = some b → w.heap.size ≤ b ∨ blk v = some b) := by
  cases A with
  | none =>
    have hn : news = [] := by
      cases news with
      | nil => rfl
      | cons u us => obtain ⟨ad, h, _⟩ := hnews 0 u rfl; cases h
    subst hn
    have hm : m = 0 := by
      rcases Nat.eq_zero_or_pos m with h | h
      · exact h
      · have := Nat.mul_pos h hsz; simp at hl; omega
    subst hm
    exact ⟨v, w, run_append_empty ty ht hi hown cc, by simpa using hown, ⟨rfl, rfl, rfl, Nat.le_refl _, fun _ _ _ => rfl⟩, fun b hb => .inr hb⟩
  | some ad =>
    have hnews' : ∀ (j : Nat) u, news[j]? = some u → w.cell? (ad.add j) = some u := fun j u hu => by
      obtain ⟨ad', h, h2⟩ := hnews j u hu
      cases h
      exact h2
    rcases hown.2 with ⟨rfl, rfl⟩ | ⟨g, cap, cur, rfl, hbg, hg, hnc, hcm, hcs, htake⟩
    · have hx : xs = [] := List.eq_nil_of_length_eq_zero (by simpa using hown.1)
      subst hx
      obtain ⟨v', w', h2, h3, h4, _⟩ := run_append_own (P := P) w w.heap.size t ty e i z size i.bytes ht hi hz hsize rfl hzs hsz _ _ _ (World.ownsRow_nil w w.heap.size e size) ad m cc news hl hnews' h1 h63 hbytes (Nat.le_refl _)
      refine ⟨v', w', h2, ownsRow_base h3, h4, fun b hb => .inl ?_⟩
      refine (h3.lt b ?_).1
      cases v' with
      | slice A' _ _ => cases A' with
        | none => cases hb
        | some _ => exact hb
      | pointer A' =>
        rcases h3.2 with ⟨h5, _⟩ | ⟨_, _, _, h5, _⟩ <;> cases h5
      | _ => cases hb
    · obtain ⟨v', w', h2, h3, h4, _⟩ := run_append_own (P := P) w 0 t ty e i z size i.bytes ht hi hz hsize rfl hzs hsz _ _ _ hown ad m cc news hl hnews' h1 h63 hbytes (Nat.zero_le _)
      refine ⟨v', w', h2, h3, h4, fun b hb => ?_⟩
      by_cases hroom : n + m ≤ cap
      · obtain ⟨w2, h5, _⟩ := run_append_fits (P := P) w 0 t ty e i size ht hi hsize g n cap xs hown ad m cc news hl hnews' h1 hroom
        rw [h5] at h2
        injection h2 with h2
        subst h2
        exact .inr hb
      · have holds : ∀ (j : Nat) u, xs[j]? = some u → w.cell? ((⟨g, 0, none⟩ : Addr).add j) = some u := hown.cells (g := g) rfl
        have hsmall : n + m ≤ 9223372036854775807 := by simp only [maxLen] at h63; omega
        subst hsize
        have hr := run_append_grow (P := P) w t ty e i z ht hi hz ⟨g, 0, none⟩ n cap xs hown.1 holds ad m cc news hl hnews' (by omega) (by omega) (growslice_fits (by omega) hbytes)
        rw [hr] at h2
        injection h2 with h2
        subst h2
        simp only [blk, Option.some.injEq] at hb
        exact .inl (by omega)
/-- Of a source of cells: what it is. -/
def srcOf (T : TT) (e : TypeId) : V → Option (Nat × List D)
  | .d x => match x.sl? with
    | some (sz, m, fl) => bif Nat.beq sz (T e).sz then some (m, fl) else none
    | none => none
  | .nils => some (0, [])
  | _ => none
theorem src_rep {e : TypeId} {v : V} {x : Value} {mm : Mem} (h : VR w F ν mm v x) {m : Nat} {fl : List D} (hs : srcOf T e v = some (m, fl)) (hall : fl.length = m * (T e).sz) : ∃ A cc news, x = .slice A m cc ∧ AllR (RepL w F) fl news ∧ (∀ (j : Nat) u, news[j]? = some u → ∃ ad, A = some ad ∧ w.cell? (ad.add j) = some u) := by
  unfold srcOf at hs
  split at hs
  · rename_i y
    split at hs
    · rename_i sz m' fl' hsl
      cases hb : Nat.beq sz (T e).sz with
      | false => rw [hb] at hs; cases hs
      | true =>
        rw [hb, cond_true] at hs
        cases hs
        obtain ⟨A, cc, cs, e1, hn, hc, ha, hcell⟩ := RepL.sl_inv h hsl
        exact ⟨A, cc, cs, e1, ha, fun j u hu => by obtain ⟨ad, h1, _, h2⟩ := hcell j u hu; exact ⟨ad, h1, h2⟩⟩
    · cases hs
  · cases hs
    exact ⟨none, 0, [], h, AllR.nil, fun j u hu => by simp at hu⟩
  · cases hs
theorem MRep.ofRow {obj : MO} {v : Value} {e sz n : Nat} {fl : List D} {cs : List Value} (hr : obj.row? = some (e, sz, n, fl)) (hz : 0 < sz) (ho : w.ownsRow 0 e sz v n cs) (ha : AllR (RepL w F) fl cs) : MRep w F obj v := by
  have : ∃ e' sz n' fl cs', obj.row? = some (e', sz, n', fl) ∧ 0 < sz ∧ w.ownsRow 0 e' sz v n' cs' ∧ AllR (RepL w F) fl cs' := ⟨e, sz, n, fl, cs, hr, hz, ho, ha⟩
  cases obj with
  | box l => simp [MO.row?] at hr
  | words _ _ => exact this
  | rows _ _ _ => exact this
theorem own_zero {e sz n : Nat} {fl : List D} {obj : MO} {i len : Nat} {v : Value} (h : SRep c F ν s a w) (hm : s.mem i = some obj) (hr : obj.row? = some (e, sz, n, fl)) (hlen : len = n) (hv : VR w F ν s.mem (.own i 0 len) v) : v = ν i := by
  obtain ⟨obj', e', sz', n', fl', A, n2, cc, h1, h2, h3, h4, h5, h6⟩ := hv
  rw [hm] at h1
  cases h1
  rw [hr] at h2
  simp only [Option.some.injEq, Prod.mk.injEq] at h2
  obtain ⟨rfl, rfl, rfl, rfl⟩ := h2
  obtain ⟨cs, hz0, how, ha⟩ := row_inv h hm hr
  have hn2 : n2 = n := by
    rcases how.2 with ⟨h7, h8⟩ | ⟨g, cap, cur, h7, _⟩
    · rw [h5] at h7; injection h7 with _ h7 _; omega
    · rw [h5] at h7; injection h7 with _ h7 _
  rw [h6, h5, hn2, hlen]
  simp only [Nat.zero_mul, Nat.sub_zero]
  cases A with
  | none => rfl
  | some ad => simp [Addr.add]
/-- append to a row of the call's own, which is let go of. -/
theorem opp_append_own (hT : TAll P T) {K : St → Prop} {x y : Operand} {t e : TypeId} {i j len n m : Nat} {fl fl2 : List D} {obj obj2 : MO} (ho : o.op = .call ⟨.builtin .append, #[x, y], #[t, t]⟩) (hd : dstOk c.N o = true) (ht : (T t).k = .sl e) (he : (T e).k.ok = true)
    (hx : s.ev x = .own i 0 len) (hm : s.mem i = some obj) (hr : obj.row? = some (e, (T e).sz, n, fl)) (hlen : len = n) (hy : srcOf T e (s.ev y) = some (m, fl2)) (hfl : fl2.length = m * (T e).sz) (hiN : i < c.N) (hjN : j < c.N) (hj : j = i ∨ s.mem j = none)
    (hr2 : obj2.row? = some (e, (T e).sz, n + m, fl ++ fl2)) (hb : (n + m) * ((T e).bytes + 1) ≤ 140737488355328)
    (hK : K (((drop1 i s).upd j obj2).put o.dst (.own j 0 (n + m)))) : OpP P c o s K := by
  unfold OpP
  rintro Q a w ⟨F, ν, h⟩
  have hxr := ev_rep h x
  have hyr := ev_rep h y
  rw [hx] at hxr
  have hv := own_zero h hm hr hlen hxr
  obtain ⟨cs, hz0, how, ha⟩ := row_inv h hm hr
  obtain ⟨A, cc, news, hye, hna, hnc⟩ := src_rep hyr hy hfl
  obtain ⟨dd, hu, hf⟩ := und_of hT ht rfl
  simp only [TK.fits] at hf
  subst hf
  obtain ⟨h1, h2, h3, h4⟩ := hT e he
  obtain ⟨ti, z, hi, hisz, hib, hzz, hc⟩ := h1.all
  have hmul : (n + m) * ((T e).bytes + 1) = (n + m) * (T e).bytes + (n + m) := by rw [Nat.mul_add, Nat.mul_one]
  obtain ⟨v', w', hrun, how', hg, hblk⟩ := append_run (P := P) o.type hu hi hzz hisz (by rw [hc]; simp [h3]) hz0 how A m cc news (by rw [← hna.1]; exact hfl) hnc (fun u hu => by
      obtain ⟨j, hj⟩ := List.getElem?_of_mem hu
      have hlt := (List.getElem?_eq_some_iff.1 hj).1
      rw [← hna.1] at hlt
      exact (hna.2 j fl2[j] u (by simp [hlt]) hj).one) (by unfold maxLen; omega) (by rw [hib]; omega)
  have hdr := h.drop1 i
  have hF : ∀ k, F k → w'.heap[k]? = w.heap[k]? := fun k hk => hg.block k (h.fin k hk).1 (fun e => by
    have : blk (ν i) = some k := by
      revert e
      cases ν i with
      | slice A _ _ => cases A <;> simp [Value.ownBlock, blk] <;> (intro e; exact e.symm)
      | _ => simp [Value.ownBlock]
    exact (h.sep i obj k hm this).1 hk)
  have hown : ∀ b, (ν i).ownBlock = some b → blk (ν i) = some b := by
    intro b
    cases ν i with
    | slice A _ _ => cases A <;> simp [Value.ownBlock, blk]
    | _ => simp [Value.ownBlock]
  have hown' : ∀ b, blk (ν i) = some b → (ν i).ownBlock = some b := by
    intro b hb
    rcases how.2 with ⟨h7, _⟩ | ⟨g, cap, cur, h7, _⟩
    · rw [h7] at hb; cases hb
    · rw [h7] at hb ⊢; exact hb
  have hrep : MRep w' F obj2 v' := MRep.ofRow hr2 hz0 how' ((ha.mono fun _ _ hh => hh.frame (fun _ hb => hb) hF).app (hna.mono fun _ _ hh => hh.frame (fun _ hb => hb) hF))
  have hnew := hdr.renew (w' := w') (i := j) (obj := obj2) hjN (by
    rw [drop1_mem]
    rcases hj with rfl | hj
    · simp
    · split
      · rfl
      · exact hj) (v := v') (old := (ν i).ownBlock) (fun b hb => by
    have hbb := hown b hb
    have hs := h.sep i obj b hm hbb
    refine ⟨hs.1, by rcases hs.2 with h5 | h5 <;> omega, MRep.lt (h.mem i obj hm) hbb, fun o ob hoo hbo => ?_⟩
    rw [drop1_mem] at hoo
    split at hoo
    · cases hoo
    · rename_i hne
      exact hne (h.inj o i ob obj b hoo hm hbo hbb)) (fun b hb => by
    rcases hblk b hb with h5 | h5
    · exact .inl h5
    · exact .inr (hown' b h5)) hg hrep
  refine wp_val (w' := w') (x := v') (exec_builtin ho (n := .value v') (fun cs => ?_)) ⟨_, hK, F, _, hnew.put ?_ (dst_lt hd)⟩
  · have : (#[x, y] : Array Operand).map a.eval = #[a.eval x, a.eval y] := by simp
    rw [this, hv, hye]
    show (do pure (.value (← Builtin.append_ #[t, t] o.type #[ν i, .slice A m cc])) : Sem Next).run P w = _
    simp only [Sem.run_bind, hrun, Result.andThen_ok, Sem.run_pure]
  · rcases how'.2 with ⟨h7, h8⟩ | ⟨g, cap, cur, h7, _⟩
    · subst h7
      refine ⟨obj2, e, (T e).sz, n + m, _, none, 0, 0, by rw [upd_mem]; simp, hr2, by omega, .inl rfl, by simp [nuSet], ?_⟩
      rw [h8]
      simp
    · subst h7
      refine ⟨obj2, e, (T e).sz, n + m, _, some ⟨g, 0, none⟩, n + m, cap, by rw [upd_mem]; simp, hr2, by omega, .inl rfl, by simp [nuSet], ?_⟩
      simp [Addr.add]
/-- append to nil. -/
theorem opp_append_nils (hT : TAll P T) {K : St → Prop} {x y : Operand} {t e : TypeId} {j m : Nat} {fl2 : List D} {obj2 : MO} (ho : o.op = .call ⟨.builtin .append, #[x, y], #[t, t]⟩) (hd : dstOk c.N o = true) (ht : (T t).k = .sl e) (he : (T e).k.ok = true) (hz0 : 0 < (T e).sz)
    (hx : s.ev x = .nils) (hy : srcOf T e (s.ev y) = some (m, fl2)) (hfl : fl2.length = m * (T e).sz) (hjN : j < c.N) (hj : s.mem j = none)
    (hr2 : obj2.row? = some (e, (T e).sz, m, fl2)) (hb : m * ((T e).bytes + 1) ≤ 140737488355328)
    (hK : K ((s.upd j obj2).put o.dst (.own j 0 m))) : OpP P c o s K := by
  unfold OpP
  rintro Q a w ⟨F, ν, h⟩
  have hxr := ev_rep h x
  have hyr := ev_rep h y
  rw [hx] at hxr
  have hv : a.eval x = .slice none 0 0 := hxr
  obtain ⟨A, cc, news, hye, hna, hnc⟩ := src_rep hyr hy hfl
  obtain ⟨dd, hu, hf⟩ := und_of hT ht rfl
  simp only [TK.fits] at hf
  subst hf
  obtain ⟨h1, h2, h3, h4⟩ := hT e he
  obtain ⟨ti, z, hi, hisz, hib, hzz, hc⟩ := h1.all
  have hmul : m * ((T e).bytes + 1) = m * (T e).bytes + m := by rw [Nat.mul_add, Nat.mul_one]
  obtain ⟨v', w', hrun, how', hg, hblk⟩ := append_run (P := P) o.type hu hi hzz hisz (by rw [hc]; simp [h3]) hz0 (World.ownsRow_nil w 0 e (T e).sz) A m cc news (by rw [← hna.1]; exact hfl) hnc (fun u hu => by
      obtain ⟨j, hj⟩ := List.getElem?_of_mem hu
      have hlt := (List.getElem?_eq_some_iff.1 hj).1
      rw [← hna.1] at hlt
      exact (hna.2 j fl2[j] u (by simp [hlt]) hj).one) (by unfold maxLen; omega) (by rw [hib, Nat.zero_add]; omega)
  rw [Nat.zero_add, List.nil_append] at how'
  have hF : ∀ k, F k → w'.heap[k]? = w.heap[k]? := fun k hk => hg.block k (h.fin k hk).1 (fun e => by simp [Value.ownBlock] at e)
  have hrep : MRep w' F obj2 v' := MRep.ofRow hr2 hz0 how' (hna.mono fun _ _ hh => hh.frame (fun _ hb => hb) hF)
  have hnew := h.renew (w' := w') (i := j) (obj := obj2) hjN hj (v := v') (old := none) (fun b hb => by cases hb) (fun b hb => by
    rcases hblk b hb with h5 | h5
    · exact .inl h5
    · cases h5) hg hrep
  refine wp_val (w' := w') (x := v') (exec_builtin ho (n := .value v') (fun cs => ?_)) ⟨_, hK, F, _, hnew.put ?_ (dst_lt hd)⟩
  · have : (#[x, y] : Array Operand).map a.eval = #[a.eval x, a.eval y] := by simp
    rw [this, hv, hye]
    show (do pure (.value (← Builtin.append_ #[t, t] o.type #[.slice none 0 0, .slice A m cc])) : Sem Next).run P w = _
    simp only [Sem.run_bind, hrun, Result.andThen_ok, Sem.run_pure]
  · rcases how'.2 with ⟨h7, h8⟩ | ⟨g, cap, cur, h7, _⟩
    · subst h7
      refine ⟨obj2, e, (T e).sz, m, _, none, 0, 0, by rw [upd_mem]; simp, hr2, by omega, .inl rfl, by simp [nuSet], ?_⟩
      rw [h8]
      simp
    · subst h7
      refine ⟨obj2, e, (T e).sz, m, _, some ⟨g, 0, none⟩, m, cap, by rw [upd_mem]; simp, hr2, by omega, .inl rfl, by simp [nuSet], ?_⟩
      simp [Addr.add]
end Go.Proofs.Ythefflmebkcilaa.Fw
