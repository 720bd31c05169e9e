import Derived.Test.YthefflmebkcilaaFR
set_option linter.unusedVariables false
set_option linter.unusedSimpArgs false
namespace Go.Proofs.Ythefflmebkcilaa.Fw
open Go
variable {P : Program} {T : TT} {c : Ctx} {F : Nat → Prop} {ν : Nat → Value} {s : St} {a : Act} {w : World} {o : Oper} {keep : List Nat}

/-! ### Calls that are handed rows and boxes of the caller's own, or hand back new ones -/
def BlkOf (ν : Nat → Value) (m : Mem) : Nat → Prop := fun b => ∃ o obj, m o = some obj ∧ blk (ν o) = some b
structure Objs (w : World) (F : Nat → Prop) (ν : Nat → Value) (m : Mem) (S : Nat → Nat → Prop) : Prop where
  rep : ∀ o obj, m o = some obj → MRep w F obj (ν o)
  sep : ∀ o obj b, m o = some obj → blk (ν o) = some b → ¬ F b ∧ S o b
  inj : ∀ o o' obj obj' b, m o = some obj → m o' = some obj' → blk (ν o) = some b → blk (ν o') = some b → o = o'
/-- Function g, called with these values, of which some lead to the objects mi, hands back r and leaves the objects mo. -/
@[irreducible] def RunsG (P : Program) (g : FuncId) (args : List V) (mi : List (Nat × MO)) (r : V) (mo : List (Nat × MO)) : Prop :=
  FOK P g ∧ ∀ (F : Nat → Prop) (ν : Nat → Value) (w : World) (vals : List Value), (∀ b, F b → b < w.heap.size) → AllR (VR1 w F ν (memL mi)) args vals → Objs w F ν (memL mi) (fun _ _ => True) →
    Calls P g vals.toArray w fun e w' => ∃ v F' ν', e = .returned v ∧ VR w' F' ν' (memL mo) r v ∧ Objs w' F' ν' (memL mo) (fun o b => w.heap.size ≤ b ∨ (BlkOf ν (memL mi) b ∧ ∃ ob, memL mi o = some ob)) ∧
      (∀ b, F' b → b < w'.heap.size ∧ (F b ∨ w.heap.size ≤ b)) ∧ (∀ o obj, memL mi o = some obj → ν' o = ν o) ∧ Keep w.heap.size (BlkOf ν (memL mi)) w w'

def retG1 (T : TT) (s : St) (rv : ResultVar) (t : TypeId) : V :=
  match rv with
  | .tmp x => match s.env x with
    | .d y => .d y
    | .agg n l => .agg n l
    | .nils => emptyOf T t
    | .own o off len => .own o off len
    | .addr o off => .addr o off
    | _ => .undef
  | .cell x ct => match s.env x with
    | .addr o 0 => match s.mem o with
      | some (.box l) => bif Nat.beq (T ct).sz l.length && (T ct).k.ok then ofCells T ct l else .undef
      | _ => .undef
    | _ => .undef
def retGs (T : TT) (s : St) : List ResultVar → List TypeId → List V
  | [], _ => []
  | r :: rs, ts => retG1 T s r (ts.headD 0) :: retGs T s rs ts.tail
def retG (T : TT) (s : St) (rs : List ResultVar) (ts : List TypeId) : V :=
  match retGs T s rs ts with
  | [v] => v
  | l => .tup l
def liveR (m : Mem) (v : V) : Bool := match v with | .tup l => l.all (liveB m) | v => liveB m v
@[irreducible] def RetG (x r : V) (s : St) (mo : List (Nat × MO)) : Prop := x = r ∧ defd r = true ∧ AllM s mo ∧ liveR (memL mo) r = true
def kretG (T : TT) (fn : Func) (r : V) (mo : List (Nat × MO)) (e : Ex) (s : St) : Prop :=
  match e with
  | .exit _ => False
  | .normal => RetG (retG T s fn.results.toList fn.resultTypes.toList) r s mo
  | .ret => RetG (retG T s fn.results.toList fn.resultTypes.toList) r s mo
def exG (P : Program) (T : TT) (keep : List Nat) (c : Ctx) (fn : Func) (args : List V) (mi : List (Nat × MO)) (r : V) (mo : List (Nat × MO)) : Prop :=
  match fn.body with
  | some b => ex P T keep c fn.ntmps b (kretG T fn r mo) ⟨initE args, memL mi⟩
  | none => False
theorem retG_intro {x r : V} {s : St} {mo : List (Nat × MO)} (h : x = r) (hd : defd r = true) (hm : AllM s mo) (hl : liveR (memL mo) r = true) : RetG x r s mo := by unfold RetG; exact ⟨h, hd, hm, hl⟩

theorem ret1_runG (hT : TAll P T) (h : SRep c F ν s a w) (rv : ResultVar) (t : TypeId) (hd : isDef (retG1 T s rv t) = true) :
    ∃ x, (match rv with
      | .tmp t => (pure (a.tmps.getD t undef) : Sem Value)
      | .cell y t => do loadVar t (← asAddr (a.tmps.getD y undef))).run P w = .ok x w ∧ VR1 w F ν s.mem (retG1 T s rv t) x := by
  cases rv with
  | tmp x =>
    refine ⟨_, rfl, ?_⟩
    have he := h.env x
    unfold retG1 at hd ⊢
    dsimp only at hd ⊢
    cases hv : s.env x with
    | d y => rw [hv] at he; exact he
    | agg n l => rw [hv] at he; exact he
    | nils =>
      rw [hv] at he hd
      dsimp only at hd ⊢
      have hx : a.tmps.getD x undef = .slice none 0 0 := he
      rw [hx]
      have := empty_rep w F ν s.mem T t
      refine VR.to1 this (fun l hl => ?_)
      unfold emptyOf at hl
      split at hl
      · split at hl <;> cases hl
      · cases hl
    | own o off len => rw [hv] at he; exact he
    | addr o off => rw [hv] at he; exact he
    | _ => rw [hv] at hd; cases hd
  | cell x ct =>
    have he := h.env x
    unfold retG1 at hd ⊢
    dsimp only at hd ⊢
    cases hv : s.env x with
    | addr i off =>
      rw [hv] at he hd
      cases off with
      | succ k => cases hd
      | zero =>
        obtain ⟨l, a0, hm, hν, hx⟩ := he
        simp only [hm] at hd ⊢
        cases hc : Nat.beq (T ct).sz l.length && (T ct).k.ok with
        | false => rw [hc] at hd; cases hd
        | true =>
          rw [cond_true]
          simp only [Bool.and_eq_true] at hc
          have hsz := Nat.eq_of_beq_eq_true hc.1
          obtain ⟨b, cur, ty, hν', hheap, ha⟩ := box_inv h hm
          rw [hν] at hν'
          injection hν' with hν'
          injection hν' with hν'
          subst hν'
          have ha0 : (⟨b, 0, none⟩ : Addr).add 0 = ⟨b, 0, none⟩ := rfl
          rw [ha0] at hx
          obtain ⟨y, hy, hr⟩ := load_run (P := P) (F := F) hT hc.2 ⟨b, 0, none⟩ cur.toList l (by rw [← ha.1]; exact hsz.symm) (row_cells w b cur ty hheap) ha ν s.mem
          refine ⟨y, ?_, ?_⟩
          · rw [hx]
            unfold Instr.loadAt at hy
            simp only [Instr.sureAddr, Sem.run_bind, Sem.run_pure, Result.andThen_ok] at hy
            simp only [asAddr, Sem.run_bind, Sem.run_pure, Result.andThen_ok, hy]
          · refine VR.to1 hr (fun l' hl => ?_)
            unfold ofCells at hl
            cases hg : (T ct).k.agg <;> rw [hg] at hl <;> cases hl
    | _ => rw [hv] at hd; cases hd
theorem retGs_get : ∀ (rs : List ResultVar) (ts : List TypeId) (j : Nat) (r : ResultVar) (y : V), rs[j]? = some r → (retGs T s rs ts)[j]? = some y → ∃ t, y = retG1 T s r t := by
  intro rs
  induction rs with
  | nil => intro ts j r y h; simp at h
  | cons r0 rs ih =>
    intro ts j r y h1 h2
    cases j with
    | zero => simp [retGs] at h1 h2; subst h1; exact ⟨_, h2.symm⟩
    | succ j => simp [retGs] at h1 h2; exact ih ts.tail j r y h1 h2
theorem retGs_len : ∀ (rs : List ResultVar) (ts : List TypeId), (retGs T s rs ts).length = rs.length := by
  intro rs
  induction rs with
  | nil => intro ts; rfl
  | cons r rs ih => intro ts; simp [retGs, ih]
theorem retG1_tup (r : ResultVar) (t : TypeId) (l : List V) : retG1 T s r t ≠ .tup l := by
  unfold retG1
  cases r with
  | tmp x =>
    dsimp only
    split
    · simp
    · simp
    · unfold emptyOf
      split
      · split <;> simp
      · simp
    · simp
    · simp
    · simp
  | cell x ct =>
    dsimp only
    split
    · split
      · generalize (Nat.beq _ _ && _) = b
        cases b
        · simp
        · exact ofCells_tup _ _ _
      · simp
    · simp
theorem results_runG (hT : TAll P T) (h : SRep c F ν s a w) (fn : Func) (hd : defd (retG T s fn.results.toList fn.resultTypes.toList) = true) :
    ∃ x, (results fn a.tmps).run P w = .ok x w ∧ VR w F ν s.mem (retG T s fn.results.toList fn.resultTypes.toList) x := by
  have hall : ∀ y ∈ retGs T s fn.results.toList fn.resultTypes.toList, isDef y = true := by
    unfold retG at hd
    intro y hy
    split at hd
    · rename_i v hv
      rw [hv] at hy
      simp only [List.mem_singleton] at hy
      subst hy
      unfold defd at hd
      split at hd
      · cases hd
      · rename_i l
        obtain ⟨j, hj⟩ := List.getElem?_of_mem (by rw [hv]; simp : V.tup l ∈ retGs T s fn.results.toList fn.resultTypes.toList)
        have hlt := (List.getElem?_eq_some_iff.1 hj).1
        rw [retGs_len] at hlt
        obtain ⟨t, ht⟩ := retGs_get _ _ j _ _ (List.getElem?_eq_getElem hlt) hj
        exact absurd ht.symm (retG1_tup _ _ _)
      · rename_i h1 _
        unfold isDef
        split
        · exact absurd rfl h1
        · rfl
    · unfold defd at hd
      have := List.all_eq_true.1 hd y hy
      unfold isDef
      cases y <;> first | rfl | (simp at this)
  obtain ⟨zs, hz, hR⟩ := mapM_ex (P := P) (fun rv => match rv with
      | .tmp t => (pure (a.tmps.getD t undef) : Sem Value)
      | .cell y t => do loadVar t (← asAddr (a.tmps.getD y undef))) (VR1 w F ν s.mem) w fn.results.toList (retGs T s fn.results.toList fn.resultTypes.toList) (retGs_len _ _).symm (fun j x y hx hy => by
        obtain ⟨t, rfl⟩ := retGs_get _ _ j x y hx hy
        exact ret1_runG hT h x t (hall _ (List.mem_of_getElem? hy)))
  have harr := mapM_arr _ w fn.results zs hz
  unfold results
  refine ⟨if h : zs.toArray.size = 1 then zs.toArray[0] else .tuple zs.toArray, ?_, ?_⟩
  · simp only [Sem.run_bind]
    refine Eq.trans (congrArg (fun r => Result.andThen r _) harr) ?_
    rfl
  · unfold retG
    split
    · rename_i v hv
      rw [hv] at hR
      obtain ⟨u, us, rfl, h0, h1⟩ := hR.head
      obtain rfl := h1.nil_of
      simp only [List.size_toArray, List.length_cons, List.length_nil, Nat.zero_add, dite_true]
      exact VR.of1 h0
    · rename_i hne
      have hlen := hR.1
      rw [dif_neg (by
        intro h1
        rw [List.size_toArray, ← hlen] at h1
        match hv : retGs T s fn.results.toList fn.resultTypes.toList, h1 with
        | [v], _ => exact hne v hv)]
      exact ⟨_, rfl, hR⟩
theorem VR.subR {x : V} {v : Value} {m m' : Mem} (h : VR w F ν m x v) (hl : liveR m' x = true) (hm : ∀ o obj, m' o = some obj → m o = some obj) : VR w F ν m' x v := by
  cases x with
  | tup l =>
    obtain ⟨vs, rfl, ha⟩ := h
    refine ⟨vs, rfl, ha.1, fun j x u hx hu => ?_⟩
    have hlx := List.all_eq_true.1 hl x (List.mem_of_getElem? hx)
    have hne : ∀ l, x ≠ .tup l := fun l e => by subst e; cases hlx
    have := VR.sub (m' := m') (VR.of1 (ha.2 j x u hx hu)) hlx hm
    exact VR.to1 this hne
  | _ => exact VR.sub h hl hm
theorem init_repG {n : Nat} {args : List V} {mi : List (Nat × MO)} {vals : List Value} (hF : ∀ b, F b → b < w.heap.size) (ha : AllR (VR1 w F ν (memL mi)) args vals) (ho : Objs w F ν (memL mi) (fun _ _ => True))
    (hn : args.length ≤ n) (hk : ∀ o obj, memL mi o = some obj → n ≤ o) :
    SRep ⟨n, w.heap.size, BlkOf ν (memL mi), F, w, ν⟩ F ν ⟨initE args, memL mi⟩ { tmps := vals.toArray ++ Array.replicate (n - vals.toArray.size) undef, defers := [] } w := by
  have hlen := ha.1
  refine ⟨by simp; omega, rfl, fun t => ?_, ho.rep, fun o obj b h1 h2 => ⟨(ho.sep o obj b h1 h2).1, .inr ⟨⟨o, obj, h1, h2⟩, hk o obj h1⟩⟩, ho.inj, fun b hb => ⟨hF b hb, .inl hb⟩, Keep.refl _ _ _, rfl, fun _ _ => rfl⟩
  show VR w F _ _ (initE args t) _
  rw [initE_get, getD_app]
  by_cases ht : t < args.length
  · rw [List.getD_eq_getElem?_getD, List.getD_eq_getElem?_getD, List.getElem?_eq_getElem ht, List.getElem?_eq_getElem (by omega)]
    exact VR.of1 (ha.2 t args[t] vals[t] (by simp [ht]) (by simp [show t < vals.length by omega]))
  · rw [List.getD_eq_getElem?_getD, List.getElem?_eq_none (by omega)]
    trivial
def keysOk (n : Nat) : List (Nat × MO) → Bool
  | [] => true
  | (i, _) :: r => Nat.ble n i && keysOk n r
theorem keysOk_le {n : Nat} : ∀ (l : List (Nat × MO)), keysOk n l = true → ∀ o obj, memL l o = some obj → n ≤ o := by
  intro l
  induction l with
  | nil => intro _ o obj h; cases h
  | cons p l ih =>
    obtain ⟨i, ob⟩ := p
    intro hk o obj h
    simp only [keysOk, Bool.and_eq_true] at hk
    simp only [memL] at h
    by_cases e : o = i
    · subst e; exact Nat.le_of_ble_eq_true hk.1
    · rw [beq_no e, cond_false] at h; exact ih hk.2 o obj h

def moOk (n : Nat) (mi : List (Nat × MO)) : List (Nat × MO) → Bool
  | [] => true
  | (i, _) :: r => (Nat.blt i n || isSome' (memL mi i)) && moOk n mi r
theorem moOk_in {n : Nat} {mi : List (Nat × MO)} : ∀ (l : List (Nat × MO)), moOk n mi l = true → ∀ o obj, memL l o = some obj → n ≤ o → ∃ ob, memL mi o = some ob := by
  intro l
  induction l with
  | nil => intro _ o obj h; cases h
  | cons p l ih =>
    obtain ⟨i, ob⟩ := p
    intro hk o obj h hn
    simp only [moOk, Bool.and_eq_true, Bool.or_eq_true] at hk
    simp only [memL] at h
    by_cases e : o = i
    · subst e
      rcases hk.1 with h1 | h1
      · have := Nat.le_of_ble_eq_true h1; omega
      · unfold isSome' at h1
        split at h1
        · rename_i x hx; exact ⟨x, hx⟩
        · cases h1
    · rw [beq_no e, cond_false] at h; exact ih hk.2 o obj h hn

/-- FROM THE PURE SIDE TO A CONTRACT, with objects. -/
theorem runsG_of (hT : TAll P T) (hm : P.follows .mixedOrders = true) {g : FuncId} {fn : Func} {args : List V} {mi mo : List (Nat × MO)} {r : V} (hf : P.funcs[g]? = some fn) (hname : (fn.name == "runtime.NumGoroutine") = false) (hn : args.length ≤ fn.ntmps)
    (hk : keysOk fn.ntmps mi = true) (hko : moOk fn.ntmps mi mo = true) (h : ∀ c : Ctx, c.N = fn.ntmps → exG P T keep c fn args mi r mo) : RunsG P g args mi r mo := by
  unfold RunsG
  have hb : ∃ b, fn.body = some b := by
    have := h ⟨fn.ntmps, 0, fun _ => False, fun _ => False, default, fun _ => undef⟩ rfl
    unfold exG at this
    split at this
    · rename_i b hb; exact ⟨b, hb⟩
    · exact this.elim
  obtain ⟨b, hb⟩ := hb
  refine ⟨⟨fn, hf, hname, by rw [hb]; rfl⟩, fun F ν w vals hF ha ho => ?_⟩
  have hc := h ⟨fn.ntmps, w.heap.size, BlkOf ν (memL mi), F, w, ν⟩ rfl
  unfold exG at hc
  rw [hb] at hc
  dsimp only at hc
  refine calls_of_wp hf hb (wp_mono (ex_sound (c := ⟨fn.ntmps, w.heap.size, BlkOf ν (memL mi), F, w, ν⟩) hT hm b _ _ _ w ⟨F, _, init_repG hF ha ho hn (keysOk_le mi hk)⟩ hc) ?_)
  intro e a w' hl
  have fin : ∀ s, RetG (retG T s fn.results.toList fn.resultTypes.toList) r s mo → SR ⟨fn.ntmps, w.heap.size, BlkOf ν (memL mi), F, w, ν⟩ s a w' → a.defers = [] ∧ ∃ v, (results fn a.tmps).run P w' = .ok v w' ∧
      ∃ v' F' ν', Ending.returned v = .returned v' ∧ VR w' F' ν' (memL mo) r v' ∧ Objs w' F' ν' (memL mo) (fun o b => w.heap.size ≤ b ∨ (BlkOf ν (memL mi) b ∧ ∃ ob, memL mi o = some ob)) ∧
      (∀ b, F' b → b < w'.heap.size ∧ (F b ∨ w.heap.size ≤ b)) ∧ (∀ o obj, memL mi o = some obj → ν' o = ν o) ∧ Keep w.heap.size (BlkOf ν (memL mi)) w w' := by
    intro s hret hs
    unfold RetG at hret
    obtain ⟨hr, hd, hmo, hlv⟩ := hret
    obtain ⟨F', ν', hs⟩ := hs
    rw [← hr] at hd
    obtain ⟨x, hx, hv⟩ := results_runG (P := P) hT hs fn hd
    rw [hr] at hv
    have hmm := fun o obj => memL_get mo o obj hmo
    refine ⟨hs.dfr, x, hx, x, F', ν', rfl, VR.subR hv hlv hmm, ⟨fun o obj h1 => hs.mem o obj (hmm o obj h1), fun o obj b h1 h2 => ?_, fun o o' obj obj' b h1 h2 => hs.inj o o' obj obj' b (hmm o obj h1) (hmm o' obj' h2)⟩,
      hs.fin, fun o obj h1 => hs.nu o (keysOk_le mi hk o obj h1), hs.keep⟩
    have := hs.sep o obj b (hmm o obj h1) h2
    refine ⟨this.1, ?_⟩
    rcases this.2 with h3 | h3
    · exact .inl h3
    · exact .inr ⟨h3.1, moOk_in mo hko o obj h1 h3.2⟩
  cases e with
  | normal => obtain ⟨s, hk, hs⟩ := hl; exact fin s hk hs
  | ret => obtain ⟨s, hk, hs⟩ := hl; exact fin s hk hs
  | exit id => obtain ⟨s, hk, hs⟩ := hl; exact hk.elim
  | _ => exact hl.elim
end Go.Proofs.Ythefflmebkcilaa.Fw
