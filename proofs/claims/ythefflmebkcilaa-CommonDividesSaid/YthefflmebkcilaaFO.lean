import Derived.Test.YthefflmebkcilaaFN
set_option linter.unusedVariables false
set_option linter.unusedSimpArgs false
namespace Go.Proofs.Ythefflmebkcilaa.Fw
open Go
variable {P : Program} {T : TT} {c : Ctx} {F : Nat → Prop} {ν : Nat → Value} {s : St} {a : Act} {w : World} {o : Oper} {keep : List Nat}

theorem numbered_app (l1 l2 : List Oper) : ∀ k, numbered k (l1 ++ l2) = numbered k l1 ++ numbered (k + l1.length) l2 := by
  induction l1 with
  | nil => intro k; rfl
  | cons o l1 ih =>
    intro k
    simp only [List.cons_append, numbered, ih, List.length_cons]
    rw [show k + 1 + l1.length = k + (l1.length + 1) by omega]
theorem numbered_mem : ∀ (l : List Oper) (k : Nat) (p : Nat × Oper), p ∈ numbered k l ↔ k ≤ p.1 ∧ l[p.1 - k]? = some p.2 := by
  intro l
  induction l with
  | nil => intro k p; simp [numbered]
  | cons o l ih =>
    intro k p
    simp only [numbered, List.mem_cons, ih]
    constructor
    · rintro (rfl | ⟨h1, h2⟩)
      · simp
      · refine ⟨by omega, ?_⟩
        rw [show p.1 - k = (p.1 - (k + 1)) + 1 by omega]
        simpa using h2
    · rintro ⟨h1, h2⟩
      by_cases h : p.1 = k
      · left
        rw [h, Nat.sub_self] at h2
        simp at h2
        exact Prod.ext h h2.symm
      · right
        refine ⟨by omega, ?_⟩
        rw [show p.1 - k = (p.1 - (k + 1)) + 1 by omega] at h2
        simpa using h2
def left (ops : List Oper) (listed : Array Bool) : List (Nat × Oper) := (numbered 0 ops).filter fun p => !listed.getD p.1 true
def Closed (ops : List Oper) (listed : Array Bool) : Prop := ∀ i, listed.getD i false = true → ∀ k ∈ (befores ops).getD i [], listed.getD k false = true
theorem waits_listed {ops : List Oper} {listed : Array Bool} (hc : Closed ops listed) : ∀ (n i j : Nat), (∀ k ∈ (befores ops).getD i [], listed.getD k false = true) → waits (befores ops) n i j = true → listed.getD j false = true := by
  intro n
  induction n with
  | zero => intro i j _ h; simp [waits] at h
  | succ n ih =>
    intro i j hi h
    simp only [waits, List.any_eq_true, Bool.or_eq_true] at h
    obtain ⟨k, hk, h⟩ := h
    rcases h with h | h
    · have := Nat.eq_of_beq_eq_true h
      subst this
      exact hi k hk
    · exact ih k j (hc k (hi k hk)) h
theorem befores_get {ops : List Oper} {i : Nat} {o : Oper} (h : ops[i]? = some o) (k : Nat) : k ∈ (befores ops).getD i [] ↔ ∃ e ∈ o.after.toList, Region.binds .any e = true ∧ e.on = k := by
  unfold befores
  rw [List.getD_eq_getElem?_getD, List.getElem?_map, h]
  simp only [Option.map_some, Option.getD_some, List.mem_filterMap]
  constructor
  · rintro ⟨e, he, h⟩
    cases hb : Region.binds .any e with
    | false => rw [hb] at h; cases h
    | true =>
      rw [hb] at h
      simp only [cond_true, Option.some.injEq] at h
      exact ⟨e, he, hb, h⟩
  · rintro ⟨e, he, hb, h⟩
    exact ⟨e, he, by rw [hb]; simp [h]⟩
theorem ready_iff {ops : Array Oper} {listed : Array Bool} {i : Nat} : i ∈ Region.ready .any ops listed ↔ i < ops.size ∧ listed.getD i true = false ∧ ∃ o, ops[i]? = some o ∧ ∀ k ∈ (befores ops.toList).getD i [], listed.getD k false = true := by
  unfold Region.ready
  simp only [List.mem_filter, List.mem_range, Bool.and_eq_true, Bool.not_eq_true']
  constructor
  · rintro ⟨hi, hl, hm⟩
    refine ⟨hi, hl, ops[i], by simp [hi], fun k hk => ?_⟩
    rw [Array.getElem?_eq_getElem hi] at hm
    simp only [Option.map_some, Option.getD_some, Array.all_eq_true'] at hm
    obtain ⟨e, he, hb, rfl⟩ := (befores_get (ops := ops.toList) (i := i) (o := ops[i]) (by simp [hi]) k).1 hk
    have := hm e (Array.mem_toList_iff.1 he)
    rw [hb] at this
    simpa using this
  · rintro ⟨hi, hl, o, ho, hk⟩
    refine ⟨hi, hl, ?_⟩
    rw [ho]
    simp only [Option.map_some, Option.getD_some, Array.all_eq_true']
    intro e he
    cases hb : Region.binds .any e with
    | false => rfl
    | true =>
      have := hk e.on ((befores_get (ops := ops.toList) (i := i) (o := o) (by simpa using ho) e.on).2 ⟨e, Array.mem_toList_iff.2 he, hb, rfl⟩)
      simpa using this
theorem set_getD (listed : Array Bool) (i j : Nat) (d : Bool) (hi : i < listed.size) : (listed.setIfInBounds i true).getD j d = if j = i then true else listed.getD j d := by
  simp only [Array.getD_eq_getD_getElem?, Array.getElem?_setIfInBounds]
  by_cases h : j = i
  · subst h; simp [hi]
  · have : ¬ i = j := fun e => h e.symm
    simp [h, this]
theorem left_split {ops : List Oper} {listed : Array Bool} {i : Nat} {o : Oper} (ho : ops[i]? = some o) (hl : listed.getD i true = false) (hsz : i < listed.size) : ∃ L1 L2, left ops listed = L1 ++ (i, o) :: L2 ∧ left ops (listed.setIfInBounds i true) = L1 ++ L2 ∧ ∀ p ∈ L1, p.1 < i ∧ ops[p.1]? = some p.2 ∧ listed.getD p.1 true = false := by
  have hi : i < ops.length := (List.getElem?_eq_some_iff.1 ho).1
  have hsplit : ops = ops.take i ++ o :: ops.drop (i + 1) := by
    rw [← (List.getElem?_eq_some_iff.1 ho).2, List.getElem_cons_drop, List.take_append_drop]
  have hlen : (ops.take i).length = i := by simp; omega
  have hnum : numbered 0 ops = numbered 0 (ops.take i) ++ (i, o) :: numbered (i + 1) (ops.drop (i + 1)) := by
    conv => lhs; rw [hsplit]
    rw [numbered_app, hlen, Nat.zero_add]
    rfl
  have h1 : ∀ p ∈ numbered 0 (ops.take i), p.1 < i ∧ ops[p.1]? = some p.2 := by
    intro p hp
    obtain ⟨_, h2⟩ := (numbered_mem _ _ _).1 hp
    rw [Nat.sub_zero, List.getElem?_take] at h2
    split at h2
    · exact ⟨by assumption, h2⟩
    · cases h2
  have h2 : ∀ p ∈ numbered (i + 1) (ops.drop (i + 1)), i < p.1 := by
    intro p hp
    have := ((numbered_mem _ _ _).1 hp).1
    omega
  refine ⟨(numbered 0 (ops.take i)).filter fun p => !listed.getD p.1 true, (numbered (i + 1) (ops.drop (i + 1))).filter fun p => !listed.getD p.1 true, ?_, ?_, ?_⟩
  · unfold left
    rw [hnum, List.filter_append, List.filter_cons]
    simp only [hl, Bool.not_false, if_true]
  · unfold left
    rw [hnum, List.filter_append, List.filter_cons, set_getD _ _ _ _ hsz]
    simp only [if_true, Bool.not_true, Bool.false_eq_true, if_false]
    congr 1
    · refine List.filter_congr fun p hp => ?_
      have := (h1 p hp).1
      rw [set_getD _ _ _ _ hsz, if_neg (by omega)]
    · refine List.filter_congr fun p hp => ?_
      have := h2 p hp
      rw [set_getD _ _ _ _ hsz, if_neg (by omega)]
  · intro p hp
    rw [List.mem_filter] at hp
    exact ⟨(h1 p hp.1).1, (h1 p hp.1).2, by simpa using hp.2⟩
theorem getD_tf {listed : Array Bool} {i : Nat} (h : listed.getD i false = true) : listed.getD i true = true := by
  simp only [Array.getD_eq_getD_getElem?] at h ⊢
  cases hi : listed[i]? with
  | none => rw [hi] at h; cases h
  | some b => rw [hi] at h; simpa using h
theorem any_sound (hT : TAll P T) {ops : Array Oper} {K : St → Prop} {Q : Exit → Act → World → Prop} (hQ : ∀ s a w, K s → SR c s a w → Q .normal a w)
    (hsl : ∀ i j x y, j < i → ops.toList[i]? = some y → ops.toList[j]? = some x → waits (befores ops.toList) ops.toList.length i j = true ∨ slotsApart ops.toList x y = true)
    (hup : ∀ i, ∀ k ∈ (befores ops.toList).getD i [], k < i) :
    ∀ (fuel : Nat) (listed : Array Bool) (done : List (Nat × Foot)) (s : St) (a : Act) (w : World), listed.size = ops.size → Closed ops.toList listed → (left ops.toList listed).length ≤ fuel → exL P T keep c ops.toList (left ops.toList listed) done K s → SR c s a w → wpAny P .any ops Q fuel listed a w := by
  have hdone : ∀ (listed : Array Bool), listed.size = ops.size → Region.ready .any ops listed = [] → left ops.toList listed = [] := by
    intro listed hsz hr
    have hall : ∀ i, i < ops.size → listed.getD i true = true := by
      intro i
      induction i using Nat.strongRecOn with
      | _ i ih =>
        intro hi
        cases hl : listed.getD i true with
        | true => rfl
        | false =>
          have : i ∈ Region.ready .any ops listed := by
            refine ready_iff.2 ⟨hi, hl, ops[i], by simp [hi], fun k hk => ?_⟩
            have hki := hup i k hk
            have := ih k hki (by omega)
            simp only [Array.getD_eq_getD_getElem?, Array.getElem?_eq_getElem (show k < listed.size by omega)] at this ⊢
            simpa using this
          rw [hr] at this
          cases this
    refine List.eq_nil_iff_forall_not_mem.2 fun p hp => ?_
    unfold left at hp
    rw [List.mem_filter] at hp
    obtain ⟨_, h2⟩ := (numbered_mem _ _ _).1 hp.1
    rw [Nat.sub_zero] at h2
    have := hall p.1 (by have := (List.getElem?_eq_some_iff.1 h2).1; simpa using this)
    rw [this] at hp
    simp at hp
  intro fuel
  induction fuel with
  | zero =>
    intro listed done s a w hsz hc hlen hex hs
    have h0 : left ops.toList listed = [] := List.eq_nil_of_length_eq_zero (by omega)
    refine ⟨List.eq_nil_iff_forall_not_mem.2 fun i hi => ?_, ?_⟩
    · obtain ⟨hi, hl, o, ho, _⟩ := ready_iff.1 hi
      obtain ⟨L1, L2, h1, _⟩ := left_split (ops := ops.toList) (by simpa using ho) hl (by omega)
      rw [h0] at h1
      simp at h1
    · rw [h0] at hex
      exact hQ s a w hex hs
  | succ fuel ih =>
    intro listed done s a w hsz hc hlen hex hs
    refine ⟨fun hr => ?_, fun i hi => ?_⟩
    · rw [hdone listed hsz hr] at hex
      exact hQ s a w hex hs
    · obtain ⟨hi, hl, o, ho, hpre⟩ := ready_iff.1 hi
      have ho' : ops.toList[i]? = some o := by simpa using ho
      obtain ⟨L1, L2, h1, h2, h3⟩ := left_split (ops := ops.toList) ho' hl (by omega)
      rw [h1] at hex
      have hpull := pull hsl i o ho' L1 L2 done K s (fun p hp => by
        obtain ⟨g1, g2, g3⟩ := h3 p hp
        refine ⟨g1, g2, ?_⟩
        cases hwt : waits (befores ops.toList) ops.toList.length i p.1 with
        | false => rfl
        | true =>
          have := getD_tf (waits_listed hc _ _ _ hpre hwt)
          rw [g3] at this
          cases this) hex
      have hc' : Closed ops.toList (listed.setIfInBounds i true) := by
        intro i' hi' k hk
        rw [set_getD _ _ _ _ (by omega)]
        rw [set_getD _ _ _ _ (by omega)] at hi'
        split
        · rfl
        · by_cases he : i' = i
          · subst he; exact hpre k hk
          · rw [if_neg he] at hi'
            exact hc i' hi' k hk
      have hlen' : (left ops.toList (listed.setIfInBounds i true)).length ≤ fuel := by
        rw [h1] at hlen
        rw [h2]
        simp only [List.length_append, List.length_cons] at hlen ⊢
        omega
      have step : ∀ done', stepO P T keep c c.N ops.toList i o (exL P T keep c ops.toList (L1 ++ L2) done' K) s → wpOp P ops Q i (wpAny P .any ops Q fuel (listed.setIfInBounds i true)) a w := by
        intro done' hst
        obtain ⟨g1, g2⟩ := step_sound hT hs hst
        unfold wpOp
        rw [ho]
        dsimp only
        cases hw : Region.wanted o (yielded ops a.tmps) with
        | true =>
          simp only [if_true]
          refine .inl (Oper.wp_mono ?_ (g1 hw Q))
          rintro a' w' ⟨s', hk, hs'⟩
          exact ih _ done' s' a' w' (by simp [hsz]) hc' hlen' (by rw [h2]; exact hk) hs'
        | false =>
          simp only [Bool.false_eq_true, if_false]
          obtain ⟨s', hk, hs'⟩ := g2 hw
          exact ih _ done' s' _ w (by simp [hsz]) hc' hlen' (by rw [h2]; exact hk) hs'
      unfold exL at hpull
      split at hpull
      · exact step _ hpull.2
      · exact step _ hpull.2
theorem exD_region (hT : TAll P T) (hm : P.follows .mixedOrders = true) {id : Nat} {ops : Array Oper} {K : St → Prop} {Q : Exit → Act → World → Prop} (hQ : ∀ s a w, K s → SR c s a w → Q .normal a w) (h : SR c s a w)
    (hok : slotsOkB ops.toList = true) (hs : exD P T keep c c.N ops.toList (befores ops.toList) 0 ops.toList [] K s) : (Code.region id ops true).wp P Q a w := by
  have hok' := hok
  unfold slotsOkB at hok'
  simp only [Bool.and_eq_true, List.all_eq_true] at hok'
  obtain ⟨hup, hsl⟩ := hok'
  refine wp_region_any hm ?_
  have hnone : ∀ i, (Array.replicate ops.size false).getD i false = false := by
    intro i
    simp only [Array.getD_eq_getD_getElem?, Array.getElem?_replicate]
    split <;> rfl
  have hleft : left ops.toList (Array.replicate ops.size false) = numbered 0 ops.toList := by
    unfold left
    refine List.filter_eq_self.2 fun p hp => ?_
    obtain ⟨_, h2⟩ := (numbered_mem _ _ _).1 hp
    rw [Nat.sub_zero] at h2
    have hlt : p.1 < ops.size := by have := (List.getElem?_eq_some_iff.1 h2).1; simpa using this
    simp [Array.getD_eq_getD_getElem?, Array.getElem?_replicate, hlt]
  have hnl : ∀ (l : List Oper) k, (numbered k l).length = l.length := by
    intro l
    induction l with
    | nil => intro k; rfl
    | cons o l ih => intro k; simp [numbered, ih]
  obtain ⟨F, ν, h⟩ := h
  refine any_sound hT hQ ?_ ?_ ops.size (Array.replicate ops.size false) [] s a _ (by simp) (fun i hi => by rw [hnone] at hi; cases hi) (by rw [hleft, hnl]; simp) (by rw [hleft]; exact exD_exL ops.toList 0 [] K s (by simp) hs) ⟨F, ν, h.drew⟩
  · intro i j x y hlt hy hx
    have h1 := hsl (y, i) (by rw [List.mk_mem_zipIdx_iff_getElem?]; exact hy) (x, j) (by rw [List.mk_mem_zipIdx_iff_getElem?]; exact hx)
    simp only [Bool.or_eq_true, Bool.not_eq_true'] at h1
    rcases h1 with (h1 | h1) | h1
    · have : Nat.blt j i = true := Nat.ble_eq_true_of_le hlt
      rw [this] at h1
      cases h1
    · exact .inl h1
    · exact .inr h1
  · intro i k hk
    rw [List.getD_eq_getElem?_getD] at hk
    cases hb : (befores ops.toList)[i]? with
    | none => rw [hb] at hk; simp at hk
    | some l =>
      rw [hb] at hk
      have := hup (l, i) (by rw [List.mk_mem_zipIdx_iff_getElem?]; exact hb) k (by simpa using hk)
      exact Nat.le_of_ble_eq_true this
end Go.Proofs.Ythefflmebkcilaa.Fw
