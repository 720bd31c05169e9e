import Derived.Test.YthefflmebkcilaaFM
set_option linter.unusedVariables false
set_option linter.unusedSimpArgs false
namespace Go.Proofs.Ythefflmebkcilaa.Fw
open Go
variable {P : Program} {T : TT} {c : Ctx} {F : Nat → Prop} {ν : Nat → Value} {s : St} {a : Act} {w : World} {o : Oper} {keep : List Nat}

/-- The operations that are left, each with its number, in the text's order. -/
def exL (P : Program) (T : TT) (keep : List Nat) (c : Ctx) (ops : List Oper) : List (Nat × Oper) → List (Nat × Foot) → (St → Prop) → St → Prop
  | [], _, K, s => K s
  | (i, o) :: r, done, K, s =>
    if heavy (evalW T keep ops o s) = true then
      (∀ j, j < ops.length → (j < i → waits (befores ops) ops.length i j = true) ∧ (i < j → waits (befores ops) ops.length j i = true)) ∧ stepO P T keep c c.N ops i o (exL P T keep c ops r [] K) s
    else okDone (befores ops) ops.length i (footOf T keep ops o s) done = true ∧ stepO P T keep c c.N ops i o (exL P T keep c ops r ((i, footOf T keep ops o s) :: done) K) s
theorem step_mono {N : Nat} {ops : List Oper} {i : Nat} {K K' : St → Prop} (hK : ∀ s, K s → K' s) (h : stepO P T keep c N ops i o K s) : stepO P T keep c N ops i o K' s := by
  unfold stepO evalK at h
  unfold stepO evalK
  cases hd : dstOk N o with
  | false => rw [hd] at h; exact h.elim
  | true =>
    rw [hd, cond_true] at h
    rw [cond_true]
    cases hw : wants ops o s with
    | bad => rw [hw] at h; exact h.elim
    | no => rw [hw] at h; exact hK _ h
    | yes =>
      rw [hw] at h
      dsimp only at h ⊢
      cases he : eval1 T keep o s with
      | fail => rw [he] at h; exact h.elim
      | val v => rw [he] at h; exact fin_iff.2 (hK _ (fin_iff.1 h))
      | nval v => rw [he] at h; exact fin_iff.2 (hK _ (fin_iff.1 h))
      | sval p v => rw [he] at h; unfold SideP at h ⊢; exact ⟨h.1, fin_iff.2 (hK _ (fin_iff.1 h.2))⟩
      | idxw l j f => rw [he] at h; unfold IdxP at h ⊢; obtain ⟨x, h1, h2, h3⟩ := h; exact ⟨x, h1, h2, hK _ h3⟩
      | idxr l j f => rw [he] at h; unfold IdxP at h ⊢; obtain ⟨x, h1, h2, h3⟩ := h; exact ⟨x, h1, h2, hK _ h3⟩
      | upd j obj v => rw [he] at h; exact hK _ h
      | call g args => rw [he] at h; unfold CallS at h ⊢; obtain ⟨r, h1, h2⟩ := h; exact ⟨r, h1, hK _ h2⟩
      | sem =>
        rw [he] at h
        unfold OpP at h ⊢
        intro Q a w hs
        refine Oper.wp_mono ?_ (h Q a w hs)
        rintro a' w' ⟨s', h1, h2⟩
        exact ⟨s', hK _ h1, h2⟩
def numbered (i : Nat) : List Oper → List (Nat × Oper)
  | [] => []
  | o :: r => (i, o) :: numbered (i + 1) r
theorem exD_exL {ops : List Oper} : ∀ (r : List Oper) (i : Nat) (done : List (Nat × Foot)) (K : St → Prop) (s : St), i + r.length = ops.length → exD P T keep c c.N ops (befores ops) i r done K s → exL P T keep c ops (numbered i r) done K s := by
  intro r
  induction r with
  | nil => intro i done K s _ h; exact h
  | cons o r ih =>
    intro i done K s hi h
    simp only [List.length_cons] at hi
    unfold exD at h
    simp only [numbered, exL]
    cases hh : heavy (evalW T keep ops o s) with
    | true =>
      rw [hh, cond_true] at h
      simp only [if_true]
      cases hb : (List.range i).all (fun j => waits (befores ops) ops.length i j) && (List.range r.length).all (fun j => waits (befores ops) ops.length (i + 1 + j) i) with
      | false => rw [hb] at h; exact h.elim
      | true =>
        rw [hb, cond_true] at h
        simp only [Bool.and_eq_true, List.all_eq_true, List.mem_range] at hb
        refine ⟨fun j hj => ⟨fun hlt => hb.1 j hlt, fun hlt => ?_⟩, step_mono (fun s' hs' => ih (i + 1) [] K s' (by omega) hs') h⟩
        have := hb.2 (j - (i + 1)) (by omega)
        rwa [show i + 1 + (j - (i + 1)) = j by omega] at this
    | false =>
      rw [hh, cond_false] at h
      simp only [Bool.false_eq_true, if_false]
      cases hb : okDone (befores ops) ops.length i (footOf T keep ops o s) done with
      | false => rw [hb] at h; exact h.elim
      | true =>
        rw [hb, cond_true] at h
        exact ⟨rfl, step_mono (fun s' hs' => ih (i + 1) _ K s' (by omega) hs') h⟩
theorem okDone_sub {bs : List (List Nat)} {n i : Nat} {f : Foot} {done done' : List (Nat × Foot)} (hd : ∀ x ∈ done', x ∈ done) (h : okDone bs n i f done = true) : okDone bs n i f done' = true := by
  unfold okDone at h ⊢
  rw [List.all_eq_true] at h ⊢
  exact fun x hx => h x (hd x hx)
theorem exL_sub {ops : List Oper} : ∀ (L : List (Nat × Oper)) (done done' : List (Nat × Foot)) (K : St → Prop) (s : St), (∀ x ∈ done', x ∈ done) → exL P T keep c ops L done K s → exL P T keep c ops L done' K s := by
  intro L
  induction L with
  | nil => intro done done' K s _ h; exact h
  | cons p L ih =>
    obtain ⟨i, o⟩ := p
    intro done done' K s hd h
    unfold exL at h ⊢
    split
    · rename_i hh
      rw [if_pos hh] at h
      exact h
    · rename_i hh
      rw [if_neg hh] at h
      refine ⟨okDone_sub hd h.1, step_mono (fun s' hs' => ih _ _ K s' ?_ hs') h.2⟩
      intro x hx
      rcases List.mem_cons.1 hx with rfl | hx
      · simp
      · exact List.mem_cons_of_mem _ (hd x hx)
theorem apart_symm {x y : Foot} (h : x.apart y = true) : y.apart x = true := by
  simp only [Foot.apart, Bool.and_eq_true] at h ⊢
  exact ⟨⟨h.2, apartL_symm h.1.2⟩, h.1.1⟩
/-- ONE THAT MAY COME UP COMES FIRST. -/
theorem pull {ops : List Oper} (hsl : ∀ i j x y, j < i → ops[i]? = some y → ops[j]? = some x → waits (befores ops) ops.length i j = true ∨ slotsApart ops x y = true) (i0 : Nat) (o0 : Oper) (ho0 : ops[i0]? = some o0) :
    ∀ (L1 L2 : List (Nat × Oper)) (done : List (Nat × Foot)) (K : St → Prop) (s : St), (∀ p ∈ L1, p.1 < i0 ∧ ops[p.1]? = some p.2 ∧ waits (befores ops) ops.length i0 p.1 = false) →
    exL P T keep c ops (L1 ++ (i0, o0) :: L2) done K s → exL P T keep c ops ((i0, o0) :: (L1 ++ L2)) done K s := by
  intro L1
  induction L1 with
  | nil => intro L2 done K s _ h; exact h
  | cons p L1 ih =>
    obtain ⟨i, x⟩ := p
    intro L2 done K s hL h
    obtain ⟨hlt, hx, hnw⟩ := hL (i, x) (by simp)
    dsimp only at hlt hx hnw
    have hin : i0 < ops.length := (List.getElem?_eq_some_iff.1 ho0).1
    rw [List.cons_append] at h
    unfold exL at h
    by_cases hh : heavy (evalW T keep ops x s) = true
    · rw [if_pos hh] at h
      have := (h.1 i0 hin).2 hlt
      rw [hnw] at this
      cases this
    · rw [if_neg hh] at h
      have hh' : heavy (evalW T keep ops x s) = false := by simpa using hh
      obtain ⟨hok, hst⟩ := h
      obtain ⟨s1, hx1, h1⟩ := (step_light hh').1 (step_mono (fun s' hs' => ih L2 _ K s' (fun p hp => hL p (by simp [hp])) hs') hst)
      unfold exL at h1
      by_cases hy : heavy (evalW T keep ops o0 s1) = true
      · rw [if_pos hy] at h1
        have := (h1.1 i (by omega)).1 hlt
        rw [hnw] at this
        cases this
      · rw [if_neg hy] at h1
        have hy' : heavy (evalW T keep ops o0 s1) = false := by simpa using hy
        obtain ⟨hok1, hst1⟩ := h1
        obtain ⟨s2, hy1, h2⟩ := (step_light hy').1 hst1
        have hap : (footOf T keep ops x s).apart (footOf T keep ops o0 s1) = true := by
          unfold okDone at hok1
          have := List.all_eq_true.1 hok1 (i, footOf T keep ops x s) (by simp)
          simp only [Bool.or_eq_true] at this
          rcases this with h3 | h3
          · rw [hnw] at h3; cases h3
          · exact apart_symm h3
        have hsa : slotsApart ops x o0 = true := by
          rcases hsl i0 i x o0 hlt ho0 hx with h3 | h3
          · rw [hnw] at h3; cases h3
          · exact h3
        obtain ⟨s1', g1, g2, g3, g4, g5, g6⟩ := exchange hx1 hy1 hsa hap
        unfold exL
        rw [g5, hy']
        simp only [Bool.false_eq_true, if_false]
        refine ⟨?_, (step_light (by rw [g5]; exact hy')).2 ⟨s1', g1, ?_⟩⟩
        · rw [g3]
          exact okDone_sub (fun z hz => List.mem_cons_of_mem _ hz) hok1
        · rw [List.cons_append]
          unfold exL
          rw [g6, hh']
          simp only [Bool.false_eq_true, if_false]
          refine ⟨?_, (step_light (by rw [g6]; exact hh')).2 ⟨s2, g2, ?_⟩⟩
          · rw [g4, g3]
            unfold okDone at hok ⊢
            rw [List.all_eq_true] at hok ⊢
            intro z hz
            rcases List.mem_cons.1 hz with rfl | hz
            · simp only [Bool.or_eq_true]; exact .inr hap
            · exact hok z hz
          · refine exL_sub _ _ _ K s2 ?_ h2
            intro z hz
            rw [g4, g3] at hz
            simp only [List.mem_cons] at hz ⊢
            rcases hz with h3 | h3 | h3
            · exact .inr (.inl h3)
            · exact .inl h3
            · exact .inr (.inr h3)
end Go.Proofs.Ythefflmebkcilaa.Fw
