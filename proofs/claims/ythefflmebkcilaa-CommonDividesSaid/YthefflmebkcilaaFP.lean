import Derived.Test.YthefflmebkcilaaFO
set_option linter.unusedVariables false
set_option linter.unusedSimpArgs false
namespace Go.Proofs.Ythefflmebkcilaa.Fw
open Go
variable {P : Program} {T : TT} {c : Ctx} {F : Nat → Prop} {ν : Nat → Value} {s : St} {a : Act} {w : World} {o : Oper} {keep : List Nat}

def lift (c : Ctx) (K : Ex → St → Prop) : Exit → Act → World → Prop
  | .normal, a, w => ∃ s, K .normal s ∧ SR c s a w
  | .exit id, a, w => ∃ s, K (.exit id) s ∧ SR c s a w
  | .ret, a, w => ∃ s, K .ret s ∧ SR c s a w
  | _, _, _ => False
theorem ex_sound (hT : TAll P T) (hm : P.follows .mixedOrders = true) (x : Code) : ∀ (K : Ex → St → Prop) (s : St) (a : Act) (w : World), SR c s a w → ex P T keep c c.N x K s → x.wp P (lift c K) a w := by
  induction x with
  | skip => intro K s a w h hx; exact wp_skip ⟨s, hx, h⟩
  | region id ops draw =>
    intro K s a w h hx
    unfold ex at hx
    have hQ : ∀ s a w, K .normal s → SR c s a w → lift c K .normal a w := fun s a w hk hs => ⟨s, hk, hs⟩
    cases draw with
    | false => exact exO_region hT hQ h hx
    | true =>
      simp only [cond_true] at hx
      unfold SideP at hx
      exact exD_region hT hm hQ h hx.1 hx.2
  | seq x y ihx ihy =>
    intro K s a w h hx
    unfold ex at hx
    refine wp_seq (wp_mono (ihx _ s a w h hx) ?_)
    intro e a' w' hl
    cases e with
    | normal => obtain ⟨s', hk, hs'⟩ := hl; exact ihy K s' a' w' hs' hk
    | exit id => obtain ⟨s', hk, hs'⟩ := hl; exact ⟨s', hk, hs'⟩
    | ret => obtain ⟨s', hk, hs'⟩ := hl; exact ⟨s', hk, hs'⟩
    | _ => exact hl.elim
  | cond v x y ihx ihy =>
    intro K s a w h hx
    unfold ex at hx
    split at hx
    · rename_i t hv
      have hx := split_iff.1 hx
      obtain ⟨F, ν, h⟩ := h
      have hr := ev_rep h v
      rw [hv] at hr
      refine wp_cond (boolV hr) ?_
      cases t with
      | true => exact ihx K s a w ⟨F, ν, h⟩ hx
      | false => exact ihy K s a w ⟨F, ν, h⟩ hx
    · exact hx.elim
  | block id x ih =>
    intro K s a w h hx
    unfold ex at hx
    refine wp_block (wp_mono (ih _ s a w h hx) ?_)
    intro e a' w' hl
    cases e with
    | normal => obtain ⟨s', hk, hs'⟩ := hl; exact ⟨s', hk, hs'⟩
    | exit id' =>
      obtain ⟨s', hk, hs'⟩ := hl
      unfold kblk at hk
      dsimp only at hk
      simp only [Exit.inBlock]
      by_cases e : id' = id
      · subst e
        rw [if_pos rfl]
        rw [Nat.beq_refl, cond_true] at hk
        exact ⟨s', hk, hs'⟩
      · rw [if_neg e]
        rw [beq_no e, cond_false] at hk
        exact ⟨s', hk, hs'⟩
    | ret => obtain ⟨s', hk, hs'⟩ := hl; exact ⟨s', hk, hs'⟩
    | _ => exact hl.elim
  | loop x ih =>
    intro K s a w h hx
    unfold ex LoopP at hx
    obtain ⟨α, f, μ, I, x0, hI, hw, hround⟩ := hx
    unfold Weak at hw
    have key : ∀ (n : Nat) (y : α), μ y = n → I y → ∀ a w, SR c (f y) a w → ∀ (b : Frame) (k : List Item) (cs : List Frame),
        ∃ e a' w', lift c K e a' w' ∧ Arrives P (lone (b.at a (.code x :: .inLoop x :: k)) cs w) b k cs e a' w' := by
      intro n
      induction n using Nat.strongRecOn with
      | _ n ihn =>
        intro y hy hIy a w hs b k cs
        have hb := ih _ _ a w hs (hround y hIy)
        obtain ⟨e, a₁, w₁, hq, harr⟩ := hb b (.inLoop x :: k) cs
        cases e with
        | normal =>
          obtain ⟨s', hk, hs'⟩ := hq
          obtain ⟨z, hIz, hlt, hwz⟩ := hk
          unfold Weak at hwz
          obtain ⟨e₂, a₂, w₂, hq₂, harr₂⟩ := ihn (μ z) (hy ▸ hlt) z rfl hIz a₁ w₁ (hwz a₁ w₁ hs') b k cs
          exact ⟨e₂, a₂, w₂, hq₂, .of_steps (Steps.trans harr (.one step_inLoop)) harr₂⟩
        | exit id => obtain ⟨s', hk, hs'⟩ := hq; exact ⟨.exit id, a₁, w₁, ⟨s', hk, hs'⟩, .pass (x := .inLoop x) rfl (fun _ _ => .inl (by simp)) harr⟩
        | goto l => exact hq.elim
        | ret => obtain ⟨s', hk, hs'⟩ := hq; exact ⟨.ret, a₁, w₁, ⟨s', hk, hs'⟩, .pass (x := .inLoop x) rfl (fun _ _ => .inl (by simp)) harr⟩
        | panic ch => exact hq.elim
        | outgrown => exact hq.elim
    intro b k cs
    obtain ⟨e, a', w', hq, harr⟩ := key _ x0 rfl hI a w (hw a w h) b k cs
    exact ⟨e, a', w', hq, .of_steps (.one step_loop) harr⟩
  | scope x ih =>
    intro K s a w h hx
    unfold ex at hx
    refine wp_scope_straight (wp_mono (ih K s a w h hx) ?_)
    intro e a' w' hl
    cases e with
    | goto l => exact hl.elim
    | _ => exact hl
  | exit id => intro K s a w h hx; exact wp_exit ⟨s, hx, h⟩
  | label l => intro K s a w h hx; exact wp_label ⟨s, hx, h⟩
  | ret => intro K s a w h hx; exact wp_ret ⟨s, hx, h⟩
  | rangeFunc f ps as b _ _ => intro K s a w h hx; exact hx.elim
  | goto l => intro K s a w h hx; exact hx.elim
  | refuse why => intro K s a w h hx; exact hx.elim

/-! ### A call -/
theorem getD_app (l : List Value) (n t : Nat) : (l.toArray ++ Array.replicate n undef).getD t undef = l.getD t undef := by
  simp only [Array.getD_eq_getD_getElem?, Array.getElem?_append, Array.getElem?_replicate, List.getD_eq_getElem?_getD, List.size_toArray, List.getElem?_toArray]
  split
  · rfl
  · split
    · rw [List.getElem?_eq_none (by omega)]; rfl
    · rw [List.getElem?_eq_none (by omega)]
theorem initE_get : ∀ (args : List V) (t : Nat), initE args t = args.getD t .undef := by
  intro args
  induction args with
  | nil => intro t; cases t <;> rfl
  | cons v args ih =>
    intro t
    cases t with
    | zero => rfl
    | succ t => simp [initE, ih]
theorem init_rep {n : Nat} {args : List V} {vals : List Value} (hF : ∀ b, F b → b < w.heap.size) (ha : AllR (VR1 w F (fun _ => undef) (fun _ => none)) args vals) (hn : args.length ≤ n) :
    SRep ⟨n, w.heap.size, fun _ => False, F, w, fun _ => undef⟩ F (fun _ => undef) (initS args) { tmps := vals.toArray ++ Array.replicate (n - vals.toArray.size) undef, defers := [] } w := by
  have hlen := ha.1
  refine ⟨by simp; omega, rfl, fun t => ?_, fun o obj ho => (by cases ho), fun o obj b ho => (by cases ho), fun o o' obj obj' b ho => (by cases ho), fun b hb => ⟨hF b hb, .inl hb⟩, Keep.refl _ _ _, rfl, fun _ _ => rfl⟩
  show VR w F _ _ (initE args t) _
  rw [initE_get, getD_app]
  by_cases ht : t < args.length
  · rw [List.getD_eq_getElem?_getD, List.getD_eq_getElem?_getD, List.getElem?_eq_getElem ht, List.getElem?_eq_getElem (by omega)]
    exact VR.of1 (ha.2 t args[t] vals[t] (by simp [ht]) (by simp [show t < vals.length by omega]))
  · rw [List.getD_eq_getElem?_getD, List.getElem?_eq_none (by omega)]
    trivial
/-- A row of the call's own, handed back: from now on it is only read. -/
theorem snap_rep (h : SRep c F ν s a w) {o off len : Nat} {m : MO} (hm : s.mem o = some m) {v : Value} (hv : VR w F ν s.mem (.own o off len) v) (F' : Nat → Prop) (hF : ∀ b, F b → F' b) (hb : ∀ b, blk (ν o) = some b → F' b) : VR w F' (fun _ => undef) (fun _ => none) (snapM m off len) v := by
  obtain ⟨obj, e, sz, n, fl, A, n', cc, hm', hr, hle, hz, hν, rfl⟩ := hv
  rw [hm] at hm'
  injection hm' with hm'
  subst hm'
  obtain ⟨cs, hz0, how, ha⟩ := row_inv h hm hr
  have hcap : n ≤ cc ∧ cc ≤ maxLen := by
    rcases how.2 with ⟨h1', h2'⟩ | ⟨g, cap, cur, h1', _, _, h3', h4', _⟩
    · rw [hν] at h1'; injection h1' with _ _ h1'; subst h2'; subst h1'; exact ⟨Nat.le_refl _, Nat.zero_le _⟩
    · rw [hν] at h1'; injection h1' with _ _ h1'; subst h1'; exact ⟨h3', h4'⟩
  have hcell : ∀ (j : Nat) u, ((cs.drop (off * sz)).take (len * sz))[j]? = some u → ∃ ad, A.map (fun x => x.add (off * sz)) = some ad ∧ F' ad.block ∧ w.cell? (ad.add j) = some u := by
    intro j u hu
    rw [List.getElem?_take] at hu
    split at hu
    · rw [List.getElem?_drop] at hu
      cases A with
      | none =>
        rcases how.2 with ⟨h1', h2'⟩ | ⟨g, cap, cur, h1', _⟩
        · have h3 := how.1
          rw [h2', Nat.zero_mul] at h3
          rw [List.eq_nil_of_length_eq_zero h3] at hu
          simp at hu
        · rw [hν] at h1'; cases h1'
      | some ad =>
        obtain ⟨g, cur, rfl, rfl, _⟩ := own_addr how hν
        refine ⟨_, rfl, by rw [add_block]; exact hb g (by rw [hν]; rfl), ?_⟩
        rw [add_add]
        exact how.cells (g := g) (by rw [hν]; rfl) _ u hu
    · cases hu
  have hrep : AllR (RepL w F') ((fl.drop (off * sz)).take (len * sz)) ((cs.drop (off * sz)).take (len * sz)) := ((ha.drop _).take _).mono fun _ _ hh => hh.frame hF (fun _ _ => rfl)
  cases m with
  | box l => simp [MO.row?] at hr
  | words e' l =>
    simp only [MO.row?, Option.some.injEq, Prod.mk.injEq] at hr
    obtain ⟨rfl, rfl, rfl, rfl⟩ := hr
    simp only [Nat.mul_one] at hrep hcell ⊢
    refine RepL.sl (d := .words ((l.drop off).take len)) (sz := 1) (fl := ((l.map wd).drop off).take len) (by simp only [D.sl?, List.map_take, List.map_drop]; congr 2; simp; omega) _ _ _ (by omega) (by omega) hrep.1.symm hcell hrep.2
  | rows e' sz' l =>
    have hr0 := hr
    simp only [MO.row?] at hr
    split at hr
    · rename_i hall
      simp only [Option.some.injEq, Prod.mk.injEq] at hr
      obtain ⟨rfl, rfl, rfl, rfl⟩ := hr
      obtain ⟨f1, f2⟩ := flat_drop l off hall
      obtain ⟨f3, f4⟩ := flat_take (l.drop off) len f2
      refine RepL.sl (d := .rows sz' ((l.drop off).take len)) (sz := sz') (fl := (l.flatten.drop (off * sz')).take (len * sz')) (by
        simp only [D.sl?, f4, if_true, f3, f1]; congr 2; simp; omega) _ _ _ (by omega) (by omega) hrep.1.symm hcell hrep.2
    · cases hr
end Go.Proofs.Ythefflmebkcilaa.Fw
