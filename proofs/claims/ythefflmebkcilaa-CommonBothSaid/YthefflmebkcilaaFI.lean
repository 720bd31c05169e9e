import Derived.Test.YthefflmebkcilaaFH
set_option linter.unusedVariables false
set_option linter.unusedSimpArgs false
namespace Go.Proofs.Ythefflmebkcilaa.Fw
open Go
variable {P : Program} {T : TT} {c : Ctx} {F : Nat → Prop} {ν : Nat → Value} {s : St} {a : Act} {w : World} {o : Oper}

theorem bound_run {k : IntKind} {n : Int} {y : Nat} {code : BoundsCode} (h0 : 0 ≤ n) (h1 : n ≤ y) : (Instr.sliceBound (.int k n) y code).run P w = .ok n.toNat w := by
  unfold Instr.sliceBound
  simp only [Sem.run_bind, asIntOf, Sem.run_pure, Result.andThen_ok, if_pos (show 0 ≤ n ∧ n ≤ (y : Int) from ⟨h0, h1⟩)]
theorem slice_hi {t e : TypeId} {sz : Nat} (hu : P.underlying t = some (.slice e)) (hs : (P.info? e).map (·.size) = some sz) {A : Option Addr} {len cap : Nat} {k : IntKind} {n : Int} (h0 : 0 ≤ n) (h1 : n ≤ cap) :
    (Instr.sliceAt t (.slice A len cap) none (some (.int k n)) none).run P w = .ok (.slice A n.toNat cap) w := by
  unfold Instr.sliceAt Instr.slice Instr.sliceBounds
  simp only [Sem.run_bind, run_und hu, Result.andThen_ok, Sem.run_pure, bound_run h0 h1, run_szOf hs, Nat.zero_mul, Nat.sub_zero]
  have : A.map (fun x => x.add 0) = A := by cases A <;> simp [Addr.add]
  rw [this]
  simp
theorem slice_lo {t e : TypeId} {sz : Nat} (hu : P.underlying t = some (.slice e)) (hs : (P.info? e).map (·.size) = some sz) {A : Option Addr} {len cap : Nat} {k : IntKind} {n : Int} (h0 : 0 ≤ n) (h1 : n ≤ len) :
    (Instr.sliceAt t (.slice A len cap) (some (.int k n)) none none).run P w = .ok (.slice (if cap = n.toNat then A else A.map (·.add (n.toNat * sz))) (len - n.toNat) (cap - n.toNat)) w := by
  unfold Instr.sliceAt Instr.slice Instr.sliceBounds
  simp only [Sem.run_bind, run_und hu, Result.andThen_ok, Sem.run_pure, bound_run h0 h1, run_szOf hs]

theorem RepL.take {d d' : D} {sz n m : Nat} {fl : List D} (hd : d.sl? = some (sz, n, fl)) (hd' : d'.sl? = some (sz, m, fl.take (m * sz))) (hm : m ≤ n) {A : Option Addr} {cc : Nat} (h : RepL w F d (.slice A n cc)) : RepL w F d' (.slice A m cc) := by
  obtain ⟨A', c', cs, e, hn, hc, ha, hcell⟩ := h.sl_inv hd
  injection e with e1 e2 e3
  subst e1; subst e3
  refine .sl hd' A cc (cs.take (m * sz)) (by omega) hc (ha.take _).1.symm (fun j u hu => ?_) (ha.take _).2
  rw [List.getElem?_take] at hu
  split at hu
  · exact hcell _ u hu
  · cases hu
theorem RepL.drop {d d' : D} {sz n b : Nat} {fl : List D} (hd : d.sl? = some (sz, n, fl)) (hfl : fl.length = n * sz) (hd' : d'.sl? = some (sz, n - b, fl.drop (b * sz))) (hb : b ≤ n) {A : Option Addr} {cc : Nat} (h : RepL w F d (.slice A n cc)) :
    RepL w F d' (.slice (if cc = b then A else A.map (·.add (b * sz))) (n - b) (cc - b)) := by
  obtain ⟨A', c', cs, e, hn, hc, ha, hcell⟩ := h.sl_inv hd
  injection e with e1 e2 e3
  subst e1; subst e3
  refine .sl hd' _ (cc - b) (cs.drop (b * sz)) (by omega) (by omega) (ha.drop _).1.symm (fun j u hu => ?_) (ha.drop _).2
  rw [List.getElem?_drop] at hu
  have hlen : cs.length = n * sz := by rw [← ha.1, hfl]
  have hlt := (List.getElem?_eq_some_iff.1 hu).1
  obtain ⟨ad, rfl, hf, hcl⟩ := hcell _ u hu
  by_cases hcb : cc = b
  · have : n = b := by omega
    subst this
    omega
  · rw [if_neg hcb]
    refine ⟨ad.add (b * sz), rfl, by rw [add_block]; exact hf, by rw [add_add]; exact hcl⟩
theorem flat_take {α : Type} {sz : Nat} : ∀ (l : List (List α)) (m : Nat), l.all (fun x => x.length == sz) = true → (l.take m).flatten = l.flatten.take (m * sz) ∧ (l.take m).all (fun x => x.length == sz) = true := by
  intro l
  induction l with
  | nil => intro m _; simp
  | cons x l ih =>
    intro m hl
    simp only [List.all_cons, Bool.and_eq_true, beq_iff_eq] at hl
    cases m with
    | zero => simp
    | succ m =>
      obtain ⟨h1, h2⟩ := ih m hl.2
      simp only [List.take_succ_cons, List.flatten_cons, List.all_cons, h1, h2, hl.1, Nat.succ_mul]
      refine ⟨?_, by simp⟩
      rw [List.take_append, List.take_of_length_le (l := x) (by omega), hl.1]
      congr 2
      omega
theorem flat_drop {α : Type} {sz : Nat} : ∀ (l : List (List α)) (m : Nat), l.all (fun x => x.length == sz) = true → (l.drop m).flatten = l.flatten.drop (m * sz) ∧ (l.drop m).all (fun x => x.length == sz) = true := by
  intro l
  induction l with
  | nil => intro m _; simp
  | cons x l ih =>
    intro m hl
    have hl0 := hl
    simp only [List.all_cons, Bool.and_eq_true, beq_iff_eq] at hl
    cases m with
    | zero => simpa using hl0
    | succ m =>
      obtain ⟨h1, h2⟩ := ih m hl.2
      simp only [List.drop_succ_cons, List.flatten_cons, h1, h2, Nat.succ_mul, and_true]
      rw [List.drop_append, List.drop_of_length_le (l := x) (by omega), hl.1, List.nil_append]
      congr 1
      omega
theorem VR.slv {d : D} {m : Mem} {v : Value} (h : VR w F ν m (.d d) v) {sz n : Nat} {fl : List D} (hd : d.sl? = some (sz, n, fl)) : ∃ A cc, v = .slice A n cc ∧ n ≤ cc := by
  obtain ⟨A, cc, cs, e, hn, _⟩ := RepL.sl_inv h hd
  exact ⟨A, cc, e, hn⟩
theorem good_slice (hT : TAll P T) (h : SRep c F ν s a w) (t : TypeId) (x : Operand) (lo hi : Option Operand) (ho : o.op = .slice t x lo hi none) : Good P c o F ν s a w (sliceV T s t (s.ev x) (lo.map s.ev) (hi.map s.ev)) := by
  have hx := ev_rep h x
  unfold sliceV
  split
  · rename_i e hsl
    cases hek : (T e).k.ok && !Nat.beq (T e).sz 0 with
    | false => trivial
    | true =>
      simp only [Bool.and_eq_true] at hek
      simp only [cond_true]
      obtain ⟨d, hd, hf⟩ := und_of hT hsl rfl
      simp only [TK.fits] at hf
      subst hf
      have h1 := (hT e hek.1).1.size
      have hz : (T e).sz ≠ 0 := fun e0 => by have := hek.2; rw [e0] at this; simp at this
      have run : ∀ v, (Instr.sliceAt t (a.eval x) (lo.map a.eval) (hi.map a.eval) none).run P w = .ok v w → (execOp a.eval o).run P w = .ok (.value v) w := fun v hv => exec_val (m := Instr.sliceAt t (a.eval x) (lo.map a.eval) (hi.map a.eval) (none.map a.eval)) (by unfold execOp; rw [ho]) hv
      split
      · rename_i k n hlo hhi
        cases lo with
        | some lo' => simp at hlo
        | none =>
          cases hi with
          | none => simp at hhi
          | some hi' =>
            simp only [Option.map_some, Option.some.injEq] at hhi
            have hi1 := ev_rep h hi'
            rw [hhi] at hi1
            have hin := intV hi1
            simp only [Option.map_none, Option.map_some, hin] at run
            split
            · rename_i l hex
              rw [hex] at hx
              intro hp
              obtain ⟨A, cc, hv, hcc⟩ := VR.slv hx (sz := 1) (n := l.length) (fl := l.map wd) rfl
              rw [hv] at hx
              refine ⟨_, run _ (by rw [hv]; exact slice_hi hd h1 hp.1 (by omega)), ?_⟩
              exact RepL.take (d := .words l) (sz := 1) (fl := l.map wd) rfl (by simp only [D.sl?, Nat.mul_one, List.map_take, List.length_take]; rw [Nat.min_eq_left (by omega)]) (by omega) hx
            · rename_i sz l hex
              rw [hex] at hx
              cases hb : Nat.beq (T e).sz sz with
              | false => trivial
              | true =>
                simp only [cond_true]
                intro hp
                have hall := RepL.rows_all hx
                obtain ⟨A, cc, hv, hcc⟩ := VR.slv hx (sz := sz) (n := l.length) (fl := l.flatten) (by simp only [D.sl?, hall, if_true])
                rw [hv] at hx
                obtain ⟨f1, f2⟩ := flat_take l n.toNat hall
                refine ⟨_, run _ (by rw [hv]; exact slice_hi hd h1 hp.1 (by omega)), ?_⟩
                exact RepL.take (d := .rows sz l) (sz := sz) (fl := l.flatten) (by simp only [D.sl?, hall, if_true]) (by simp only [D.sl?, f2, if_true, f1, List.length_take]; rw [Nat.min_eq_left (by omega)]) (by omega) hx
            · rename_i oo off len hex
              rw [hex] at hx
              obtain ⟨obj, e', sz, m, fl, A, n', cc, hm, hr, hle, hzz, hν, hv⟩ := hx
              obtain ⟨cs, hz0, how, ha⟩ := row_inv h hm hr
              have hcap : m ≤ cc := by
                rcases how.2 with ⟨h1', h2'⟩ | ⟨g, cap, cur, h1', _, _, h3', _⟩
                · omega
                · rw [hν] at h1'; injection h1' with _ _ h1'; omega
              have fin : ∀ (hp : 0 ≤ n ∧ n ≤ len), (off = 0 ∨ 0 < n.toNat) → Val P o a w F ν s.mem (.own oo off n.toNat) := fun hp hz' =>
                ⟨_, run _ (by rw [hv]; exact slice_hi hd h1 hp.1 (by omega)), obj, e', sz, m, fl, A, n', cc, hm, hr, by omega, hz', hν, rfl⟩
              cases hb : Nat.beq off 0 with
              | true => exact fun hp => fin hp (.inl (Nat.eq_of_beq_eq_true hb))
              | false => exact fun hp => fin ⟨by omega, hp.2⟩ (.inr (by omega))
            · trivial
      · rename_i k n hlo hhi
        cases hi with
        | some hi' => simp at hhi
        | none =>
          cases lo with
          | none => simp at hlo
          | some lo' =>
            simp only [Option.map_some, Option.some.injEq] at hlo
            have hi1 := ev_rep h lo'
            rw [hlo] at hi1
            have hin := intV hi1
            simp only [Option.map_none, Option.map_some, hin] at run
            split
            · rename_i l hex
              rw [hex] at hx
              cases hb : Nat.beq (T e).sz 1 with
              | false => trivial
              | true =>
                simp only [cond_true]
                have hs := Nat.eq_of_beq_eq_true hb
                intro hp
                obtain ⟨A, cc, hv, hcc⟩ := VR.slv hx (sz := 1) (n := l.length) (fl := l.map wd) rfl
                rw [hv] at hx
                refine ⟨_, run _ (by rw [hv]; exact slice_lo hd h1 hp.1 (by omega)), ?_⟩
                rw [hs]
                exact RepL.drop (d := .words l) (d' := .words (l.drop n.toNat)) (sz := 1) (fl := l.map wd) rfl (by simp) (by simp [D.sl?, List.map_drop]) (by omega) hx
            · rename_i sz l hex
              rw [hex] at hx
              cases hb : Nat.beq (T e).sz sz with
              | false => trivial
              | true =>
                simp only [cond_true]
                intro hp
                have hs := Nat.eq_of_beq_eq_true hb
                have hall := RepL.rows_all hx
                obtain ⟨A, cc, hv, hcc⟩ := VR.slv hx (sz := sz) (n := l.length) (fl := l.flatten) (by simp only [D.sl?, hall, if_true])
                rw [hv] at hx
                obtain ⟨f1, f2⟩ := flat_drop l n.toNat hall
                refine ⟨_, run _ (by rw [hv]; exact slice_lo hd h1 hp.1 (by omega)), ?_⟩
                rw [hs]
                exact RepL.drop (d := .rows sz l) (d' := .rows sz (l.drop n.toNat)) (sz := sz) (fl := l.flatten) (by simp only [D.sl?, hall, if_true]) (flat_len l hall) (by simp only [D.sl?, f2, if_true, f1, List.length_drop]) (by omega) hx
            · rename_i oo off len hex
              rw [hex] at hx
              split
              · rename_i obj0 hm0
                cases hb : Nat.beq (T e).sz obj0.esz with
                | false => trivial
                | true =>
                  simp only [cond_true]
                  have hs := Nat.eq_of_beq_eq_true hb
                  intro hp
                  obtain ⟨obj, e', sz, m, fl, A, n', cc, hm, hr, hle, hzz, hν, hv⟩ := hx
                  rw [hm0] at hm
                  injection hm with hm
                  subst hm
                  have hesz := row_esz hr
                  obtain ⟨cs, hz0, how, ha⟩ := row_inv h hm0 hr
                  have hcap : m ≤ cc := by
                    rcases how.2 with ⟨h1', h2'⟩ | ⟨g, cap, cur, h1', _, _, h3', _⟩
                    · omega
                    · rw [hν] at h1'; injection h1' with _ _ h1'; omega
                  refine ⟨_, run _ (by rw [hv]; exact slice_lo hd h1 hp.1 (by omega)), obj0, e', sz, m, fl, A, n', cc, hm0, hr, by omega, .inr (by omega), hν, ?_⟩
                  rw [if_neg (by omega), hs, hesz, Nat.add_mul]
                  have : (A.map (fun x => x.add (off * sz))).map (fun x => x.add (n.toNat * sz)) = A.map (fun x => x.add (off * sz + n.toNat * sz)) := by
                    cases A <;> simp [add_add]
                  rw [this]
                  congr 1
                  omega
              · trivial
            · trivial
      · trivial
  · trivial
end Go.Proofs.Ythefflmebkcilaa.Fw
