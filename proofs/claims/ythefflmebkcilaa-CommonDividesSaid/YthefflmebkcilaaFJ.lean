import Derived.Test.YthefflmebkcilaaFI
set_option linter.unusedVariables false
set_option linter.unusedSimpArgs false
namespace Go.Proofs.Ythefflmebkcilaa.Fw
open Go
variable {P : Program} {T : TT} {c : Ctx} {F : Nat → Prop} {ν : Nat → Value} {s : St} {a : Act} {w : World} {o : Oper}

theorem good_extract (h : SRep c F ν s a w) (x : Operand) (i : Nat) (ho : o.op = .extract x i) : Good P c o F ν s a w (match s.ev x with
    | .tup l => bif Nat.blt i l.length then .val (l.getD i .undef) else .fail
    | _ => .fail) := by
  have hx := ev_rep h x
  split
  · rename_i l e
    rw [e] at hx
    obtain ⟨vs, hv, ha⟩ := hx
    cases hb : Nat.blt i l.length with
    | false => trivial
    | true =>
      have hi : i < l.length := by
        have h5 : i + 1 ≤ l.length := Nat.le_of_ble_eq_true hb
        omega
      have hi' : i < vs.size := by have := ha.1; simp at this; omega
      simp only [cond_true]
      refine ⟨vs[i], exec_val (m := Instr.extract (a.eval x) i) (by unfold execOp; rw [ho]) ?_, ?_⟩
      · rw [hv]
        unfold Instr.extract
        simp only [Array.getElem?_eq_getElem hi', Sem.run_pure]
      · rw [List.getD_eq_getElem?_getD, List.getElem?_eq_getElem hi]
        exact VR.of1 (ha.2 i l[i] vs[i] (by simp [hi]) (by simp [hi']))
  · trivial
theorem good_nilCheck (h : SRep c F ν s a w) (x : Operand) (ho : o.op = .nilCheck x) : Good P c o F ν s a w (match s.ev x with
    | .addr o q => .val (.addr o q)
    | .ela o j q => .val (.ela o j q)
    | .ro n l => .val (.ro n l)
    | _ => .fail) := by
  have hx := ev_rep h x
  have run : ∀ ad, a.eval x = .pointer (some ad) → (execOp a.eval o).run P w = .ok (.value (a.eval x)) w := by
    intro ad hv
    unfold execOp
    rw [ho]
    simp only [hv, Sem.run_pure]
  split
  · rename_i i q e
    rw [e] at hx
    obtain ⟨l, a0, _, _, hv⟩ := id hx
    exact ⟨_, run _ hv, hx⟩
  · rename_i i j q e
    rw [e] at hx
    obtain ⟨obj, e', sz, n, fl, a0, n', cc, hm, hr, hj, hν, hv⟩ := id hx
    exact ⟨_, run _ hv, hx⟩
  · rename_i n l e
    rw [e] at hx
    obtain ⟨hl, ad, cs, hv, _⟩ := id hx
    exact ⟨_, run _ hv, hx⟩
  · trivial

theorem exec_call {cl : Call} (ho : o.op = .call cl) {P : Program} {w : World} {ρ : Operand → Value} {r : Result Next} (h : ((do let d ← resolve ρ cl o.type; invoke d.target d.args) : Sem Next).run P w = r) : (execOp ρ o).run P w = r := by
  unfold execOp
  rw [ho]
  exact h
theorem exec_builtin {b : Builtin} {args : Array Operand} {tys : Array TypeId} (ho : o.op = .call ⟨.builtin b, args, tys⟩) {P : Program} {w w' : World} {ρ : Operand → Value} {n : Next} (h : ∀ cs, (builtin b tys o.type cs (args.map ρ)).run P w = .ok n w') : (execOp ρ o).run P w = .ok n w' := by
  refine exec_call ho ?_
  unfold resolve
  simp only [Sem.run_bind, Sem.run_pure, Result.andThen_ok, invoke]
  exact h _
theorem arr1 {α : Type} {x : Array α} {y : α} (h : x.toList = [y]) : x = #[y] := by
  apply Array.ext'
  simpa using h
theorem arr2 {α : Type} {x : Array α} {y z : α} (h : x.toList = [y, z]) : x = #[y, z] := by
  apply Array.ext'
  simpa using h
theorem map_one {α β : Type} {f : α → β} {l : List α} {y : β} (h : l.map f = [y]) : ∃ x, l = [x] ∧ f x = y := by
  match l, h with
  | [x], h => exact ⟨x, rfl, by simpa using h⟩
theorem map_two {α β : Type} {f : α → β} {l : List α} {y z : β} (h : l.map f = [y, z]) : ∃ x x', l = [x, x'] ∧ f x = y ∧ f x' = z := by
  match l, h with
  | [x, x'], h =>
    simp only [List.map_cons, List.map_nil, List.cons.injEq, and_true] at h
    exact ⟨x, x', rfl, h.1, h.2⟩
theorem len_run {t e : TypeId} (hu : P.underlying t = some (.slice e)) (ty : TypeId) (A : Option Addr) (n cc : Nat) : (Builtin.len_ #[t] ty #[.slice A n cc]).run P w = .ok (.int .i64 (n : Int)) w := by
  unfold Builtin.len_
  simp only [List.getElem?_toArray, List.getElem?_cons_zero, Sem.run_bind, run_und hu, Result.andThen_ok, Sem.run_pure, goInt]
theorem lenV_good {v : V} {x : Value} (h : VR w F ν s.mem v x) (hrun : ∀ A n cc, x = .slice A n cc → (execOp a.eval o).run P w = .ok (.value (.int .i64 (n : Int))) w) : Good P c o F ν s a w (lenV v) := by
  unfold lenV
  split
  · rename_i l
    obtain ⟨A, cc, hv, _⟩ := VR.slv h (sz := 1) (n := l.length) (fl := l.map wd) rfl
    exact ⟨_, hrun _ _ _ hv, VR.int _ _ _ _ _ _⟩
  · rename_i sz l
    have hall := RepL.rows_all h
    obtain ⟨A, cc, hv, _⟩ := VR.slv h (sz := sz) (n := l.length) (fl := l.flatten) (by simp only [D.sl?, hall, if_true])
    exact ⟨_, hrun _ _ _ hv, VR.int _ _ _ _ _ _⟩
  · obtain ⟨obj, e', sz, n, fl, A, n', cc, hm, hr, hj, hz, hν, hv⟩ := h
    exact ⟨_, hrun _ _ _ hv, VR.int _ _ _ _ _ _⟩
  · have hv : x = .slice none 0 0 := h
    exact ⟨_, hrun _ _ _ hv, VR.int _ _ _ _ _ _⟩
  · trivial
theorem coeL_len (T : TT) : ∀ (l : List V) (ts : List TypeId), (coeL T l ts).length = l.length := by
  intro l
  induction l with
  | nil => intro ts; cases ts <;> rfl
  | cons v l ih => intro ts; cases ts <;> simp [coeL, ih]
theorem coeL_rep (T : TT) : ∀ (l : List V) (vs : List Value) (ts : List TypeId) (m : Mem), AllR (VR w F ν m) l vs → AllR (VR w F ν m) (coeL T l ts) vs := by
  intro l
  induction l with
  | nil => intro vs ts m h; cases ts <;> exact h
  | cons v l ih =>
    intro vs ts m h
    obtain ⟨u, us, rfl, h0, h1⟩ := h.head
    cases ts with
    | nil => exact AllR.cons h0 (ih us [] m h1)
    | cons t ts => exact AllR.cons (coe_rep h0 T t) (ih us ts m h1)
theorem plain_rep {v : V} {x : Value} {m : Mem} (hp : plainV v = true) (h : VR w F ν m v x) (ν' : Nat → Value) (m' : Mem) : VR1 w F ν' m' v x := by
  cases v <;> first | exact h | (simp [plainV] at hp)
theorem plain_all : ∀ (l : List V) (vs : List Value) (m : Mem), l.all plainV = true → AllR (VR w F ν m) l vs → ∀ (ν' : Nat → Value) (m' : Mem), AllR (VR1 w F ν' m') l vs := by
  intro l vs m hp h ν' m'
  exact ⟨h.1, fun j x u hx hu => plain_rep (List.all_eq_true.1 hp x (List.mem_of_getElem? hx)) (h.2 j x u hx hu) ν' m'⟩
theorem args_rep (h : SRep c F ν s a w) (l : List Operand) : AllR (VR w F ν s.mem) (l.map s.ev) (l.map a.eval) := by
  refine ⟨by simp, fun j x u hx hu => ?_⟩
  rw [List.getElem?_map] at hx hu
  cases hj : l[j]? with
  | none => rw [hj] at hx; cases hx
  | some y =>
    rw [hj] at hx hu
    simp only [Option.map_some, Option.some.injEq] at hx hu
    subst hx; subst hu
    exact ev_rep h y

theorem good_call (hT : TAll P T) (h : SRep c F ν s a w) (cl : Call) (ho : o.op = .call cl) : Good P c o F ν s a w (callV T s cl) := by
  obtain ⟨callee, args, tys⟩ := cl
  unfold callV
  dsimp only
  split
  · rename_i g
    cases hp : (coeL T (args.toList.map s.ev) tys.toList).all plainV with
    | false => trivial
    | true =>
      simp only [cond_true]
      rintro ⟨fn, hf, hname, hbody⟩
      refine ⟨args.map a.eval, exec_call ho ?_, ?_⟩
      · unfold resolve
        simp only [Sem.run_bind, Result.andThen_ok]
        have : (Deferred.ofValue (a.eval (.func g)) (args.map a.eval)).run P w = .ok { target := .fn (.func g) #[], args := args.map a.eval } w := by
          simp [Act.eval, Deferred.ofValue]
        rw [this]
        simp only [Result.andThen_ok, invoke, Array.append_empty, callFunc, Sem.run_bind, run_program, hf, hname, hbody, Bool.false_eq_true, if_false, Sem.run_pure]
      · rw [Array.toList_map]
        exact plain_all _ _ s.mem hp (coeL_rep T _ _ _ _ (args_rep h args.toList)) _ _
  · split
    · rename_i x t hx ht
      obtain ⟨y, hy, hyx⟩ := map_one hx
      have := arr1 hy
      subst this
      have := arr1 ht
      subst this
      split
      · rename_i e hsl
        obtain ⟨d, hd, hf⟩ := und_of hT hsl rfl
        simp only [TK.fits] at hf
        subst hf
        have hr := ev_rep h y
        rw [hyx] at hr
        refine lenV_good hr (fun A n cc hv => exec_builtin ho (fun cs => ?_))
        have : (#[y] : Array Operand).map a.eval = #[a.eval y] := by simp
        rw [this, hv]
        show (do pure (.value (← Builtin.len_ #[t] o.type #[.slice A n cc])) : Sem Next).run P w = _
        simp only [Sem.run_bind, len_run hd, Result.andThen_ok, Sem.run_pure]
      · trivial
    · trivial
  · split
    · rename_i k x k' y hxy
      obtain ⟨p, q, hpq, hp, hq⟩ := map_two hxy
      have := arr2 hpq
      subst this
      have hr1 := ev_rep h p
      have hr2 := ev_rep h q
      rw [hp] at hr1
      rw [hq] at hr2
      refine ⟨_, exec_builtin ho (n := .value (.int k (if y > x then y else x))) (fun cs => ?_), VR.int _ _ _ _ _ _⟩
      have : (#[p, q] : Array Operand).map a.eval = #[a.eval p, a.eval q] := by simp
      rw [this, intV hr1, intV hr2]
      rfl
    · trivial
  · split
    · rename_i k x k' y hxy
      obtain ⟨p, q, hpq, hp, hq⟩ := map_two hxy
      have := arr2 hpq
      subst this
      have hr1 := ev_rep h p
      have hr2 := ev_rep h q
      rw [hp] at hr1
      rw [hq] at hr2
      refine ⟨_, exec_builtin ho (n := .value (.int k (if y < x then y else x))) (fun cs => ?_), VR.int _ _ _ _ _ _⟩
      have : (#[p, q] : Array Operand).map a.eval = #[a.eval p, a.eval q] := by simp
      rw [this, intV hr1, intV hr2]
      rfl
    · trivial
  · trivial
  · trivial
  · trivial

theorem eval_good (hT : TAll P T) (keep : List Nat) (hdk : ∀ d, o.dst = some d → d < c.N) (h : SRep c F ν s a w) : Good P c o F ν s a w (eval1 T keep o s) := by
  unfold eval1
  split
  · rename_i x ho; exact good_move h x (.inl ho)
  · rename_i x ho; exact good_move h x (.inr ho)
  · rename_i x y z ho; exact good_pick h x y z ho
  · rename_i op xt x y yt ho; exact good_bin hT h op xt yt x y ho
  · rename_i op xt x ho; exact good_un h op xt x ho
  · rename_i src dst x ho
    cases hs : (T src).k.ok with
    | false => trivial
    | true => exact good_conv hT h src dst x ho hs
  · rename_i t p ho; exact good_load hT h t p ho
  · rename_i t p v ho; exact good_store hT h t p v ho
  · rename_i t p f ho; exact good_fieldA hT h t p f ho
  · rename_i t x f ho; exact good_fieldV hT h t x f ho
  · rename_i t ho; exact good_alloc hT hdk h t ho
  · rename_i t x ho; exact good_box hT hdk h t x ho
  · rename_i t ps ho; exact good_build hT h t ps ho
  · rename_i t n ps ho
    generalize keep.any _ = b
    cases b with
    | true => trivial
    | false => exact good_buildSl hT h t n ps ho
  · trivial
  · rename_i t x lo hi ho; exact good_slice hT h t x lo hi ho
  · rename_i t x i ho; exact good_index hT h t x i ho
  · rename_i x i ho; exact good_extract h x i ho
  · rename_i x ho; exact good_nilCheck h x ho
  · rename_i cl ho
    generalize keep.any _ = b
    cases b with
    | true => trivial
    | false => exact good_call hT h cl ho
  · trivial
end Go.Proofs.Ythefflmebkcilaa.Fw
