import Derived.Test.YthefflmebkcilaaFB
set_option linter.unusedVariables false
set_option linter.unusedSimpArgs false
namespace Go.Proofs.Ythefflmebkcilaa.Fw
open Go

theorem run_und {P : Program} {t : TypeId} {d : TypeDesc} (h : P.underlying t = some d) (w : World) : (underlying t).run P w = .ok d w := run_underlying h w
theorem run_szOf {P : Program} {t : TypeId} {n : Nat} (h : (P.info? t).map (·.size) = some n) (w : World) : (sizeOf t).run P w = .ok n w := by
  obtain ⟨i, hi, rfl⟩ := Option.map_eq_some_iff.1 h
  simp [sizeOf, typeInfo, hi]

/-- What the table says is so. -/
def zok : D → Bool
  | .bool _ => true
  | .int _ _ => true
  | .words [] => true
  | .rows _ [] => true
  | _ => false
def TAll (P : Program) (T : TT) : Prop := ∀ t, (T t).k.ok = true → TOK P T t ∧ ((T t).k.agg = false → (T t).sz = 1) ∧ (T t).zero.length = (T t).sz ∧ (T t).zero.all zok = true
theorem TOK.size {P : Program} {T : TT} {t : TypeId} (h : TOK P T t) : (P.info? t).map (·.size) = some (T t).sz := by
  have := h.info
  cases hi : P.info? t with
  | none => rw [hi] at this; cases this
  | some i =>
    rw [hi] at this
    simp only [Option.map_some, Option.some.injEq, Prod.mk.injEq] at this
    simp [this.1]
theorem TOK.all {P : Program} {T : TT} {t : TypeId} (h : TOK P T t) : ∃ i z, P.info? t = some i ∧ i.size = (T t).sz ∧ i.bytes = (T t).bytes ∧ i.zero = some z ∧ z.cells = ((T t).zero.map zval).toArray := by
  have := h.info
  cases hi : P.info? t with
  | none => rw [hi] at this; cases this
  | some i =>
    rw [hi] at this
    simp only [Option.map_some, Option.some.injEq, Prod.mk.injEq] at this
    obtain ⟨h1, h2, h3⟩ := this
    obtain ⟨z, hz, hc⟩ := Option.map_eq_some_iff.1 h3
    exact ⟨i, z, rfl, h1, h2, hz, hc⟩
theorem TOK.isAgg {P : Program} {T : TT} {t : TypeId} (h : TOK P T t) (w : World) : (isAgg t).run P w = .ok (T t).k.agg w := by
  obtain ⟨d, hd, hf⟩ := h.und
  unfold Go.isAgg
  simp only [Sem.run_bind, run_und hd, Result.andThen_ok]
  cases hk : (T t).k <;> rw [hk] at hf <;> simp only [TK.fits] at hf
  · subst hf; rfl
  · subst hf; rfl
  · obtain ⟨e, rfl⟩ := hf; rfl
  · subst hf; rfl
  · obtain ⟨f, rfl, _⟩ := hf; rfl
  · subst hf; rfl

variable {P : Program} {T : TT} {c : Ctx} {F : Nat → Prop} {ν : Nat → Value} {s : St} {a : Act} {w : World} {o : Oper}

theorem cv_rep (w : World) (F : Nat → Prop) (ν : Nat → Value) (m : Mem) (v : Value) : VR w F ν m (cv v) v := by
  unfold cv
  split
  · exact RepL.int _ _
  · exact RepL.bool _
  · rfl
  · rfl
  · trivial
theorem cv_tup (v : Value) (l : List V) : cv v ≠ .tup l := by
  unfold cv
  split <;> simp
theorem ev_rep (h : SRep c F ν s a w) (x : Operand) : VR w F ν s.mem (s.ev x) (a.eval x) := by
  cases x with
  | tmp t => exact h.env t
  | const v => exact cv_rep w F ν s.mem v
  | global g => trivial
  | func f => trivial

def Val (P : Program) (o : Oper) (a : Act) (w : World) (F : Nat → Prop) (ν : Nat → Value) (m : Mem) (v : V) : Prop := ∃ x, (execOp a.eval o).run P w = .ok (.value x) w ∧ VR w F ν m v x
def Good (P : Program) (c : Ctx) (o : Oper) (F : Nat → Prop) (ν : Nat → Value) (s : St) (a : Act) (w : World) : R1 → Prop
  | .val v => Val P o a w F ν s.mem v
  | .nval v => ∃ x w' F', (execOp a.eval o).run P w = .ok (.value x) w' ∧ SRep c F' ν s a w' ∧ VR w' F' ν s.mem v x
  | .sval p v => p → Val P o a w F ν s.mem v
  | .idxw l j f => ∀ y, 0 ≤ j → l[j.toNat]? = some y → Val P o a w F ν s.mem (f (wd y))
  | .idxr l j f => ∀ y, 0 ≤ j → l[j.toNat]? = some y → Val P o a w F ν s.mem (f y)
  | .upd i obj v => ∃ x w' ν', ((execOp a.eval o).run P w = .ok (.value x) w' ∨ ((execOp a.eval o).run P w = .ok .skip w' ∧ x = undef)) ∧ SRep c F ν' (s.upd i obj) a w' ∧ VR w' F ν' (s.upd i obj).mem v x
  | .call g args => FOK P g → ∃ vals, (execOp a.eval o).run P w = .ok (.enter g vals) w ∧ AllR (VR1 w F (fun _ => undef) (fun _ => none)) args vals.toList
  | .fail => True
  | .sem => True

theorem boolV {F : Nat → Prop} {ν : Nat → Value} {m : Mem} {b : Bool} {v : Value} (h : VR w F ν m (.d (.bool b)) v) : v = .bool b := RepL.bool_inv h
theorem intV {F : Nat → Prop} {ν : Nat → Value} {m : Mem} {k : IntKind} {n : Int} {v : Value} (h : VR w F ν m (.d (.int k n)) v) : v = .int k n := RepL.int_inv h
theorem VR.bool (w : World) (F : Nat → Prop) (ν : Nat → Value) (m : Mem) (b : Bool) : VR w F ν m (.d (.bool b)) (.bool b) := RepL.bool b
theorem VR.int (w : World) (F : Nat → Prop) (ν : Nat → Value) (m : Mem) (k : IntKind) (n : Int) : VR w F ν m (.d (.int k n)) (.int k n) := RepL.int k n

theorem good_pick (h : SRep c F ν s a w) (x y z : Operand) (ho : o.op = .pick x y z) : Good P c o F ν s a w (match s.ev x with | .d (.bool t) => .val (pickV t (s.ev y) (s.ev z)) | _ => .fail) := by
  have hx := ev_rep h x
  have hy := ev_rep h y
  have hz := ev_rep h z
  split
  · rename_i t e
    rw [e] at hx
    have e1 := boolV hx
    refine ⟨if t then a.eval y else a.eval z, ?_, ?_⟩
    · simp [execOp, ho, e1, asBool]
    · unfold pickV
      split
      · rename_i b1 b2 e2 e3
        rw [e2] at hy
        rw [e3] at hz
        rw [boolV hy, boolV hz]
        cases t
        · exact VR.bool _ _ _ _ _
        · exact VR.bool _ _ _ _ _
      · cases t
        · exact hz
        · exact hy
  · trivial

theorem kEq_iff {k k' : IntKind} (h : kEq k k' = true) : k = k' := by cases k <;> cases k' <;> first | rfl | (simp [kEq] at h)

theorem good_binII (h : SRep c F ν s a w) (op : BinOp) (xt yt : TypeId) (x y : Operand) (ho : o.op = .binOp op xt x y yt) (k k' : IntKind) (m n : Int) (hx : a.eval x = .int k m) (hy : a.eval y = .int k' n) :
    Good P c o F ν s a w (bif isSh op then shI op k m n else bif kEq k k' then binI op k m n else .fail) := by
  cases op <;> simp only [isSh, cond_true, cond_false]
  case shl =>
    intro hn
    refine ⟨_, ?_, VR.int _ _ _ _ _ _⟩
    have : ¬ n < 0 := by omega
    simp [execOp, ho, hx, hy, eqGuard, binOp, Op.shift, this]
  case shr =>
    intro hn
    refine ⟨_, ?_, VR.int _ _ _ _ _ _⟩
    have : ¬ n < 0 := by omega
    simp [execOp, ho, hx, hy, eqGuard, binOp, Op.shift, this]
  all_goals
    cases hk : kEq k k' with
    | false => trivial
    | true =>
      obtain rfl := kEq_iff hk
      simp only [cond_true, binI]
      first
      | trivial
      | (refine ⟨_, ?_, VR.int _ _ _ _ _ _⟩; simp [execOp, ho, hx, hy, eqGuard, binOp, Op.intArith, Op.intBits]; done)
      | (refine ⟨_, ?_, VR.bool _ _ _ _ _⟩; simp [execOp, ho, hx, hy, eqGuard, binOp, Op.intCmp]; done)
      | (intro hn; refine ⟨_, ?_, VR.int _ _ _ _ _ _⟩; simp [execOp, ho, hx, hy, eqGuard, binOp, Op.intDiv, hn]; done)

theorem equal_bool {P : Program} {t : TypeId} (h : P.underlying t = some .bool) (b c : Bool) (w : World) : (Op.equal t (.bool b) (.bool c)).run P w = .ok (b == c) w := by
  unfold Op.equal
  rw [show Op.maxDepth = 9999 + 1 from rfl, Op.equalIn]
  rw [Sem.run_bind, run_und h]
  rfl
theorem equal_nilp {P : Program} {t e : TypeId} (h : P.underlying t = some (.pointer e)) (a : Addr) (w : World) : (Op.equal t (.pointer (some a)) (.pointer none)).run P w = .ok false w := by
  unfold Op.equal
  rw [show Op.maxDepth = 9999 + 1 from rfl, Op.equalIn]
  rw [Sem.run_bind, run_und h]
  rfl
theorem exec_bin (ρ : Operand → Value) (o : Oper) (op : BinOp) (xt yt : TypeId) (x y : Operand) (ho : o.op = .binOp op xt x y yt) (w : World) (P : Program) (v : Value)
    (h1 : (eqGuard op xt x y (ρ x) (ρ y)).run P w = .ok () w) (h2 : (binOp op xt (ρ x) (ρ y)).run P w = .ok v w) : (execOp ρ o).run P w = .ok (.value v) w := by
  unfold execOp
  rw [ho]
  simp only [Sem.run_bind, h1, h2, Result.andThen_ok, Sem.run_pure]
theorem und_of {P : Program} {T : TT} (hT : TAll P T) {t : TypeId} {k : TK} (hk : (T t).k = k) (hok : k.ok = true) : ∃ d, P.underlying t = some d ∧ k.fits P d := by
  obtain ⟨h1, _⟩ := hT t (by rw [hk]; exact hok)
  obtain ⟨d, hd, hf⟩ := h1.und
  exact ⟨d, hd, hk ▸ hf⟩

theorem good_bin (hT : TAll P T) (h : SRep c F ν s a w) (op : BinOp) (xt yt : TypeId) (x y : Operand) (ho : o.op = .binOp op xt x y yt) : Good P c o F ν s a w (bin T op xt (s.ev x) (s.ev y)) := by
  have hx := ev_rep h x
  have hy := ev_rep h y
  unfold bin
  split
  · rename_i k m k' n e1 e2
    rw [e1] at hx
    rw [e2] at hy
    exact good_binII h op xt yt x y ho k k' m n (intV hx) (intV hy)
  · rename_i b b' e1 e2
    rw [e1] at hx
    rw [e2] at hy
    have h1 := boolV hx
    have h2 := boolV hy
    split
    · rename_i hk
      obtain ⟨d, hd, hf⟩ := und_of hT hk rfl
      simp only [TK.fits] at hf
      subst hf
      refine ⟨.bool (b == b'), exec_bin _ _ _ _ _ _ _ ho _ _ _ ?_ ?_, VR.bool _ _ _ _ _⟩
      · rw [h1, h2]; rfl
      · rw [h1, h2]
        show ((do pure (Value.bool (← Op.equal xt (.bool b) (.bool b')))) : Sem Value).run P w = _
        simp only [Sem.run_bind, equal_bool hd, Result.andThen_ok, Sem.run_pure]
    · rename_i hk
      obtain ⟨d, hd, hf⟩ := und_of hT hk rfl
      simp only [TK.fits] at hf
      subst hf
      refine ⟨.bool (!(b == b')), exec_bin _ _ _ _ _ _ _ ho _ _ _ ?_ ?_, VR.bool _ _ _ _ _⟩
      · rw [h1, h2]; rfl
      · rw [h1, h2]
        show ((do pure (Value.bool (!(← Op.equal xt (.bool b) (.bool b'))))) : Sem Value).run P w = _
        simp only [Sem.run_bind, equal_bool hd, Result.andThen_ok, Sem.run_pure]
    · trivial
  · rename_i i q e1 e2
    rw [e1] at hx
    rw [e2] at hy
    obtain ⟨l, ad, _, _, h1⟩ := hx
    have h2 : a.eval y = .pointer none := hy
    split
    · rename_i hk
      obtain ⟨d, hd, e, rfl⟩ := und_of hT hk rfl
      refine ⟨.bool false, exec_bin _ _ _ _ _ _ _ ho _ _ _ ?_ ?_, VR.bool _ _ _ _ _⟩
      · rw [h1, h2]; rfl
      · rw [h1, h2]
        show ((do pure (Value.bool (← Op.equal xt (.pointer _) (.pointer none)))) : Sem Value).run P w = _
        simp only [Sem.run_bind, equal_nilp hd, Result.andThen_ok, Sem.run_pure]
    · rename_i hk
      obtain ⟨d, hd, e, rfl⟩ := und_of hT hk rfl
      refine ⟨.bool true, exec_bin _ _ _ _ _ _ _ ho _ _ _ ?_ ?_, VR.bool _ _ _ _ _⟩
      · rw [h1, h2]; rfl
      · rw [h1, h2]
        show ((do pure (Value.bool (!(← Op.equal xt (.pointer _) (.pointer none))))) : Sem Value).run P w = _
        simp only [Sem.run_bind, equal_nilp hd, Result.andThen_ok, Sem.run_pure, Bool.not_false]
    · trivial
  · trivial
  · trivial

theorem good_un (h : SRep c F ν s a w) (op : UnOp) (xt : TypeId) (x : Operand) (ho : o.op = .unOp op xt x) : Good P c o F ν s a w (unV op (s.ev x)) := by
  have hx := ev_rep h x
  generalize s.ev x = v at hx ⊢
  cases op with
  | not =>
    cases v with
    | d y =>
      cases y with
      | bool b =>
        have h1 := boolV hx
        exact ⟨_, by simp [execOp, ho, h1, Op.unary], VR.bool _ _ _ _ _⟩
      | _ => trivial
    | _ => trivial
  | neg =>
    cases v with
    | d y =>
      cases y with
      | int k n =>
        have h1 := intV hx
        refine ⟨.int k (k.wrap (0 - n)), ?_, VR.int _ _ _ _ _ _⟩
        simp only [execOp, ho, h1, Op.unary, Op.intArith, Sem.run_bind, Sem.run_pure, Result.andThen_ok]
      | _ => trivial
    | _ => trivial
  | _ => trivial
theorem good_conv (hT : TAll P T) (h : SRep c F ν s a w) (src dst : TypeId) (x : Operand) (ho : o.op = .convert src dst x) (hsrc : (T src).k.ok = true) : Good P c o F ν s a w (match (T dst).k, s.ev x with
    | .int k, .d (.int _ n) => .val (.d (.int k (k.wrap n)))
    | _, _ => .fail) := by
  have hx := ev_rep h x
  generalize s.ev x = v at hx ⊢
  split
  · rename_i k k' n hk
    have h1 := intV hx
    obtain ⟨d, hd, hf⟩ := und_of hT hk rfl
    simp only [TK.fits] at hf
    subst hf
    obtain ⟨d', hd', _⟩ := (hT src hsrc).1.und
    refine ⟨.int k (k.wrap _), ?_, VR.int _ _ _ _ _ _⟩
    simp only [execOp, ho, h1, convert, run_und hd, run_und hd', Conv.intToInt, Sem.run_bind, Sem.run_pure, Result.andThen_ok]
  · trivial
end Go.Proofs.Ythefflmebkcilaa.Fw
