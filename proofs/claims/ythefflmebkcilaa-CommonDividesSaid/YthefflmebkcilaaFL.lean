import Derived.Test.YthefflmebkcilaaFK
set_option linter.unusedVariables false
set_option linter.unusedSimpArgs false
namespace Go.Proofs.Ythefflmebkcilaa.Fw
open Go
variable {P : Program} {T : TT} {c : Ctx} {F : Nat → Prop} {ν : Nat → Value} {s : St} {a : Act} {w : World} {o : Oper} {keep : List Nat}

theorem memN_iff {x : Nat} {l : List Nat} : memN x l = true ↔ x ∈ l := by
  induction l with
  | nil => simp [memN]
  | cons y l ih =>
    simp only [memN, Bool.or_eq_true, ih, List.mem_cons]
    constructor
    · rintro (h | h)
      · exact .inl (Nat.eq_of_beq_eq_true h)
      · exact .inr h
    · rintro (h | h)
      · subst h; exact .inl (Nat.beq_refl x)
      · exact .inr h
theorem apartL_iff {x y : List Nat} : apartL x y = true ↔ ∀ z ∈ x, z ∉ y := by
  unfold apartL
  simp only [List.all_eq_true, Bool.not_eq_true']
  constructor
  · intro h z hz hy
    have := h z hz
    rw [memN_iff.2 hy] at this
    cases this
  · intro h z hz
    cases hm : memN z y with
    | false => rfl
    | true => exact absurd (memN_iff.1 hm) (h z hz)
theorem apartL_symm {x y : List Nat} (h : apartL x y = true) : apartL y x = true := apartL_iff.2 fun z hz hx => apartL_iff.1 h z hx hz

/-! ### What an operation looks at -/
theorem ev_congr {s s' : St} {x : Operand} (h : ∀ t, x = .tmp t → s'.env t = s.env t) : s'.ev x = s.ev x := by
  cases x with
  | tmp t => exact h t rfl
  | _ => rfl
def Reads (o : Oper) (s s' : St) : Prop := (∀ x ∈ o.op.operands.toList, s'.ev x = s.ev x) ∧ (∀ j ∈ rdsOf o s, s'.mem j = s.mem j)
theorem Reads.ev {s s' : St} (h : Reads o s s') {x : Operand} (hx : x ∈ o.op.operands.toList) : s'.ev x = s.ev x := h.1 x hx
theorem Reads.obj {s s' : St} (h : Reads o s s') {x : Operand} (hx : x ∈ o.op.operands.toList) {j : Nat} (hj : j ∈ objOf (s.ev x)) : s'.mem j = s.mem j :=
  h.2 j (by unfold rdsOf; exact List.mem_flatten.2 ⟨_, List.mem_map.2 ⟨x, hx, rfl⟩, hj⟩)
theorem loadV_congr {s s' : St} (T : TT) (t : TypeId) (v : V) (h : ∀ j ∈ objOf v, s'.mem j = s.mem j) : loadV T s' t v = loadV T s t v := by
  unfold loadV
  cases v with
  | addr i off => simp only [h i (by simp [objOf])]
  | ela i j q => simp only [h i (by simp [objOf])]
  | _ => rfl
theorem storeV_congr {s s' : St} (T : TT) (t : TypeId) (v x : V) (h : ∀ j ∈ objOf v, s'.mem j = s.mem j) : storeV T s' t v x = storeV T s t v x := by
  unfold storeV
  cases cellsV T t x with
  | none => rfl
  | some cl =>
    cases v with
    | addr i off => simp only [h i (by simp [objOf])]
    | ela i j q => simp only [h i (by simp [objOf])]
    | _ => rfl
theorem indexV_congr {s s' : St} (T : TT) (t : TypeId) (v x : V) (h : ∀ j ∈ objOf v, s'.mem j = s.mem j) : indexV T s' t v x = indexV T s t v x := by
  unfold indexV
  cases v with
  | own i off len => simp only [h i (by simp [objOf])]
  | d y => cases y <;> rfl
  | _ => rfl
theorem sliceV_congr {s s' : St} (T : TT) (t : TypeId) (v : V) (x y : Option V) (h : ∀ j ∈ objOf v, s'.mem j = s.mem j) : sliceV T s' t v x y = sliceV T s t v x y := by
  unfold sliceV
  cases v with
  | own i off len => simp only [h i (by simp [objOf])]
  | d y => cases y <;> rfl
  | _ => rfl
theorem map_ev {s s' : St} {l : List Operand} (h : ∀ x ∈ l, s'.ev x = s.ev x) : l.map s'.ev = l.map s.ev := List.map_congr_left h
theorem callV_congr {s s' : St} (T : TT) (cl : Call) (h : ∀ x ∈ cl.args.toList, s'.ev x = s.ev x) : callV T s' cl = callV T s cl := by
  unfold callV
  rw [map_ev h]
theorem parts_ev {s s' : St} {l : List (Nat × Operand)} (h : ∀ p ∈ l, s'.ev p.2 = s.ev p.2) : (l.map fun (i, x) => (i, s'.ev x)) = l.map fun (i, x) => (i, s.ev x) :=
  List.map_congr_left fun p hp => by
    have := h p hp
    obtain ⟨i, x⟩ := p
    exact congrArg (Prod.mk i) this
theorem eval1_congr {s s' : St} (T : TT) (keep : List Nat) (h : Reads o s s') (hd : ∀ d, o.dst = some d → s'.mem d = s.mem d ∨ ∀ v obj, eval1 T keep o s ≠ .upd d obj v) (hnf : eval1 T keep o s ≠ .fail) : eval1 T keep o s' = eval1 T keep o s := by
  have hev := fun x hx => h.ev (x := x) hx
  unfold eval1 at hd hnf ⊢
  cases ho : o.op with
  | move x => simp only []; rw [hev x (by rw [ho]; simp [Op.operands])]
  | assign x => simp only []; rw [hev x (by rw [ho]; simp [Op.operands])]
  | pick x y z => simp only []; rw [hev x (by rw [ho]; simp [Op.operands]), hev y (by rw [ho]; simp [Op.operands]), hev z (by rw [ho]; simp [Op.operands])]
  | binOp op xt x y yt => simp only []; rw [hev x (by rw [ho]; simp [Op.operands]), hev y (by rw [ho]; simp [Op.operands])]
  | unOp op xt x => simp only []; rw [hev x (by rw [ho]; simp [Op.operands])]
  | convert src dst x => simp only []; rw [hev x (by rw [ho]; simp [Op.operands])]
  | load t p =>
    have hp := hev p (by rw [ho]; simp [Op.operands])
    simp only []
    rw [hp, loadV_congr T t _ (fun j hj => h.obj (x := p) (by rw [ho]; simp [Op.operands]) hj)]
  | store t p v =>
    have hp := hev p (by rw [ho]; simp [Op.operands])
    have hv := hev v (by rw [ho]; simp [Op.operands])
    simp only []
    rw [hp, hv, storeV_congr T t _ _ (fun j hj => h.obj (x := p) (by rw [ho]; simp [Op.operands]) hj)]
  | fieldAddr t p f => simp only []; rw [hev p (by rw [ho]; simp [Op.operands])]
  | field t x f => simp only []; rw [hev x (by rw [ho]; simp [Op.operands])]
  | alloc t =>
    simp only [ho] at hd hnf ⊢
    cases hdst : o.dst with
    | none => rfl
    | some d =>
      rw [hdst] at hd hnf
      cases hk : (T t).k.ok with
      | false => rfl
      | true =>
        rw [hk] at hd hnf
        dsimp only at hd hnf ⊢
        cases hm : s.mem d with
        | some _ => rw [hm] at hnf; exact absurd rfl hnf
        | none =>
          rcases hd d rfl with h1 | h1
          · rw [h1, hm]
          · rw [hm] at h1; exact absurd rfl (h1 _ _)
  | box t x =>
    have hx := hev x (by rw [ho]; simp [Op.operands])
    simp only [ho] at hd hnf ⊢
    rw [hx]
    cases hdst : o.dst with
    | none => rfl
    | some d =>
      rw [hdst] at hd hnf
      cases hk : (T t).k.ok with
      | false => rfl
      | true =>
        rw [hk] at hd hnf
        dsimp only at hd hnf ⊢
        cases hm : s.mem d with
        | some _ => rw [hm] at hnf; exact absurd rfl hnf
        | none =>
          cases hc : cellsV T t (s.ev x) with
          | none => rw [hm, hc] at hnf; exact absurd rfl hnf
          | some cl =>
            rcases hd d rfl with h1 | h1
            · rw [h1, hm]
            · rw [hm, hc] at h1; exact absurd rfl (h1 _ _)
  | build t ps =>
    simp only []
    rw [parts_ev (fun p hp => hev p.2 (by rw [ho]; simp only [Op.operands]; exact List.mem_map.2 ⟨p, hp, rfl⟩))]
  | buildSlice t n ps =>
    simp only []
    rw [parts_ev (fun p hp => hev p.2 (by rw [ho]; simp only [Op.operands]; exact List.mem_map.2 ⟨p, hp, rfl⟩))]
  | slice t x lo hi mx =>
    cases mx with
    | some _ => rfl
    | none =>
      simp only []
      have hx := hev x (by rw [ho]; simp [Op.operands])
      have hlo : lo.map s'.ev = lo.map s.ev := by
        cases lo with
        | none => rfl
        | some y => simp only [Option.map_some]; rw [hev y (by rw [ho]; simp [Op.operands])]
      have hhi : hi.map s'.ev = hi.map s.ev := by
        cases hi with
        | none => rfl
        | some y => simp only [Option.map_some]; rw [hev y (by rw [ho]; simp [Op.operands])]
      rw [hx, hlo, hhi, sliceV_congr T t _ _ _ (fun j hj => h.obj (x := x) (by rw [ho]; simp [Op.operands]) hj)]
  | indexAddr t x i =>
    simp only []
    rw [hev x (by rw [ho]; simp [Op.operands]), hev i (by rw [ho]; simp [Op.operands]), indexV_congr T t _ _ (fun j hj => h.obj (x := x) (by rw [ho]; simp [Op.operands]) hj)]
  | extract x i => simp only []; rw [hev x (by rw [ho]; simp [Op.operands])]
  | nilCheck x => simp only []; rw [hev x (by rw [ho]; simp [Op.operands])]
  | call cl =>
    simp only []
    rw [callV_congr T cl (fun x hx => hev x (by rw [ho]; simp only [Op.operands, Call.operands, Array.toList_append, List.mem_append]; exact .inr hx))]
  | _ => rfl
end Go.Proofs.Ythefflmebkcilaa.Fw
