/- From the typed readings to data, for all types. -/
import Derived.Test.YthefflmebkcilaaRA
import Derived.OpenShut
set_option linter.unusedVariables false
namespace Go.Proofs.Ythefflmebkcilaa.Fw
open Go Pu Go.RowKit Go.ChangeShapes Go.WideShapes
inductive Sh where
  | bool
  | int (k : IntKind)
  | ws
  | rows (e : List Sh)
inductive OkD : Sh → D → Prop where
  | bool (b : Bool) : OkD .bool (.bool b)
  | int (k : IntKind) (n : Int) (h : (Lit.int k n).wf = true) : OkD (.int k) (.int k n)
  | ws (l : List Int) (h : Wd l) (hl : l.length ≤ maxLen) : OkD .ws (.words l)
  | rows (e : List Sh) (l : List (List D)) (h : ∀ x ∈ l, x.length = e.length) (h2 : ∀ x ∈ l, ∀ (j : Nat) s d, e[j]? = some s → x[j]? = some d → OkD s d) (hl : l.length ≤ maxLen) : OkD (.rows e) (.rows e.length l)
inductive HasSh (P : Program) : TypeId → List Sh → Prop where
  | bool {t : TypeId} (h : P.underlying t = some .bool) (hc : P.cellsOf t = 1) : HasSh P t [.bool]
  | int {t : TypeId} {k : IntKind} (h : P.underlying t = some (.int k)) (hc : P.cellsOf t = 1) : HasSh P t [.int k]
  | ws {t e : TypeId} (h : P.underlying t = some (.slice e)) (he : P.underlying e = some (.int .u32)) (hc : P.cellsOf e = 1) (hct : P.cellsOf t = 1) : HasSh P t [.ws]
  | rows {t e : TypeId} {es : List Sh} (h : P.underlying t = some (.slice e)) (he : HasSh P e es) (hz : 0 < es.length) (hct : P.cellsOf t = 1) : HasSh P t [.rows es]
  | st {t : TypeId} {fs : Array Field} (l : List (List Sh)) (h : P.underlying t = some (.struct fs)) (hl : l.length = fs.size) (hc : P.cellsOf t = l.flatten.length)
      (ho : ∀ (i : Nat) f, fs[i]? = some f → f.offset = ((l.take i).flatten).length) (hf : ∀ (i : Nat) f s, fs[i]? = some f → l[i]? = some s → HasSh P f.type s) : HasSh P t l.flatten
  | arr {t e : TypeId} {n : Nat} {es : List Sh} (h : P.underlying t = some (.array n e)) (he : HasSh P e es) (hc : P.cellsOf t = (List.replicate n es).flatten.length) : HasSh P t (List.replicate n es).flatten
theorem HasSh.cells {P : Program} {t : TypeId} {s : List Sh} (h : HasSh P t s) : P.cellsOf t = s.length := by
  cases h with
  | bool _ hc => exact hc
  | int _ hc => exact hc
  | ws _ _ _ hct => exact hct
  | rows _ _ _ hct => exact hct
  | st l _ _ hc => exact hc
  | arr _ _ hc => exact hc
theorem segs {R : D → Value → Prop} : ∀ (l : List (List Sh)) (cs : List Value), cs.length = l.flatten.length →
    (∀ (i : Nat) s, l[i]? = some s → ∃ ds, AllR R ds ((cs.drop ((l.take i).flatten.length)).take s.length) ∧ AllR OkD s ds) → ∃ ds, AllR R ds cs ∧ AllR OkD l.flatten ds := by
  intro l
  induction l with
  | nil =>
    intro cs h _
    have : cs = [] := List.eq_nil_of_length_eq_zero (by simpa using h)
    subst this
    exact ⟨[], AllR.nil, AllR.nil⟩
  | cons s l ih =>
    intro cs hl h
    have hl' : cs.length = s.length + l.flatten.length := by rw [hl, List.flatten_cons, List.length_append]
    obtain ⟨d0, h1, h2⟩ := h 0 s rfl
    obtain ⟨d1, h3, h4⟩ := ih (cs.drop s.length) (by rw [List.length_drop]; omega) (fun i x hx => by
      obtain ⟨ds, h5, h6⟩ := h (i + 1) x (by simpa using hx)
      refine ⟨ds, ?_, h6⟩
      rw [List.take_succ_cons, List.flatten_cons, List.length_append, ← List.drop_drop] at h5
      exact h5)
    refine ⟨d0 ++ d1, ?_, ?_⟩
    · have h7 : AllR R (d0 ++ d1) (cs.take s.length ++ cs.drop s.length) := AllR.app (by simpa using h1) h3
      rw [List.take_append_drop] at h7
      exact h7
    · rw [List.flatten_cons]
      exact h2.app h4
theorem pick2 {α β : Type} {Q : Nat → α → β → Prop} : ∀ n, (∀ i, i < n → ∃ a b, Q i a b) → ∃ (l : List α) (m : List β), l.length = n ∧ m.length = n ∧ ∀ (i : Nat) a b, l[i]? = some a → m[i]? = some b → Q i a b := by
  intro n
  induction n with
  | zero => intro _; exact ⟨[], [], rfl, rfl, fun i a b h => by simp at h⟩
  | succ n ih =>
    intro h
    obtain ⟨l, m, h1, h2, h3⟩ := ih (fun i hi => h i (by omega))
    obtain ⟨a, b, hq⟩ := h n (by omega)
    refine ⟨l ++ [a], m ++ [b], by simp [h1], by simp [h2], fun i x y hx hy => ?_⟩
    by_cases hi : i < n
    · rw [List.getElem?_append_left (by omega)] at hx
      rw [List.getElem?_append_left (by omega)] at hy
      exact h3 i x y hx hy
    · have hlt := (List.getElem?_eq_some_iff.1 hx).1
      simp only [List.length_append, List.length_singleton] at hlt
      have : i = n := by omega
      subst this
      rw [List.getElem?_append_right (by omega), h1, Nat.sub_self] at hx
      rw [List.getElem?_append_right (by omega), h2, Nat.sub_self] at hy
      simp at hx hy
      subst hx; subst hy
      exact hq
theorem flat_get {α : Type} {k : Nat} (hk : 0 < k) : ∀ (l : List (List α)) (j : Nat) (u : α), (∀ x ∈ l, x.length = k) → l.flatten[j]? = some u → ∃ x, l[j / k]? = some x ∧ x[j % k]? = some u := by
  intro l
  induction l with
  | nil => intro j u _ h; simp at h
  | cons x l ih =>
    intro j u hl h
    have hx : x.length = k := hl x (by simp)
    rw [List.flatten_cons] at h
    by_cases hj : j < k
    · rw [List.getElem?_append_left (by omega)] at h
      exact ⟨x, by rw [Nat.div_eq_of_lt hj]; rfl, by rw [Nat.mod_eq_of_lt hj]; exact h⟩
    · rw [List.getElem?_append_right (by omega), hx] at h
      obtain ⟨y, h1, h2⟩ := ih (j - k) u (fun y hy => hl y (by simp [hy])) h
      have e1 : j / k = (j - k) / k + 1 := by rw [Nat.div_eq_sub_div hk (by omega)]
      have e2 : j % k = (j - k) % k := by rw [Nat.mod_eq_sub_mod (by omega)]
      exact ⟨y, by rw [e1]; simpa using h1, by rw [e2]; exact h2⟩
theorem flat_allR {R : D → Value → Prop} : ∀ (l : List (List D)) (m : List (List Value)), l.length = m.length → (∀ (i : Nat) x y, l[i]? = some x → m[i]? = some y → AllR R x y) → AllR R l.flatten m.flatten := by
  intro l
  induction l with
  | nil =>
    intro m h _
    have : m = [] := List.eq_nil_of_length_eq_zero (by simpa using h.symm)
    subst this
    exact AllR.nil
  | cons x l ih =>
    intro m h hr
    cases m with
    | nil => simp at h
    | cons y m =>
      rw [List.flatten_cons, List.flatten_cons]
      exact (hr 0 x y rfl rfl).app (ih m (by simpa using h) (fun i x y hx hy => hr (i + 1) x y (by simpa using hx) (by simpa using hy)))
theorem hasSh_read {P : Program} {H : Type} {enc : TypeId × Value → H} {w : World} {sp : Nat → Bool} {t : TypeId} {shs : List Sh} (h : HasSh P t shs) :
    ∀ (fuel : Nat) (cs : List Value) (x : DataW H × List MemPlace), DataW.trod enc P w 0 sp true fuel t cs = some x → ∃ ds, AllR (RepL w (Fall w)) ds cs ∧ AllR OkD shs ds := by
  induction h with
  | bool hu hc =>
    intro fuel cs x hx
    obtain ⟨b, rfl, _⟩ := DataW.trod_bool hu hx
    exact ⟨[.bool b], AllR.cons (.bool b) AllR.nil, AllR.cons (.bool b) AllR.nil⟩
  | int hu hc =>
    intro fuel cs x hx
    obtain ⟨n, rfl, _, hw⟩ := DataW.trod_int hu hx
    exact ⟨[.int _ n], AllR.cons (.int _ n) AllR.nil, AllR.cons (.int _ n hw) AllR.nil⟩
  | ws hu he hc hct =>
    intro fuel cs x hx
    have key : ∀ {a : Option Addr} {len cap : Nat} {zs : List Int}, cs = [.slice a len cap] → IsRow .u32 w a len cap zs → ∃ ds, AllR (RepL w (Fall w)) ds cs ∧ AllR OkD [Sh.ws] ds := by
      intro a len cap zs e hr
      obtain ⟨l, h1, h2, h3⟩ := row_words hr
      exact ⟨[.words l], by rw [e]; exact AllR.cons h3 AllR.nil, AllR.cons (.ws l h1 h2) AllR.nil⟩
    rcases open_ints hu he hc hx with ⟨hcs, _⟩ | ⟨a, l, c, zs, hcs, _, hl, hm, hz, _, hcell, hwz⟩
    · exact key hcs (zs := []) (.inl ⟨rfl, rfl, rfl, rfl⟩)
    · rcases Nat.le_total l zs.length with hlz | hlz
      · -- the cells up to the length are all that is asked
        refine ⟨[.words (zs.take l)], ?_, AllR.cons (.ws _ (fun n hn => wf_u32 (hwz n (List.mem_of_mem_take hn))) (by rw [List.length_take]; omega)) AllR.nil⟩
        rw [hcs]
        have hlen : (zs.take l).length = l := by rw [List.length_take]; omega
        refine AllR.cons (RepL.sl (d := .words (zs.take l)) (sz := 1) (n := l) (fl := (zs.take l).map wd) (by simp only [D.sl?, hlen]) (some a) c ((zs.take l).map fun n => .int .u32 n) hl hm (by simp) (fun j u hu => ?_) (fun j d u hd hu => ?_)) AllR.nil
        · rw [List.getElem?_map] at hu
          cases hj : (zs.take l)[j]? with
          | none => rw [hj] at hu; cases hu
          | some n =>
            rw [hj] at hu
            simp only [Option.map_some, Option.some.injEq] at hu
            subst hu
            rw [List.getElem?_take] at hj
            split at hj
            · have hlt := (List.getElem?_eq_some_iff.1 hj).1
              have hc := hcell j hlt
              rw [List.getD_eq_getElem?_getD, hj] at hc
              have hb := World.block_lt_of_cell? w _ hc
              rw [add_block] at hb
              exact ⟨a, rfl, hb, hc⟩
            · cases hj
        · rw [List.getElem?_map] at hd hu
          cases hj : (zs.take l)[j]? with
          | none => rw [hj] at hu; cases hu
          | some n =>
            rw [hj] at hd hu
            simp only [Option.map_some, Option.some.injEq] at hd hu
            subst hd; subst hu
            exact RepL.int _ _
      · have e : zs.length = l := by
          rw [hz] at hlz ⊢
          split at hlz <;> split <;> first | omega | (exfalso; simp_all; done)
        have e2 : zs.take l = zs := List.take_of_length_le (by omega)
        refine ⟨[.words zs], ?_, AllR.cons (.ws _ (fun n hn => wf_u32 (hwz n hn)) (by omega)) AllR.nil⟩
        rw [hcs]
        refine AllR.cons (RepL.sl (d := .words zs) (sz := 1) (n := l) (fl := zs.map wd) (by simp only [D.sl?, e]) (some a) c (zs.map fun n => .int .u32 n) hl hm (by simp) (fun j u hu => ?_) (fun j d u hd hu => ?_)) AllR.nil
        · rw [List.getElem?_map] at hu
          cases hj : zs[j]? with
          | none => rw [hj] at hu; cases hu
          | some n =>
            rw [hj] at hu
            simp only [Option.map_some, Option.some.injEq] at hu
            subst hu
            have hlt := (List.getElem?_eq_some_iff.1 hj).1
            have hc := hcell j hlt
            rw [List.getD_eq_getElem?_getD, hj] at hc
            have hb := World.block_lt_of_cell? w _ hc
            rw [add_block] at hb
            exact ⟨a, rfl, hb, hc⟩
        · rw [List.getElem?_map] at hd hu
          cases hj : zs[j]? with
          | none => rw [hj] at hu; cases hu
          | some n =>
            rw [hj] at hd hu
            simp only [Option.map_some, Option.some.injEq] at hd hu
            subst hd; subst hu
            exact RepL.int _ _
  | @rows t e es hu he hz hct ih =>
    intro fuel cs x hx
    rcases DataW.trod_slice hu hx with ⟨hcs, _⟩ | ⟨a, len, cap, elems, rest, n, _, hcs, _, _, hl, hm, hlen, hel, _, _⟩
    · refine ⟨[.rows es.length []], ?_, AllR.cons (.rows es [] (by simp) (by simp) (Nat.zero_le _)) AllR.nil⟩
      rw [hcs]
      exact AllR.cons (RepL.nilR w (Fall w) es.length) AllR.nil
    · have hcl := he.cells
      have each : ∀ i, i < len → ∃ (ds : List D) (cv : List Value), (AllR (RepL w (Fall w)) ds cv ∧ AllR OkD es ds) ∧ ∀ (j : Nat) u, cv[j]? = some u → w.cell? (a.add (i * es.length + j)) = some u := by
        intro i hi
        have h1 := hel i hi
        rw [List.getElem?_eq_getElem (by omega), Option.bind_eq_some_iff] at h1
        obtain ⟨cv, h2, h3⟩ := h1
        obtain ⟨ds, h4, h5⟩ := ih n cv _ h3
        refine ⟨ds, cv, ⟨h4, h5⟩, fun j u hu => ?_⟩
        obtain ⟨_, h6, h7⟩ := World.cells?_some h2
        rw [hcl] at h6 h7
        have hj := (List.getElem?_eq_some_iff.1 hu).1
        have := h7 j (by omega)
        rw [add_add] at this
        rw [this, hu]
      obtain ⟨l, m, h1, h2, h3⟩ := pick2 len each
      have hall : ∀ x ∈ l, x.length = es.length := by
        intro y hy
        obtain ⟨i, hi⟩ := List.getElem?_of_mem hy
        have hlt := (List.getElem?_eq_some_iff.1 hi).1
        have := (h3 i y (m[i]'(by omega)) hi (List.getElem?_eq_getElem (by omega))).1.2.1
        exact this.symm
      have hallm : ∀ x ∈ m, x.length = es.length := by
        intro y hy
        obtain ⟨i, hi⟩ := List.getElem?_of_mem hy
        have hlt := (List.getElem?_eq_some_iff.1 hi).1
        have h4 := h3 i (l[i]'(by omega)) y (List.getElem?_eq_getElem (by omega)) hi
        have := h4.1.1.1
        rw [← this]
        exact h4.1.2.1.symm
      refine ⟨[.rows es.length l], ?_, AllR.cons (.rows es l hall (fun y hy j s d hs hd => ?_) (by omega)) AllR.nil⟩
      · rw [hcs]
        have hfl := flat_allR (R := RepL w (Fall w)) l m (by omega) (fun i x y hx hy => (h3 i x y hx hy).1.1)
        refine AllR.cons (RepL.sl (d := .rows es.length l) (sz := es.length) (n := len) (fl := l.flatten) ?_ (some a) cap m.flatten hl hm hfl.1.symm (fun j u hu => ?_) (fun j d u hd hu => hfl.2 j d u hd hu)) AllR.nil
        · have : l.all (fun x => x.length == es.length) = true := List.all_eq_true.2 (fun y hy => beq_iff_eq.2 (hall y hy))
          simp only [D.sl?, this, if_true, h1]
        · obtain ⟨y, h4, h5⟩ := flat_get hz m j u hallm hu
          have hlt := (List.getElem?_eq_some_iff.1 h4).1
          have h6 := (h3 (j / es.length) (l[j / es.length]'(by omega)) y (List.getElem?_eq_getElem (by omega)) h4).2 (j % es.length) u h5
          rw [Nat.div_add_mod'] at h6
          have hb := World.block_lt_of_cell? w _ h6
          rw [add_block] at hb
          exact ⟨a, rfl, hb, h6⟩
      · obtain ⟨i, hi⟩ := List.getElem?_of_mem hy
        have hlt := (List.getElem?_eq_some_iff.1 hi).1
        exact (h3 i y (m[i]'(by omega)) hi (List.getElem?_eq_getElem (by omega))).1.2.2 j s d hs hd
  | @st t fs' l hu hl hc ho hf ih =>
    intro fuel cs x hx
    obtain ⟨xs, n, _, _, hlen, hxs, hall⟩ := DataW.trod_struct hu hx
    refine segs l cs (by rw [hlen, hc]) (fun i s hs => ?_)
    have hi := (List.getElem?_eq_some_iff.1 hs).1
    have hfi : fs'[i]? = some (fs'[i]'(by omega)) := by simp [show i < fs'.size by omega]
    have h1 := hall i _ hfi
    rw [List.getElem?_eq_getElem (by omega), ho i _ hfi, (hf i _ s hfi hs).cells] at h1
    exact ih i _ s hfi hs n _ _ h1
  | @arr t e n es hu he hc ih =>
    intro fuel cs x hx
    obtain ⟨xs, m, _, _, hlen, hxs, hall⟩ := DataW.trod_array hu hx
    refine segs _ cs (by rw [hlen, hc]) (fun i s hs => ?_)
    have hi := (List.getElem?_eq_some_iff.1 hs).1
    rw [List.length_replicate] at hi
    rw [List.getElem?_replicate, if_pos hi] at hs
    injection hs with hs
    subst hs
    have h1 := hall i hi
    rw [List.getElem?_eq_getElem (show i < xs.length by omega), he.cells] at h1
    have e1 : ((List.replicate n es).take i).flatten.length = i * es.length := by
      rw [List.take_replicate, Nat.min_eq_left (Nat.le_of_lt hi)]; simp
    rw [e1]
    exact ih m _ _ h1
/-- An argument of one cell. -/
theorem read_one {P : Program} {H : Type} {enc : TypeId × Value → H} {w : World} {sp : Nat → Bool} {t : TypeId} {s : Sh} {v : Value} {d : DataW H} {p : List MemPlace} (h : HasSh P t [s]) (ht : DataW.Trod enc P w 0 sp true t v d p) (hv : v.cells = #[v]) :
    ∃ x, OkD s x ∧ VR1 w (Fall w) (fun _ => undef) (fun _ => none) (.d x) v := by
  obtain ⟨fuel, hf⟩ := ht
  obtain ⟨ds, h1, h2⟩ := hasSh_read h fuel _ _ hf
  rw [hv] at h1
  obtain ⟨u, us, e, h3, h4⟩ := h2.head
  obtain rfl := h4.nil_of
  subst e
  exact ⟨u, h3, h1.2 0 u v rfl rfl⟩
/-- An argument of many cells. -/
theorem read_agg {P : Program} {H : Type} {enc : TypeId × Value → H} {w : World} {sp : Nat → Bool} {t : TypeId} {s : List Sh} {cs : Array Value} {d : DataW H} {p : List MemPlace} (h : HasSh P t s) (ht : DataW.Trod enc P w 0 sp true t (.agg cs) d p) :
    ∃ ds, AllR OkD s ds ∧ VR1 w (Fall w) (fun _ => undef) (fun _ => none) (.agg s.length ds) (.agg cs) := by
  obtain ⟨fuel, hf⟩ := ht
  obtain ⟨ds, h1, h2⟩ := hasSh_read h fuel _ _ hf
  exact ⟨ds, h2, h2.1.symm, cs, rfl, h1⟩
theorem okWide_agg {P : Program} {W : World} {base : Nat} {r : Reach} {t : TypeId} {v : Value} {n : Nat} {e : TypeId} {fs : Array Field} (ht : P.underlying t = some (.struct fs) ∨ P.underlying t = some (.array n e)) (h : Value.okWide P W r base t v) : ∃ cs, v = .agg cs := by
  rcases ht with ht | ht <;> simp only [Value.okWide, ht] at h <;> obtain ⟨cs, h1, _⟩ := h <;> exact ⟨cs, h1⟩
theorem okWide_st {P : Program} {W : World} {base : Nat} {r : Reach} {t : TypeId} {v : Value} {fs : Array Field} (ht : P.underlying t = some (.struct fs)) (h : Value.okWide P W r base t v) : ∃ cs, v = .agg cs := okWide_agg (n := 0) (e := 0) (.inl ht) h
theorem okWide_ar {P : Program} {W : World} {base : Nat} {r : Reach} {t : TypeId} {v : Value} {n : Nat} {e : TypeId} (ht : P.underlying t = some (.array n e)) (h : Value.okWide P W r base t v) : ∃ cs, v = .agg cs := okWide_agg (fs := #[]) (.inr ht) h
theorem inv_ws {x : D} (h : OkD .ws x) : ∃ l, x = .words l ∧ Wd l ∧ l.length ≤ maxLen := by cases h; exact ⟨_, rfl, by assumption, by assumption⟩
theorem inv_bool {x : D} (h : OkD .bool x) : ∃ b, x = .bool b := by cases h; exact ⟨_, rfl⟩
theorem inv_int {k : IntKind} {x : D} (h : OkD (.int k) x) : ∃ n, x = .int k n ∧ (Lit.int k n).wf = true := by cases h; exact ⟨_, rfl, by assumption⟩
theorem inv_rows {e : List Sh} {x : D} (h : OkD (.rows e) x) : ∃ l, x = .rows e.length l ∧ (∀ y ∈ l, AllR OkD e y) ∧ l.length ≤ maxLen := by
  cases h with
  | rows _ l h1 h2 hl => exact ⟨l, rfl, fun y hy => ⟨(h1 y hy).symm, fun j s d => h2 y hy j s d⟩, hl⟩
end Go.Proofs.Ythefflmebkcilaa.Fw
