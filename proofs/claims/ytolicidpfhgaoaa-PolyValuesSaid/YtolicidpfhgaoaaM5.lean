/- Texts of the proof, one after the other: PW PT PO RW RX RV RZ RM RN RO TR LR. -/
import Derived.Test.YtolicidpfhgaoaaM4
set_option linter.unusedSimpArgs false
set_option linter.unusedVariables false
/- Polynomials: plain law over rows of fractions. -/
set_option linter.unusedVariables false
set_option linter.unusedSimpArgs false
namespace Go.Proofs.Ytolicidpfhgaoaa.Fw
open Go Pu
def sumTo : Nat → (Nat → Rat) → Rat
  | 0, _ => 0
  | n + 1, h => sumTo n h + h n
theorem sumTo_congr {f g : Nat → Rat} : ∀ {n : Nat}, (∀ i, i < n → f i = g i) → sumTo n f = sumTo n g
  | 0, _ => rfl
  | n + 1, h => by
    show sumTo n f + f n = sumTo n g + g n
    rw [sumTo_congr (n := n) (fun i hi => h i (by omega)), h n (by omega)]
theorem sumTo_zero {f : Nat → Rat} : ∀ {n : Nat}, (∀ i, i < n → f i = 0) → sumTo n f = 0
  | 0, _ => rfl
  | n + 1, h => by
    show sumTo n f + f n = 0
    rw [sumTo_zero (n := n) (fun i hi => h i (by omega)), h n (by omega)]; grind
theorem sumTo_add (f g : Nat → Rat) : ∀ n : Nat, sumTo n (fun i => f i + g i) = sumTo n f + sumTo n g
  | 0 => by show (0 : Rat) = 0 + 0; grind
  | n + 1 => by
    show sumTo n (fun i => f i + g i) + (f n + g n) = (sumTo n f + f n) + (sumTo n g + g n)
    rw [sumTo_add f g n]; grind
theorem sumTo_mul (c : Rat) (f : Nat → Rat) : ∀ n : Nat, sumTo n (fun i => c * f i) = c * sumTo n f
  | 0 => (Rat.mul_zero c).symm
  | n + 1 => by
    show sumTo n (fun i => c * f i) + c * f n = c * (sumTo n f + f n)
    rw [sumTo_mul c f n]; grind
theorem sumTo_shift (f : Nat → Rat) : ∀ n : Nat, sumTo (n + 1) f = f 0 + sumTo n (fun i => f (i + 1))
  | 0 => by show 0 + f 0 = f 0 + 0; grind
  | n + 1 => by
    show sumTo (n + 1) f + f (n + 1) = f 0 + (sumTo n (fun i => f (i + 1)) + f (n + 1))
    rw [sumTo_shift f n]; grind
theorem sumTo_more {f : Nat → Rat} {m : Nat} : ∀ {n : Nat}, m ≤ n → (∀ i, m ≤ i → i < n → f i = 0) → sumTo n f = sumTo m f
  | 0, h, _ => by have : m = 0 := by omega
                  rw [this]
  | n + 1, h, hz => by
    rcases Nat.lt_or_ge n m with h1 | h1
    · have : m = n + 1 := by omega
      rw [this]
    · show sumTo n f + f n = _
      rw [hz n h1 (by omega), sumTo_more h1 (fun i h2 h3 => hz i h2 (by omega))]; grind
theorem sumTo_one {f : Nat → Rat} {n k : Nat} (hk : k < n) (h : ∀ i, i < n → i ≠ k → f i = 0) : sumTo n f = f k := by
  induction n with
  | zero => omega
  | succ n ih =>
    show sumTo n f + f n = f k
    by_cases hkn : k = n
    · subst hkn
      rw [sumTo_zero (fun i hi => h i (by omega) (by omega))]; grind
    · rw [ih (by omega) (fun i hi hn => h i (by omega) hn), h n (by omega) (by omega)]; grind
def conv (f g : Nat → Rat) (n : Nat) : Rat := sumTo (n + 1) (fun i => f i * g (n - i))
theorem conv_zero (f g : Nat → Rat) : conv f g 0 = f 0 * g 0 := by show 0 + f 0 * g (0 - 0) = _; rw [Nat.sub_zero]; grind
theorem conv_succ (f g : Nat → Rat) (n : Nat) : conv f g (n + 1) = f 0 * g (n + 1) + conv (fun i => f (i + 1)) g n := by
  unfold conv
  rw [sumTo_shift, Nat.sub_zero]
  congr 1
  exact sumTo_congr (fun i hi => by rw [Nat.add_sub_add_right])
theorem conv_congr {f f' g g' : Nat → Rat} (h1 : ∀ i, f i = f' i) (h2 : ∀ i, g i = g' i) (n : Nat) : conv f g n = conv f' g' n := sumTo_congr (fun i hi => by rw [h1, h2])
theorem conv_add_left (f f' g : Nat → Rat) (n : Nat) : conv (fun i => f i + f' i) g n = conv f g n + conv f' g n := by
  unfold conv
  rw [← sumTo_add]
  exact sumTo_congr (fun i hi => by grind)
theorem conv_smul (c : Rat) (f g : Nat → Rat) (n : Nat) : conv (fun i => c * f i) g n = c * conv f g n := by
  unfold conv
  rw [← sumTo_mul]
  exact sumTo_congr (fun i hi => by grind)
theorem conv_comm (f g : Nat → Rat) : ∀ n, conv f g n = conv g f n := by
  have rev : ∀ (n : Nat) (h : Nat → Rat), sumTo (n + 1) h = sumTo (n + 1) (fun i => h (n - i)) := by
    intro n
    induction n with
    | zero => intro h; rfl
    | succ n ih =>
      intro h
      rw [sumTo_shift (fun i => h (n + 1 - i)) (n + 1)]
      show sumTo (n + 1) h + h (n + 1) = _
      rw [ih h, Nat.sub_zero]
      have : sumTo (n + 1) (fun i => h (n - i)) = sumTo (n + 1) (fun i => h (n + 1 - (i + 1))) := sumTo_congr (fun i hi => by rw [Nat.add_sub_add_right])
      rw [this]; grind
  intro n
  unfold conv
  rw [rev n (fun i => f i * g (n - i))]
  exact sumTo_congr (fun i hi => by
    show f (n - i) * g (n - (n - i)) = g i * f (n - i)
    rw [show n - (n - i) = i by omega]; grind)
theorem conv_add_right (f g g' : Nat → Rat) (n : Nat) : conv f (fun i => g i + g' i) n = conv f g n + conv f g' n := by
  rw [conv_comm, conv_add_left, conv_comm g, conv_comm g']
theorem conv_smul_right (c : Rat) (f g : Nat → Rat) (n : Nat) : conv f (fun i => c * g i) n = c * conv f g n := by
  rw [conv_comm, conv_smul, conv_comm g]
theorem conv_null {f g : Nat → Rat} (h : ∀ i, f i = 0) (n : Nat) : conv f g n = 0 := sumTo_zero (fun i hi => by rw [h]; grind)
theorem conv_assoc (f g h : Nat → Rat) : ∀ n, conv (conv f g) h n = conv f (conv g h) n := by
  intro n
  induction n generalizing f with
  | zero => rw [conv_zero, conv_zero, conv_zero, conv_zero]; grind
  | succ n ih =>
    rw [conv_succ, conv_succ f (conv g h), conv_zero]
    have e : conv (fun i => conv f g (i + 1)) h n = f 0 * conv (fun i => g (i + 1)) h n + conv (conv (fun i => f (i + 1)) g) h n := by
      rw [conv_congr (f' := fun i => f 0 * g (i + 1) + conv (fun i => f (i + 1)) g i) (g' := h) (fun i => conv_succ f g i) (fun i => rfl), conv_add_left, conv_smul]
    rw [e, ih, conv_succ g h]; grind
/-- Values. -/
def ev' (f : Nat → Rat) (x : Rat) (n : Nat) : Rat := sumTo n (fun i => f i * x ^ i)
theorem vl_succ (f : Nat → Rat) (x : Rat) (n : Nat) : ev' f x (n + 1) = f 0 + x * ev' (fun i => f (i + 1)) x n := by
  unfold ev'
  rw [sumTo_shift, ← sumTo_mul, Rat.pow_zero, Rat.mul_one]
  congr 1
  exact sumTo_congr (fun i hi => by rw [Rat.pow_succ]; grind)
theorem vl_more {f : Nat → Rat} {x : Rat} {m n : Nat} (h : m ≤ n) (hz : ∀ i, m ≤ i → f i = 0) : ev' f x n = ev' f x m := sumTo_more h (fun i h1 _ => by rw [hz i h1]; grind)
theorem vl_add (f g : Nat → Rat) (x : Rat) (n : Nat) : ev' (fun i => f i + g i) x n = ev' f x n + ev' g x n := by
  unfold ev'
  rw [← sumTo_add]
  exact sumTo_congr (fun i hi => by grind)
theorem vl_smul (c : Rat) (f : Nat → Rat) (x : Rat) (n : Nat) : ev' (fun i => c * f i) x n = c * ev' f x n := by
  unfold ev'
  rw [← sumTo_mul]
  exact sumTo_congr (fun i hi => by grind)
theorem vl_congr {f g : Nat → Rat} {x : Rat} {n : Nat} (h : ∀ i, i < n → f i = g i) : ev' f x n = ev' g x n := sumTo_congr (fun i hi => by rw [h i hi])
theorem vl_conv (x : Rat) (g : Nat → Rat) (n : Nat) (hg : ∀ i, n ≤ i → g i = 0) : ∀ (m : Nat) (f : Nat → Rat), (∀ i, m ≤ i → f i = 0) → ev' (conv f g) x (m + n) = ev' f x m * ev' g x n := by
  intro m
  induction m with
  | zero =>
    intro f hf
    have h1 : ev' (conv f g) x (0 + n) = 0 := sumTo_zero (fun i hi => by rw [conv_null (fun j => hf j (Nat.zero_le _))]; grind)
    have h2 : ev' f x 0 = 0 := rfl
    rw [h1, h2]; grind
  | succ m ih =>
    intro f hf
    rw [show m + 1 + n = (m + n) + 1 by omega, vl_succ, vl_succ f x m, conv_zero]
    have e : ev' (fun i => conv f g (i + 1)) x (m + n) = f 0 * ev' (fun i => g (i + 1)) x (m + n) + ev' (conv (fun i => f (i + 1)) g) x (m + n) := by
      rw [vl_congr (g := fun i => f 0 * g (i + 1) + conv (fun i => f (i + 1)) g i) (fun i _ => conv_succ f g i), vl_add, vl_smul]
    have h2 : ev' g x n = g 0 + x * ev' (fun i => g (i + 1)) x (m + n) := by
      rw [← vl_succ, vl_more (m := n) (n := m + n + 1) (by omega) hg]
    rw [e, ih (fun i => f (i + 1)) (fun i hi => hf (i + 1) (by omega)), h2]; grind
/-- Derivatives. -/
def dif (f : Nat → Rat) (n : Nat) : Rat := ((n + 1 : Nat) : Int) * f (n + 1)
theorem cast_succ (n : Nat) : (((n + 1 : Nat) : Int) : Rat) = ((n : Int) : Rat) + 1 := by
  rw [show ((n + 1 : Nat) : Int) = (n : Int) + 1 by omega, Rat.intCast_add]; rfl
theorem dif_conv (f g : Nat → Rat) (n : Nat) : dif (conv f g) n = conv (dif f) g n + conv f (dif g) n := by
  induction n generalizing f with
  | zero =>
    unfold dif
    rw [conv_succ, conv_zero, conv_zero, conv_zero]
    grind
  | succ n ih =>
    have h1 := ih (fun i => f (i + 1))
    unfold dif at h1 ⊢
    rw [conv_succ f g, conv_succ (fun n => ((n + 1 : Nat) : Int) * f (n + 1)) g, conv_succ f (fun n => ((n + 1 : Nat) : Int) * g (n + 1))]
    have e : conv (fun i => (((i + 1 + 1 : Nat) : Int) : Rat) * f (i + 1 + 1)) g n = conv (fun i => (((i + 1 : Nat) : Int) : Rat) * f (i + 1 + 1)) g n + conv (fun i => f (i + 1 + 1)) g n := by
      rw [← conv_add_left]
      exact conv_congr (fun i => by rw [cast_succ (i + 1)]; grind) (fun i => rfl) n
    have e2 := conv_succ (fun i => f (i + 1)) g n
    have c0 : (((0 + 1 : Nat) : Int) : Rat) = 1 := rfl
    rw [e, c0, cast_succ (n + 1)]
    grind
end Go.Proofs.Ytolicidpfhgaoaa.Fw

/- Polynomials: rows of coefficients, right ones. -/
set_option linter.unusedVariables false
set_option linter.unusedSimpArgs false
namespace Go.Proofs.Ytolicidpfhgaoaa.Fw
open Go Pu
def co (l : List Rat) (i : Nat) : Rat := l.getD i 0
theorem co_nil (i : Nat) : co [] i = 0 := rfl
theorem co_zero (a : Rat) (l : List Rat) : co (a :: l) 0 = a := rfl
theorem co_succ (a : Rat) (l : List Rat) (i : Nat) : co (a :: l) (i + 1) = co l i := rfl
theorem co_ge {l : List Rat} {i : Nat} (h : l.length ≤ i) : co l i = 0 := by
  unfold co
  rw [List.getD_eq_getElem?_getD, List.getElem?_eq_none h]; rfl
theorem co_mem {l : List Rat} {i : Nat} (h : i < l.length) : co l i ∈ l := by
  unfold co
  rw [List.getD_eq_getElem?_getD, List.getElem?_eq_getElem h]; exact List.getElem_mem h
theorem ext_co {a b : List Rat} (hl : a.length = b.length) (h : ∀ i, co a i = co b i) : a = b := by
  apply List.ext_getElem hl
  intro i h1 h2
  have := h i
  unfold co at this
  rw [List.getD_eq_getElem?_getD, List.getD_eq_getElem?_getD, List.getElem?_eq_getElem h1, List.getElem?_eq_getElem h2] at this
  exact this
theorem co_mk (f : Nat → Rat) (n i : Nat) : co ((List.range n).map f) i = if i < n then f i else 0 := by
  unfold co
  rw [List.getD_eq_getElem?_getD, List.getElem?_map]
  split
  · rename_i h; rw [List.getElem?_range h]; rfl
  · rename_i h; rw [List.getElem?_eq_none (by rw [List.length_range]; omega)]; rfl
def trim : List Rat → List Rat
  | [] => []
  | a :: l => if trim l = [] ∧ a = 0 then [] else a :: trim l
theorem co_trim : ∀ (l : List Rat) (i : Nat), co (trim l) i = co l i
  | [], _ => rfl
  | a :: l, i => by
    unfold trim
    split
    · rename_i h
      cases i with
      | zero => rw [co_zero, h.2]; rfl
      | succ i => rw [co_succ, ← co_trim l i, h.1]; rfl
    · cases i with
      | zero => rfl
      | succ i => rw [co_succ, co_succ, co_trim l i]
theorem trim_len : ∀ l : List Rat, (trim l).length ≤ l.length
  | [] => Nat.le_refl _
  | a :: l => by
    unfold trim
    have := trim_len l
    split <;> simp only [List.length_cons, List.length_nil] <;> omega
theorem trim_mem {q : Rat} : ∀ {l : List Rat}, q ∈ trim l → q ∈ l
  | [], h => h
  | a :: l, h => by
    unfold trim at h
    split at h
    · cases h
    · rcases List.mem_cons.1 h with h | h
      · rw [h]; exact List.mem_cons_self
      · exact List.mem_cons_of_mem _ (trim_mem h)
theorem trim_top : ∀ {l : List Rat}, trim l ≠ [] → co (trim l) ((trim l).length - 1) ≠ 0
  | [], h => absurd rfl h
  | a :: l, h => by
    unfold trim at h ⊢
    split at h
    · exact absurd rfl h
    · rename_i h1
      rw [if_neg h1]
      by_cases h2 : trim l = []
      · rw [h2]
        show a ≠ 0
        intro h3; exact h1 ⟨h2, h3⟩
      · have h3 := trim_top h2
        have h4 : (trim l).length ≠ 0 := fun e => h2 (List.eq_nil_of_length_eq_zero e)
        rw [List.length_cons, show (trim l).length + 1 - 1 = ((trim l).length - 1) + 1 by omega, co_succ]
        exact h3
theorem trim_null : ∀ {l : List Rat}, (∀ i, co l i = 0) → trim l = []
  | [], _ => rfl
  | a :: l, h => by
    unfold trim
    rw [if_pos ⟨trim_null (fun i => h (i + 1)), h 0⟩]
theorem trim_inj : ∀ {a b : List Rat}, (∀ i, co a i = co b i) → trim a = trim b
  | [], b, h => (trim_null (fun i => (h i).symm)).symm
  | a :: l, [], h => trim_null h
  | a :: l, b :: m, h => by
    have h0 : a = b := h 0
    have h1 : trim l = trim m := trim_inj (fun i => h (i + 1))
    unfold trim
    rw [h0, h1]
theorem trim_iff {a b : List Rat} : trim a = trim b ↔ ∀ i, co a i = co b i := ⟨fun h i => by rw [← co_trim a, ← co_trim b, h], trim_inj⟩
theorem trim_self : ∀ {l : List Rat}, (l = [] ∨ co l (l.length - 1) ≠ 0) → trim l = l
  | [], _ => rfl
  | a :: l, h => by
    rcases h with h | h
    · cases h
    · unfold trim
      by_cases h2 : l = []
      · subst h2
        rw [if_neg (by intro h3; exact h h3.2)]; rfl
      · have h4 : l.length ≠ 0 := fun e => h2 (List.eq_nil_of_length_eq_zero e)
        rw [List.length_cons, show l.length + 1 - 1 = (l.length - 1) + 1 by omega, co_succ] at h
        have h5 := trim_self (.inr h)
        rw [h5, if_neg (fun h6 => h2 h6.1)]
theorem trim_trim (l : List Rat) : trim (trim l) = trim l := trim_inj (co_trim l)
theorem trim_take {l : List Rat} {n : Nat} (hn : n ≤ l.length) (hz : ∀ i, n ≤ i → co l i = 0) (ht : n = 0 ∨ co l (n - 1) ≠ 0) : trim l = l.take n := by
  have hc : ∀ i, co (l.take n) i = co l i := by
    intro i
    rcases Nat.lt_or_ge i n with h | h
    · unfold co
      rw [List.getD_eq_getElem?_getD, List.getD_eq_getElem?_getD, List.getElem?_take, if_pos h]
    · rw [hz i h, co_ge (by rw [List.length_take]; omega)]
  have hlen : (l.take n).length = n := by rw [List.length_take]; omega
  rw [← trim_inj hc]
  apply trim_self
  rcases ht with h | h
  · left
    exact List.eq_nil_of_length_eq_zero (by rw [hlen]; exact h)
  · right
    rw [hlen, hc]; exact h
/-- The sum, a multiple, the product, the derivative: coefficients as rows. -/
def padd (a b : List Rat) : List Rat := (List.range (max a.length b.length)).map (fun i => co a i + co b i)
def pscale (c : Rat) (a : List Rat) : List Rat := a.map (c * ·)
def pmul (a b : List Rat) : List Rat := (List.range (a.length + b.length)).map (conv (co a) (co b))
def pdif (a : List Rat) : List Rat := (List.range (a.length - 1)).map (dif (co a))
def pev (a : List Rat) (x : Rat) : Rat := ev' (co a) x a.length
theorem co_padd (a b : List Rat) (i : Nat) : co (padd a b) i = co a i + co b i := by
  unfold padd
  rw [co_mk]
  split
  · rfl
  · rw [co_ge (l := a) (by omega), co_ge (l := b) (by omega)]; grind
theorem co_pscale (c : Rat) : ∀ (a : List Rat) (i : Nat), co (pscale c a) i = c * co a i
  | [], i => by show (0 : Rat) = c * 0; grind
  | a :: l, 0 => rfl
  | a :: l, i + 1 => co_pscale c l i
theorem co_pmul (a b : List Rat) (n : Nat) : co (pmul a b) n = conv (co a) (co b) n := by
  unfold pmul
  rw [co_mk]
  split
  · rfl
  · rename_i h
    refine (sumTo_zero (fun i hi => ?_)).symm
    rcases Nat.lt_or_ge i a.length with h1 | h1
    · rw [co_ge (l := b) (by omega)]; grind
    · rw [co_ge h1]; grind
theorem co_pdif (a : List Rat) (n : Nat) : co (pdif a) n = dif (co a) n := by
  unfold pdif
  rw [co_mk]
  split
  · rfl
  · unfold dif
    rw [co_ge (l := a) (by omega)]; grind
theorem pev_any {a : List Rat} {x : Rat} {n : Nat} (h : a.length ≤ n) : ev' (co a) x n = pev a x := vl_more h (fun i hi => co_ge hi)
theorem pev_trim (a : List Rat) (x : Rat) : pev (trim a) x = pev a x := by
  rw [← pev_any (a := trim a) (trim_len a)]
  exact vl_congr (fun i _ => co_trim a i)
theorem pev_nil (x : Rat) : pev [] x = 0 := rfl
theorem pev_cons (c : Rat) (l : List Rat) (x : Rat) : pev (c :: l) x = c + x * pev l x := by
  show ev' (co (c :: l)) x (l.length + 1) = _
  rw [vl_succ]; rfl
theorem pev_pmul (a b : List Rat) (x : Rat) : pev (pmul a b) x = pev a x * pev b x := by
  have h := vl_conv x (co b) b.length (fun i hi => co_ge hi) a.length (co a) (fun i hi => co_ge hi)
  have hl : (pmul a b).length = a.length + b.length := by unfold pmul; rw [List.length_map, List.length_range]
  show ev' (co (pmul a b)) x (pmul a b).length = _
  rw [hl, vl_congr (fun i _ => co_pmul a b i), h]; rfl
theorem pev_padd (a b : List Rat) (x : Rat) : pev (padd a b) x = pev a x + pev b x := by
  have hl : (padd a b).length = max a.length b.length := by unfold padd; rw [List.length_map, List.length_range]
  show ev' (co (padd a b)) x (padd a b).length = _
  rw [hl, vl_congr (fun i _ => co_padd a b i), vl_add, pev_any (by omega), pev_any (by omega)]
/-- The derivative of a product. -/
theorem pdif_pmul (a b : List Rat) : trim (pdif (pmul a b)) = trim (padd (pmul (pdif a) b) (pmul a (pdif b))) := by
  refine trim_inj (fun i => ?_)
  rw [co_pdif, co_padd, co_pmul, co_pmul]
  have h1 : dif (co (pmul a b)) i = dif (conv (co a) (co b)) i := by unfold dif; rw [co_pmul]
  rw [h1, dif_conv, conv_congr (f := co (pdif a)) (f' := dif (co a)) (g := co b) (g' := co b) (co_pdif a) (fun _ => rfl), conv_congr (f := co a) (f' := co a) (g := co (pdif b)) (g' := dif (co b)) (fun _ => rfl) (co_pdif b)]
end Go.Proofs.Ytolicidpfhgaoaa.Fw

/- Signs and order. -/
set_option linter.unusedVariables false
namespace Go.Proofs.Ytolicidpfhgaoaa.Fw
open Go Pu
theorem num_pos {q : Rat} : 0 < q.num ↔ 0 < q := by
  have h1 := Rat.num_nonneg (q := q)
  have h2 := num_zero (q := q)
  constructor
  · intro h
    have h3 := h1.1 (by omega)
    rcases Rat.le_iff_lt_or_eq.1 h3 with h4 | h4
    · exact h4
    · exfalso; rw [← h4] at h; exact absurd h (by decide)
  · intro h
    have h3 := h1.2 (Rat.le_of_lt h)
    have h4 : q.num ≠ 0 := fun e => Rat.ne_of_gt h (h2.1 e)
    omega
theorem num_neg {q : Rat} : q.num < 0 ↔ q < 0 := by
  have h := num_pos (q := -q)
  rw [Rat.neg_num] at h
  have e : (0 < -q) ↔ q < 0 := by rw [Rat.lt_neg_iff]; exact Iff.rfl
  rw [← e, ← h]
  omega
theorem sgn_cases (q : Rat) : (0 < q ∧ sgn q.num = 1) ∨ (q = 0 ∧ sgn q.num = 0) ∨ (q < 0 ∧ sgn q.num = -1) := by
  unfold sgn
  by_cases h1 : q.num < 0
  · rw [if_pos h1]; exact .inr (.inr ⟨num_neg.1 h1, rfl⟩)
  · rw [if_neg h1]
    by_cases h2 : q.num = 0
    · rw [if_pos h2]; exact .inr (.inl ⟨num_zero.1 h2, rfl⟩)
    · rw [if_neg h2]; exact .inl ⟨num_pos.1 (by omega), rfl⟩
theorem sgn_neg' (q : Rat) : sgn (-q).num = -sgn q.num := by rw [Rat.neg_num]; unfold sgn; split <;> split <;> (try split) <;> (try split) <;> omega
theorem sgn_pos {q : Rat} : sgn q.num = 1 ↔ 0 < q := by
  rw [← num_pos]; unfold sgn; split <;> (try split) <;> omega
theorem sgn_negi {q : Rat} : sgn q.num = -1 ↔ q < 0 := by
  rw [← num_neg]; unfold sgn; split <;> (try split) <;> omega
theorem sgn_zeroq {q : Rat} : sgn q.num = 0 ↔ q = 0 := by rw [sgn_zero, num_zero]
theorem neg_pos' {q : Rat} : q < 0 ↔ 0 < -q := by rw [Rat.lt_neg_iff]; exact Iff.rfl
theorem sgn_mul (p q : Rat) : sgn (p * q).num = sgn p.num * sgn q.num := by
  rcases sgn_cases p with ⟨h1, e1⟩ | ⟨h1, e1⟩ | ⟨h1, e1⟩ <;> rcases sgn_cases q with ⟨h2, e2⟩ | ⟨h2, e2⟩ | ⟨h2, e2⟩ <;> rw [e1, e2]
  · exact sgn_pos.2 (Rat.mul_pos h1 h2)
  · rw [h2, Rat.mul_zero]; rfl
  · refine sgn_negi.2 (neg_pos'.2 ?_)
    rw [← Rat.mul_neg]; exact Rat.mul_pos h1 (neg_pos'.1 h2)
  · rw [h1, Rat.zero_mul]; rfl
  · rw [h1, Rat.zero_mul]; rfl
  · rw [h1, Rat.zero_mul]; rfl
  · refine sgn_negi.2 (neg_pos'.2 ?_)
    rw [← Rat.neg_mul]; exact Rat.mul_pos (neg_pos'.1 h1) h2
  · rw [h2, Rat.mul_zero]; rfl
  · refine sgn_pos.2 ?_
    have := Rat.mul_pos (neg_pos'.1 h1) (neg_pos'.1 h2)
    rw [Rat.neg_mul, Rat.mul_neg, Rat.neg_neg] at this
    exact this
theorem sgn_bd (z : Int) : -1 ≤ sgn z ∧ sgn z ≤ 1 := by unfold sgn; split <;> (try split) <;> omega
theorem sub_eq (p q : Rat) : p - q = p + -q := Rat.sub_eq_add_neg p q
end Go.Proofs.Ytolicidpfhgaoaa.Fw

/- Rows of fractions: multiples, right ones, the same, walked. -/
set_option linter.unusedVariables false
namespace Go.Proofs.Ytolicidpfhgaoaa.Fw
open Go Pu
def Qs (l : List FD) : List Rat := l.map FD.q
def Fs (l : List Rat) : List FD := l.map FD.of
theorem Qs_Fs (l : List Rat) : Qs (Fs l) = l := by
  unfold Qs Fs
  rw [List.map_map]
  have : (FD.q ∘ FD.of) = id := funext (fun q => FD.q_of q)
  rw [this, List.map_id]
theorem Fs_len (l : List Rat) : (Fs l).length = l.length := List.length_map _
theorem Qs_len (l : List FD) : (Qs l).length = l.length := List.length_map _
theorem getD_map {g : FD → FD} {l : List FD} {i : Nat} (h : i < l.length) : (l.map g).getD i FD.none = g (l.getD i FD.none) := by
  rw [List.getD_eq_getElem?_getD, List.getD_eq_getElem?_getD, List.getElem?_map, List.getElem?_eq_getElem h]; rfl
/-- A row that is made by appending the images of another one, one by one. -/
theorem append_step {c : Ctx} {s : St} {o : Oper} {K : St → Prop} {x y : Operand} {t : TypeId} (d : Nat) {g : FD → FD} {l : List FD} {i : Nat} (ho : o.op = .call ⟨.builtin .append, #[x, y], #[t, t]⟩) (hd : dstOk c.N o = true) (ht : (TB t).k = .sl tFrac)
    (hx : s.ev x = .own d 0 i) (hm : s.mem d = some (.rows tFrac 3 (((l.map g).take i).map FD.c))) (hy : srcOf TB tFrac (s.ev y) = some (1, (g (l.getD i FD.none)).c)) (hdN : Nat.blt d c.N = true) (hi : i < l.length) (hl : l.length ≤ 1000000)
    (hK : K (((drop1 d s).upd d (.rows tFrac 3 (((l.map g).take (i + 1)).map FD.c))).put o.dst (.own d 0 (i + 1)))) : OpP Try.prog c o s K := by
  have hll : (l.map g).length = l.length := List.length_map _
  have htl : ((l.map g).take i).length = i := by rw [List.length_take]; omega
  have htl1 : ((l.map g).take (i + 1)).length = i + 1 := by rw [List.length_take]; omega
  refine opp_append_own hT (e := tFrac) (i := d) (j := d) (obj := .rows tFrac 3 (((l.map g).take i).map FD.c)) (obj2 := .rows tFrac 3 (((l.map g).take (i + 1)).map FD.c)) (n := i) (m := 1) (fl := (((l.map g).take i).map FD.c).flatten) (fl2 := (g (l.getD i FD.none)).c) ho hd ht rfl hx hm ?_ rfl hy rfl (Nat.le_of_ble_eq_true hdN) (Nat.le_of_ble_eq_true hdN) (.inl rfl) ?_ ?_ hK
  · rw [rowsF_row, htl]; rfl
  · rw [rowsF_row, htl1, take_succF (by omega), List.flatten_append, getD_map hi]
    show some (tFrac, 3, i + 1, (((l.map g).take i).map FD.c).flatten ++ ((g (l.getD i FD.none)).c ++ [])) = _
    rw [List.append_nil]; rfl
  · show (i + 1) * (56 + 1) ≤ _
    omega
theorem rowScale_specG {k : Nat} {c : FD} {l : List FD} (hc : c.ok k) (hx : ∀ x ∈ l, x.ok k) (h1 : 1 ≤ k) (hk : k ≤ 34359738368) (hl : l.length ≤ 1000000) :
    RunsG Try.prog g_row_Scale [c.v, .d (rowsF l)] [] (.own 19 0 l.length) [(19, .rows tFrac 3 ((l.map (fun x => FD.of (c.q * x.q))).map FD.c))] := by
  refine runG [19] p_row_Scale rfl rfl rfl rfl (fun B S F0 w0 V0 => ?_)
  refine loop_intro (fun i : Nat => st [(2, .addr 2 0), (5, .own 19 0 i), (8, .d (rowsF l)), (9, .d (.int .i64 (l.length : Int))), (10, .d (.int .i64 (i : Int)))] [(2, .box c.c), (19, .rows tFrac 3 (((l.map (fun x => FD.of (c.q * x.q))).take i).map FD.c))]) (fun i => l.length - i) (fun i => i ≤ l.length) 0 (Nat.zero_le _)
    (weak_trans (weak_st _ _ ⟨rfl, rfl, rfl, i64_inj (by show ((l.map FD.c).length : Int) = _; rw [List.length_map]), rfl, trivial⟩ ⟨rfl, rfl, trivial⟩ rfl) (weak_nil_own 5 19 (.rows tFrac 3 []) (e := tFrac) (sz := 3) rfl rfl rfl rfl (by omega))) ?_
  intro i hi
  refine split_intro (fun h => ?_) (fun h => ?_)
  · have hlt : i < l.length := by have h : (i : Int) < (l.length : Int) := of_decide_eq_true h; omega
    have ei : IntKind.i64.wrap ((i : Int) + 1) = ((i + 1 : Nat) : Int) := by rw [wr (by omega) (by omega)]; omega
    have hox := hx _ (FD.getD_mem hlt)
    refine idx_F i rfl hlt ?_
    refine call_intro _ (dMul hc hox h1 hk) ?_
    refine append_step 19 (g := fun x => FD.of (c.q * x.q)) (l := l) (i := i) rfl rfl rfl rfl rfl rfl rfl hlt hl ?_
    exact ⟨i + 1, hlt, by omega, weak_st _ _ ⟨rfl, rfl, rfl, rfl, i64_inj ei, trivial⟩ ⟨rfl, rfl, trivial⟩ rfl⟩
  · have hend : i = l.length := by have h : ¬ (i : Int) < (l.length : Int) := of_decide_eq_false h; omega
    subst hend
    refine retG_intro rfl rfl ⟨?_, trivial⟩ rfl
    show some (MO.rows tFrac 3 (((l.map (fun x => FD.of (c.q * x.q))).take l.length).map FD.c)) = _
    rw [List.take_of_length_le (by rw [List.length_map]; exact Nat.le_refl _)]
theorem rowNorm_specG {k : Nat} {l : List FD} (hx : ∀ x ∈ l, x.ok k) (h1 : 1 ≤ k) (hk : k ≤ 34359738368) (hl : l.length ≤ 1000000) :
    RunsG Try.prog g_row_norm [.d (rowsF l)] [] (.own 16 0 l.length) [(16, .rows tFrac 3 ((l.map (fun x => FD.of x.q)).map FD.c))] := by
  refine runG [16] p_row_norm rfl rfl rfl rfl (fun B S F0 w0 V0 => ?_)
  refine loop_intro (fun i : Nat => st [(3, .own 16 0 i), (6, .d (rowsF l)), (7, .d (.int .i64 (l.length : Int))), (8, .d (.int .i64 (i : Int)))] [(16, .rows tFrac 3 (((l.map (fun x => FD.of x.q)).take i).map FD.c))]) (fun i => l.length - i) (fun i => i ≤ l.length) 0 (Nat.zero_le _)
    (weak_trans (weak_st _ _ ⟨rfl, rfl, i64_inj (by show ((l.map FD.c).length : Int) = _; rw [List.length_map]), rfl, trivial⟩ ⟨rfl, trivial⟩ rfl) (weak_nil_own 3 16 (.rows tFrac 3 []) (e := tFrac) (sz := 3) rfl rfl rfl rfl (by omega))) ?_
  intro i hi
  refine split_intro (fun h => ?_) (fun h => ?_)
  · have hlt : i < l.length := by have h : (i : Int) < (l.length : Int) := of_decide_eq_true h; omega
    have ei : IntKind.i64.wrap ((i : Int) + 1) = ((i + 1 : Nat) : Int) := by rw [wr (by omega) (by omega)]; omega
    have hox := hx _ (FD.getD_mem hlt)
    refine idx_F i rfl hlt ?_
    refine call_intro _ (dNorm hox h1 hk) ?_
    refine append_step 16 (g := fun x => FD.of x.q) (l := l) (i := i) rfl rfl rfl rfl rfl rfl rfl hlt hl ?_
    exact ⟨i + 1, hlt, by omega, weak_st _ _ ⟨rfl, rfl, rfl, i64_inj ei, trivial⟩ ⟨rfl, trivial⟩ rfl⟩
  · have hend : i = l.length := by have h : ¬ (i : Int) < (l.length : Int) := of_decide_eq_false h; omega
    subst hend
    refine retG_intro rfl rfl ⟨?_, trivial⟩ rfl
    show some (MO.rows tFrac 3 (((l.map (fun x => FD.of x.q)).take l.length).map FD.c)) = _
    rw [List.take_of_length_le (by rw [List.length_map]; exact Nat.le_refl _)]
/-- Two rows of right ones held against one another. -/
theorem rowSame_spec {k : Nat} {a b : List FD} (ha : ∀ x ∈ a, x.ok k) (hb : ∀ x ∈ b, x.ok k) (h1 : 1 ≤ k) (hk : k ≤ 34359738368) (hla : a.length ≤ 1000000) (hlb : b.length ≤ 1000000) :
    Runs Try.prog g_row_Same [.d (rowsF a), .d (rowsF b)] (.d (.bool (decide (Qs a = Qs b)))) := by
  have hlen : ∀ l : List FD, ((l.map FD.c).length : Int) = (l.length : Int) := fun l => by rw [List.length_map]
  by_cases hl : a.length = b.length
  · have idxb : ∀ {i : Nat} {x : Int} {k : List D → Prop}, x = (i : Int) → i < a.length → k (b.getD i FD.none).c → IdxP (b.map FD.c) x k := fun h1 h2 h3 => idx_F _ h1 (by omega) h3
    by_cases hex : ∃ i, i < a.length ∧ (a.getD i FD.none).q ≠ (b.getD i FD.none).q
    · have hne : Qs a ≠ Qs b := by
        intro e
        obtain ⟨i, h2, h3⟩ := hex
        refine h3 ?_
        have h4 : (Qs a)[i]? = (Qs b)[i]? := by rw [e]
        unfold Qs at h4
        rw [List.getElem?_map, List.getElem?_map, List.getElem?_eq_getElem h2, List.getElem?_eq_getElem (show i < b.length by omega)] at h4
        rw [List.getD_eq_getElem?_getD, List.getD_eq_getElem?_getD, List.getElem?_eq_getElem h2, List.getElem?_eq_getElem (show i < b.length by omega)]
        exact Option.some.inj h4
      rw [decide_eq_false hne]
      obtain ⟨i0, h2, h3⟩ := hex
      refine run1 [] p_row_Same rfl rfl (fun B S F0 w0 V0 => ?_)
      refine split_false (by show (((a.map FD.c).length : Int) != ((b.map FD.c).length : Int)) = false; rw [hlen, hlen, hl]; exact bne_self_eq_false _) ?_
      refine loop_intro (fun i : Nat => st [(0, .d (rowsF a)), (1, .d (rowsF b)), (12, .d (.int .i64 (a.length : Int))), (13, .d (.int .i64 (i : Int)))] []) (fun i => i0 + 1 - i) (fun i => i ≤ i0) 0 (Nat.zero_le _)
        (weak_st _ _ ⟨rfl, rfl, i64_inj (hlen a), rfl, trivial⟩ trivial rfl) ?_
      intro i hi
      have ei : IntKind.i64.wrap ((i : Int) + 1) = ((i + 1 : Nat) : Int) := by rw [wr (by omega) (by omega)]; omega
      refine split_true (decide_eq_true (by show (i : Int) < (a.length : Int); omega)) ?_
      refine side_intro rfl ?_
      refine idx_F i rfl (by omega) ?_
      refine idxb (i := i) rfl (by omega) ?_
      refine call_intro _ (dSame (ha _ (FD.getD_mem (l := a) (i := i) (by omega))) (hb _ (FD.getD_mem (l := b) (i := i) (by omega))) h1 hk) ?_
      refine split_intro (fun g => ?_) (fun g => ?_)
      · exact ret_intro rfl rfl
      · have g : (a.getD i FD.none).q = (b.getD i FD.none).q := by
          have g : (!decide ((a.getD i FD.none).q = (b.getD i FD.none).q)) = false := g
          simpa using g
        have hn : i ≠ i0 := fun e => by rw [e] at g; exact h3 g
        exact ⟨i + 1, by omega, by omega, weak_st _ _ ⟨rfl, rfl, rfl, i64_inj ei, trivial⟩ trivial rfl⟩
    · have hall : ∀ i, i < a.length → (a.getD i FD.none).q = (b.getD i FD.none).q := fun i h2 => Classical.byContradiction fun h3 => hex ⟨i, h2, h3⟩
      have heq : Qs a = Qs b := by
        apply List.ext_getElem?
        intro i
        unfold Qs
        rw [List.getElem?_map, List.getElem?_map]
        by_cases h2 : i < a.length
        · have h4 := hall i h2
          rw [List.getD_eq_getElem?_getD, List.getD_eq_getElem?_getD] at h4
          rw [List.getElem?_eq_getElem h2, List.getElem?_eq_getElem (show i < b.length by omega)] at h4 ⊢
          exact congrArg some h4
        · rw [List.getElem?_eq_none (by omega), List.getElem?_eq_none (by omega)]
      rw [decide_eq_true heq]
      refine run1 [] p_row_Same rfl rfl (fun B S F0 w0 V0 => ?_)
      refine split_false (by show (((a.map FD.c).length : Int) != ((b.map FD.c).length : Int)) = false; rw [hlen, hlen, hl]; exact bne_self_eq_false _) ?_
      refine loop_intro (fun i : Nat => st [(0, .d (rowsF a)), (1, .d (rowsF b)), (12, .d (.int .i64 (a.length : Int))), (13, .d (.int .i64 (i : Int)))] []) (fun i => a.length - i) (fun i => i ≤ a.length) 0 (Nat.zero_le _)
        (weak_st _ _ ⟨rfl, rfl, i64_inj (hlen a), rfl, trivial⟩ trivial rfl) ?_
      intro i hi
      have ei : IntKind.i64.wrap ((i : Int) + 1) = ((i + 1 : Nat) : Int) := by rw [wr (by omega) (by omega)]; omega
      refine split_intro (fun h => ?_) (fun h => ?_)
      · have hlt : i < a.length := by have h : (i : Int) < (a.length : Int) := of_decide_eq_true h; omega
        refine side_intro rfl ?_
        refine idx_F i rfl hlt ?_
        refine idxb (i := i) rfl hlt ?_
        refine call_intro _ (dSame (ha _ (FD.getD_mem (l := a) (i := i) hlt)) (hb _ (FD.getD_mem (l := b) (i := i) (by omega))) h1 hk) ?_
        refine split_false (by show (!decide ((a.getD i FD.none).q = (b.getD i FD.none).q)) = false; rw [decide_eq_true (hall i hlt)]; rfl) ?_
        exact ⟨i + 1, hlt, by omega, weak_st _ _ ⟨rfl, rfl, rfl, i64_inj ei, trivial⟩ trivial rfl⟩
      · exact ret_intro rfl rfl
  · have hne : Qs a ≠ Qs b := fun e => hl (by rw [← Qs_len a, e, Qs_len])
    rw [decide_eq_false hne]
    refine run1 [] p_row_Same rfl rfl (fun B S F0 w0 V0 => ?_)
    refine split_true (by show (((a.map FD.c).length : Int) != ((b.map FD.c).length : Int)) = true; rw [hlen, hlen]; exact bne_iff_ne.2 (by omega)) ?_
    exact ret_intro rfl rfl
/-- The degree. -/
theorem Degree_spec {k : Nat} {a : List FD} (ha : ∀ x ∈ a, x.ok k) (h1 : 1 ≤ k) (hk : k ≤ 34359738368) (hl : a.length ≤ 1000000) : Runs Try.prog g_poly_Degree [.d (rowsF a)] (.d (.int .i64 (((trim (Qs a)).length : Int) - 1))) := by
  have hlen : ((a.map FD.c).length : Int) = (a.length : Int) := by rw [List.length_map]
  have hq : ∀ i, i < a.length → co (Qs a) i = (a.getD i FD.none).q := by
    intro i h
    unfold co Qs
    rw [List.getD_eq_getElem?_getD, List.getD_eq_getElem?_getD, List.getElem?_map, List.getElem?_eq_getElem h]; rfl
  refine run1 [] p_poly_Degree rfl rfl (fun B S F0 w0 V0 => ?_)
  refine loop_intro (fun i : Nat => st [(0, .d (rowsF a)), (3, .d (.int .i64 ((i : Int) - 1)))] []) (fun i => i) (fun i => i ≤ a.length ∧ ∀ j, i ≤ j → co (Qs a) j = 0) a.length ⟨Nat.le_refl _, fun j hj => co_ge (by rw [Qs_len]; exact hj)⟩
    (weak_st _ _ ⟨rfl, i64_inj (by show IntKind.i64.wrap (((a.map FD.c).length : Int) - 1) = _; rw [hlen, wr (by omega) (by omega)]), trivial⟩ trivial rfl) ?_
  rintro i ⟨hi, hz⟩
  refine split_intro (fun h => ?_) (fun h => ?_)
  · have h0 : 0 < i := by have h : ((i : Int) - 1) ≥ 0 := of_decide_eq_true h; omega
    have ei : IntKind.i64.wrap (((i : Int) - 1) - 1) = (((i - 1 : Nat) : Int)) - 1 := by rw [wr (by omega) (by omega)]; omega
    refine idx_F (i - 1) (by omega) (by omega) ?_
    refine call_intro _ (dSign (ha _ (FD.getD_mem (l := a) (i := i - 1) (by omega))) h1 hk) ?_
    refine split_intro (fun g => ?_) (fun g => ?_)
    · have g : sgn (a.getD (i - 1) FD.none).q.num ≠ 0 := bne_iff_ne.1 g
      have hne : co (Qs a) (i - 1) ≠ 0 := by rw [hq _ (by omega)]; intro e; exact g (by rw [e]; rfl)
      have ht := trim_take (l := Qs a) (n := i) (by rw [Qs_len]; exact hi) hz (.inr hne)
      refine ret_intro (i64_inj ?_) rfl
      rw [ht, List.length_take, Qs_len, Nat.min_eq_left hi]
    · have g : sgn (a.getD (i - 1) FD.none).q.num = 0 := by
        have g : (sgn (a.getD (i - 1) FD.none).q.num != 0) = false := g
        simpa using g
      refine ⟨i - 1, ⟨by omega, fun j hj => ?_⟩, by omega, weak_st _ _ ⟨rfl, i64_inj ei, trivial⟩ trivial rfl⟩
      rcases Nat.lt_or_ge j i with h2 | h2
      · have : j = i - 1 := by omega
        rw [this, hq _ (by omega)]
        exact sgn_zeroq.1 g
      · exact hz j h2
  · have h0 : i = 0 := by have h : ¬ ((i : Int) - 1) ≥ 0 := of_decide_eq_false h; omega
    subst h0
    have ht : trim (Qs a) = [] := trim_null (fun j => hz j (Nat.zero_le _))
    refine ret_intro ?_ rfl
    rw [ht]; rfl
end Go.Proofs.Ytolicidpfhgaoaa.Fw

/- Polynomials: right ones, the same, multiples, values, walked. -/
set_option linter.unusedVariables false
namespace Go.Proofs.Ytolicidpfhgaoaa.Fw
open Go Pu
theorem idx_ownF {l : List FD} {x : Int} {k : List D → Prop} (i : Nat) (hx : x = (i : Int)) (h : i < l.length) (hk : k (l.getD i FD.none).c) : IdxP (l.map FD.c) ((0 + x.toNat : Nat) : Int) k :=
  idx_F i (by rw [hx, Int.toNat_natCast, Nat.zero_add]) h hk
theorem co_Qs {l : List FD} {i : Nat} (h : i < l.length) : co (Qs l) i = (l.getD i FD.none).q := by
  unfold co Qs
  rw [List.getD_eq_getElem?_getD, List.getD_eq_getElem?_getD, List.getElem?_map, List.getElem?_eq_getElem h]; rfl
def R (l : List FD) : List FD := l.map (fun x => FD.of x.q)
theorem R_len (l : List FD) : (R l).length = l.length := List.length_map _
theorem R_get {l : List FD} {i : Nat} (h : i < l.length) : (R l).getD i FD.none = FD.of (l.getD i FD.none).q := getD_map h
theorem pNorm_specG {k : Nat} {l : List FD} (hx : ∀ x ∈ l, x.ok k) (h1 : 1 ≤ k) (hk : k ≤ 34359738368) (hl : l.length ≤ 1000000) :
    RunsG Try.prog g_poly_Norm [.d (rowsF l)] [] (.own 7 0 (trim (Qs l)).length) [(7, .rows tFrac 3 ((R l).map FD.c))] := by
  have hs := rowScale_specG (c := FD.of ((1 : Int) : Rat)) (l := l) (k := k) (FD.ok_of (Sz_int (by show (toW 1).length ≤ k; rw [nw1]; exact h1) h1)) hx h1 hk hl
  have e1 : (fun x : FD => FD.of ((FD.of ((1 : Int) : Rat)).q * x.q)) = (fun x : FD => FD.of x.q) := funext (fun x => by
    rw [FD.q_of, show ((1 : Int) : Rat) = 1 from rfl, Rat.one_mul])
  rw [e1] at hs
  refine runG [7] p_poly_Norm rfl rfl rfl rfl (fun B S F0 w0 V0 => ?_)
  refine call_intro _ (fOf_spec (z := 1) (by omega) (by omega)) ?_
  refine call_new 7 hs rfl rfl rfl rfl rfl rfl rfl ?_
  refine loop_intro (fun n : Nat => st [(3, .own 7 0 l.length), (4, .d (.int .i64 (n : Int)))] [(7, .rows tFrac 3 ((R l).map FD.c))]) (fun n => n) (fun n => n ≤ l.length ∧ ∀ j, n ≤ j → co (Qs l) j = 0) l.length ⟨Nat.le_refl _, fun j hj => co_ge (by rw [Qs_len]; exact hj)⟩
    (weak_st _ _ ⟨rfl, rfl, trivial⟩ ⟨rfl, trivial⟩ rfl) ?_
  rintro n ⟨hn, hz⟩
  refine split_intro (fun h => ?_) (fun h => ?_)
  · have h0 : 0 < n := by have h : (n : Int) > 0 := of_decide_eq_true h; omega
    have en : IntKind.i64.wrap ((n : Int) - 1) = ((n - 1 : Nat) : Int) := by rw [wr (by omega) (by omega)]; omega
    refine side_intro ⟨by show (0 : Int) ≤ IntKind.i64.wrap ((n : Int) - 1); omega, by show IntKind.i64.wrap ((n : Int) - 1) < (l.length : Int); omega⟩ ?_
    refine idx_ownF (l := R l) (n - 1) en (by rw [R_len]; omega) ?_
    have hsg := dSign (x := (R l).getD (n - 1) FD.none) (k := k) (by rw [R_get (by omega)]; exact FD.ok_of ((hx _ (FD.getD_mem (l := l) (i := n - 1) (by omega))).sz h1)) h1 hk
    refine call_intro _ hsg ?_
    have hq : ((R l).getD (n - 1) FD.none).q = co (Qs l) (n - 1) := by rw [R_get (by omega), FD.q_of, co_Qs (by omega)]
    refine split_intro (fun g => ?_) (fun g => ?_)
    · have g : sgn ((R l).getD (n - 1) FD.none).q.num = 0 := eq_of_beq g
      refine ⟨n - 1, ⟨by omega, fun j hj => ?_⟩, by omega, weak_st _ _ ⟨rfl, i64_inj en, trivial⟩ ⟨rfl, trivial⟩ rfl⟩
      rcases Nat.lt_or_ge j n with h2 | h2
      · have : j = n - 1 := by omega
        rw [this, ← hq]
        exact sgn_zeroq.1 g
      · exact hz j h2
    · have g : sgn ((R l).getD (n - 1) FD.none).q.num ≠ 0 := by
        have g : (sgn ((R l).getD (n - 1) FD.none).q.num == 0) = false := g
        simpa using g
      have hne : co (Qs l) (n - 1) ≠ 0 := by rw [← hq]; intro e; exact g (by rw [e]; rfl)
      have ht := trim_take (l := Qs l) (n := n) (by rw [Qs_len]; exact hn) hz (.inr hne)
      refine side_intro ⟨by show (0 : Int) ≤ (n : Int); omega, by show (n : Int) ≤ (l.length : Int); omega⟩ ?_
      refine retG_intro ?_ rfl ⟨rfl, trivial⟩ rfl
      rw [ht, List.length_take, Qs_len, Nat.min_eq_left hn]; rfl
  · have h0 : n = 0 := by have h : ¬ (n : Int) > 0 := of_decide_eq_false h; omega
    subst h0
    have ht : trim (Qs l) = [] := trim_null (fun j => hz j (Nat.zero_le _))
    refine split_false rfl ?_
    refine side_intro ⟨by show (0 : Int) ≤ (0 : Int); omega, by show (0 : Int) ≤ (l.length : Int); omega⟩ ?_
    refine retG_intro ?_ rfl ⟨rfl, trivial⟩ rfl
    rw [ht]; rfl
theorem snap_take (l : List FD) (n : Nat) : snapM (.rows tFrac 3 (l.map FD.c)) 0 n = .d (rowsF (l.take n)) := by
  show V.d (.rows 3 (((l.map FD.c).drop 0).take n)) = _
  rw [List.drop_zero, ← List.map_take]; rfl
theorem R_take (l : List FD) : (R l).take (trim (Qs l)).length = Fs (trim (Qs l)) := by
  have h1 : R l = Fs (Qs l) := by unfold R Fs Qs; rw [List.map_map]; rfl
  have h2 := trim_len (Qs l)
  rw [h1]
  unfold Fs
  rw [← List.map_take]
  congr 1
  apply ext_co
  · rw [List.length_take]; omega
  · intro i
    rw [co_trim]
    rcases Nat.lt_or_ge i (trim (Qs l)).length with h | h
    · unfold co
      rw [List.getD_eq_getElem?_getD, List.getD_eq_getElem?_getD, List.getElem?_take, if_pos h]
    · rw [co_ge (by rw [List.length_take]; omega), ← co_trim, co_ge h]
theorem pNorm_spec {k : Nat} {l : List FD} (hx : ∀ x ∈ l, x.ok k) (h1 : 1 ≤ k) (hk : k ≤ 34359738368) (hl : l.length ≤ 1000000) :
    Runs Try.prog g_poly_Norm [.d (rowsF l)] (.d (rowsF (Fs (trim (Qs l))))) := by
  have := runs_of_G (pNorm_specG hx h1 hk hl) rfl rfl
  have e : snapR [(7, MO.rows tFrac 3 ((R l).map FD.c))] (.own 7 0 (trim (Qs l)).length) = .d (rowsF (Fs (trim (Qs l)))) := by
    show snapM (.rows tFrac 3 ((R l).map FD.c)) 0 _ = _
    rw [snap_take, R_take]
  rw [e] at this
  exact this
theorem ok_Fs {k : Nat} {l : List Rat} (h : ∀ q ∈ l, Sz k q) : ∀ x ∈ Fs l, x.ok k := by
  intro x hx
  obtain ⟨q, hq, rfl⟩ := List.mem_map.1 hx
  exact FD.ok_of (h q hq)
theorem Sz_Qs {k : Nat} {l : List FD} (h : ∀ x ∈ l, x.ok k) (h1 : 1 ≤ k) : ∀ q ∈ Qs l, Sz k q := by
  intro q hq
  obtain ⟨x, hx, rfl⟩ := List.mem_map.1 hq
  exact (h x hx).sz h1
theorem Sz_trim {k : Nat} {l : List Rat} (h : ∀ q ∈ l, Sz k q) : ∀ q ∈ trim l, Sz k q := fun q hq => h q (trim_mem hq)
theorem Sz_pscale {j k : Nat} {c : Rat} {l : List Rat} (hc : Sz j c) (h : ∀ q ∈ l, Sz k q) : ∀ q ∈ pscale c l, Sz (j + k) q := by
  intro q hq
  obtain ⟨x, hx, rfl⟩ := List.mem_map.1 hq
  exact Sz_mul hc (h x hx)
theorem Sz_co {k : Nat} {l : List Rat} (h1 : 1 ≤ k) (h : ∀ q ∈ l, Sz k q) (i : Nat) : Sz k (co l i) := by
  rcases Nat.lt_or_ge i l.length with h2 | h2
  · exact h _ (co_mem h2)
  · rw [co_ge h2]
    exact Sz_int (z := 0) (by show (toW 0).length ≤ k; rw [toW_zero]; exact Nat.zero_le _) h1
theorem pSame_spec {k : Nat} {a b : List FD} (ha : ∀ x ∈ a, x.ok k) (hb : ∀ x ∈ b, x.ok k) (h1 : 1 ≤ k) (hk : k ≤ 34359738368) (hla : a.length ≤ 1000000) (hlb : b.length ≤ 1000000) :
    Runs Try.prog g_poly_Same [.d (rowsF a), .d (rowsF b)] (.d (.bool (decide (trim (Qs a) = trim (Qs b))))) := by
  have ta := trim_len (Qs a)
  have tb := trim_len (Qs b)
  rw [Qs_len] at ta tb
  have hs := rowSame_spec (a := Fs (trim (Qs a))) (b := Fs (trim (Qs b))) (ok_Fs (Sz_trim (Sz_Qs ha h1))) (ok_Fs (Sz_trim (Sz_Qs hb h1))) h1 hk (by rw [Fs_len]; omega) (by rw [Fs_len]; omega)
  rw [Qs_Fs, Qs_Fs] at hs
  refine run1 [] p_poly_Same rfl rfl (fun B S F0 w0 V0 => ?_)
  refine call_intro _ (pNorm_spec ha h1 hk hla) ?_
  refine call_intro _ (pNorm_spec hb h1 hk hlb) ?_
  refine call_intro _ hs ?_
  exact ret_intro rfl rfl
theorem rowScale_spec {k : Nat} {c : FD} {l : List FD} (hc : c.ok k) (hx : ∀ x ∈ l, x.ok k) (h1 : 1 ≤ k) (hk : k ≤ 34359738368) (hl : l.length ≤ 1000000) :
    Runs Try.prog g_row_Scale [c.v, .d (rowsF l)] (.d (rowsF (Fs (pscale c.q (Qs l))))) := by
  have := runs_of_G (rowScale_specG hc hx h1 hk hl) rfl rfl
  have e : snapR [(19, MO.rows tFrac 3 ((l.map (fun x => FD.of (c.q * x.q))).map FD.c))] (.own 19 0 l.length) = .d (rowsF (Fs (pscale c.q (Qs l)))) := by
    show snapM (.rows tFrac 3 ((l.map (fun x => FD.of (c.q * x.q))).map FD.c)) 0 _ = _
    rw [snap_take, List.take_of_length_le (by rw [List.length_map]; exact Nat.le_refl _)]
    unfold Fs pscale Qs
    rw [List.map_map, List.map_map]; rfl
  rw [e] at this
  exact this
theorem pScale_spec {k : Nat} {c : FD} {l : List FD} (hc : c.ok k) (hx : ∀ x ∈ l, x.ok k) (h1 : 1 ≤ k) (hk : k ≤ 17179869184) (hl : l.length ≤ 1000000) :
    Runs Try.prog g_poly_Scale [c.v, .d (rowsF l)] (.d (rowsF (Fs (trim (pscale c.q (Qs l)))))) := by
  have hn := pNorm_spec (l := Fs (pscale c.q (Qs l))) (k := k + k) (ok_Fs (Sz_pscale (hc.sz h1) (Sz_Qs hx h1))) (by omega) (by omega) (by rw [Fs_len]; unfold pscale; rw [List.length_map, Qs_len]; exact hl)
  rw [Qs_Fs] at hn
  refine run1 [] p_poly_Scale rfl rfl (fun B S F0 w0 V0 => ?_)
  refine call_intro _ (rowScale_spec hc hx h1 (by omega) hl) ?_
  refine call_intro _ hn ?_
  exact ret_intro rfl rfl
theorem drop_co {l : List Rat} {i : Nat} (h : i < l.length) : l.drop i = co l i :: l.drop (i + 1) := by
  rw [List.drop_eq_getElem_cons h]
  unfold co
  rw [List.getD_eq_getElem?_getD, List.getElem?_eq_getElem h]; rfl
theorem pev_sz {k : Nat} {x : Rat} (hx : Sz k x) (h1 : 1 ≤ k) : ∀ l : List Rat, (∀ q ∈ l, Sz k q) → Sz (l.length * (2 * k + 1) + 1) (pev l x)
  | [], _ => by
    rw [pev_nil]
    exact Sz_int (z := 0) (by show (toW 0).length ≤ _; rw [toW_zero]; exact Nat.zero_le _) (by omega)
  | c :: l, h => by
    rw [pev_cons]
    have := Sz_add (h c (by simp)) (Sz_mul hx (pev_sz hx h1 l (fun q hq => h q (by simp [hq]))))
    refine this.mono ?_
    rw [List.length_cons, Nat.add_mul]
    omega
theorem pEval_spec {k : Nat} {l : List FD} {x : FD} (hl : ∀ y ∈ l, y.ok k) (hx : x.ok k) (h1 : 1 ≤ k) (hk : k ≤ 1000000) (hlen : l.length ≤ 1000) :
    Runs Try.prog g_poly_Eval [.d (rowsF l), x.v] (fr (pev (Qs l) x.q)) := by
  have hll : ((l.map FD.c).length : Int) = (l.length : Int) := by rw [List.length_map]
  have hsz : ∀ i, Sz (l.length * (2 * k + 1) + 1) (pev ((Qs l).drop i) x.q) := fun i => (pev_sz (hx.sz h1) h1 _ (fun q hq => Sz_Qs hl h1 q (List.mem_of_mem_drop hq))).mono (by
    have h2 : ((Qs l).drop i).length ≤ l.length := by rw [List.length_drop, Qs_len]; omega
    have := Nat.mul_le_mul_right (2 * k + 1) h2
    omega)
  have hK : l.length * (2 * k + 1) + 1 ≤ 2001001001 := by
    have : l.length * (2 * k + 1) ≤ 1000 * 2000001 := Nat.mul_le_mul hlen (by omega)
    omega
  have hk2 : k ≤ l.length * (2 * k + 1) + 1 ∨ l.length = 0 := by
    rcases Nat.eq_zero_or_pos l.length with h2 | h2
    · exact .inr h2
    · left
      have := Nat.mul_le_mul_right (2 * k + 1) h2
      omega
  obtain ⟨K, eK⟩ : ∃ K, K = l.length * (2 * k + 1) + 1 := ⟨_, rfl⟩
  rw [← eK] at hsz hK hk2
  have hz0 : fr (pev ((Qs l).drop l.length) x.q) = fr ((0 : Int) : Rat) := by
    rw [List.drop_of_length_le (by rw [Qs_len]; exact Nat.le_refl _), pev_nil]; rfl
  refine run1 [] p_poly_Eval rfl rfl (fun B S F0 w0 V0 => ?_)
  refine call_intro _ (fOf_spec (z := 0) (by omega) (by omega)) ?_
  refine loop_intro (fun i : Nat => st [(0, .d (rowsF l)), (3, .addr 3 0), (4, .addr 4 0), (5, .addr 5 0), (6, .d (.int .i64 ((i : Int) - 1)))] [(3, .box x.c), (4, .box [.bool false, .words [], .words []]), (5, .box (FD.of (pev ((Qs l).drop i) x.q)).c)]) (fun i => i) (fun i => i ≤ l.length) l.length (Nat.le_refl _)
    (weak_st _ _ ⟨rfl, rfl, rfl, rfl, i64_inj (by show IntKind.i64.wrap (((l.map FD.c).length : Int) - 1) = _; rw [hll, wr (by omega) (by omega)]), trivial⟩ ⟨rfl, rfl, ?_, trivial⟩ rfl) ?_
  · have : (FD.of (pev ((Qs l).drop l.length) x.q)).c = (FD.of ((0 : Int) : Rat)).c := by
      rw [List.drop_of_length_le (by rw [Qs_len]; exact Nat.le_refl _), pev_nil]; rfl
    rw [this]; rfl
  intro i hi
  refine split_intro (fun h => ?_) (fun h => ?_)
  · have h0 : 0 < i := by have h : ((i : Int) - 1) ≥ 0 := of_decide_eq_true h; omega
    have ei : IntKind.i64.wrap (((i : Int) - 1) - 1) = (((i - 1 : Nat) : Int)) - 1 := by rw [wr (by omega) (by omega)]; omega
    have hkK : k ≤ K := by rcases hk2 with h2 | h2 <;> omega
    have ho := hl _ (FD.getD_mem (l := l) (i := i - 1) (by omega))
    have m1 := dMul (x := FD.of (pev ((Qs l).drop i) x.q)) (FD.ok_of (hsz i)) (hx.mono hkK) (by omega) (by omega)
    rw [FD.q_of] at m1
    have hm := Sz_mul (hsz i) ((hx.sz h1).mono hkK)
    have a1 := dAdd (FD.ok_of hm) (ho.mono (show k ≤ K + K by omega)) (by omega) (by omega)
    rw [FD.q_of] at a1
    have ev : pev ((Qs l).drop i) x.q * x.q + (l.getD (i - 1) FD.none).q = pev ((Qs l).drop (i - 1)) x.q := by
      rw [drop_co (l := Qs l) (i := i - 1) (by rw [Qs_len]; omega), pev_cons, co_Qs (by omega), show i - 1 + 1 = i by omega]
      grind
    rw [ev] at a1
    refine side_intro rfl ?_
    refine call_intro _ m1 ?_
    refine idx_F (i - 1) (by omega) (by omega) ?_
    refine call_intro _ a1 ?_
    exact ⟨i - 1, by omega, by omega, weak_st _ _ ⟨rfl, rfl, rfl, rfl, i64_inj ei, trivial⟩ ⟨rfl, rfl, rfl, trivial⟩ rfl⟩
  · have h0 : i = 0 := by have h : ¬ ((i : Int) - 1) ≥ 0 := of_decide_eq_false h; omega
    subst h0
    refine ret_intro ?_ ?_
    · show fr (pev ((Qs l).drop 0) x.q) = fr (pev (Qs l) x.q)
      rw [List.drop_zero]
    · rfl
end Go.Proofs.Ytolicidpfhgaoaa.Fw

/- Polynomials: sums, walked. -/
set_option linter.unusedVariables false
namespace Go.Proofs.Ytolicidpfhgaoaa.Fw
open Go Pu
def pad (l : List FD) (n : Nat) : List FD := (List.range n).map (fun i => if i < l.length then l.getD i FD.none else FD.of ((0 : Int) : Rat))
theorem pad_len (l : List FD) (n : Nat) : (pad l n).length = n := by unfold pad; rw [List.length_map, List.length_range]
theorem pad_get {l : List FD} {n i : Nat} (h : i < n) : (pad l n).getD i FD.none = if i < l.length then l.getD i FD.none else FD.of ((0 : Int) : Rat) := by
  unfold pad
  rw [List.getD_eq_getElem?_getD, List.getElem?_map, List.getElem?_range h]; rfl
theorem set_next {α β : Type} (f : α → β) (P : List α) (e : α) {i n : Nat} (hP : P.length = n) (hi : i < n) (d : α) : ((P.take i ++ List.replicate (n - i) e).map f).set i (f (P.getD i d)) = (P.take (i + 1) ++ List.replicate (n - (i + 1)) e).map f := by
  have h1 : (P.take i).length = i := by rw [List.length_take]; omega
  rw [← List.map_set, List.set_append_right _ _ (by omega), h1, Nat.sub_self, show n - i = (n - (i + 1)) + 1 by omega, List.replicate_succ, List.set_cons_zero, List.take_succ_eq_append_getElem (by omega), List.append_assoc]
  congr 3
  rw [List.getD_eq_getElem?_getD, List.getElem?_eq_getElem (by omega)]; rfl
theorem pad_co {l : List FD} {n i : Nat} (h : l.length ≤ n) : co (Qs (pad l n)) i = co (Qs l) i := by
  rcases Nat.lt_or_ge i n with h1 | h1
  · rw [co_Qs (by rw [pad_len]; exact h1), pad_get h1]
    split
    · rename_i h2; rw [co_Qs h2]
    · rename_i h2; rw [FD.q_of, co_ge (by rw [Qs_len]; omega)]; rfl
  · rw [co_ge (by rw [Qs_len, pad_len]; exact h1), co_ge (by rw [Qs_len]; omega)]
theorem pad_ok {k : Nat} {l : List FD} {n : Nat} (hl : ∀ x ∈ l, x.ok k) (h1 : 1 ≤ k) : ∀ x ∈ pad l n, x.ok k := by
  intro x hx
  obtain ⟨i, hi, rfl⟩ := List.mem_map.1 hx
  split
  · rename_i h; exact hl _ (FD.getD_mem h)
  · exact FD.ok_of (Sz_int (by show (toW 0).length ≤ k; rw [toW_zero]; exact Nat.zero_le _) h1)
theorem plong_specG {l : List FD} {n : Nat} (hl : l.length ≤ 1000000) (hn : n ≤ 1000000) :
    RunsG Try.prog g_poly_long [.d (rowsF l), .d (.int .i64 (n : Int))] [] (.own 8 0 n) [(8, .rows tFrac 3 ((pad l n).map FD.c))] := by
  have hP := pad_len l n
  refine runG [8] p_poly_long rfl rfl rfl rfl (fun B S F0 w0 V0 => ?_)
  refine opp_make hT rfl rfl (Nat.le_of_ble_eq_true rfl) (e := tFrac) rfl rfl (Nat.le_of_ble_eq_true rfl) (fun h => by cases h) (k := .i64) (k' := .i64) (n := (n : Int)) rfl rfl rfl (by omega) ?_ ?_ ?_
  · show 56 * ((n : Nat) : Int).toNat ≤ _
    omega
  · unfold maxLen; omega
  refine loop_intro (fun i : Nat => st [(0, .d (rowsF l)), (5, .own 8 0 n), (10, .d (.int .i64 (n : Int))), (11, .d (.int .i64 (i : Int)))] [(8, .rows tFrac 3 (((pad l n).take i ++ List.replicate (n - i) FD.none).map FD.c))]) (fun i => n - i) (fun i => i ≤ n) 0 (Nat.zero_le _)
    (weak_st _ _ ⟨rfl, ?_, rfl, rfl, trivial⟩ ⟨?_, trivial⟩ rfl) ?_
  · show V.own 8 0 ((n : Int)).toNat = _
    rw [Int.toNat_natCast]
  · show some (MO.rows tFrac 3 (List.replicate ((n : Int)).toNat FD.none.c)) = _
    rw [Int.toNat_natCast, List.take_zero, List.nil_append, List.map_replicate]; rfl
  intro i hi
  refine split_intro (fun h => ?_) (fun h => ?_)
  · have hlt : i < n := by have h : (i : Int) < (n : Int) := of_decide_eq_true h; omega
    have ei : IntKind.i64.wrap ((i : Int) + 1) = ((i + 1 : Nat) : Int) := by rw [wr (by omega) (by omega)]; omega
    have hset := set_next FD.c (pad l n) FD.none hP hlt FD.none
    rw [pad_get hlt] at hset
    refine split_intro (fun g => ?_) (fun g => ?_)
    · have hil : i < l.length := by
        have g : (i : Int) < ((l.map FD.c).length : Int) := of_decide_eq_true g
        rw [List.length_map] at g; omega
      rw [if_pos hil] at hset
      refine idx_F i rfl hil ?_
      refine side_intro ⟨by show (0 : Int) ≤ (i : Int); omega, by show (i : Int) < (n : Int); omega⟩ ?_
      refine ⟨i + 1, hlt, by omega, weak_st _ _ ⟨rfl, rfl, rfl, i64_inj ei, trivial⟩ ⟨?_, trivial⟩ rfl⟩
      rw [← hset]
      show some (MO.rows tFrac 3 (List.set _ (0 + ((i : Nat) : Int).toNat) _)) = _
      rw [Int.toNat_natCast, Nat.zero_add]; rfl
    · have hil : ¬ i < l.length := by
        have g : ¬ (i : Int) < ((l.map FD.c).length : Int) := of_decide_eq_false g
        rw [List.length_map] at g; omega
      rw [if_neg hil] at hset
      refine call_intro _ (fOf_spec (z := 0) (by omega) (by omega)) ?_
      refine side_intro ⟨by show (0 : Int) ≤ (i : Int); omega, by show (i : Int) < (n : Int); omega⟩ ?_
      refine ⟨i + 1, hlt, by omega, weak_st _ _ ⟨rfl, rfl, rfl, i64_inj ei, trivial⟩ ⟨?_, trivial⟩ rfl⟩
      rw [← hset]
      show some (MO.rows tFrac 3 (List.set _ (0 + ((i : Nat) : Int).toNat) _)) = _
      rw [Int.toNat_natCast, Nat.zero_add]; rfl
  · have hend : i = n := by have h : ¬ (i : Int) < (n : Int) := of_decide_eq_false h; omega
    subst hend
    refine retG_intro rfl rfl ⟨?_, trivial⟩ rfl
    show some (MO.rows tFrac 3 (((pad l i).take i ++ List.replicate (i - i) FD.none).map FD.c)) = _
    rw [Nat.sub_self, List.replicate_zero, List.append_nil, List.take_of_length_le (by omega)]
theorem plong_spec {l : List FD} {n : Nat} (hl : l.length ≤ 1000000) (hn : n ≤ 1000000) : Runs Try.prog g_poly_long [.d (rowsF l), .d (.int .i64 (n : Int))] (.d (rowsF (pad l n))) := by
  have := runs_of_G (plong_specG hl hn) rfl rfl
  have e : snapR [(8, MO.rows tFrac 3 ((pad l n).map FD.c))] (.own 8 0 n) = .d (rowsF (pad l n)) := by
    show snapM (.rows tFrac 3 ((pad l n).map FD.c)) 0 n = _
    rw [snap_take, List.take_of_length_le (by rw [pad_len]; exact Nat.le_refl _)]
  rw [e] at this
  exact this
theorem set_next2 {α β : Type} (f : α → β) (P Q : List α) {i n : Nat} (hP : P.length = n) (hQ : Q.length = n) (hi : i < n) (d : α) : ((P.take i ++ Q.drop i).map f).set i (f (P.getD i d)) = (P.take (i + 1) ++ Q.drop (i + 1)).map f := by
  have h1 : (P.take i).length = i := by rw [List.length_take]; omega
  rw [← List.map_set, List.set_append_right _ _ (by omega), h1, Nat.sub_self, List.drop_eq_getElem_cons (show i < Q.length by omega), List.set_cons_zero, List.take_succ_eq_append_getElem (by omega), List.append_assoc]
  congr 3
  rw [List.getD_eq_getElem?_getD, List.getElem?_eq_getElem (by omega)]; rfl
theorem get_next2 {P Q : List FD} {i n : Nat} (hP : P.length = n) (hQ : Q.length = n) (hi : i < n) : (P.take i ++ Q.drop i).getD i FD.none = Q.getD i FD.none := by
  have h1 : (P.take i).length = i := by rw [List.length_take]; omega
  rw [List.getD_eq_getElem?_getD, List.getD_eq_getElem?_getD, List.getElem?_append_right (by omega), h1, Nat.sub_self, List.getElem?_drop, Nat.add_zero]
def zsum (a b : List FD) : List FD := (List.range a.length).map (fun i => FD.of ((a.getD i FD.none).q + (b.getD i FD.none).q))
theorem zsum_len (a b : List FD) : (zsum a b).length = a.length := by unfold zsum; rw [List.length_map, List.length_range]
theorem zsum_get {a b : List FD} {i : Nat} (h : i < a.length) : (zsum a b).getD i FD.none = FD.of ((a.getD i FD.none).q + (b.getD i FD.none).q) := by
  unfold zsum
  rw [List.getD_eq_getElem?_getD, List.getElem?_map, List.getElem?_range h]; rfl
set_option maxHeartbeats 1000000 in
theorem rowAdd_spec {k : Nat} {a b : List FD} (ha : ∀ x ∈ a, x.ok k) (hb : ∀ x ∈ b, x.ok k) (h1 : 1 ≤ k) (hk : k ≤ 34359738368) (hl : a.length ≤ 1000000) (hlen : b.length = a.length) :
    Runs Try.prog g_row_Add [.d (.rows 1 [[rowsF a], [rowsF b]])] (.tup [.d (rowsF (zsum a b)), .d (.bool true)]) := by
  have hlb : ((b.map FD.c).length : Int) = (a.length : Int) := by rw [List.length_map, hlen]
  have hz := zsum_len a b
  have hR := R_len a
  refine run1 [15] p_row_Add rfl rfl (fun B S F0 w0 V0 => ?_)
  refine split_false rfl ?_
  refine idx_intro [rowsF a] (by omega) rfl ?_
  refine call_new 15 (rowNorm_specG ha h1 hk hl) rfl rfl rfl rfl rfl rfl rfl ?_
  refine side_intro ⟨by omega, by show (1 : Int) ≤ 2; omega⟩ ?_
  refine loop_intro (fun i : Nat => st [(4, .own 15 0 a.length), (17, .d (.rows 1 [[rowsF b]])), (18, .d (.int .i64 1)), (19, .d (.int .i64 (i : Int)))] [(15, .rows tFrac 3 ((if i = 0 then R a else zsum a b).map FD.c))]) (fun i => 1 - i) (fun i => i ≤ 1) 0 (Nat.zero_le _)
    (weak_st _ _ ⟨rfl, rfl, rfl, rfl, trivial⟩ ⟨rfl, trivial⟩ rfl) ?_
  intro i hi
  rcases Nat.eq_zero_or_pos i with h0 | h0
  · subst h0
    refine split_true rfl ?_
    refine idx_intro [rowsF b] (by omega) rfl ?_
    refine split_false (by show (((b.map FD.c).length : Int) != (a.length : Int)) = false; rw [hlb]; exact bne_self_eq_false _) ?_
    refine loop_intro (fun j : Nat => st [(4, .own 15 0 a.length), (17, .d (.rows 1 [[rowsF b]])), (18, .d (.int .i64 1)), (19, .d (.int .i64 0)), (28, .d (rowsF b)), (29, .d (.int .i64 (a.length : Int))), (30, .d (.int .i64 (j : Int)))]
        [(15, .rows tFrac 3 (((zsum a b).take j ++ (R a).drop j).map FD.c))]) (fun j => a.length - j) (fun j => j ≤ a.length) 0 (Nat.zero_le _)
      (weak_st _ _ ⟨rfl, rfl, rfl, rfl, rfl, i64_inj hlb, rfl, trivial⟩ ⟨rfl, trivial⟩ rfl) ?_
    intro j hj
    refine split_intro (fun h => ?_) (fun h => ?_)
    · have hlt : j < a.length := by have h : (j : Int) < (a.length : Int) := of_decide_eq_true h; omega
      have ej : IntKind.i64.wrap ((j : Int) + 1) = ((j + 1 : Nat) : Int) := by rw [wr (by omega) (by omega)]; omega
      have hset := set_next2 FD.c (zsum a b) (R a) hz hR hlt FD.none
      rw [zsum_get hlt] at hset
      have hget := get_next2 hz hR hlt
      have hoa := ha _ (FD.getD_mem (l := a) (i := j) hlt)
      have hob := hb _ (FD.getD_mem (l := b) (i := j) (by omega))
      have hadd := dAdd (x := ((zsum a b).take j ++ (R a).drop j).getD j FD.none) (y := b.getD j FD.none) (k := k) (by rw [hget, R_get hlt]; exact FD.ok_of (hoa.sz h1)) hob h1 hk
      have eq1 : (((zsum a b).take j ++ (R a).drop j).getD j FD.none).q = (a.getD j FD.none).q := by rw [hget, R_get hlt, FD.q_of]
      rw [eq1] at hadd
      refine idx_F j rfl (by omega) ?_
      refine side_intro rfl ?_
      refine side_intro ⟨by show (0 : Int) ≤ (j : Int); omega, by show (j : Int) < (a.length : Int); omega⟩ ?_
      refine idx_ownF j rfl (by rw [List.length_append, List.length_take, List.length_drop]; omega) ?_
      refine call_intro _ hadd ?_
      refine side_intro ⟨by show (0 : Int) ≤ (j : Int); omega, by show (j : Int) < (a.length : Int); omega⟩ ?_
      refine ⟨j + 1, hlt, by omega, weak_st _ _ ⟨rfl, rfl, rfl, rfl, rfl, rfl, i64_inj ej, trivial⟩ ⟨?_, trivial⟩ rfl⟩
      rw [← hset]
      show some (MO.rows tFrac 3 (List.set _ (0 + ((j : Nat) : Int).toNat) _)) = _
      rw [Int.toNat_natCast, Nat.zero_add]; rfl
    · have hend : j = a.length := by have h : ¬ (j : Int) < (a.length : Int) := of_decide_eq_false h; omega
      subst hend
      refine ⟨1, Nat.le_refl _, by omega, weak_st _ _ ⟨rfl, rfl, rfl, rfl, trivial⟩ ⟨?_, trivial⟩ rfl⟩
      show some (MO.rows tFrac 3 (((zsum a b).take a.length ++ (R a).drop a.length).map FD.c)) = some (MO.rows tFrac 3 ((zsum a b).map FD.c))
      rw [List.take_of_length_le (by omega), List.drop_of_length_le (by omega), List.append_nil]
  · have h1' : i = 1 := by omega
    subst h1'
    refine split_false rfl ?_
    refine ret_intro ?_ rfl
    show V.tup [snapM (.rows tFrac 3 ((zsum a b).map FD.c)) 0 a.length, .d (.bool true)] = _
    rw [snap_F _ _ hz.symm]
end Go.Proofs.Ytolicidpfhgaoaa.Fw

/- Polynomials: sums and differences, walked. -/
set_option linter.unusedVariables false
namespace Go.Proofs.Ytolicidpfhgaoaa.Fw
open Go Pu
theorem trim_zsum (a b : List FD) : trim (Qs (zsum (pad a (max a.length b.length)) (pad b (max a.length b.length)))) = trim (padd (Qs a) (Qs b)) := by
  refine trim_inj (fun i => ?_)
  rw [co_padd]
  rcases Nat.lt_or_ge i (max a.length b.length) with h | h
  · rw [co_Qs (by rw [zsum_len, pad_len]; exact h), zsum_get (by rw [pad_len]; exact h), FD.q_of, ← pad_co (l := a) (n := max a.length b.length) (by omega), ← pad_co (l := b) (n := max a.length b.length) (by omega), co_Qs (by rw [pad_len]; exact h), co_Qs (by rw [pad_len]; exact h)]
  · rw [co_ge (by rw [Qs_len, zsum_len, pad_len]; exact h), co_ge (by rw [Qs_len]; omega), co_ge (by rw [Qs_len]; omega)]; grind
theorem zsum_ok {k : Nat} {a b : List FD} (ha : ∀ x ∈ a, x.ok k) (hb : ∀ x ∈ b, x.ok k) (h1 : 1 ≤ k) (hl : b.length = a.length) : ∀ x ∈ zsum a b, x.ok (k + k + 1) := by
  intro x hx
  obtain ⟨i, hi, rfl⟩ := List.mem_map.1 hx
  have hi := List.mem_range.1 hi
  exact FD.ok_of (Sz_add ((ha _ (FD.getD_mem hi)).sz h1) ((hb _ (FD.getD_mem (l := b) (i := i) (by omega))).sz h1))
theorem pAdd_spec {k : Nat} {a b : List FD} (ha : ∀ x ∈ a, x.ok k) (hb : ∀ x ∈ b, x.ok k) (h1 : 1 ≤ k) (hk : k ≤ 8589934592) (hl : a.length ≤ 1000000) (hlb : b.length ≤ 1000000) :
    Runs Try.prog g_poly_Add [.d (rowsF a), .d (rowsF b)] (.d (rowsF (Fs (trim (padd (Qs a) (Qs b)))))) := by
  have em : (if ((b.map FD.c).length : Int) > ((a.map FD.c).length : Int) then ((b.map FD.c).length : Int) else ((a.map FD.c).length : Int)) = ((max a.length b.length : Nat) : Int) := by
    rw [List.length_map, List.length_map, maxI]
  have la : Runs Try.prog g_poly_long [.d (rowsF a), .d (.int .i64 (if ((b.map FD.c).length : Int) > ((a.map FD.c).length : Int) then ((b.map FD.c).length : Int) else ((a.map FD.c).length : Int)))] (.d (rowsF (pad a (max a.length b.length)))) := by
    rw [em]; exact plong_spec hl (by omega)
  have lb : Runs Try.prog g_poly_long [.d (rowsF b), .d (.int .i64 (if ((b.map FD.c).length : Int) > ((a.map FD.c).length : Int) then ((b.map FD.c).length : Int) else ((a.map FD.c).length : Int)))] (.d (rowsF (pad b (max a.length b.length)))) := by
    rw [em]; exact plong_spec hlb (by omega)
  have hadd := rowAdd_spec (a := pad a (max a.length b.length)) (b := pad b (max a.length b.length)) (pad_ok ha h1) (pad_ok hb h1) h1 (by omega) (by rw [pad_len]; omega) (by rw [pad_len, pad_len])
  have hn := pNorm_spec (zsum_ok (a := pad a (max a.length b.length)) (b := pad b (max a.length b.length)) (pad_ok ha h1) (pad_ok hb h1) h1 (by rw [pad_len, pad_len])) (by omega) (by omega) (by rw [zsum_len, pad_len]; omega)
  rw [trim_zsum] at hn
  refine run1 [] p_poly_Add rfl rfl (fun B S F0 w0 V0 => ?_)
  refine call_intro _ la ?_
  refine call_intro _ lb ?_
  refine call_intro _ hadd ?_
  refine call_intro _ hn ?_
  exact ret_intro rfl rfl
theorem neg_co (a : List Rat) (i : Nat) : co (pscale ((-1 : Int) : Rat) a) i = -co a i := by
  rw [co_pscale, show ((-1 : Int) : Rat) = -1 from rfl]; grind
def psub (a b : List Rat) : List Rat := (List.range (max a.length b.length)).map (fun i => co a i - co b i)
theorem co_psub (a b : List Rat) (i : Nat) : co (psub a b) i = co a i - co b i := by
  unfold psub
  rw [co_mk]
  split
  · rfl
  · rw [co_ge (l := a) (by omega), co_ge (l := b) (by omega)]; grind
theorem sz_m1 {k : Nat} (h1 : 1 ≤ k) : Sz k ((-1 : Int) : Rat) := Sz_int (by show (toW 1).length ≤ k; rw [nw1]; exact h1) h1
end Go.Proofs.Ytolicidpfhgaoaa.Fw

/- Polynomials: products, derivatives, walked. -/
set_option linter.unusedVariables false
namespace Go.Proofs.Ytolicidpfhgaoaa.Fw
open Go Pu
def mkF (n : Nat) (g : Nat → Rat) : List FD := (List.range n).map (fun j => FD.of (g j))
theorem mkF_len (n : Nat) (g : Nat → Rat) : (mkF n g).length = n := by unfold mkF; rw [List.length_map, List.length_range]
theorem mkF_get {n i : Nat} {g : Nat → Rat} (h : i < n) : (mkF n g).getD i FD.none = FD.of (g i) := by
  unfold mkF
  rw [List.getD_eq_getElem?_getD, List.getElem?_map, List.getElem?_range h]; rfl
theorem mkF_Qs (n : Nat) (g : Nat → Rat) : Qs (mkF n g) = (List.range n).map g := by
  unfold Qs mkF
  rw [List.map_map]
  congr 1
  funext j
  exact FD.q_of _
theorem mkF_set {n p : Nat} {g g' : Nat → Rat} (hp : p < n) (h : ∀ j, j < n → j ≠ p → g' j = g j) : ((mkF n g).map FD.c).set p (FD.of (g' p)).c = (mkF n g').map FD.c := by
  rw [← List.map_set]
  congr 1
  apply List.ext_getElem?
  intro j
  rw [List.getElem?_set]
  unfold mkF
  rw [List.getElem?_map, List.getElem?_map, List.length_map, List.length_range]
  by_cases hj : j < n
  · by_cases e : p = j
    · subst e
      rw [if_pos rfl, if_pos hp, List.getElem?_range hp]; rfl
    · rw [if_neg e, List.getElem?_range hj]
      show some (FD.of (g j)) = some (FD.of (g' j))
      rw [h j hj (fun x => e x.symm)]
  · rw [if_neg (by omega), List.getElem?_eq_none (by rw [List.length_range]; omega)]; rfl
theorem mkF_congr {n : Nat} {g g' : Nat → Rat} (h : ∀ j, j < n → g j = g' j) : mkF n g = mkF n g' := by
  unfold mkF
  exact List.map_congr_left (fun j hj => by rw [h j (List.mem_range.1 hj)])
def pc (f g : Nat → Rat) (i j : Nat) : Rat := sumTo i (fun t => if t ≤ j then f t * g (j - t) else 0)
def pcc (f g : Nat → Rat) (i k j : Nat) : Rat := pc f g i j + (if i ≤ j ∧ j - i < k then f i * g (j - i) else 0)
theorem pcc_zero (f g : Nat → Rat) (i j : Nat) : pcc f g i 0 j = pc f g i j := by
  unfold pcc
  rw [if_neg (by omega)]; grind
theorem pcc_end {f g : Nat → Rat} {i m j : Nat} (hg : ∀ t, m ≤ t → g t = 0) : pcc f g i m j = pc f g (i + 1) j := by
  unfold pcc
  show _ = pc f g i j + (if i ≤ j then f i * g (j - i) else 0)
  congr 1
  by_cases h : i ≤ j
  · rw [if_pos h]
    by_cases h2 : j - i < m
    · rw [if_pos ⟨h, h2⟩]
    · rw [if_neg (by omega), hg _ (by omega)]; grind
  · rw [if_neg h, if_neg (by omega)]
theorem pcc_step (f g : Nat → Rat) (i k : Nat) : pcc f g i k (i + k) + f i * g k = pcc f g i (k + 1) (i + k) ∧ ∀ j, j ≠ i + k → pcc f g i (k + 1) j = pcc f g i k j := by
  unfold pcc
  refine ⟨?_, fun j hj => ?_⟩
  · rw [if_neg (by omega), if_pos (by omega), show i + k - i = k by omega]; grind
  · congr 1
    by_cases h : i ≤ j ∧ j - i < k
    · rw [if_pos (by omega), if_pos h]
    · rw [if_neg (by omega), if_neg h]
theorem pc_skip {f g : Nat → Rat} {i j : Nat} (h : f i = 0) : pc f g (i + 1) j = pc f g i j := by
  show pc f g i j + (if i ≤ j then f i * g (j - i) else 0) = _
  rw [h]
  split <;> grind
theorem pc_conv {f g : Nat → Rat} {m : Nat} (hf : ∀ t, m ≤ t → f t = 0) (j : Nat) : pc f g m j = conv f g j := by
  unfold pc conv
  rcases Nat.lt_or_ge m (j + 1) with h | h
  · rw [sumTo_more (f := fun i => f i * g (j - i)) (m := m) (n := j + 1) (by omega) (fun i h1 h2 => by rw [hf i h1]; grind)]
    exact sumTo_congr (fun i hi => by rw [if_pos (by omega)])
  · rw [sumTo_more (f := fun t => if t ≤ j then f t * g (j - t) else 0) (m := j + 1) (n := m) h (fun i h1 h2 => by rw [if_neg (by omega)])]
    exact sumTo_congr (fun i hi => by rw [if_pos (by omega)])
theorem sz_zero {k : Nat} (h : 1 ≤ k) : Sz k (0 : Rat) := Sz_int (z := 0) (by show (toW 0).length ≤ k; rw [toW_zero]; exact Nat.zero_le _) h
theorem Sz_sumTo {m : Nat} {f : Nat → Rat} : ∀ n : Nat, (∀ i, i < n → Sz m (f i)) → Sz (n * (m + 1) + 1) (sumTo n f)
  | 0, _ => sz_zero (by omega)
  | n + 1, h => by
    have := Sz_add (Sz_sumTo n (fun i hi => h i (by omega))) (h n (by omega))
    refine this.mono ?_
    rw [Nat.add_mul]; omega
theorem Sz_pc {k : Nat} {f g : Nat → Rat} (h1 : 1 ≤ k) (hf : ∀ i, Sz k (f i)) (hg : ∀ i, Sz k (g i)) (i j : Nat) : Sz (i * (k + k + 1) + 1) (pc f g i j) :=
  Sz_sumTo i (fun t ht => by
    split
    · exact Sz_mul (hf _) (hg _)
    · exact sz_zero (by omega))
set_option maxHeartbeats 2000000 in
theorem pMul_gen {k K : Nat} {a b : List FD} (ha : ∀ x ∈ a, x.ok k) (hb : ∀ x ∈ b, x.ok k) (h1 : 1 ≤ k) (hl : a.length ≤ 1000) (hlb : b.length ≤ 1000) (hkK : k + k ≤ K) (hK : K ≤ 34359738367)
    (hS0 : ∀ i j, i ≤ a.length → Sz K (pc (co (Qs a)) (co (Qs b)) i j)) :
    Runs Try.prog g_poly_Mul [.d (rowsF a), .d (rowsF b)] (.d (rowsF (Fs (trim (pmul (Qs a) (Qs b)))))) := by
  have hla : ((a.map FD.c).length : Int) = (a.length : Int) := by rw [List.length_map]
  have hlb' : ((b.map FD.c).length : Int) = (b.length : Int) := by rw [List.length_map]
  obtain ⟨n, hn⟩ : ∃ n, n = a.length + b.length := ⟨_, rfl⟩
  obtain ⟨f, hf⟩ : ∃ f, f = co (Qs a) := ⟨_, rfl⟩
  obtain ⟨g, hg⟩ : ∃ g, g = co (Qs b) := ⟨_, rfl⟩
  have zf : ∀ t, a.length ≤ t → f t = 0 := fun t ht => by rw [hf]; exact co_ge (by rw [Qs_len]; exact ht)
  have zg : ∀ t, b.length ≤ t → g t = 0 := fun t ht => by rw [hg]; exact co_ge (by rw [Qs_len]; exact ht)
  have sf : ∀ t, Sz k (f t) := fun t => by rw [hf]; exact Sz_co h1 (Sz_Qs ha h1) t
  have sg' : ∀ t, Sz k (g t) := fun t => by rw [hg]; exact Sz_co h1 (Sz_Qs hb h1) t
  have hS : ∀ i j, i ≤ a.length → Sz K (pc f g i j) := fun i j hi => by rw [hf, hg]; exact hS0 i j hi
  have hlong : RunsG Try.prog g_poly_long [.d (rowsF []), .d (.int .i64 (IntKind.i64.wrap (((a.map FD.c).length : Int) + ((b.map FD.c).length : Int))))] [] (.own 8 0 n) [(8, .rows tFrac 3 ((mkF n (pc f g 0)).map FD.c))] := by
    have e : IntKind.i64.wrap (((a.map FD.c).length : Int) + ((b.map FD.c).length : Int)) = (n : Int) := by rw [hla, hlb', wr (by omega) (by omega), hn]; omega
    rw [e]
    have := plong_specG (l := []) (n := n) (by decide) (by omega)
    exact this
  refine run1 [15] p_poly_Mul rfl rfl (fun B S F0 w0 V0 => ?_)
  refine call_new 15 hlong rfl rfl rfl rfl rfl rfl rfl ?_
  refine loop_intro (fun i : Nat => st [(1, .d (rowsF b)), (5, .own 15 0 n), (16, .d (rowsF a)), (17, .d (.int .i64 (a.length : Int))), (18, .d (.int .i64 (i : Int)))] [(15, .rows tFrac 3 ((mkF n (pc f g i)).map FD.c))]) (fun i => a.length - i) (fun i => i ≤ a.length) 0 (Nat.zero_le _)
    (weak_st _ _ ⟨rfl, rfl, rfl, i64_inj hla, rfl, trivial⟩ ⟨rfl, trivial⟩ rfl) ?_
  intro i hi
  refine split_intro (fun h => ?_) (fun h => ?_)
  · have hlt : i < a.length := by have h : (i : Int) < (a.length : Int) := of_decide_eq_true h; omega
    have ei : IntKind.i64.wrap ((i : Int) + 1) = ((i + 1 : Nat) : Int) := by rw [wr (by omega) (by omega)]; omega
    have hoa := ha _ (FD.getD_mem (l := a) (i := i) hlt)
    have hfi : f i = (a.getD i FD.none).q := by rw [hf, co_Qs hlt]
    refine idx_F i rfl hlt ?_
    refine call_intro _ (dSign hoa h1 (by omega)) ?_
    refine split_intro (fun hs => ?_) (fun hs => ?_)
    · have hs : sgn (a.getD i FD.none).q.num = 0 := eq_of_beq hs
      have hz : f i = 0 := by rw [hfi]; exact sgn_zeroq.1 hs
      refine ⟨i + 1, hlt, by omega, weak_st _ _ ⟨rfl, rfl, rfl, rfl, i64_inj ei, trivial⟩ ⟨?_, trivial⟩ rfl⟩
      rw [mkF_congr (g := pc f g (i + 1)) (g' := pc f g i) (fun j _ => pc_skip hz)]; rfl
    · refine loop_intro (fun m : Nat => st [(1, .d (rowsF b)), (5, .own 15 0 n), (6, .d (.int .i64 (i : Int))), (7, .addr 7 0), (16, .d (rowsF a)), (17, .d (.int .i64 (a.length : Int))), (18, .d (.int .i64 (i : Int))), (26, .d (rowsF b)), (27, .d (.int .i64 (b.length : Int))), (28, .d (.int .i64 (m : Int)))]
          [(7, .box (a.getD i FD.none).c), (15, .rows tFrac 3 ((mkF n (pcc f g i m)).map FD.c))]) (fun m => b.length - m) (fun m => m ≤ b.length) 0 (Nat.zero_le _)
        (weak_st _ _ ⟨rfl, rfl, rfl, rfl, rfl, rfl, rfl, rfl, i64_inj hlb', rfl, trivial⟩ ⟨rfl, ?_, trivial⟩ rfl) ?_
      · rw [mkF_congr (g := pcc f g i 0) (g' := pc f g i) (fun j _ => pcc_zero f g i j)]; rfl
      intro m hm
      refine split_intro (fun h2 => ?_) (fun h2 => ?_)
      · have hmlt : m < b.length := by have h2 : (m : Int) < (b.length : Int) := of_decide_eq_true h2; omega
        have em : IntKind.i64.wrap ((m : Int) + 1) = ((m + 1 : Nat) : Int) := by rw [wr (by omega) (by omega)]; omega
        have eim : IntKind.i64.wrap ((i : Int) + (m : Int)) = ((i + m : Nat) : Int) := by rw [wr (by omega) (by omega)]; omega
        have hob := hb _ (FD.getD_mem (l := b) (i := m) hmlt)
        have hgm : g m = (b.getD m FD.none).q := by rw [hg, co_Qs hmlt]
        obtain ⟨st1, st2⟩ := pcc_step f g i m
        have hp : i + m < n := by omega
        have hcur : (mkF n (pcc f g i m)).getD (i + m) FD.none = FD.of (pcc f g i m (i + m)) := mkF_get hp
        have hval : pcc f g i m (i + m) = pc f g i (i + m) := by unfold pcc; rw [if_neg (by omega)]; grind
        have hszp : Sz K (pcc f g i m (i + m)) := by rw [hval]; exact hS i (i + m) (by omega)
        have m1 := dMul hoa hob h1 (by omega)
        have hm1 := Sz_mul (hoa.sz h1) (hob.sz h1)
        have a1 := dAdd (x := (mkF n (pcc f g i m)).getD (i + m) FD.none) (y := FD.of ((a.getD i FD.none).q * (b.getD m FD.none).q)) (k := K) (by rw [hcur]; exact FD.ok_of hszp) (FD.ok_of (hm1.mono hkK)) (by omega) (by omega)
        have ev : ((mkF n (pcc f g i m)).getD (i + m) FD.none).q + (FD.of ((a.getD i FD.none).q * (b.getD m FD.none).q)).q = pcc f g i (m + 1) (i + m) := by
          rw [hcur, FD.q_of, FD.q_of, ← hfi, ← hgm]; exact st1
        rw [ev] at a1
        have hset := mkF_set (n := n) (g := pcc f g i m) (g' := pcc f g i (m + 1)) hp (fun j _ hj => st2 j hj)
        refine idx_F m rfl hmlt ?_
        refine side_intro rfl ?_
        refine side_intro ⟨by show (0 : Int) ≤ IntKind.i64.wrap ((i : Int) + (m : Int)); omega, by show IntKind.i64.wrap ((i : Int) + (m : Int)) < (n : Int); omega⟩ ?_
        refine idx_ownF (i + m) eim (by rw [mkF_len]; exact hp) ?_
        refine call_intro _ m1 ?_
        refine call_intro _ a1 ?_
        refine side_intro ⟨by show (0 : Int) ≤ IntKind.i64.wrap ((i : Int) + (m : Int)); omega, by show IntKind.i64.wrap ((i : Int) + (m : Int)) < (n : Int); omega⟩ ?_
        refine ⟨m + 1, hmlt, by omega, weak_st _ _ ⟨rfl, rfl, rfl, rfl, rfl, rfl, rfl, rfl, rfl, i64_inj em, trivial⟩ ⟨rfl, ?_, trivial⟩ rfl⟩
        rw [← hset]
        show some (MO.rows tFrac 3 (List.set _ (0 + (IntKind.i64.wrap ((i : Int) + (m : Int))).toNat) _)) = _
        rw [eim, Int.toNat_natCast, Nat.zero_add]; rfl
      · have hend : m = b.length := by have h2 : ¬ (m : Int) < (b.length : Int) := of_decide_eq_false h2; omega
        subst hend
        refine ⟨i + 1, hlt, by omega, weak_st _ _ ⟨rfl, rfl, rfl, rfl, i64_inj ei, trivial⟩ ⟨?_, trivial⟩ rfl⟩
        rw [← mkF_congr (g := pcc f g i b.length) (g' := pc f g (i + 1)) (fun j _ => pcc_end zg)]; rfl
  · have hend : i = a.length := by have h : ¬ (i : Int) < (a.length : Int) := of_decide_eq_false h; omega
    subst hend
    have hnorm := pNorm_spec (l := mkF n (pc f g a.length)) (k := K) (by
      intro x hx
      obtain ⟨j, _, rfl⟩ := List.mem_map.1 hx
      exact FD.ok_of (hS a.length j (Nat.le_refl _))) (by omega) (by omega) (by rw [mkF_len]; omega)
    have et : trim (Qs (mkF n (pc f g a.length))) = trim (pmul (Qs a) (Qs b)) := by
      rw [mkF_Qs]
      congr 1
      unfold pmul
      rw [Qs_len, Qs_len, ← hn, ← hf, ← hg]
      exact List.map_congr_left (fun j _ => pc_conv zf j)
    rw [et, ← snap_F tFrac (mkF n (pc f g a.length)) (mkF_len n _).symm] at hnorm
    refine opp_frz 15 (.rows tFrac 3 ((mkF n (pc f g a.length)).map FD.c)) rfl (Nat.le_of_ble_eq_true rfl) rfl ?_
    refine call_intro _ hnorm ?_
    exact ret_intro rfl rfl
theorem pMul_spec {k : Nat} {a b : List FD} (ha : ∀ x ∈ a, x.ok k) (hb : ∀ x ∈ b, x.ok k) (h1 : 1 ≤ k) (hl : a.length ≤ 1000) (hlb : b.length ≤ 1000) (hk : k ≤ 1000000) :
    Runs Try.prog g_poly_Mul [.d (rowsF a), .d (rowsF b)] (.d (rowsF (Fs (trim (pmul (Qs a) (Qs b)))))) :=
  pMul_gen (K := 2001001001) ha hb h1 hl hlb (by omega) (by omega) (fun i j hi => (Sz_pc h1 (Sz_co h1 (Sz_Qs ha h1)) (Sz_co h1 (Sz_Qs hb h1)) i j).mono (by
    have : i * (k + k + 1) ≤ 1000 * 2000001 := Nat.mul_le_mul (by omega) (by omega)
    omega))
end Go.Proofs.Ytolicidpfhgaoaa.Fw

/- Polynomials: derivatives, the chapter's example, walked. -/
set_option linter.unusedVariables false
namespace Go.Proofs.Ytolicidpfhgaoaa.Fw
open Go Pu
theorem append_stepP {c : Ctx} {s : St} {o : Oper} {K : St → Prop} {x y : Operand} {t e : TypeId} (d : Nat) {P : List FD} {i : Nat} (ho : o.op = .call ⟨.builtin .append, #[x, y], #[t, t]⟩) (hd : dstOk c.N o = true) (ht : (TB t).k = .sl e) (he : (TB e).k.ok = true) (hsz : (TB e).sz = 3) (hby : (TB e).bytes = 56)
    (hx : s.ev x = .own d 0 i) (hm : s.mem d = some (.rows e 3 ((P.take i).map FD.c))) (hy : srcOf TB e (s.ev y) = some (1, (P.getD i FD.none).c)) (hdN : Nat.blt d c.N = true) (hi : i < P.length) (hl : P.length ≤ 1000000)
    (hK : K (((drop1 d s).upd d (.rows e 3 ((P.take (i + 1)).map FD.c))).put o.dst (.own d 0 (i + 1)))) : OpP Try.prog c o s K := by
  have htl : (P.take i).length = i := by rw [List.length_take]; omega
  have htl1 : (P.take (i + 1)).length = i + 1 := by rw [List.length_take]; omega
  refine opp_append_own hT (e := e) (i := d) (j := d) (obj := .rows e 3 ((P.take i).map FD.c)) (obj2 := .rows e 3 ((P.take (i + 1)).map FD.c)) (n := i) (m := 1) (fl := ((P.take i).map FD.c).flatten) (fl2 := (P.getD i FD.none).c) ho hd ht he hx hm ?_ rfl hy (by rw [hsz]; rfl) (Nat.le_of_ble_eq_true hdN) (Nat.le_of_ble_eq_true hdN) (.inl rfl) ?_ ?_ hK
  · rw [rowsF_row, htl, hsz]
  · rw [rowsF_row, htl1, take_succF hi, List.flatten_append, hsz]
    show some (e, 3, i + 1, ((P.take i).map FD.c).flatten ++ ((P.getD i FD.none).c ++ [])) = _
    rw [List.append_nil]
  · rw [hby]; omega
theorem cast_sz {i : Nat} (h : i ≤ 1000000) : Sz 1 ((i : Int) : Rat) := Sz_int (by
  show (toW i).length ≤ 1
  rcases Nat.eq_zero_or_pos i with h0 | h0
  · rw [h0, toW_zero]; exact Nat.zero_le _
  · rw [nw_one (by omega) (by omega)]; exact Nat.le_refl _) (by omega)
theorem pDiff_spec {k : Nat} {l : List FD} (hx : ∀ x ∈ l, x.ok k) (h1 : 1 ≤ k) (hk : k ≤ 1000000000) (hl : l.length ≤ 1000) :
    Runs Try.prog g_poly_Diff [.d (rowsF l)] (.d (rowsF (Fs (trim (pdif (Qs l)))))) := by
  have hll : ((l.map FD.c).length : Int) = (l.length : Int) := by rw [List.length_map]
  have hs : ∀ j, Sz (1 + k) (dif (co (Qs l)) j) := by
    intro j
    rcases Nat.lt_or_ge (j + 1) l.length with h | h
    · exact Sz_mul (cast_sz (by omega)) (Sz_co h1 (Sz_Qs hx h1) _)
    · unfold dif
      rw [co_ge (by rw [Qs_len]; exact h), Rat.mul_zero]
      exact sz_zero (by omega)
  have hn := pNorm_spec (l := mkF (l.length - 1) (dif (co (Qs l)))) (k := 1 + k) (by
    intro x hx
    obtain ⟨j, _, rfl⟩ := List.mem_map.1 hx
    exact FD.ok_of (hs j)) (by omega) (by omega) (by rw [mkF_len]; omega)
  rw [mkF_Qs] at hn
  have e0 : (List.range (l.length - 1)).map (dif (co (Qs l))) = pdif (Qs l) := by unfold pdif; rw [Qs_len]
  rw [e0, ← snap_F tFrac (mkF (l.length - 1) (dif (co (Qs l)))) (mkF_len _ _).symm] at hn
  refine run1 [] p_poly_Diff rfl rfl (fun B S F0 w0 V0 => ?_)
  refine loop_intro (fun i : Nat => st [(0, .d (rowsF l)), (3, .own 20 0 i), (4, .d (.int .i64 ((i + 1 : Nat) : Int)))] [(20, .rows tFrac 3 (((mkF (l.length - 1) (dif (co (Qs l)))).take i).map FD.c))]) (fun i => l.length - i) (fun i => i ≤ l.length - 1) 0 (Nat.zero_le _)
    (weak_trans (weak_st _ _ ⟨rfl, rfl, rfl, trivial⟩ ⟨rfl, trivial⟩ rfl) (weak_nil_own 3 20 (.rows tFrac 3 []) (e := tFrac) (sz := 3) rfl rfl rfl rfl (by omega))) ?_
  intro i hi
  refine split_intro (fun h => ?_) (fun h => ?_)
  · have hlt : i + 1 < l.length := by
      have h : ((i + 1 : Nat) : Int) < ((l.map FD.c).length : Int) := of_decide_eq_true h
      rw [List.length_map] at h; omega
    have ei : IntKind.i64.wrap (((i + 1 : Nat) : Int) + 1) = ((i + 1 + 1 : Nat) : Int) := by rw [wr (by omega) (by omega)]; omega
    have hox := hx _ (FD.getD_mem (l := l) (i := i + 1) hlt)
    have m1 := dMul (x := FD.of (((i + 1 : Nat) : Int) : Rat)) (k := k) (FD.ok_of ((cast_sz (by omega)).mono h1)) hox h1 (by omega)
    have ev : (FD.of (((i + 1 : Nat) : Int) : Rat)).q * (l.getD (i + 1) FD.none).q = dif (co (Qs l)) i := by
      unfold dif
      rw [FD.q_of, co_Qs hlt]
    rw [ev] at m1
    have hget : some (1, (FD.of (dif (co (Qs l)) i)).c) = some (1, ((mkF (l.length - 1) (dif (co (Qs l)))).getD i FD.none).c) := by rw [mkF_get (by omega)]
    refine side_intro rfl ?_
    refine call_intro _ (fOf_spec (z := ((i + 1 : Nat) : Int)) (by omega) (by omega)) ?_
    refine idx_F (i + 1) rfl hlt ?_
    refine call_intro _ m1 ?_
    refine append_stepP 20 (P := mkF (l.length - 1) (dif (co (Qs l)))) (i := i) (e := tFrac) rfl rfl rfl rfl rfl rfl rfl rfl (Eq.trans rfl hget) rfl (by rw [mkF_len]; omega) (by rw [mkF_len]; omega) ?_
    exact ⟨i + 1, by omega, by omega, weak_st _ _ ⟨rfl, rfl, i64_inj ei, trivial⟩ ⟨rfl, trivial⟩ rfl⟩
  · have hend : i = l.length - 1 := by
      have h : ¬ ((i + 1 : Nat) : Int) < ((l.map FD.c).length : Int) := of_decide_eq_false h
      rw [List.length_map] at h; omega
    subst hend
    have ht : (mkF (l.length - 1) (dif (co (Qs l)))).take (l.length - 1) = mkF (l.length - 1) (dif (co (Qs l))) := List.take_of_length_le (by rw [mkF_len]; exact Nat.le_refl _)
    rw [← ht] at hn
    refine opp_frz 20 (.rows tFrac 3 (((mkF (l.length - 1) (dif (co (Qs l)))).take (l.length - 1)).map FD.c)) rfl (Nat.le_of_ble_eq_true rfl) rfl ?_
    refine call_intro _ hn ?_
    exact ret_intro rfl rfl
end Go.Proofs.Ytolicidpfhgaoaa.Fw

/- The chapter's examples of polynomials. -/
set_option linter.unusedVariables false
namespace Go.Proofs.Ytolicidpfhgaoaa.Fw
open Go Pu
def i2q (z : Int) : Rat := (z : Rat)
theorem sz_i2q {z : Int} (h : z.natAbs < 4294967296) : Sz 1 (i2q z) := Sz_int (by
  rcases Nat.eq_zero_or_pos z.natAbs with h0 | h0
  · rw [h0, toW_zero]; exact Nat.zero_le _
  · rw [nw_one (by omega) h]; exact Nat.le_refl _) (by omega)
theorem works14 : Runs Try.prog g_retrospectlaw14_works [] (.d (.bool true)) := by
  have s1 : Sz 1 (i2q 1) := sz_i2q (by decide)
  have s0 : Sz 1 (i2q 0) := sz_i2q (by decide)
  have sm : Sz 1 (i2q (-1)) := sz_i2q (by decide)
  have sm2 : Sz 1 (i2q (-2)) := sz_i2q (by decide)
  have o11 : ∀ x ∈ Fs [i2q 1, i2q 1], x.ok 1 := ok_Fs (by intro q hq; simp only [List.mem_cons, List.not_mem_nil, or_false] at hq; rcases hq with rfl | rfl <;> exact s1)
  have o1m : ∀ x ∈ Fs [i2q 1, i2q (-1)], x.ok 1 := ok_Fs (by intro q hq; simp only [List.mem_cons, List.not_mem_nil, or_false] at hq; rcases hq with rfl | rfl; exact s1; exact sm)
  have o3 : ∀ x ∈ Fs [i2q 1, i2q 0, i2q (-1)], x.ok 1 := ok_Fs (by intro q hq; simp only [List.mem_cons, List.not_mem_nil, or_false] at hq; rcases hq with rfl | rfl | rfl; exact s1; exact s0; exact sm)
  have o2 : ∀ x ∈ Fs [i2q 0, i2q (-2)], x.ok 1 := ok_Fs (by intro q hq; simp only [List.mem_cons, List.not_mem_nil, or_false] at hq; rcases hq with rfl | rfl; exact s0; exact sm2)
  have m1 := pMul_spec o11 o1m (by omega) (by decide) (by decide) (by omega)
  rw [Qs_Fs, Qs_Fs, show trim (pmul [i2q 1, i2q 1] [i2q 1, i2q (-1)]) = [i2q 1, i2q 0, i2q (-1)] by decide +kernel] at m1
  have e1 := pSame_spec o3 o3 (by omega) (by omega) (by decide) (by decide)
  rw [decide_eq_true rfl] at e1
  have d1 := Degree_spec o3 (by omega) (by omega) (by decide)
  rw [Qs_Fs, show trim [i2q 1, i2q 0, i2q (-1)] = [i2q 1, i2q 0, i2q (-1)] by decide +kernel] at d1
  have f1 := pDiff_spec o3 (by omega) (by omega) (by decide)
  rw [Qs_Fs, show trim (pdif [i2q 1, i2q 0, i2q (-1)]) = [i2q 0, i2q (-2)] by decide +kernel] at f1
  have e2 := pSame_spec o2 o2 (by omega) (by omega) (by decide) (by decide)
  rw [decide_eq_true rfl] at e2
  refine run1 [] p_retrospectlaw14_works rfl rfl (fun B S F0 w0 V0 => ?_)
  refine call_intro _ (fOf_spec (z := 1) (by omega) (by omega)) ?_
  refine side_intro rfl ?_
  refine call_intro _ (fOf_spec (z := -1) (by omega) (by omega)) ?_
  refine call_intro _ m1 ?_
  refine side_intro rfl ?_
  refine call_intro _ (fOf_spec (z := 0) (by omega) (by omega)) ?_
  refine call_intro _ (fOf_spec (z := -1) (by omega) (by omega)) ?_
  refine call_intro _ e1 ?_
  refine split_true rfl ?_
  refine call_intro _ d1 ?_
  refine split_true rfl ?_
  refine call_intro _ f1 ?_
  refine call_intro _ (fOf_spec (z := 0) (by omega) (by omega)) ?_
  refine call_intro _ (fOf_spec (z := -2) (by omega) (by omega)) ?_
  refine call_intro _ e2 ?_
  exact ret_intro rfl rfl
end Go.Proofs.Ytolicidpfhgaoaa.Fw

/- The document's rows: too long, handed over. -/
set_option linter.unusedVariables false
namespace Go.Proofs.Ytolicidpfhgaoaa.Fw
open Go Pu
/-- Is a row too long, or one of its fractions? -/
theorem Long11_spec {l : List FD} {m : Nat} {k : Int} (hl : l.length ≤ maxLen) (hm : m ≤ 1000000) : ∃ b : Bool, Runs Try.prog g_retrospectref11_Long [.d (rowsF l), .d (.int .i64 (m : Int)), .d (.int .i64 k)] (.d (.bool b)) ∧ (b = false → l.length ≤ m ∧ ∀ x ∈ l, (x.n.length : Int) ≤ k ∧ (x.d.length : Int) ≤ k) := by
  have hml : l.length < 9223372036854775808 := by unfold maxLen at hl; omega
  by_cases hex : ∃ i, i < l.length ∧ i < m ∧ (decide (((l.getD i FD.none).n.length : Int) > k) || decide (((l.getD i FD.none).d.length : Int) > k)) = true
  · refine ⟨true, ?_, fun h => by cases h⟩
    obtain ⟨i0, h1, h2, h3⟩ := hex
    refine run1 [] p_retrospectref11_Long rfl rfl (fun B S F0 w0 V0 => ?_)
    refine loop_intro (fun i : Nat => st [(0, .d (rowsF l)), (1, .d (.int .i64 (m : Int))), (2, .d (.int .i64 k)), (7, .d (.int .i64 (i : Int)))] []) (fun i => i0 + 1 - i) (fun i => i ≤ i0) 0 (Nat.zero_le _) (weak_st _ _ ⟨rfl, rfl, rfl, rfl, trivial⟩ trivial rfl) ?_
    intro i hi
    have ei : IntKind.i64.wrap ((i : Int) + 1) = ((i + 1 : Nat) : Int) := by rw [wr (by omega) (by omega)]; omega
    refine split_true (decide_eq_true (by show (i : Int) < ((l.map FD.c).length : Int); rw [List.length_map]; omega)) ?_
    refine split_true (decide_eq_true (by show (i : Int) < (m : Int); omega)) ?_
    refine idx_F i rfl (by omega) ?_
    refine call_intro _ (LongD (x := l.getD i FD.none)) ?_
    refine split_intro (fun h => ?_) (fun h => ?_)
    · exact ret_intro rfl rfl
    · have hne : i ≠ i0 := by
        intro e
        rw [← e] at h3
        rw [h3] at h; cases h
      exact ⟨i + 1, by omega, by omega, weak_st _ _ ⟨rfl, rfl, rfl, i64_inj ei, trivial⟩ trivial rfl⟩
  · have hall : ∀ i, i < l.length → i < m → (decide (((l.getD i FD.none).n.length : Int) > k) || decide (((l.getD i FD.none).d.length : Int) > k)) = false := by
      intro i h1 h2
      cases hb : (decide (((l.getD i FD.none).n.length : Int) > k) || decide (((l.getD i FD.none).d.length : Int) > k)) with
      | false => rfl
      | true => exact absurd ⟨i, h1, h2, hb⟩ hex
    refine ⟨decide ((l.length : Int) > m), ?_, fun h => ?_⟩
    · refine run1 [] p_retrospectref11_Long rfl rfl (fun B S F0 w0 V0 => ?_)
      refine loop_intro (fun i : Nat => st [(0, .d (rowsF l)), (1, .d (.int .i64 (m : Int))), (2, .d (.int .i64 k)), (7, .d (.int .i64 (i : Int)))] []) (fun i => m + 1 - i) (fun i => i ≤ l.length ∧ i ≤ m) 0 ⟨Nat.zero_le _, Nat.zero_le _⟩ (weak_st _ _ ⟨rfl, rfl, rfl, rfl, trivial⟩ trivial rfl) ?_
      rintro i ⟨hi, him⟩
      have ei : IntKind.i64.wrap ((i : Int) + 1) = ((i + 1 : Nat) : Int) := by rw [wr (by omega) (by omega)]; omega
      have hret : V.d (.bool (decide (((l.map FD.c).length : Int) > (m : Int)))) = V.d (.bool (decide ((l.length : Int) > (m : Int)))) := by rw [List.length_map]
      refine split_intro (fun h1 => ?_) (fun h1 => ?_)
      · have h1 : i < l.length := by
          have h1 : (i : Int) < ((l.map FD.c).length : Int) := of_decide_eq_true h1
          rw [List.length_map] at h1; omega
        refine split_intro (fun h2 => ?_) (fun h2 => ?_)
        · have h2 : i < m := by have h2 : (i : Int) < (m : Int) := of_decide_eq_true h2; omega
          refine idx_F i rfl h1 ?_
          refine call_intro _ (LongD (x := l.getD i FD.none)) ?_
          refine split_false (hall i h1 h2) ?_
          exact ⟨i + 1, ⟨by omega, by omega⟩, by omega, weak_st _ _ ⟨rfl, rfl, rfl, i64_inj ei, trivial⟩ trivial rfl⟩
        · exact ret_intro hret rfl
      · refine split_false rfl ?_
        exact ret_intro hret rfl
    · have h : ¬ (l.length : Int) > m := of_decide_eq_false h
      refine ⟨by omega, fun x hx => ?_⟩
      obtain ⟨i, hi⟩ := List.getElem?_of_mem hx
      have hlt := (List.getElem?_eq_some_iff.1 hi).1
      have h3 := longOr (x := l.getD i FD.none) (hall i hlt (by omega))
      rw [List.getD_eq_getElem?_getD, hi] at h3
      exact h3
theorem To11_spec {l : List FD} (hl : l.length ≤ 1000000) : Runs Try.prog g_retrospectlaw11_To [.d (rowsF l)] (.d (rowsF l)) := by
  refine run1 [] p_retrospectlaw11_To rfl rfl (fun B S F0 w0 V0 => ?_)
  refine loop_intro (fun i : Nat => st [(0, .d (rowsF l)), (3, .own 18 0 i), (4, .d (.int .i64 (i : Int)))] [(18, .rows tFrac 3 ((l.take i).map FD.c))]) (fun i => l.length - i) (fun i => i ≤ l.length) 0 (Nat.zero_le _)
    (weak_trans (weak_st _ _ ⟨rfl, rfl, rfl, trivial⟩ ⟨rfl, trivial⟩ rfl) (weak_nil_own 3 18 (.rows tFrac 3 []) (e := tFrac) (sz := 3) rfl rfl rfl rfl (by omega))) ?_
  intro i hi
  refine split_intro (fun h => ?_) (fun h => ?_)
  · have hlt : i < l.length := by
      have h : (i : Int) < ((l.map FD.c).length : Int) := of_decide_eq_true h
      rw [List.length_map] at h; omega
    have ei : IntKind.i64.wrap ((i : Int) + 1) = ((i + 1 : Nat) : Int) := by rw [wr (by omega) (by omega)]; omega
    have htl : (l.take i).length = i := by rw [List.length_take]; omega
    have htl1 : (l.take (i + 1)).length = i + 1 := by rw [List.length_take]; omega
    refine idx_F i rfl hlt ?_
    refine call_intro _ (ToD (x := l.getD i FD.none)) ?_
    refine opp_append_own hT (e := tFrac) (i := 18) (j := 18) (obj := .rows tFrac 3 ((l.take i).map FD.c)) (obj2 := .rows tFrac 3 ((l.take (i + 1)).map FD.c)) (n := i) (m := 1) (fl := ((l.take i).map FD.c).flatten) (fl2 := (l.getD i FD.none).c) rfl rfl rfl rfl rfl rfl ?_ rfl rfl rfl (Nat.le_of_ble_eq_true rfl) (Nat.le_of_ble_eq_true rfl) (.inl rfl) ?_ ?_ ?_
    · rw [rowsF_row, htl]; rfl
    · rw [rowsF_row, htl1, take_succF hlt, List.flatten_append]
      show some (tFrac, 3, i + 1, ((l.take i).map FD.c).flatten ++ ((l.getD i FD.none).c ++ [])) = _
      rw [List.append_nil]; rfl
    · show (i + 1) * (56 + 1) ≤ _
      omega
    exact ⟨i + 1, hlt, by omega, weak_st _ _ ⟨rfl, rfl, i64_inj ei, trivial⟩ ⟨rfl, trivial⟩ rfl⟩
  · have hend : i = l.length := by
      have h : ¬ (i : Int) < ((l.map FD.c).length : Int) := of_decide_eq_false h
      rw [List.length_map] at h; omega
    subst hend
    refine ret_intro ?_ rfl
    show snapM (.rows tFrac 3 ((l.take l.length).map FD.c)) 0 l.length = _
    rw [List.take_length, snap_F _ _ rfl]
end Go.Proofs.Ytolicidpfhgaoaa.Fw

/- The law PolyValues, walked. -/
set_option linter.unusedVariables false
namespace Go.Proofs.Ytolicidpfhgaoaa.Fw
open Go Pu
theorem Sz_pmul {j k : Nat} {a b : List Rat} (ha : ∀ q ∈ a, Sz j q) (hb : ∀ q ∈ b, Sz k q) (h1 : 1 ≤ j) (h2 : 1 ≤ k) : ∀ q ∈ pmul a b, Sz ((a.length + b.length) * (j + k + 1) + 1) q := by
  intro q hq
  obtain ⟨i, hi, rfl⟩ := List.mem_map.1 hq
  have hi := List.mem_range.1 hi
  refine (Sz_sumTo (m := j + k) (i + 1) (fun t _ => Sz_mul (Sz_co h1 ha t) (Sz_co h2 hb (i - t)))).mono ?_
  have := Nat.mul_le_mul_right (j + k + 1) (show i + 1 ≤ a.length + b.length by omega)
  omega
theorem Sz_padd {k : Nat} {a b : List Rat} (ha : ∀ q ∈ a, Sz k q) (hb : ∀ q ∈ b, Sz k q) (h1 : 1 ≤ k) : ∀ q ∈ padd a b, Sz (k + k + 1) q := by
  intro q hq
  obtain ⟨i, hi, rfl⟩ := List.mem_map.1 hq
  exact Sz_add (Sz_co h1 ha i) (Sz_co h1 hb i)
theorem Sz_pdif {k : Nat} {a : List Rat} (ha : ∀ q ∈ a, Sz k q) (h1 : 1 ≤ k) (hl : a.length ≤ 1000000) : ∀ q ∈ pdif a, Sz (1 + k) q := by
  intro q hq
  obtain ⟨i, hi, rfl⟩ := List.mem_map.1 hq
  have hi := List.mem_range.1 hi
  exact Sz_mul (cast_sz (by omega)) (Sz_co h1 ha (i + 1))
theorem pmul_ln (a b : List Rat) : (pmul a b).length = a.length + b.length := by unfold pmul; rw [List.length_map, List.length_range]
theorem padd_ln (a b : List Rat) : (padd a b).length = max a.length b.length := by unfold padd; rw [List.length_map, List.length_range]
theorem pdif_ln (a : List Rat) : (pdif a).length = a.length - 1 := by unfold pdif; rw [List.length_map, List.length_range]
set_option maxHeartbeats 4000000 in
theorem PolyValues_runs {a b : List FD} {c : FD} (ha : ∀ y ∈ a, Wd y.n ∧ Wd y.d) (hb : ∀ y ∈ b, Wd y.n ∧ Wd y.d) (hc : Wd c.n ∧ Wd c.d) (hma : a.length ≤ maxLen) (hmb : b.length ≤ maxLen) :
    Runs Try.prog g_retrospectlaw14_PolyValues [.d (rowsF a), .d (rowsF b), c.v] (.d (.bool true)) := by
  obtain ⟨ba, hla, hna⟩ := Long11_spec (l := a) (m := 6) (k := 2) hma (by omega)
  obtain ⟨bb, hlb, hnb⟩ := Long11_spec (l := b) (m := 6) (k := 2) hmb (by omega)
  refine run1 [] p_retrospectlaw14_PolyValues rfl rfl (fun B S F0 w0 V0 => ?_)
  refine call_intro _ hla ?_
  refine split_intro (fun g => ?_) (fun g => ?_)
  · refine split_true rfl ?_
    refine split_true rfl ?_
    refine call_intro _ works14 ?_
    exact ret_intro rfl rfl
  obtain ⟨la, wa⟩ := hna g
  refine call_intro _ hlb ?_
  refine split_intro (fun g => ?_) (fun g => ?_)
  · refine split_true rfl ?_
    refine call_intro _ works14 ?_
    exact ret_intro rfl rfl
  obtain ⟨lb', wb⟩ := hnb g
  refine call_intro _ (LongD (x := c)) ?_
  refine split_intro (fun g => ?_) (fun g => ?_)
  · refine call_intro _ works14 ?_
    exact ret_intro rfl rfl
  obtain ⟨c1, c2⟩ := longOr g
  have oa : ∀ x ∈ a, x.ok 2 := fun x hx => ⟨(ha x hx).1, (ha x hx).2, by have := (wa x hx).1; omega, by have := (wa x hx).2; omega⟩
  have ob : ∀ x ∈ b, x.ok 2 := fun x hx => ⟨(hb x hx).1, (hb x hx).2, by have := (wb x hx).1; omega, by have := (wb x hx).2; omega⟩
  have oc : c.ok 2 := ⟨hc.1, hc.2, by omega, by omega⟩
  have sa := Sz_Qs oa (by omega)
  have sb := Sz_Qs ob (by omega)
  have sc := oc.sz (by omega)
  have lQa := Qs_len a
  have lQb := Qs_len b
  obtain ⟨A, eA⟩ : ∃ A, A = Qs a := ⟨_, rfl⟩
  obtain ⟨B', eB⟩ : ∃ B', B' = Qs b := ⟨_, rfl⟩
  rw [← eA] at sa lQa
  rw [← eB] at sb lQb
  have zp : ∀ q ∈ trim (pmul A B'), Sz 61 q := Sz_trim (fun q hq => (Sz_pmul sa sb (by omega) (by omega) q hq).mono (by
    have := Nat.mul_le_mul_right (2 + 2 + 1) (show A.length + B'.length ≤ 12 by omega)
    omega))
  have lp : (trim (pmul A B')).length ≤ 12 := by have := trim_len (pmul A B'); rw [pmul_ln] at this; omega
  have zs : ∀ q ∈ trim (padd A B'), Sz 5 q := Sz_trim (Sz_padd sa sb (by omega))
  have ls : (trim (padd A B')).length ≤ 6 := by have := trim_len (padd A B'); rw [padd_ln] at this; omega
  have p1 := pMul_spec oa ob (by omega) (by omega) (by omega) (by omega)
  have v1 := pEval_spec (l := Fs (trim (pmul A B'))) (x := c) (k := 61) (ok_Fs zp) (oc.mono (by omega)) (by omega) (by omega) (by rw [Fs_len]; omega)
  have v2 := pEval_spec oa oc (by omega) (by omega) (by omega)
  have v3 := pEval_spec ob oc (by omega) (by omega) (by omega)
  have s1 := pAdd_spec oa ob (by omega) (by omega) (by omega) (by omega)
  have v4 := pEval_spec (l := Fs (trim (padd A B'))) (x := c) (k := 5) (ok_Fs zs) (oc.mono (by omega)) (by omega) (by omega) (by rw [Fs_len]; omega)
  rw [← eA, ← eB] at p1 s1
  rw [← eA] at v2
  rw [← eB] at v3
  rw [Qs_Fs, pev_trim, pev_pmul] at v1
  rw [Qs_Fs, pev_trim, pev_padd] at v4
  have y2 := (pev_sz sc (by omega) A sa).mono (show A.length * (2 * 2 + 1) + 1 ≤ 100 by omega)
  have y3 := (pev_sz sc (by omega) B' sb).mono (show B'.length * (2 * 2 + 1) + 1 ≤ 100 by omega)
  have ym := Sz_mul y2 y3
  have ya := Sz_add y2 y3
  have m1 := dMul (FD.ok_of y2) (FD.ok_of y3) (by omega) (by omega)
  have a1 := dAdd (FD.ok_of y2) (FD.ok_of y3) (by omega) (by omega)
  rw [FD.q_of, FD.q_of] at m1 a1
  have e1 := dSame (FD.ok_of ym) (FD.ok_of ym) (by omega) (by omega)
  have e2 := dSame (FD.ok_of ya) (FD.ok_of ya) (by omega) (by omega)
  rw [decide_eq_true rfl] at e1 e2
  have d1 := pDiff_spec (l := Fs (trim (pmul A B'))) (k := 61) (ok_Fs zp) (by omega) (by omega) (by rw [Fs_len]; omega)
  have d2 := pDiff_spec oa (by omega) (by omega) (by omega)
  have d3 := pDiff_spec ob (by omega) (by omega) (by omega)
  rw [Qs_Fs] at d1
  rw [← eA] at d2
  rw [← eB] at d3
  have z2 : ∀ q ∈ trim (pdif A), Sz 3 q := Sz_trim (Sz_pdif sa (by omega) (by omega))
  have z3 : ∀ q ∈ trim (pdif B'), Sz 3 q := Sz_trim (Sz_pdif sb (by omega) (by omega))
  have l2 : (trim (pdif A)).length ≤ 6 := by have := trim_len (pdif A); rw [pdif_ln] at this; omega
  have l3 : (trim (pdif B')).length ≤ 6 := by have := trim_len (pdif B'); rw [pdif_ln] at this; omega
  have m2 := pMul_spec (a := Fs (trim (pdif A))) (b := b) (k := 3) (ok_Fs z2) (fun x hx => (ob x hx).mono (by omega)) (by omega) (by rw [Fs_len]; omega) (by omega) (by omega)
  have m3 := pMul_spec (a := a) (b := Fs (trim (pdif B'))) (k := 3) (fun x hx => (oa x hx).mono (by omega)) (ok_Fs z3) (by omega) (by omega) (by rw [Fs_len]; omega) (by omega)
  rw [Qs_Fs, ← eB] at m2
  rw [Qs_Fs, ← eA] at m3
  have z4 : ∀ q ∈ trim (pmul (trim (pdif A)) B'), Sz 85 q := Sz_trim (fun q hq => (Sz_pmul z2 (fun q hq => (sb q hq).mono (show 2 ≤ 3 by omega)) (by omega) (by omega) q hq).mono (by
    have := Nat.mul_le_mul_right (3 + 3 + 1) (show (trim (pdif A)).length + B'.length ≤ 12 by omega)
    omega))
  have z5 : ∀ q ∈ trim (pmul A (trim (pdif B'))), Sz 85 q := Sz_trim (fun q hq => (Sz_pmul (fun q hq => (sa q hq).mono (show 2 ≤ 3 by omega)) z3 (by omega) (by omega) q hq).mono (by
    have := Nat.mul_le_mul_right (3 + 3 + 1) (show A.length + (trim (pdif B')).length ≤ 12 by omega)
    omega))
  have l4 : (trim (pmul (trim (pdif A)) B')).length ≤ 12 := by have := trim_len (pmul (trim (pdif A)) B'); rw [pmul_ln] at this; omega
  have l5 : (trim (pmul A (trim (pdif B')))).length ≤ 12 := by have := trim_len (pmul A (trim (pdif B'))); rw [pmul_ln] at this; omega
  have s2 := pAdd_spec (a := Fs (trim (pmul (trim (pdif A)) B'))) (b := Fs (trim (pmul A (trim (pdif B'))))) (k := 85) (ok_Fs z4) (ok_Fs z5) (by omega) (by omega) (by rw [Fs_len]; omega) (by rw [Fs_len]; omega)
  rw [Qs_Fs, Qs_Fs] at s2
  have z6 : ∀ q ∈ trim (padd (trim (pmul (trim (pdif A)) B')) (trim (pmul A (trim (pdif B'))))), Sz 171 q := Sz_trim (Sz_padd z4 z5 (by omega))
  have l6 : (trim (padd (trim (pmul (trim (pdif A)) B')) (trim (pmul A (trim (pdif B')))))).length ≤ 12 := by
    have := trim_len (padd (trim (pmul (trim (pdif A)) B')) (trim (pmul A (trim (pdif B')))))
    rw [padd_ln] at this; omega
  have eq : trim (pdif (trim (pmul A B'))) = trim (padd (trim (pmul (trim (pdif A)) B')) (trim (pmul A (trim (pdif B'))))) := by
    have h1 : trim (pdif (trim (pmul A B'))) = trim (pdif (pmul A B')) := trim_inj (fun i => by rw [co_pdif, co_pdif]; unfold dif; rw [co_trim])
    rw [h1, pdif_pmul]
    refine trim_inj (fun i => ?_)
    rw [co_padd, co_padd, co_trim, co_trim, co_pmul, co_pmul, co_pmul, co_pmul, conv_congr (co_trim (pdif A)) (fun _ => rfl), conv_congr (fun _ => rfl) (co_trim (pdif B'))]
  have q1 := pSame_spec (a := Fs (trim (pdif (trim (pmul A B'))))) (b := Fs (trim (padd (trim (pmul (trim (pdif A)) B')) (trim (pmul A (trim (pdif B'))))))) (k := 171) (by rw [eq]; exact ok_Fs z6) (ok_Fs z6) (by omega) (by omega) (by rw [Fs_len, eq]; omega) (by rw [Fs_len]; omega)
  rw [eq, decide_eq_true rfl] at q1
  rw [eq] at d1
  refine call_intro _ (To11_spec (by omega)) ?_
  refine call_intro _ (To11_spec (by omega)) ?_
  refine call_intro _ (ToD (x := c)) ?_
  refine call_intro _ p1 ?_
  refine side_intro rfl ?_
  refine call_intro _ v1 ?_
  refine call_intro _ v2 ?_
  refine call_intro _ v3 ?_
  refine call_intro _ m1 ?_
  refine call_intro _ e1 ?_
  refine split_false rfl ?_
  refine call_intro _ s1 ?_
  refine call_intro _ v4 ?_
  refine call_intro _ v2 ?_
  refine call_intro _ v3 ?_
  refine call_intro _ a1 ?_
  refine call_intro _ e2 ?_
  refine split_false rfl ?_
  refine call_intro _ d1 ?_
  refine call_intro _ d2 ?_
  refine call_intro _ m2 ?_
  refine call_intro _ d3 ?_
  refine call_intro _ m3 ?_
  refine call_intro _ s2 ?_
  refine call_intro _ q1 ?_
  refine split_true rfl ?_
  refine call_intro _ works14 ?_
  exact ret_intro rfl rfl
theorem PolyValues_typed {x y : D} {z : List D} (h0 : OkD shR x) (h1 : OkD shR y) (h2 : AllR OkD shF z) : Runs Try.prog g_retrospectlaw14_PolyValues [.d x, .d y, .agg shF.length z] (.d (.bool true)) := by
  obtain ⟨a, rfl, ha, hma⟩ := inv_fracs h0
  obtain ⟨b, rfl, hb, hmb⟩ := inv_fracs h1
  obtain ⟨c, rfl, hc, hc', _⟩ := inv_frac h2
  exact PolyValues_runs (fun y hy => ⟨(ha y hy).1, (ha y hy).2.1⟩) (fun y hy => ⟨(hb y hy).1, (hb y hy).2.1⟩) ⟨hc, hc'⟩ hma hmb
end Go.Proofs.Ytolicidpfhgaoaa.Fw
