/- Words of 32 bits and numbers. -/
namespace Go.Proofs.Ythefflmebkcilaa.Pu
/-- words of 32 bits, the lowest first -/
def Wd (a : List Int) : Prop := ∀ x ∈ a, 0 ≤ x ∧ x < 4294967296
def val : List Int → Nat
  | [] => 0
  | x :: xs => x.toNat + 4294967296 * val xs
def toW (n : Nat) : List Int := if h : n = 0 then [] else ((n % 4294967296 : Nat) : Int) :: toW (n / 4294967296)
termination_by n
decreasing_by omega

theorem toW_zero : toW 0 = [] := by rw [toW]; simp
theorem toW_pos {n : Nat} (h : n ≠ 0) : toW n = ((n % 4294967296 : Nat) : Int) :: toW (n / 4294967296) := by
  rw [toW]; simp [h]
theorem Wd.nil : Wd [] := by intro x hx; cases hx
theorem Wd.cons {x : Int} {a : List Int} (h0 : 0 ≤ x) (h1 : x < 4294967296) (h : Wd a) : Wd (x :: a) := by
  intro y hy
  rcases List.mem_cons.1 hy with rfl | hy
  · exact ⟨h0, h1⟩
  · exact h y hy
theorem Wd.head {x : Int} {a : List Int} (h : Wd (x :: a)) : 0 ≤ x ∧ x < 4294967296 := h x (by simp)
theorem Wd.tail {x : Int} {a : List Int} (h : Wd (x :: a)) : Wd a := fun y hy => h y (by simp [hy])
theorem Wd.app {a b : List Int} (ha : Wd a) (hb : Wd b) : Wd (a ++ b) := by
  intro y hy
  rcases List.mem_append.1 hy with hy | hy
  · exact ha y hy
  · exact hb y hy
theorem Wd.left {a b : List Int} (h : Wd (a ++ b)) : Wd a := fun y hy => h y (by simp [hy])
theorem Wd.right {a b : List Int} (h : Wd (a ++ b)) : Wd b := fun y hy => h y (by simp [hy])
theorem Wd.take {a : List Int} (h : Wd a) (n : Nat) : Wd (a.take n) := fun y hy => h y (List.mem_of_mem_take hy)
theorem Wd.drop {a : List Int} (h : Wd a) (n : Nat) : Wd (a.drop n) := fun y hy => h y (List.mem_of_mem_drop hy)
theorem Wd.zeros (n : Nat) : Wd (List.replicate n 0) := by
  intro y hy
  have := List.eq_of_mem_replicate hy
  omega
theorem Wd.set {a : List Int} (h : Wd a) (i : Nat) {x : Int} (h0 : 0 ≤ x) (h1 : x < 4294967296) : Wd (a.set i x) := by
  intro y hy
  rcases List.mem_or_eq_of_mem_set hy with hy | rfl
  · exact h y hy
  · exact ⟨h0, h1⟩
theorem Wd.getD {a : List Int} (h : Wd a) (i : Nat) : 0 ≤ a.getD i 0 ∧ a.getD i 0 < 4294967296 := by
  by_cases hi : i < a.length
  · rw [List.getD_eq_getElem?_getD, List.getElem?_eq_getElem hi]
    exact h _ (List.getElem_mem hi)
  · rw [List.getD_eq_getElem?_getD, List.getElem?_eq_none (by omega)]
    simp
theorem Wd.toW (n : Nat) : Wd (toW n) := by
  induction n using Nat.strongRecOn with
  | _ n ih =>
    by_cases h : n = 0
    · subst h; rw [toW_zero]; exact Wd.nil
    · rw [toW_pos h]
      exact Wd.cons (by omega) (by omega) (ih _ (by omega))
theorem val_toW (n : Nat) : val (toW n) = n := by
  induction n using Nat.strongRecOn with
  | _ n ih =>
    by_cases h : n = 0
    · subst h; rw [toW_zero]; rfl
    · rw [toW_pos h, val, ih _ (by omega)]
      omega
theorem toW_inj {m n : Nat} (h : toW m = toW n) : m = n := by rw [← val_toW m, h, val_toW]
theorem val_app (a b : List Int) : val (a ++ b) = val a + 4294967296 ^ a.length * val b := by
  induction a with
  | nil => simp [val]
  | cons x a ih => simp only [List.cons_append, val, ih, List.length_cons, Nat.pow_succ]; grind
theorem val_lt {a : List Int} (h : Wd a) : val a < 4294967296 ^ a.length := by
  induction a with
  | nil => simp [val]
  | cons x a ih =>
    have := ih h.tail
    have hx := h.head
    simp only [val, List.length_cons, Nat.pow_succ]
    omega
theorem val_zeros (n : Nat) : val (List.replicate n 0) = 0 := by
  induction n with
  | zero => rfl
  | succ n ih => simp [List.replicate_succ, val, ih]
theorem val_app_zeros (a : List Int) (n : Nat) : val (a ++ List.replicate n 0) = val a := by rw [val_app, val_zeros]; simp
/-- what is normed is told by its value -/
theorem toW_val {a : List Int} (h : Wd a) (hl : ∀ x, a.getLast? = some x → x ≠ 0) : toW (val a) = a := by
  induction a with
  | nil => exact toW_zero
  | cons x a ih =>
    have hx := h.head
    have ht : toW (val a) = a := by
      apply ih h.tail
      intro y hy
      apply hl
      cases a with
      | nil => simp at hy
      | cons z a => simpa [List.getLast?_cons_cons] using hy
    have hne : val (x :: a) ≠ 0 := by
      intro h0
      simp only [val] at h0
      have ha : val a = 0 := by omega
      have hx0 : x = 0 := by omega
      rw [ha, toW_zero] at ht
      subst ht
      exact hl x (by simp) hx0
    rw [toW_pos hne]
    have e1 : ((val (x :: a) % 4294967296 : Nat) : Int) = x := by simp only [val]; omega
    have e2 : val (x :: a) / 4294967296 = val a := by simp only [val]; omega
    rw [e1, e2, ht]
theorem toW_last {n : Nat} {x : Int} (h : (toW n).getLast? = some x) : x ≠ 0 := by
  induction n using Nat.strongRecOn generalizing x with
  | _ n ih =>
    by_cases h0 : n = 0
    · subst h0; rw [toW_zero] at h; simp at h
    · rw [toW_pos h0] at h
      by_cases h1 : n / 4294967296 = 0
      · rw [h1, toW_zero] at h
        simp at h
        omega
      · refine ih (n / 4294967296) (by omega) (x := x) ?_
        rw [toW_pos h1] at h ⊢
        rwa [List.getLast?_cons_cons] at h
theorem toW_len_le {n L : Nat} (h : n < 4294967296 ^ L) : (toW n).length ≤ L := by
  induction L generalizing n with
  | zero =>
    have : n = 0 := by simpa using h
    subst this; rw [toW_zero]; simp
  | succ L ih =>
    by_cases h0 : n = 0
    · subst h0; rw [toW_zero]; simp
    · rw [toW_pos h0]
      have := ih (n := n / 4294967296) (by rw [Nat.pow_succ] at h; omega)
      simp; omega
theorem toW_len_iff {n L : Nat} : (toW n).length ≤ L ↔ n < 4294967296 ^ L := by
  refine ⟨fun h => ?_, toW_len_le⟩
  have := val_lt (Wd.toW n)
  rw [val_toW] at this
  exact Nat.lt_of_lt_of_le this (Nat.pow_le_pow_right (by omega) h)
theorem toW_nil_iff {n : Nat} : toW n = [] ↔ n = 0 := by
  refine ⟨fun h => ?_, fun h => by rw [h, toW_zero]⟩
  have := val_toW n
  rw [h] at this
  exact this.symm
theorem toW_len_zero {n : Nat} : (toW n).length = 0 ↔ n = 0 := by rw [List.length_eq_zero_iff, toW_nil_iff]
theorem toW_len_val_le {a : List Int} (h : Wd a) : (toW (val a)).length ≤ a.length := toW_len_le (val_lt h)
theorem toW_len_mono {m n : Nat} (h : m ≤ n) : (toW m).length ≤ (toW n).length := by
  rw [toW_len_iff]
  have := val_lt (Wd.toW n)
  rw [val_toW] at this
  omega
theorem val_eq_zero {a : List Int} (h : Wd a) : val a = 0 ↔ a = List.replicate a.length 0 := by
  constructor
  · intro h0
    induction a with
    | nil => rfl
    | cons x a ih =>
      have hx := h.head
      simp only [val] at h0
      rw [List.length_cons, List.replicate_succ, ← ih h.tail (by omega)]
      have : x = 0 := by omega
      rw [this]
  · intro h0; rw [h0, val_zeros]
end Go.Proofs.Ythefflmebkcilaa.Pu
