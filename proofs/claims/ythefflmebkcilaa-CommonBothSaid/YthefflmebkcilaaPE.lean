/- Taking away a multiple, giving back: one word each. -/
import Derived.Test.YthefflmebkcilaaPD
namespace Go.Proofs.Ythefflmebkcilaa.Pu
/-- one word: what is taken away is the low word of x * y + c -/
theorem take_word {x y c m w : Nat} (hw : w ≤ 1) (hm : m < 4294967296) :
    ∃ lo hi d w' : Nat, ((x : Int) * (y : Int) + (c : Int) + 0) % 4294967296 = (lo : Int) ∧ ((x : Int) * (y : Int) + (c : Int) + 0) / 4294967296 = (hi : Int) ∧ lo < 4294967296 ∧ ((m : Int) - (lo : Int) - (w : Int)) % 4294967296 = (d : Int) ∧ -(((m : Int) - (lo : Int) - (w : Int)) / 4294967296) = (w' : Int) ∧
      w' ≤ 1 ∧ d < 4294967296 ∧ d + x * y + w + c = m + 4294967296 * (w' + hi) := by
  have e : ((x : Int) * (y : Int) + (c : Int) + 0) = ((x * y + c : Nat) : Int) := by simp
  rw [e]
  generalize x * y = p
  obtain ⟨lo, hlo⟩ : ∃ lo, lo = (p + c) % 4294967296 := ⟨_, rfl⟩
  obtain ⟨hi, hhi⟩ : ∃ hi, hi = (p + c) / 4294967296 := ⟨_, rfl⟩
  refine ⟨lo, hi, (((m : Int) - (lo : Int) - (w : Int)) % 4294967296).toNat, (-(((m : Int) - (lo : Int) - (w : Int)) / 4294967296)).toNat, by omega, by omega, by omega, ?_, ?_, ?_, ?_, ?_⟩ <;> omega
theorem step_sum {W q A C D d xy w c m w' hi : Nat} (h : A + C = D + q * (w + c)) (hs : d + xy + w + c = m + W * (w' + hi)) : (A + q * d) + (C + q * xy) = (D + q * m) + q * W * (w' + hi) := by
  have e1 : q * (d + xy + w + c) = q * (m + W * (w' + hi)) := by rw [hs]
  rw [Nat.mul_assoc q W]
  simp only [Nat.mul_add] at e1 h ⊢
  omega
/-- the end of taking away -/
theorem take_end {N T Q v w : Nat} (h : v + Q = T + N * w) (hv : v < N) (hQ : Q < N) (hw : w ≤ 1) : (w = if T < Q then 1 else 0) ∧ v = if T < Q then T + N - Q else T - Q := by
  have : w = 0 ∨ w = 1 := by omega
  rcases this with rfl | rfl
  · rw [if_neg (by omega), if_neg (by omega)]; omega
  · rw [if_pos (by omega), if_pos (by omega)]; omega
def takeN (N T Q : Nat) : Nat := if T < Q then T + N - Q else T - Q
theorem dig_mod {n v : Nat} {l : List Int} (hw : Wd l) (hl : l.length = n) (hv : val l = v % 4294967296 ^ n) : l = dig n v := by
  apply val_inj hw (Wd.dig _ _) (by rw [dig_len, hl])
  rw [hv, val_dig]
end Go.Proofs.Ythefflmebkcilaa.Pu
