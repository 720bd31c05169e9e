/- The quotient: the guess, taking away, giving back. -/
import Derived.Test.YthefflmebkcilaaSD
import Derived.Test.YthefflmebkcilaaPD
set_option linter.unusedVariables false
namespace Go.Proofs.Ythefflmebkcilaa.Fw
open Go Pu
theorem mulI (q b : Nat) : ((q : Int) * (b : Int) + 0 + 0) = ((q * b : Nat) : Int) := by simp
theorem guess_spec {a2 a1 a0 b1 b0 : Nat} (h2 : a2 < 4294967296) (h1 : a1 < 4294967296) (h0 : a0 < 4294967296) (k1 : b1 < 4294967296) (k0 : b0 < 4294967296) (hp : 0 < b1) :
    Runs Try.prog g_quot_guess [.d (.int .u32 (a2 : Int)), .d (.int .u32 (a1 : Int)), .d (.int .u32 (a0 : Int)), .d (.int .u32 (b1 : Int)), .d (.int .u32 (b0 : Int))] (.d (.int .u32 ((gW 4294967296 a2 a1 a0 b1 b0 : Nat) : Int))) := by
  refine run1 [] p_quot_guess rfl rfl (fun B S F0 w0 V0 => ?_)
  have w : ∀ {n : Nat}, n < 4294967296 → W32 (n : Int) := fun h => ⟨by omega, by omega⟩
  have hD : 0 < b1 * 4294967296 + b0 := by omega
  rcases Nat.lt_or_ge a2 b1 with hlt | hge
  case' inl =>
    refine call_intro _ (limb_Div_spec (w h2) (w h1) (w k1) (by omega)) ?_
    refine split_false rfl ?_
    have eq : ((a2 : Int) * 4294967296 + (a1 : Int)) / (b1 : Int) = (((a2 * 4294967296 + a1) / b1 : Nat) : Int) := by rw [Int.natCast_ediv]; congr 1
    have er : ((a2 : Int) * 4294967296 + (a1 : Int)) % (b1 : Int) = (((a2 * 4294967296 + a1) % b1 : Nat) : Int) := by rw [Int.natCast_emod]; congr 1
    have hG := gW_start (a0 := a0) (b0 := b0) hp (W := 4294967296) (by omega) h1 hlt h0
    have hI : (a2 * 4294967296 + a1) / b1 * b1 + (a2 * 4294967296 + a1) % b1 = a2 * 4294967296 + a1 := by rw [Nat.mul_comm]; exact Nat.div_add_mod _ _
    have hr : (a2 * 4294967296 + a1) % b1 < 4294967296 := Nat.lt_trans (Nat.mod_lt _ hp) k1
    have hq : (a2 * 4294967296 + a1) / b1 < 4294967296 := by
      rw [Nat.div_lt_iff_lt_mul hp]
      have : (a2 + 1) * 4294967296 ≤ b1 * 4294967296 := Nat.mul_le_mul_right _ hlt
      rw [Nat.mul_comm 4294967296 b1]
      omega
    generalize (a2 * 4294967296 + a1) / b1 = q0 at hG hI hq eq
    generalize (a2 * 4294967296 + a1) % b1 = r0 at hI hr er
  case' inr =>
    refine call_intro _ (limb_Div_no (by omega)) ?_
    refine split_true rfl ?_
    refine call_intro _ (limb_Add_spec (w h1) (w k1) ⟨by omega, by omega⟩) ?_
    have top : (b1 < a2 ∨ (a2 = b1 ∧ 4294967296 ≤ a1 + b1)) → (4294967295 : Int) = ((gW 4294967296 a2 a1 a0 b1 b0 : Nat) : Int) := fun h => by rw [gW_top (by omega) k0 hp h]; rfl
    refine split_intro (fun h => ?_) (fun h => ?_)
    case' refine_1 =>
      have h : (a2 : Int) > b1 := of_decide_eq_true h
      refine split_true rfl ?_
      exact ret_intro (u32_inj (top (.inl (by omega)))) rfl
    have h : ¬ (a2 : Int) > b1 := of_decide_eq_false h
    refine split_intro (fun h' => ?_) (fun h' => ?_)
    case' refine_1 =>
      have h' : ((a1 : Int) + b1 + 0) / 4294967296 > 0 := of_decide_eq_true h'
      exact ret_intro (u32_inj (top (.inr ⟨by omega, by omega⟩))) rfl
    have h' : ¬ ((a1 : Int) + b1 + 0) / 4294967296 > 0 := of_decide_eq_false h'
    obtain ⟨q0, hq0⟩ : ∃ q0 : Nat, q0 = 4294967295 := ⟨_, rfl⟩
    obtain ⟨r0, hr0⟩ : ∃ r0 : Nat, r0 = a1 + b1 := ⟨_, rfl⟩
    have hI : q0 * b1 + r0 = a2 * 4294967296 + a1 := by subst hq0 hr0; omega
    have hr : r0 < 4294967296 := by omega
    have hq : q0 < 4294967296 := by omega
    have hG : gW 4294967296 a2 a1 a0 b1 b0 ≤ q0 := by have := gW_lt (W := 4294967296) (a2 := a2) (a1 := a1) (a0 := a0) (b1 := b1) (b0 := b0) (by omega); omega
    have eq : (4294967295 : Int) = (q0 : Int) := by rw [hq0]; rfl
    have er : ((a1 : Int) + b1 + 0) % 4294967296 = (r0 : Int) := by omega
  all_goals
    refine loop_intro (fun p : Nat × Nat => st [(2, .d (.int .u32 (a0 : Int))), (3, .d (.int .u32 (b1 : Int))), (4, .d (.int .u32 (b0 : Int))), (11, .d (.int .u32 (p.1 : Int))), (12, .d (.int .u32 (p.2 : Int)))] []) (fun p => p.1)
      (fun p => p.1 * b1 + p.2 = a2 * 4294967296 + a1 ∧ p.2 < 4294967296 ∧ p.1 < 4294967296 ∧ gW 4294967296 a2 a1 a0 b1 b0 ≤ p.1) (q0, r0) ⟨hI, hr, hq, hG⟩ (weak_st _ _ ⟨rfl, rfl, rfl, u32_inj eq, u32_inj er, trivial⟩ trivial rfl) ?_
    clear hI hr hq hG eq er
    rintro ⟨q, r⟩ ⟨hI, hr, hq, hG⟩
    dsimp only at hI hr hq hG
    refine call_intro _ (limb_Mul_spec (w hq) (w k0) ⟨by omega, by omega⟩ ⟨by omega, by omega⟩) ?_
    have em := mulI q b0
    have done : q * b0 ≤ r * 4294967296 + a0 → ((q : Nat) : Int) = ((gW 4294967296 a2 a1 a0 b1 b0 : Nat) : Int) := fun h => by rw [← gW_stop hD hI h hq hG]
    have go : r * 4294967296 + a0 < q * b0 → ∃ q', q = q' + 1 ∧ gW 4294967296 a2 a1 a0 b1 b0 ≤ q' ∧ q' * b1 + (r + b1) = a2 * 4294967296 + a1 ∧ (4294967296 ≤ r + b1 → ((q' : Nat) : Int) = ((gW 4294967296 a2 a1 a0 b1 b0 : Nat) : Int)) := fun h => by
      have hgt := gW_go hD hI h
      obtain ⟨q', rfl⟩ : ∃ q', q = q' + 1 := ⟨q - 1, by omega⟩
      have hI' : q' * b1 + (r + b1) = a2 * 4294967296 + a1 := by rw [Nat.succ_mul] at hI; omega
      refine ⟨q', rfl, by omega, hI', fun ho => ?_⟩
      have h5 : q' * b0 ≤ (r + b1) * 4294967296 := by
        rw [Nat.mul_comm (r + b1)]
        exact Nat.mul_le_mul (by omega) (by omega)
      rw [← gW_stop hD hI' (Nat.le_trans h5 (Nat.le_add_right _ _)) (by omega) (by omega)]
    have after : ∀ {P : Prop}, (r * 4294967296 + a0 < q * b0) → (∀ q' : Nat, q = q' + 1 → gW 4294967296 a2 a1 a0 b1 b0 ≤ q' → q' * b1 + (r + b1) = a2 * 4294967296 + a1 → (4294967296 ≤ r + b1 → ((q' : Nat) : Int) = ((gW 4294967296 a2 a1 a0 b1 b0 : Nat) : Int)) → P) → P := fun h k => by
      obtain ⟨q', h1, h2, h3, h4⟩ := go h
      exact k q' h1 h2 h3 h4
    generalize hm : q * b0 = m at em done go after
    refine split_intro (fun h => ?_) (fun h => ?_)
    case' refine_1 =>
      have h : ((q : Int) * b0 + 0 + 0) / 4294967296 < r := of_decide_eq_true h
      rw [em] at h
      refine split_true rfl ?_
      exact ret_intro (u32_inj (done (by omega))) rfl
    have h : ¬ ((q : Int) * b0 + 0 + 0) / 4294967296 < r := of_decide_eq_false h
    rw [em] at h
    refine split_intro (fun h' => ?_) (fun h' => ?_)
    case' refine_1 =>
      have h' : ((q : Int) * b0 + 0 + 0) / 4294967296 = r := eq_of_beq h'
      rw [em] at h'
      refine split_intro (fun h6 => ?_) (fun h6 => ?_)
      case' refine_1 =>
        have h6 : ((q : Int) * b0 + 0 + 0) % 4294967296 ≤ a0 := of_decide_eq_true h6
        rw [em] at h6
        exact ret_intro (u32_inj (done (by omega))) rfl
      have h6 : ¬ ((q : Int) * b0 + 0 + 0) % 4294967296 ≤ a0 := of_decide_eq_false h6
      rw [em] at h6
      have hgt : r * 4294967296 + a0 < m := by omega
      clear h6 h'
    case' refine_2 =>
      have h' : ¬ ((q : Int) * b0 + 0 + 0) / 4294967296 = r := beq_eq_false_iff_ne.1 h'
      rw [em] at h'
      refine split_false rfl ?_
      have hgt : r * 4294967296 + a0 < m := by omega
      clear h'
    all_goals
      refine after hgt (fun q' hq' hG' hI' hend => ?_)
      have eqq : IntKind.u32.wrap ((q : Int) - 1) = (q' : Int) := by rw [w32]; omega
      refine call_intro _ (limb_Add_spec (w hr) (w k1) ⟨by omega, by omega⟩) ?_
      refine split_intro (fun h8 => ?_) (fun h8 => ?_)
      · have h8 : ((r : Int) + b1 + 0) / 4294967296 > 0 := of_decide_eq_true h8
        exact ret_intro (u32_inj (eqq.trans (hend (by omega)))) rfl
      · have h8 : ¬ ((r : Int) + b1 + 0) / 4294967296 > 0 := of_decide_eq_false h8
        refine ⟨(q', r + b1), ⟨hI', by show r + b1 < 4294967296; omega, by show q' < 4294967296; omega, hG'⟩, by show q' < q; omega, weak_st _ _ ⟨rfl, rfl, rfl, u32_inj eqq, u32_inj ?_, trivial⟩ trivial rfl⟩
        show ((r : Int) + b1 + 0) % 4294967296 = ((r + b1 : Nat) : Int)
        omega
end Go.Proofs.Ythefflmebkcilaa.Fw
