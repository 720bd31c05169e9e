/- The words of 32 bits: sum, difference, product, quotient. -/
import Derived.Test.YthefflmebkcilaaGB
set_option linter.unusedVariables false
namespace Go.Proofs.Ythefflmebkcilaa.Fw
open Go Pu
theorem tup2 {a b c d : V} (h1 : a = b) (h2 : c = d) : V.tup [a, c] = V.tup [b, d] := by rw [h1, h2]
theorem tup3 {a b c d e f : V} (h1 : a = b) (h2 : c = d) (h3 : e = f) : V.tup [a, c, e] = V.tup [b, d, f] := by rw [h1, h2, h3]
def W32 (x : Int) : Prop := 0 ≤ x ∧ x < 4294967296

theorem limb_Add_spec {x y k : Int} (hx : W32 x) (hy : W32 y) (hk : W32 k) : Runs Try.prog g_limb_Add [.d (.int .u32 x), .d (.int .u32 y), .d (.int .u32 k)] (.tup [.d (.int .u32 ((x + y + k) % 4294967296)), .d (.int .u32 ((x + y + k) / 4294967296))]) := by
  refine run1 [] p_limb_Add rfl rfl (fun B S F0 w0 V0 => ?_)
  obtain ⟨hx0, hx1⟩ := hx
  obtain ⟨hy0, hy1⟩ := hy
  obtain ⟨hk0, hk1⟩ := hk
  refine split_intro (fun h => ?_) (fun h => ?_) <;> refine split_intro (fun h' => ?_) (fun h' => ?_) <;> refine ret_intro (tup2 (u32_inj ?_) (u32_inj ?_)) rfl <;>
    simp only [w32, decide_eq_true_eq, decide_eq_false_iff_not] at h h' ⊢ <;> omega
theorem limb_Sub_spec {x y k : Int} (hx : W32 x) (hy : W32 y) (hk : W32 k) : Runs Try.prog g_limb_Sub [.d (.int .u32 x), .d (.int .u32 y), .d (.int .u32 k)] (.tup [.d (.int .u32 ((x - y - k) % 4294967296)), .d (.int .u32 (-((x - y - k) / 4294967296)))]) := by
  refine run1 [] p_limb_Sub rfl rfl (fun B S F0 w0 V0 => ?_)
  obtain ⟨hx0, hx1⟩ := hx
  obtain ⟨hy0, hy1⟩ := hy
  obtain ⟨hk0, hk1⟩ := hk
  refine split_intro (fun h => ?_) (fun h => ?_) <;> refine split_intro (fun h' => ?_) (fun h' => ?_) <;> refine ret_intro (tup2 (u32_inj ?_) (u32_inj ?_)) rfl <;>
    simp only [w32, decide_eq_true_eq, decide_eq_false_iff_not] at h h' ⊢ <;> omega
theorem mul_bd {x y c d : Int} (hx : W32 x) (hy : W32 y) (hc : W32 c) (hd : W32 d) : 0 ≤ x * y ∧ x * y + c + d < 18446744073709551616 := by
  have h1 := Int.mul_nonneg hx.1 hy.1
  have h2 : x * y ≤ 4294967295 * 4294967295 := Int.mul_le_mul (by have := hx.2; omega) (by have := hy.2; omega) hy.1 (by omega)
  have := hc.2
  have := hd.2
  exact ⟨h1, by omega⟩
theorem limb_Mul_spec {x y c d : Int} (hx : W32 x) (hy : W32 y) (hc : W32 c) (hd : W32 d) : Runs Try.prog g_limb_Mul [.d (.int .u32 x), .d (.int .u32 y), .d (.int .u32 c), .d (.int .u32 d)] (.tup [.d (.int .u32 ((x * y + c + d) / 4294967296)), .d (.int .u32 ((x * y + c + d) % 4294967296))]) := by
  refine run1 [] p_limb_Mul rfl rfl (fun B S F0 w0 V0 => ?_)
  have hb := mul_bd hx hy hc hd
  obtain ⟨hx0, hx1⟩ := hx
  obtain ⟨hy0, hy1⟩ := hy
  obtain ⟨hc0, hc1⟩ := hc
  obtain ⟨hd0, hd1⟩ := hd
  refine side_intro (by show (0 : Int) ≤ 32; omega) ?_
  have e : IntKind.u64.wrap (IntKind.u64.wrap (IntKind.u64.wrap (IntKind.u64.wrap x * IntKind.u64.wrap y) + IntKind.u64.wrap c) + IntKind.u64.wrap d) = x * y + c + d := by
    simp only [w64]
    rw [Int.emod_eq_of_lt hx0 (by omega), Int.emod_eq_of_lt hy0 (by omega), Int.emod_eq_of_lt hc0 (by omega), Int.emod_eq_of_lt hd0 (by omega)]
    generalize x * y = p at hb ⊢
    omega
  refine ret_intro (tup2 (u32_inj ?_) (u32_inj ?_)) rfl
  · show IntKind.u32.wrap ((IntKind.u64.wrap (IntKind.u64.wrap (IntKind.u64.wrap (IntKind.u64.wrap x * IntKind.u64.wrap y) + IntKind.u64.wrap c) + IntKind.u64.wrap d)).fdiv 4294967296) = _
    rw [e, w32, Int.fdiv_eq_ediv_of_nonneg _ (by omega)]
    generalize x * y = p at hb ⊢
    omega
  · show IntKind.u32.wrap (IntKind.u64.wrap (IntKind.u64.wrap (IntKind.u64.wrap (IntKind.u64.wrap x * IntKind.u64.wrap y) + IntKind.u64.wrap c) + IntKind.u64.wrap d)) = _
    rw [e, w32]
theorem or_add (h l : Int) (h0 : 0 ≤ h) (h1 : h < 4294967296) (l0 : 0 ≤ l) (l1 : l < 4294967296) :
    IntKind.u64.wrap (BitVec.ofInt 64 (h * 4294967296) ||| BitVec.ofInt 64 l).toNat = h * 4294967296 + l := by
  obtain ⟨m, rfl⟩ := Int.eq_ofNat_of_zero_le h0
  obtain ⟨n, rfl⟩ := Int.eq_ofNat_of_zero_le l0
  have e1 : BitVec.ofInt 64 ((m : Int) * 4294967296) = BitVec.ofNat 64 (m * 4294967296) := by
    rw [show (m : Int) * 4294967296 = ((m * 4294967296 : Nat) : Int) by omega]
    exact BitVec.ofInt_natCast ..
  have e2 : BitVec.ofInt 64 (n : Int) = BitVec.ofNat 64 n := BitVec.ofInt_natCast ..
  rw [e1, e2, BitVec.toNat_or, BitVec.toNat_ofNat, BitVec.toNat_ofNat, Nat.mod_eq_of_lt (by omega), Nat.mod_eq_of_lt (by omega)]
  have e3 := Nat.two_pow_add_eq_or_of_lt (i := 32) (b := n) (by omega) m
  rw [show m * 4294967296 = 2 ^ 32 * m by omega, ← e3, w64]
  omega
theorem limb_Div_no {h l y : Int} (hh : y ≤ h) : Runs Try.prog g_limb_Div [.d (.int .u32 h), .d (.int .u32 l), .d (.int .u32 y)] (.tup [.d (.int .u32 0), .d (.int .u32 0), .d (.bool false)]) := by
  refine run1 [] p_limb_Div rfl rfl (fun B S F0 w0 V0 => ?_)
  refine split_true (decide_eq_true hh) ?_
  exact ret_intro rfl rfl
theorem limb_Div_spec {h l y : Int} (hh : W32 h) (hl : W32 l) (hy : W32 y) (hlt : h < y) : Runs Try.prog g_limb_Div [.d (.int .u32 h), .d (.int .u32 l), .d (.int .u32 y)] (.tup [.d (.int .u32 ((h * 4294967296 + l) / y)), .d (.int .u32 ((h * 4294967296 + l) % y)), .d (.bool true)]) := by
  refine run1 [] p_limb_Div rfl rfl (fun B S F0 w0 V0 => ?_)
  obtain ⟨hh0, hh1⟩ := hh
  obtain ⟨hl0, hl1⟩ := hl
  obtain ⟨hy0, hy1⟩ := hy
  refine split_false (decide_eq_false (by omega)) ?_
  refine side_intro (by show (0 : Int) ≤ 32; omega) ?_
  refine side_intro rfl ?_
  have eh : IntKind.u64.wrap h = h := by rw [w64]; omega
  have el : IntKind.u64.wrap l = l := by rw [w64]; omega
  have ey : IntKind.u64.wrap y = y := by rw [w64]; omega
  have e : IntKind.u64.wrap (BitVec.ofInt 64 (IntKind.u64.wrap (IntKind.u64.wrap h * 4294967296)) ||| BitVec.ofInt 64 (IntKind.u64.wrap l)).toNat = h * 4294967296 + l := by
    rw [eh, el, show IntKind.u64.wrap (h * 4294967296) = h * 4294967296 by rw [w64]; omega]
    exact or_add h l hh0 hh1 hl0 hl1
  have ql : (h * 4294967296 + l) / y < 4294967296 := by
    apply Int.ediv_lt_of_lt_mul (by omega)
    have : (h + 1) * 4294967296 ≤ y * 4294967296 := Int.mul_le_mul_of_nonneg_right (by omega) (by omega)
    omega
  have q0 : 0 ≤ (h * 4294967296 + l) / y := Int.ediv_nonneg (by omega) (by omega)
  have r0 : 0 ≤ (h * 4294967296 + l) % y := Int.emod_nonneg _ (by omega)
  have r1 : (h * 4294967296 + l) % y < y := Int.emod_lt_of_pos _ (by omega)
  refine side_intro (by show IntKind.u64.wrap y ≠ 0; omega) ?_
  refine side_intro (by show IntKind.u64.wrap y ≠ 0; omega) ?_
  refine ret_intro (tup3 (u32_inj ?_) (u32_inj ?_) rfl) rfl
  · show IntKind.u32.wrap (IntKind.u64.wrap ((IntKind.u64.wrap (BitVec.ofInt 64 (IntKind.u64.wrap (IntKind.u64.wrap h * 4294967296)) ||| BitVec.ofInt 64 (IntKind.u64.wrap l)).toNat).tdiv (IntKind.u64.wrap y))) = _
    rw [e, ey, Int.tdiv_eq_ediv_of_nonneg (by omega), w32, w64]
    omega
  · show IntKind.u32.wrap ((IntKind.u64.wrap (BitVec.ofInt 64 (IntKind.u64.wrap (IntKind.u64.wrap h * 4294967296)) ||| BitVec.ofInt 64 (IntKind.u64.wrap l)).toNat).tmod (IntKind.u64.wrap y)) = _
    rw [e, ey, Int.tmod_eq_emod_of_nonneg (by omega), w32]
    omega
/-- how many bits a number has -/
def bits (n : Nat) : Nat := if n = 0 then 0 else Nat.log2 n + 1
theorem bits_shift {x k : Nat} (h : x / 2 ^ k ≠ 0) : bits x = bits (x / 2 ^ k) + k := by
  have hx : x ≠ 0 := fun e => h (by rw [e]; simp)
  unfold bits
  rw [if_neg hx, if_neg h]
  have h1 : 2 ^ k ≤ x := by
    rcases Nat.lt_or_ge x (2 ^ k) with h2 | h2
    · exact absurd (Nat.div_eq_of_lt h2) h
    · exact h2
  have hp : 0 < 2 ^ k := Nat.two_pow_pos k
  have : (x / 2 ^ k).log2 + k = x.log2 := by
    have a1 := Nat.log2_self_le h
    have a2 : x / 2 ^ k < 2 ^ ((x / 2 ^ k).log2 + 1) := Nat.lt_log2_self
    symm
    rw [Nat.log2_eq_iff hx]
    constructor
    · rw [Nat.pow_add]
      calc 2 ^ (x / 2 ^ k).log2 * 2 ^ k ≤ x / 2 ^ k * 2 ^ k := Nat.mul_le_mul_right _ a1
        _ ≤ x := Nat.div_mul_le_self _ _
    · rw [show (x / 2 ^ k).log2 + k + 1 = ((x / 2 ^ k).log2 + 1) + k by omega, Nat.pow_add]
      exact (Nat.div_lt_iff_lt_mul hp).1 a2
  omega
theorem limb_Len_spec {x : Int} (hx : W32 x) : Runs Try.prog g_limb_Len [.d (.int .u32 x)] (.d (.int .i64 (bits x.toNat))) := by
  obtain ⟨n, rfl⟩ := Int.eq_ofNat_of_zero_le hx.1
  refine run1 [] p_limb_Len rfl rfl (fun B S F0 w0 V0 => ?_)
  refine loop_intro (fun p : Nat × Nat × Nat => st [(0, .d (.int .u32 (p.1 : Int))), (3, .d (.int .i64 (p.2.1 : Int))), (4, .d (.int .i64 (p.2.2 : Int)))] []) (fun p => p.2.2)
    (fun p => bits n = bits p.1 + p.2.1 ∧ p.2.1 + p.2.2 ≤ 64 ∧ ((p.2.2 = 16 ∧ p.1 < 4294967296 ∧ p.2.1 = 0) ∨ (p.2.2 = 8 ∧ p.1 < 65536 ∧ p.2.1 ≤ 16) ∨ (p.2.2 = 4 ∧ p.1 < 256 ∧ p.2.1 ≤ 24) ∨ (p.2.2 = 2 ∧ p.1 < 16 ∧ p.2.1 ≤ 28) ∨ (p.2.2 = 1 ∧ p.1 < 4 ∧ p.2.1 ≤ 30) ∨ (p.2.2 = 0 ∧ p.1 < 2 ∧ p.2.1 ≤ 31))) (n, 0, 16)
    ⟨rfl, by show (0:Nat) + 16 ≤ 64; omega, .inl ⟨rfl, by have := hx.2; show n < 4294967296; omega, rfl⟩⟩ ?_ ?_
  · exact weak_st _ _ ⟨rfl, rfl, rfl, trivial⟩ trivial rfl
  · rintro ⟨x, k, e⟩ ⟨h1, h2, h3⟩
    dsimp only at h1 h2 h3
    refine split_intro (fun h => ?_) (fun h => ?_)
    · have h := of_decide_eq_true h
      have he : 0 < e := by have h : (e : Int) > 0 := h; omega
      have hp : 0 < 2 ^ e := Nat.two_pow_pos e
      have sh : ((x : Int)).fdiv (2 ^ (min (e : Int).toNat IntKind.u32.bits)) = ((x / 2 ^ e : Nat) : Int) := by
        rw [Int.fdiv_eq_ediv_of_nonneg _ (Int.pow_nonneg (by omega)), show min (e : Int).toNat IntKind.u32.bits = e by show min e 32 = e; omega]
        norm_cast
      have hb : x / 2 ^ e ≠ 0 → bits x = bits (x / 2 ^ e) + e := bits_shift
      have e2 : IntKind.i64.wrap (((e : Int)).tdiv 2) = ((e / 2 : Nat) : Int) := by
        rw [Int.tdiv_eq_ediv_of_nonneg (by omega), wr (by omega) (by omega)]
        omega
      refine side_intro (by show (0 : Int) ≤ e; omega) ?_
      refine split_intro (fun h' => ?_) (fun h' => ?_)
      · have h' : (((x : Int)).fdiv (2 ^ (min (e : Int).toNat IntKind.u32.bits)) != 0) = true := h'
        rw [sh] at h'
        have h' : x / 2 ^ e ≠ 0 := by intro h0; rw [h0] at h'; cases h'
        refine side_intro (by show (0 : Int) ≤ e; omega) ?_
        refine side_intro (by show (2 : Int) ≠ 0; omega) ?_
        refine ⟨(x / 2 ^ e, k + e, e / 2), ⟨by have := hb h'; dsimp only; omega, by dsimp only; omega, ?_⟩, by dsimp only; omega, weak_st _ _ ⟨u32_inj sh, i64_inj ?_, i64_inj e2, trivial⟩ trivial rfl⟩
        · have : x / 2 ^ e < 4294967296 := Nat.lt_of_le_of_lt (Nat.div_le_self _ _) (by omega)
          dsimp only
          rcases h3 with ⟨rfl, h4, h5⟩ | ⟨rfl, h4, h5⟩ | ⟨rfl, h4, h5⟩ | ⟨rfl, h4, h5⟩ | ⟨rfl, h4, h5⟩ | ⟨rfl, h4, h5⟩
          · exact .inr (.inl ⟨rfl, by omega, by omega⟩)
          · exact .inr (.inr (.inl ⟨rfl, by omega, by omega⟩))
          · exact .inr (.inr (.inr (.inl ⟨rfl, by omega, by omega⟩)))
          · exact .inr (.inr (.inr (.inr (.inl ⟨rfl, by omega, by omega⟩))))
          · exact .inr (.inr (.inr (.inr (.inr ⟨rfl, by omega, by omega⟩))))
          · omega
        · show IntKind.i64.wrap ((k : Int) + (e : Int)) = ((k + e : Nat) : Int)
          rw [wr (by omega) (by omega)]
          omega
      · have h' : (((x : Int)).fdiv (2 ^ (min (e : Int).toNat IntKind.u32.bits)) != 0) = false := h'
        rw [sh] at h'
        have h' : x / 2 ^ e = 0 := by
          have h7 : ((x / 2 ^ e : Nat) : Int) = 0 := bne_eq_false_iff_eq.1 h'
          exact Int.ofNat_eq_zero.1 h7
        refine side_intro (by show (2 : Int) ≠ 0; omega) ?_
        have hxe : x < 2 ^ e := by
          rcases Nat.lt_or_ge x (2 ^ e) with h6 | h6
          · exact h6
          · have := Nat.div_pos h6 hp; omega
        refine ⟨(x, k, e / 2), ⟨h1, by dsimp only; omega, ?_⟩, by dsimp only; omega, weak_st _ _ ⟨rfl, rfl, i64_inj e2, trivial⟩ trivial rfl⟩
        dsimp only
        rcases h3 with ⟨rfl, h4, h5⟩ | ⟨rfl, h4, h5⟩ | ⟨rfl, h4, h5⟩ | ⟨rfl, h4, h5⟩ | ⟨rfl, h4, h5⟩ | ⟨rfl, h4, h5⟩
          <;> simp only [Nat.reducePow] at hxe
        · exact .inr (.inl ⟨rfl, by omega, by omega⟩)
        · exact .inr (.inr (.inl ⟨rfl, by omega, by omega⟩))
        · exact .inr (.inr (.inr (.inl ⟨rfl, by omega, by omega⟩)))
        · exact .inr (.inr (.inr (.inr (.inl ⟨rfl, by omega, by omega⟩))))
        · exact .inr (.inr (.inr (.inr (.inr ⟨rfl, by omega, by omega⟩))))
        · omega
    · have h := of_decide_eq_false h
      have he : e = 0 := by have h : ¬ ((e : Int) > 0) := h; omega
      refine ret_intro (i64_inj ?_) rfl
      show IntKind.i64.wrap ((k : Int) + IntKind.i64.wrap (x : Int)) = (bits n : Int)
      have hx2 : x < 2 := by omega
      rw [wr (x := (x : Int)) (by omega) (by omega), wr (by omega) (by omega), h1]
      have : bits x = x := by
        have : x = 0 ∨ x = 1 := by omega
        rcases this with rfl | rfl <;> rfl
      omega
end Go.Proofs.Ythefflmebkcilaa.Fw
