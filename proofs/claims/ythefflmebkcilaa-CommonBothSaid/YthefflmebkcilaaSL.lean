/- Sums of two, small numbers, common divisors. -/
import Derived.Test.YthefflmebkcilaaSH
import Derived.Test.YthefflmebkcilaaPL
set_option linter.unusedVariables false
namespace Go.Proofs.Ythefflmebkcilaa.Fw
open Go Pu
theorem rowsV (a b : List Int) (i : Nat) : [[D.words a], [D.words b]][i]? = some [.words ([a, b].getD i [])] ↔ i < 2 := by
  rcases i with _ | _ | i <;> simp
def psum (x y : Nat) : Nat → Nat
  | 0 => 0
  | 1 => x
  | _ => x + y
theorem AddTwo_spec {a b : List Int} (hwa : Wd a) (hwb : Wd b) (ha : a.length ≤ 274877906944) (hb : b.length ≤ 274877906944) : Runs Try.prog g_nat_Add [.d (.rows 1 [[.words a], [.words b]])] (.d (.words (toW (val a + val b)))) := by
  refine run1 [] p_nat_Add rfl rfl (fun B S F0 w0 V0 => ?_)
  refine loop_intro (fun i : Nat => st [(3, .d (.words (toW (psum (val a) (val b) i)))), (6, .d (.rows 1 [[.words a], [.words b]])), (7, .d (.int .i64 2)), (8, .d (.int .i64 (i : Int)))] []) (fun i => 2 - i) (fun i => i ≤ 2) 0
    (Nat.zero_le _) (weak_trans (weak_st _ _ ⟨by show V.d (.words []) = V.d (.words (toW 0)); rw [toW_zero], rfl, rfl, rfl, trivial⟩ trivial rfl) (weak_nilW 3 rfl)) ?_
  intro i hi
  have la := nw_val hwa ha
  have lb := nw_val hwb hb
  refine split_intro (fun h => ?_) (fun h => ?_)
  · have h : (i : Int) < 2 := of_decide_eq_true h
    have h01 : i = 0 ∨ i = 1 := by omega
    rcases h01 with rfl | rfl
    · refine idx_intro [.words a] (by omega) rfl ?_
      refine call_intro _ (trim_spec hwa (by omega)) ?_
      refine call_intro _ (plus_spec (Wd.toW 0) (Wd.toW (val a)) (by show (toW 0).length ≤ _; rw [toW_zero]; exact Nat.zero_le _) (by omega)) ?_
      refine ⟨1, by omega, by omega, weak_st _ _ ⟨?_, rfl, rfl, rfl, trivial⟩ trivial rfl⟩
      show V.d (.words (toW (val (toW 0) + val (toW (val a))))) = V.d (.words (toW (val a)))
      rw [val_toW, val_toW, Nat.zero_add]
    · refine idx_intro [.words b] (by omega) rfl ?_
      refine call_intro _ (trim_spec hwb (by omega)) ?_
      refine call_intro _ (plus_spec (Wd.toW (val a)) (Wd.toW (val b)) (by show (toW (val a)).length ≤ _; omega) (by omega)) ?_
      refine ⟨2, by omega, by omega, weak_st _ _ ⟨?_, rfl, rfl, rfl, trivial⟩ trivial rfl⟩
      show V.d (.words (toW (val (toW (val a)) + val (toW (val b))))) = V.d (.words (toW (val a + val b)))
      rw [val_toW, val_toW]
  · have h : ¬ (i : Int) < 2 := of_decide_eq_false h
    have : i = 2 := by omega
    subst this
    exact ret_intro rfl rfl
theorem Small_spec {a : List Int} (hw : Wd a) (ha : a.length ≤ 1099511627776) : Runs Try.prog g_nat_Small [.d (.words a)] (if val a < 18446744073709551616 then .tup [.d (.int .u64 (val a)), .d (.bool true)] else .tup [.d (.int .u64 0), .d (.bool false)]) := by
  refine run1 [] p_nat_Small rfl rfl (fun B S F0 w0 V0 => ?_)
  refine call_intro _ (trim_spec hw ha) ?_
  have hl := nw_val hw ha
  generalize val a = n at hl ⊢
  refine split_intro (fun h => ?_) (fun h => ?_)
  · have h : ((toW n).length : Int) > 2 := of_decide_eq_true h
    rw [if_neg (fun hh => by have := nw_two.2 hh; omega)]
    exact ret_intro rfl rfl
  have h : ¬ ((toW n).length : Int) > 2 := of_decide_eq_false h
  have h2 : (toW n).length ≤ 2 := by omega
  have hlt := nw_two.1 h2
  rw [if_pos hlt]
  have hwn := Wd.toW n
  refine loop_intro (fun i : Nat => st [(4, .d (.int .u64 ((val ((toW n).take i) : Nat) : Int))), (12, .d (.words (toW n))), (13, .d (.int .i64 ((toW n).length : Int))), (14, .d (.int .i64 (i : Int)))] []) (fun i => (toW n).length - i) (fun i => i ≤ (toW n).length) 0
    (Nat.zero_le _) (weak_st _ _ ⟨rfl, rfl, rfl, rfl, trivial⟩ trivial rfl) ?_
  intro i hi
  refine split_intro (fun h => ?_) (fun h => ?_)
  · have hlt2 : i < (toW n).length := by have h : (i : Int) < (toW n).length := of_decide_eq_true h; omega
    have ei : IntKind.i64.wrap ((i : Int) + 1) = ((i + 1 : Nat) : Int) := by rw [wr (by omega) (by omega)]; omega
    have e32 : IntKind.i64.wrap (32 * (i : Int)) = ((32 * i : Nat) : Int) := by rw [wr (by omega) (by omega)]; omega
    refine idx_w i rfl hlt2 ?_
    refine side_intro (by show (0 : Int) ≤ IntKind.i64.wrap (32 * (i : Int)); rw [e32]; omega) ?_
    refine ⟨i + 1, hlt2, by show (toW n).length - (i + 1) < (toW n).length - i; omega, weak_st _ _ ⟨u64_inj ?_, rfl, rfl, i64_inj ei, trivial⟩ trivial rfl⟩
    rw [e32, val_take_succ hlt2]
    obtain ⟨x, hx, hx'⟩ := mget (toW n) hwn i
    rw [hx]
    have h01 : i = 0 ∨ i = 1 := by omega
    have ex : IntKind.u64.wrap (x : Int) = x := by rw [w64]; omega
    rw [ex]
    have key : ∀ (p q : Nat), p < 18446744073709551616 → q < 18446744073709551616 → IntKind.u64.wrap (BitVec.ofInt 64 (p : Int) ||| BitVec.ofInt 64 (q : Int)).toNat = ((p ||| q : Nat) : Int) := by
      intro p q hp hq
      have e1 : BitVec.ofInt 64 (p : Int) = BitVec.ofNat 64 p := BitVec.ofInt_natCast ..
      have e2 : BitVec.ofInt 64 (q : Int) = BitVec.ofNat 64 q := BitVec.ofInt_natCast ..
      have hpq : p ||| q < 2 ^ 64 := Nat.or_lt_two_pow hp hq
      rw [e1, e2, BitVec.toNat_or, BitVec.toNat_ofNat, BitVec.toNat_ofNat, Nat.mod_eq_of_lt hp, Nat.mod_eq_of_lt hq, w64]
      omega
    rcases h01 with rfl | rfl
    · show IntKind.u64.wrap (BitVec.ofInt 64 ((val ((toW n).take 0) : Nat) : Int) ||| BitVec.ofInt 64 (IntKind.u64.wrap ((x : Int) * 2 ^ 0))).toNat = _
      rw [show (x : Int) * 2 ^ 0 = x by omega, ex, key _ _ (by rw [List.take_zero]; show 0 < 18446744073709551616; omega) (by omega)]
      have e0 : val ((toW n).take 0) = 0 := rfl
      rw [e0]
      simp
    · show IntKind.u64.wrap (BitVec.ofInt 64 ((val ((toW n).take 1) : Nat) : Int) ||| BitVec.ofInt 64 (IntKind.u64.wrap ((x : Int) * 4294967296))).toNat = _
      have e1 := val_take_lt hwn 1
      rw [Nat.pow_one] at e1
      generalize val ((toW n).take 1) = y at e1 ⊢
      have ew : IntKind.u64.wrap ((x : Int) * 4294967296) = ((x * 4294967296 : Nat) : Int) := by rw [w64]; omega
      rw [ew, key _ _ (by omega) (by omega), Nat.or_comm, or_cat x y e1]
      omega
  · have hend : i = (toW n).length := by have h : ¬ (i : Int) < (toW n).length := of_decide_eq_false h; omega
    refine ret_intro ?_ rfl
    show V.tup [.d (.int .u64 ((val ((toW n).take i) : Nat) : Int)), .d (.bool true)] = _
    rw [hend, List.take_length, val_toW]
theorem small_spec {x y : Nat} (hx : x < 18446744073709551616) (hy : y < 18446744073709551616) : Runs Try.prog g_common_small [.d (.int .u64 x), .d (.int .u64 y)] (.d (.int .u64 (Nat.gcd x y))) := by
  refine run1 [] p_common_small rfl rfl (fun B S F0 w0 V0 => ?_)
  refine loop_intro (fun p : Nat × Nat => st [(0, .d (.int .u64 (p.1 : Int))), (1, .d (.int .u64 (p.2 : Int)))] []) (fun p => p.2) (fun p => p.1 < 18446744073709551616 ∧ p.2 < 18446744073709551616 ∧ Nat.gcd p.1 p.2 = Nat.gcd x y) (x, y) ⟨hx, hy, rfl⟩ (weak_st _ _ ⟨rfl, rfl, trivial⟩ trivial rfl) ?_
  rintro ⟨m, n⟩ ⟨h1, h2, h3⟩
  dsimp only at h1 h2 h3
  refine split_intro (fun h => ?_) (fun h => ?_)
  · have h : (n : Int) ≠ 0 := bne_iff_ne.1 h
    have hn : n ≠ 0 := by omega
    refine side_intro rfl ?_
    refine side_intro h ?_
    have hml : m % n < n := Nat.mod_lt _ (by omega)
    refine ⟨(n, m % n), ⟨h2, by show m % n < _; omega, by rw [← h3]; exact gcd_step m n⟩, hml, weak_st _ _ ⟨rfl, u64_inj ?_, trivial⟩ trivial rfl⟩
    show ((m : Int)).tmod n = _
    rw [Int.tmod_eq_emod_of_nonneg (by omega)]
    exact (Int.natCast_emod _ _).symm
  · have h : (n : Int) = 0 := bne_eq_false_iff_eq.1 h
    have hn : n = 0 := by omega
    subst hn
    rw [Nat.gcd_zero_right] at h3
    refine ret_intro ?_ rfl
    show V.d (.int .u64 (m : Int)) = _
    rw [h3]
theorem Gcd_spec {a b : List Int} (hwa : Wd a) (hwb : Wd b) (ha : a.length ≤ 137438953472) (hb : b.length ≤ 137438953472) : Runs Try.prog g_common_Gcd [.d (.words a), .d (.words b)] (.d (.words (toW (Nat.gcd (val a) (val b))))) := by
  refine run1 [] p_common_Gcd rfl rfl (fun B S F0 w0 V0 => ?_)
  refine call_intro _ (norm_spec hwa (by omega)) ?_
  refine call_intro _ (norm_spec hwb (by omega)) ?_
  have la := nw_val hwa ha
  have lb := nw_val hwb hb
  generalize val a = m0 at la ⊢
  generalize val b = n0 at lb ⊢
  refine loop_intro (fun p : Nat × Nat => st [(0, .d (.words (toW p.1))), (1, .d (.words (toW p.2)))] []) (fun p => p.2) (fun p => (toW p.1).length ≤ 137438953472 ∧ (toW p.2).length ≤ 137438953472 ∧ Nat.gcd p.1 p.2 = Nat.gcd m0 n0) (m0, n0) ⟨la, lb, rfl⟩ (weak_st _ _ ⟨rfl, rfl, trivial⟩ trivial rfl) ?_
  rintro ⟨m, n⟩ ⟨h1, h2, h3⟩
  dsimp only at h1 h2 h3
  refine split_intro (fun h => ?_) (fun h => ?_)
  · have h : ((toW n).length : Int) > 2 := of_decide_eq_true h
    have hn : n ≠ 0 := by intro e; have := toW_len_zero.2 e; omega
    have hd := Div_spec (a := toW m) (b := toW n) (Wd.toW _) (Wd.toW _) (by omega) (by omega) (by rw [val_toW]; exact hn)
    rw [val_toW, val_toW] at hd
    refine call_intro _ hd ?_
    have hml : m % n < n := Nat.mod_lt _ (by omega)
    exact ⟨(n, m % n), ⟨h2, nw_le (Nat.le_of_lt hml) h2, by rw [← h3]; exact gcd_step m n⟩, hml, weak_st _ _ ⟨rfl, rfl, trivial⟩ trivial rfl⟩
  have h : ¬ ((toW n).length : Int) > 2 := of_decide_eq_false h
  refine split_intro (fun h0 => ?_) (fun h0 => ?_)
  · have h0 : ((toW n).length : Int) = 0 := eq_of_beq h0
    have hn : n = 0 := toW_len_zero.1 (by omega)
    subst hn
    rw [Nat.gcd_zero_right] at h3
    refine ret_intro ?_ rfl
    show V.d (.words (toW m)) = _
    rw [h3]
  · have h0 : ((toW n).length : Int) ≠ 0 := beq_eq_false_iff_ne.1 h0
    have hn : n ≠ 0 := by intro e; have := toW_len_zero.2 e; omega
    have hd := Div_spec (a := toW m) (b := toW n) (Wd.toW _) (Wd.toW _) (by omega) (by omega) (by rw [val_toW]; exact hn)
    rw [val_toW, val_toW] at hd
    refine call_intro _ hd ?_
    have hml : m % n < n := Nat.mod_lt _ (by omega)
    have hn2 : n < 18446744073709551616 := nw_two.1 (by omega)
    have hs1 := Small_spec (a := toW n) (Wd.toW _) (by omega)
    have hs2 := Small_spec (a := toW (m % n)) (Wd.toW _) (by have := nw_le (Nat.le_of_lt hml) h2; omega)
    rw [val_toW, if_pos hn2] at hs1
    rw [val_toW, if_pos (by omega)] at hs2
    refine call_intro _ hs1 ?_
    refine call_intro _ hs2 ?_
    refine call_intro _ (small_spec hn2 (by omega)) ?_
    have hg : Nat.gcd n (m % n) ≤ n := Nat.le_of_dvd (by omega) (Nat.gcd_dvd_left _ _)
    have hof := Of_spec (n := ((Nat.gcd n (m % n) : Nat) : Int)) (by omega) (by omega)
    rw [show toW ((Nat.gcd n (m % n) : Nat) : Int).toNat = toW (Nat.gcd m0 n0) by rw [Int.toNat_natCast, gcd_step, h3]] at hof
    refine call_intro _ hof ?_
    exact ret_intro rfl rfl
theorem one_spec {n : Nat} (h : (toW n).length ≤ 1099511627776) : Runs Try.prog g_common_one [.d (.words (toW n))] (.d (.bool (decide (n = 1)))) := by
  refine run1 [] p_common_one rfl rfl (fun B S F0 w0 V0 => ?_)
  refine split_intro (fun h1 => ?_) (fun h1 => ?_)
  · have h1 : ((toW n).length : Int) = 1 := eq_of_beq h1
    refine idx_w 0 rfl (by omega) ?_
    refine ret_intro (b_inj ?_) rfl
    show ((toW n).getD 0 0 == 1) = _
    by_cases hn : n = 1
    · rw [decide_eq_true hn]; exact beq_iff_eq.2 (toW_is_one.2 hn).2
    · rw [decide_eq_false hn]; exact beq_eq_false_iff_ne.2 (fun e => hn (toW_is_one.1 ⟨by omega, e⟩))
  · have h1 : ((toW n).length : Int) ≠ 1 := beq_eq_false_iff_ne.1 h1
    refine ret_intro (b_inj ?_) rfl
    rw [decide_eq_false (fun e => by have := (toW_is_one.2 e).1; omega)]
theorem Prime_spec {a b : List Int} (hwa : Wd a) (hwb : Wd b) (ha : a.length ≤ 137438953472) (hb : b.length ≤ 137438953472) : Runs Try.prog g_common_Prime [.d (.words a), .d (.words b)] (.d (.bool (decide (Nat.gcd (val a) (val b) = 1)))) := by
  refine run1 [] p_common_Prime rfl rfl (fun B S F0 w0 V0 => ?_)
  refine call_intro _ (Gcd_spec hwa hwb ha hb) ?_
  have hl : (toW (Nat.gcd (val a) (val b))).length ≤ 137438953472 := by
    rcases Nat.eq_zero_or_pos (val a) with h | h
    · rw [h, Nat.gcd_zero_left]; exact nw_val hwb hb
    · exact nw_le (Nat.le_of_dvd h (Nat.gcd_dvd_left _ _)) (nw_val hwa ha)
  refine call_intro _ (one_spec (by omega)) ?_
  exact ret_intro rfl rfl
theorem nw_gcd {m n k : Nat} (h1 : (toW m).length ≤ k) (h2 : (toW n).length ≤ k) : (toW (Nat.gcd m n)).length ≤ k := by
  rcases Nat.eq_zero_or_pos m with h | h
  · rw [h, Nat.gcd_zero_left]; exact h2
  · exact nw_le (Nat.le_of_dvd h (Nat.gcd_dvd_left _ _)) h1
theorem Cancel_spec {a b : List Int} (hwa : Wd a) (hwb : Wd b) (ha : a.length ≤ 137438953472) (hb : b.length ≤ 137438953472) :
    Runs Try.prog g_common_Cancel [.d (.words a), .d (.words b)] (.tup [.d (.words (toW (val a / Nat.gcd (val a) (val b)))), .d (.words (toW (val b / Nat.gcd (val a) (val b))))]) := by
  refine run1 [] p_common_Cancel rfl rfl (fun B S F0 w0 V0 => ?_)
  refine call_intro _ (Gcd_spec hwa hwb ha hb) ?_
  have hg := nw_gcd (nw_val hwa ha) (nw_val hwb hb)
  obtain ⟨g, hgd⟩ : ∃ g, g = Nat.gcd (val a) (val b) := ⟨_, rfl⟩
  rw [← hgd] at hg ⊢
  refine split_intro (fun h => ?_) (fun h => ?_)
  · have h : ((toW g).length : Int) = 0 := eq_of_beq h
    have h0 : g = 0 := toW_len_zero.1 (by omega)
    rw [h0, Nat.div_zero, Nat.div_zero, toW_zero]
    exact ret_intro rfl rfl
  have h : ((toW g).length : Int) ≠ 0 := beq_eq_false_iff_ne.1 h
  have h0 : g ≠ 0 := by intro e; have := toW_len_zero.2 e; omega
  refine call_intro _ (one_spec (by omega)) ?_
  refine split_intro (fun h1 => ?_) (fun h1 => ?_)
  · have h1 : g = 1 := of_decide_eq_true h1
    refine call_intro _ (norm_spec hwa (by omega)) ?_
    refine call_intro _ (norm_spec hwb (by omega)) ?_
    rw [h1, Nat.div_one, Nat.div_one]
    exact ret_intro rfl rfl
  · have hd1 := Div_spec (b := toW g) hwa (Wd.toW _) ha (by omega) (by rw [val_toW]; exact h0)
    have hd2 := Div_spec (b := toW g) hwb (Wd.toW _) hb (by omega) (by rw [val_toW]; exact h0)
    rw [val_toW] at hd1 hd2
    refine call_intro _ hd1 ?_
    refine call_intro _ hd2 ?_
    exact ret_intro rfl rfl
theorem Lcm_spec {a b : List Int} (hwa : Wd a) (hwb : Wd b) (ha : a.length ≤ 137438953472) (hb : b.length ≤ 137438953472) :
    Runs Try.prog g_common_Lcm [.d (.words a), .d (.words b)] (.d (.words (toW (val a / Nat.gcd (val a) (val b) * val b)))) := by
  refine run1 [] p_common_Lcm rfl rfl (fun B S F0 w0 V0 => ?_)
  refine call_intro _ (Cancel_spec hwa hwb ha hb) ?_
  have hm := Mul_spec (a := toW (val a / Nat.gcd (val a) (val b))) (Wd.toW _) hwb (by have := nw_le (Nat.div_le_self (val a) (Nat.gcd (val a) (val b))) (nw_val hwa ha); omega) (by omega)
  rw [val_toW] at hm
  refine call_intro _ hm ?_
  exact ret_intro rfl rfl
end Go.Proofs.Ythefflmebkcilaa.Fw
