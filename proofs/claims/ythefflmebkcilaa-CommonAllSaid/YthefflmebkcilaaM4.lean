/- Texts of the proof, one after the other: SL RA RB LD PM SM SN SO SQ LE RC. -/
import Derived.Below
import Derived.OpenShut
import Derived.Test.YthefflmebkcilaaM3
/- Sums of two, small numbers, common divisors. -/
set_option linter.unusedVariables false
namespace Go.Proofs.Ythefflmebkcilaa.Fw
open Go Pu
theorem rowsV (a b : List Int) (i : Nat) : [[D.words a], [D.words b]][i]? = some [.words ([a, b].getD i [])] ↔ i < 2 := by
  rcases i with _ | _ | i <;> simp
def psum (x y : Nat) : Nat → Nat
  | 0 => 0
  | 1 => x
  | _ => x + y
theorem AddTwo_spec {a b : List Int} (hwa : Wd a) (hwb : Wd b) (ha : a.length ≤ 274877906944) (hb : b.length ≤ 274877906944) : Runs Try.prog g_nat_Add [.d (.rows 1 [[.words a], [.words b]])] (.d (.words (toW (val a + val b)))) := by
  refine run1 [] p_nat_Add rfl rfl (fun B S F0 w0 V0 => ?_)
  refine loop_intro (fun i : Nat => st [(3, .d (.words (toW (psum (val a) (val b) i)))), (6, .d (.rows 1 [[.words a], [.words b]])), (7, .d (.int .i64 2)), (8, .d (.int .i64 (i : Int)))] []) (fun i => 2 - i) (fun i => i ≤ 2) 0
    (Nat.zero_le _) (weak_trans (weak_st _ _ ⟨by show V.d (.words []) = V.d (.words (toW 0)); rw [toW_zero], rfl, rfl, rfl, trivial⟩ trivial rfl) (weak_nilW 3 rfl)) ?_
  intro i hi
  have la := nw_val hwa ha
  have lb := nw_val hwb hb
  refine split_intro (fun h => ?_) (fun h => ?_)
  · have h : (i : Int) < 2 := of_decide_eq_true h
    have h01 : i = 0 ∨ i = 1 := by omega
    rcases h01 with rfl | rfl
    · refine idx_intro [.words a] (by omega) rfl ?_
      refine call_intro _ (trim_spec hwa (by omega)) ?_
      refine call_intro _ (plus_spec (Wd.toW 0) (Wd.toW (val a)) (by show (toW 0).length ≤ _; rw [toW_zero]; exact Nat.zero_le _) (by omega)) ?_
      refine ⟨1, by omega, by omega, weak_st _ _ ⟨?_, rfl, rfl, rfl, trivial⟩ trivial rfl⟩
      show V.d (.words (toW (val (toW 0) + val (toW (val a))))) = V.d (.words (toW (val a)))
      rw [val_toW, val_toW, Nat.zero_add]
    · refine idx_intro [.words b] (by omega) rfl ?_
      refine call_intro _ (trim_spec hwb (by omega)) ?_
      refine call_intro _ (plus_spec (Wd.toW (val a)) (Wd.toW (val b)) (by show (toW (val a)).length ≤ _; omega) (by omega)) ?_
      refine ⟨2, by omega, by omega, weak_st _ _ ⟨?_, rfl, rfl, rfl, trivial⟩ trivial rfl⟩
      show V.d (.words (toW (val (toW (val a)) + val (toW (val b))))) = V.d (.words (toW (val a + val b)))
      rw [val_toW, val_toW]
  · have h : ¬ (i : Int) < 2 := of_decide_eq_false h
    have : i = 2 := by omega
    subst this
    exact ret_intro rfl rfl
theorem Small_spec {a : List Int} (hw : Wd a) (ha : a.length ≤ 1099511627776) : Runs Try.prog g_nat_Small [.d (.words a)] (if val a < 18446744073709551616 then .tup [.d (.int .u64 (val a)), .d (.bool true)] else .tup [.d (.int .u64 0), .d (.bool false)]) := by
  refine run1 [] p_nat_Small rfl rfl (fun B S F0 w0 V0 => ?_)
  refine call_intro _ (trim_spec hw ha) ?_
  have hl := nw_val hw ha
  generalize val a = n at hl ⊢
  refine split_intro (fun h => ?_) (fun h => ?_)
  · have h : ((toW n).length : Int) > 2 := of_decide_eq_true h
    rw [if_neg (fun hh => by have := nw_two.2 hh; omega)]
    exact ret_intro rfl rfl
  have h : ¬ ((toW n).length : Int) > 2 := of_decide_eq_false h
  have h2 : (toW n).length ≤ 2 := by omega
  have hlt := nw_two.1 h2
  rw [if_pos hlt]
  have hwn := Wd.toW n
  refine loop_intro (fun i : Nat => st [(4, .d (.int .u64 ((val ((toW n).take i) : Nat) : Int))), (12, .d (.words (toW n))), (13, .d (.int .i64 ((toW n).length : Int))), (14, .d (.int .i64 (i : Int)))] []) (fun i => (toW n).length - i) (fun i => i ≤ (toW n).length) 0
    (Nat.zero_le _) (weak_st _ _ ⟨rfl, rfl, rfl, rfl, trivial⟩ trivial rfl) ?_
  intro i hi
  refine split_intro (fun h => ?_) (fun h => ?_)
  · have hlt2 : i < (toW n).length := by have h : (i : Int) < (toW n).length := of_decide_eq_true h; omega
    have ei : IntKind.i64.wrap ((i : Int) + 1) = ((i + 1 : Nat) : Int) := by rw [wr (by omega) (by omega)]; omega
    have e32 : IntKind.i64.wrap (32 * (i : Int)) = ((32 * i : Nat) : Int) := by rw [wr (by omega) (by omega)]; omega
    refine idx_w i rfl hlt2 ?_
    refine side_intro (by show (0 : Int) ≤ IntKind.i64.wrap (32 * (i : Int)); rw [e32]; omega) ?_
    refine ⟨i + 1, hlt2, by show (toW n).length - (i + 1) < (toW n).length - i; omega, weak_st _ _ ⟨u64_inj ?_, rfl, rfl, i64_inj ei, trivial⟩ trivial rfl⟩
    rw [e32, val_take_succ hlt2]
    obtain ⟨x, hx, hx'⟩ := mget (toW n) hwn i
    rw [hx]
    have h01 : i = 0 ∨ i = 1 := by omega
    have ex : IntKind.u64.wrap (x : Int) = x := by rw [w64]; omega
    rw [ex]
    have key : ∀ (p q : Nat), p < 18446744073709551616 → q < 18446744073709551616 → IntKind.u64.wrap (BitVec.ofInt 64 (p : Int) ||| BitVec.ofInt 64 (q : Int)).toNat = ((p ||| q : Nat) : Int) := by
      intro p q hp hq
      have e1 : BitVec.ofInt 64 (p : Int) = BitVec.ofNat 64 p := BitVec.ofInt_natCast ..
      have e2 : BitVec.ofInt 64 (q : Int) = BitVec.ofNat 64 q := BitVec.ofInt_natCast ..
      have hpq : p ||| q < 2 ^ 64 := Nat.or_lt_two_pow hp hq
      rw [e1, e2, BitVec.toNat_or, BitVec.toNat_ofNat, BitVec.toNat_ofNat, Nat.mod_eq_of_lt hp, Nat.mod_eq_of_lt hq, w64]
      omega
    rcases h01 with rfl | rfl
    · show IntKind.u64.wrap (BitVec.ofInt 64 ((val ((toW n).take 0) : Nat) : Int) ||| BitVec.ofInt 64 (IntKind.u64.wrap ((x : Int) * 2 ^ 0))).toNat = _
      rw [show (x : Int) * 2 ^ 0 = x by omega, ex, key _ _ (by rw [List.take_zero]; show 0 < 18446744073709551616; omega) (by omega)]
      have e0 : val ((toW n).take 0) = 0 := rfl
      rw [e0]
      simp
    · show IntKind.u64.wrap (BitVec.ofInt 64 ((val ((toW n).take 1) : Nat) : Int) ||| BitVec.ofInt 64 (IntKind.u64.wrap ((x : Int) * 4294967296))).toNat = _
      have e1 := val_take_lt hwn 1
      rw [Nat.pow_one] at e1
      generalize val ((toW n).take 1) = y at e1 ⊢
      have ew : IntKind.u64.wrap ((x : Int) * 4294967296) = ((x * 4294967296 : Nat) : Int) := by rw [w64]; omega
      rw [ew, key _ _ (by omega) (by omega), Nat.or_comm, or_cat x y e1]
      omega
  · have hend : i = (toW n).length := by have h : ¬ (i : Int) < (toW n).length := of_decide_eq_false h; omega
    refine ret_intro ?_ rfl
    show V.tup [.d (.int .u64 ((val ((toW n).take i) : Nat) : Int)), .d (.bool true)] = _
    rw [hend, List.take_length, val_toW]
theorem small_spec {x y : Nat} (hx : x < 18446744073709551616) (hy : y < 18446744073709551616) : Runs Try.prog g_common_small [.d (.int .u64 x), .d (.int .u64 y)] (.d (.int .u64 (Nat.gcd x y))) := by
  refine run1 [] p_common_small rfl rfl (fun B S F0 w0 V0 => ?_)
  refine loop_intro (fun p : Nat × Nat => st [(0, .d (.int .u64 (p.1 : Int))), (1, .d (.int .u64 (p.2 : Int)))] []) (fun p => p.2) (fun p => p.1 < 18446744073709551616 ∧ p.2 < 18446744073709551616 ∧ Nat.gcd p.1 p.2 = Nat.gcd x y) (x, y) ⟨hx, hy, rfl⟩ (weak_st _ _ ⟨rfl, rfl, trivial⟩ trivial rfl) ?_
  rintro ⟨m, n⟩ ⟨h1, h2, h3⟩
  dsimp only at h1 h2 h3
  refine split_intro (fun h => ?_) (fun h => ?_)
  · have h : (n : Int) ≠ 0 := bne_iff_ne.1 h
    have hn : n ≠ 0 := by omega
    refine side_intro rfl ?_
    refine side_intro h ?_
    have hml : m % n < n := Nat.mod_lt _ (by omega)
    refine ⟨(n, m % n), ⟨h2, by show m % n < _; omega, by rw [← h3]; exact gcd_step m n⟩, hml, weak_st _ _ ⟨rfl, u64_inj ?_, trivial⟩ trivial rfl⟩
    show ((m : Int)).tmod n = _
    rw [Int.tmod_eq_emod_of_nonneg (by omega)]
    exact (Int.natCast_emod _ _).symm
  · have h : (n : Int) = 0 := bne_eq_false_iff_eq.1 h
    have hn : n = 0 := by omega
    subst hn
    rw [Nat.gcd_zero_right] at h3
    refine ret_intro ?_ rfl
    show V.d (.int .u64 (m : Int)) = _
    rw [h3]
theorem Gcd_spec {a b : List Int} (hwa : Wd a) (hwb : Wd b) (ha : a.length ≤ 137438953472) (hb : b.length ≤ 137438953472) : Runs Try.prog g_common_Gcd [.d (.words a), .d (.words b)] (.d (.words (toW (Nat.gcd (val a) (val b))))) := by
  refine run1 [] p_common_Gcd rfl rfl (fun B S F0 w0 V0 => ?_)
  refine call_intro _ (norm_spec hwa (by omega)) ?_
  refine call_intro _ (norm_spec hwb (by omega)) ?_
  have la := nw_val hwa ha
  have lb := nw_val hwb hb
  generalize val a = m0 at la ⊢
  generalize val b = n0 at lb ⊢
  refine loop_intro (fun p : Nat × Nat => st [(0, .d (.words (toW p.1))), (1, .d (.words (toW p.2)))] []) (fun p => p.2) (fun p => (toW p.1).length ≤ 137438953472 ∧ (toW p.2).length ≤ 137438953472 ∧ Nat.gcd p.1 p.2 = Nat.gcd m0 n0) (m0, n0) ⟨la, lb, rfl⟩ (weak_st _ _ ⟨rfl, rfl, trivial⟩ trivial rfl) ?_
  rintro ⟨m, n⟩ ⟨h1, h2, h3⟩
  dsimp only at h1 h2 h3
  refine split_intro (fun h => ?_) (fun h => ?_)
  · have h : ((toW n).length : Int) > 2 := of_decide_eq_true h
    have hn : n ≠ 0 := by intro e; have := toW_len_zero.2 e; omega
    have hd := Div_spec (a := toW m) (b := toW n) (Wd.toW _) (Wd.toW _) (by omega) (by omega) (by rw [val_toW]; exact hn)
    rw [val_toW, val_toW] at hd
    refine call_intro _ hd ?_
    have hml : m % n < n := Nat.mod_lt _ (by omega)
    exact ⟨(n, m % n), ⟨h2, nw_le (Nat.le_of_lt hml) h2, by rw [← h3]; exact gcd_step m n⟩, hml, weak_st _ _ ⟨rfl, rfl, trivial⟩ trivial rfl⟩
  have h : ¬ ((toW n).length : Int) > 2 := of_decide_eq_false h
  refine split_intro (fun h0 => ?_) (fun h0 => ?_)
  · have h0 : ((toW n).length : Int) = 0 := eq_of_beq h0
    have hn : n = 0 := toW_len_zero.1 (by omega)
    subst hn
    rw [Nat.gcd_zero_right] at h3
    refine ret_intro ?_ rfl
    show V.d (.words (toW m)) = _
    rw [h3]
  · have h0 : ((toW n).length : Int) ≠ 0 := beq_eq_false_iff_ne.1 h0
    have hn : n ≠ 0 := by intro e; have := toW_len_zero.2 e; omega
    have hd := Div_spec (a := toW m) (b := toW n) (Wd.toW _) (Wd.toW _) (by omega) (by omega) (by rw [val_toW]; exact hn)
    rw [val_toW, val_toW] at hd
    refine call_intro _ hd ?_
    have hml : m % n < n := Nat.mod_lt _ (by omega)
    have hn2 : n < 18446744073709551616 := nw_two.1 (by omega)
    have hs1 := Small_spec (a := toW n) (Wd.toW _) (by omega)
    have hs2 := Small_spec (a := toW (m % n)) (Wd.toW _) (by have := nw_le (Nat.le_of_lt hml) h2; omega)
    rw [val_toW, if_pos hn2] at hs1
    rw [val_toW, if_pos (by omega)] at hs2
    refine call_intro _ hs1 ?_
    refine call_intro _ hs2 ?_
    refine call_intro _ (small_spec hn2 (by omega)) ?_
    have hg : Nat.gcd n (m % n) ≤ n := Nat.le_of_dvd (by omega) (Nat.gcd_dvd_left _ _)
    have hof := Of_spec (n := ((Nat.gcd n (m % n) : Nat) : Int)) (by omega) (by omega)
    rw [show toW ((Nat.gcd n (m % n) : Nat) : Int).toNat = toW (Nat.gcd m0 n0) by rw [Int.toNat_natCast, gcd_step, h3]] at hof
    refine call_intro _ hof ?_
    exact ret_intro rfl rfl
theorem one_spec {n : Nat} (h : (toW n).length ≤ 1099511627776) : Runs Try.prog g_common_one [.d (.words (toW n))] (.d (.bool (decide (n = 1)))) := by
  refine run1 [] p_common_one rfl rfl (fun B S F0 w0 V0 => ?_)
  refine split_intro (fun h1 => ?_) (fun h1 => ?_)
  · have h1 : ((toW n).length : Int) = 1 := eq_of_beq h1
    refine idx_w 0 rfl (by omega) ?_
    refine ret_intro (b_inj ?_) rfl
    show ((toW n).getD 0 0 == 1) = _
    by_cases hn : n = 1
    · rw [decide_eq_true hn]; exact beq_iff_eq.2 (toW_is_one.2 hn).2
    · rw [decide_eq_false hn]; exact beq_eq_false_iff_ne.2 (fun e => hn (toW_is_one.1 ⟨by omega, e⟩))
  · have h1 : ((toW n).length : Int) ≠ 1 := beq_eq_false_iff_ne.1 h1
    refine ret_intro (b_inj ?_) rfl
    rw [decide_eq_false (fun e => by have := (toW_is_one.2 e).1; omega)]
theorem Prime_spec {a b : List Int} (hwa : Wd a) (hwb : Wd b) (ha : a.length ≤ 137438953472) (hb : b.length ≤ 137438953472) : Runs Try.prog g_common_Prime [.d (.words a), .d (.words b)] (.d (.bool (decide (Nat.gcd (val a) (val b) = 1)))) := by
  refine run1 [] p_common_Prime rfl rfl (fun B S F0 w0 V0 => ?_)
  refine call_intro _ (Gcd_spec hwa hwb ha hb) ?_
  have hl : (toW (Nat.gcd (val a) (val b))).length ≤ 137438953472 := by
    rcases Nat.eq_zero_or_pos (val a) with h | h
    · rw [h, Nat.gcd_zero_left]; exact nw_val hwb hb
    · exact nw_le (Nat.le_of_dvd h (Nat.gcd_dvd_left _ _)) (nw_val hwa ha)
  refine call_intro _ (one_spec (by omega)) ?_
  exact ret_intro rfl rfl
theorem nw_gcd {m n k : Nat} (h1 : (toW m).length ≤ k) (h2 : (toW n).length ≤ k) : (toW (Nat.gcd m n)).length ≤ k := by
  rcases Nat.eq_zero_or_pos m with h | h
  · rw [h, Nat.gcd_zero_left]; exact h2
  · exact nw_le (Nat.le_of_dvd h (Nat.gcd_dvd_left _ _)) h1
theorem Cancel_spec {a b : List Int} (hwa : Wd a) (hwb : Wd b) (ha : a.length ≤ 137438953472) (hb : b.length ≤ 137438953472) :
    Runs Try.prog g_common_Cancel [.d (.words a), .d (.words b)] (.tup [.d (.words (toW (val a / Nat.gcd (val a) (val b)))), .d (.words (toW (val b / Nat.gcd (val a) (val b))))]) := by
  refine run1 [] p_common_Cancel rfl rfl (fun B S F0 w0 V0 => ?_)
  refine call_intro _ (Gcd_spec hwa hwb ha hb) ?_
  have hg := nw_gcd (nw_val hwa ha) (nw_val hwb hb)
  obtain ⟨g, hgd⟩ : ∃ g, g = Nat.gcd (val a) (val b) := ⟨_, rfl⟩
  rw [← hgd] at hg ⊢
  refine split_intro (fun h => ?_) (fun h => ?_)
  · have h : ((toW g).length : Int) = 0 := eq_of_beq h
    have h0 : g = 0 := toW_len_zero.1 (by omega)
    rw [h0, Nat.div_zero, Nat.div_zero, toW_zero]
    exact ret_intro rfl rfl
  have h : ((toW g).length : Int) ≠ 0 := beq_eq_false_iff_ne.1 h
  have h0 : g ≠ 0 := by intro e; have := toW_len_zero.2 e; omega
  refine call_intro _ (one_spec (by omega)) ?_
  refine split_intro (fun h1 => ?_) (fun h1 => ?_)
  · have h1 : g = 1 := of_decide_eq_true h1
    refine call_intro _ (norm_spec hwa (by omega)) ?_
    refine call_intro _ (norm_spec hwb (by omega)) ?_
    rw [h1, Nat.div_one, Nat.div_one]
    exact ret_intro rfl rfl
  · have hd1 := Div_spec (b := toW g) hwa (Wd.toW _) ha (by omega) (by rw [val_toW]; exact h0)
    have hd2 := Div_spec (b := toW g) hwb (Wd.toW _) hb (by omega) (by rw [val_toW]; exact h0)
    rw [val_toW] at hd1 hd2
    refine call_intro _ hd1 ?_
    refine call_intro _ hd2 ?_
    exact ret_intro rfl rfl
theorem Lcm_spec {a b : List Int} (hwa : Wd a) (hwb : Wd b) (ha : a.length ≤ 137438953472) (hb : b.length ≤ 137438953472) :
    Runs Try.prog g_common_Lcm [.d (.words a), .d (.words b)] (.d (.words (toW (val a / Nat.gcd (val a) (val b) * val b)))) := by
  refine run1 [] p_common_Lcm rfl rfl (fun B S F0 w0 V0 => ?_)
  refine call_intro _ (Cancel_spec hwa hwb ha hb) ?_
  have hm := Mul_spec (a := toW (val a / Nat.gcd (val a) (val b))) (Wd.toW _) hwb (by have := nw_le (Nat.div_le_self (val a) (Nat.gcd (val a) (val b))) (nw_val hwa ha); omega) (by omega)
  rw [val_toW] at hm
  refine call_intro _ hm ?_
  exact ret_intro rfl rfl
end Go.Proofs.Ythefflmebkcilaa.Fw

/- From the typed readings to data. -/
set_option linter.unusedVariables false
namespace Go.Proofs.Ythefflmebkcilaa.Fw
open Go Pu Go.RowKit
def IsRow (k : IntKind) (w : World) (a : Option Addr) (len cap : Nat) (zs : List Int) : Prop :=
  (a = none ∧ len = 0 ∧ cap = 0 ∧ zs = []) ∨
  ∃ x, a = some x ∧ len ≤ cap ∧ cap ≤ maxLen ∧ zs.length = cap ∧ (∀ i, i < zs.length → w.cell? (x.add i) = some (.int k (zs.getD i 0))) ∧ ∀ n ∈ zs, (Lit.int k n).wf = true
theorem wf_u32 {n : Int} (h : (Lit.int .u32 n).wf = true) : 0 ≤ n ∧ n < 4294967296 := by
  simp [Lit.wf, IntKind.min, IntKind.max, IntKind.signed, IntKind.bits] at h
  omega
def Fall (w : World) : Nat → Prop := fun b => b < w.heap.size
theorem row_words {w : World} {a : Option Addr} {len cap : Nat} {zs : List Int} (h : IsRow .u32 w a len cap zs) : ∃ l : List Int, Wd l ∧ l.length ≤ maxLen ∧ RepL w (Fall w) (.words l) (.slice a len cap) := by
  rcases h with ⟨rfl, rfl, rfl, rfl⟩ | ⟨x, rfl, h1, h2, h3, h4, h5⟩
  · exact ⟨[], Wd.nil, Nat.zero_le _, RepL.nilW _ _⟩
  · have hl : (zs.take len).length = len := by rw [List.length_take]; omega
    refine ⟨zs.take len, fun n hn => wf_u32 (h5 n (List.mem_of_mem_take hn)), by omega, RepL.sl (d := .words (zs.take len)) (sz := 1) (n := len) (fl := (zs.take len).map wd) (by simp only [D.sl?, hl]) (some x) cap ((zs.take len).map fun n => .int .u32 n) h1 h2 (by simp) (fun j u hu => ?_) (fun j d u hd hu => ?_)⟩
    · rw [List.getElem?_map] at hu
      cases hj : (zs.take len)[j]? with
      | none => rw [hj] at hu; cases hu
      | some n =>
        rw [hj] at hu
        simp only [Option.map_some, Option.some.injEq] at hu
        subst hu
        rw [List.getElem?_take] at hj
        split at hj
        · have hlt := (List.getElem?_eq_some_iff.1 hj).1
          have hc := h4 j hlt
          rw [List.getD_eq_getElem?_getD, hj] at hc
          have hb := World.block_lt_of_cell? w _ hc
          rw [add_block] at hb
          exact ⟨x, rfl, hb, hc⟩
        · cases hj
    · rw [List.getElem?_map] at hd hu
      cases hj : (zs.take len)[j]? with
      | none => rw [hj] at hu; cases hu
      | some n =>
        rw [hj] at hd hu
        simp only [Option.map_some, Option.some.injEq] at hd hu
        subst hd; subst hu
        exact RepL.int _ _
theorem law_calls {P : Program} {g : FuncId} {args : List V} {w : World} {vals : List Value} (h : Runs P g args (.d (.bool true))) (ha : AllR (VR1 w (Fall w) (fun _ => undef) (fun _ => none)) args vals) :
    Calls P g vals.toArray w fun e w' => e = .returned (.bool true) ∧ Below w.heap.size w w' := by
  unfold Runs at h
  refine (h.2 (Fall w) w vals (fun b hb => hb) ha).mono ?_
  rintro e w' ⟨v, F', rfl, hv, _, hk⟩
  have : v = .bool true := boolV hv
  exact ⟨by rw [this], ⟨hk.os, hk.tape, hk.output, hk.size, fun k hk' => hk.block k hk' (fun x => x)⟩⟩
end Go.Proofs.Ythefflmebkcilaa.Fw

/- From the typed readings to data, for all types. -/
set_option linter.unusedVariables false
namespace Go.Proofs.Ythefflmebkcilaa.Fw
open Go Pu Go.RowKit Go.ChangeShapes Go.WideShapes
inductive Sh where
  | bool
  | int (k : IntKind)
  | ws
  | rows (e : List Sh)
inductive OkD : Sh → D → Prop where
  | bool (b : Bool) : OkD .bool (.bool b)
  | int (k : IntKind) (n : Int) (h : (Lit.int k n).wf = true) : OkD (.int k) (.int k n)
  | ws (l : List Int) (h : Wd l) (hl : l.length ≤ maxLen) : OkD .ws (.words l)
  | rows (e : List Sh) (l : List (List D)) (h : ∀ x ∈ l, x.length = e.length) (h2 : ∀ x ∈ l, ∀ (j : Nat) s d, e[j]? = some s → x[j]? = some d → OkD s d) (hl : l.length ≤ maxLen) : OkD (.rows e) (.rows e.length l)
inductive HasSh (P : Program) : TypeId → List Sh → Prop where
  | bool {t : TypeId} (h : P.underlying t = some .bool) (hc : P.cellsOf t = 1) : HasSh P t [.bool]
  | int {t : TypeId} {k : IntKind} (h : P.underlying t = some (.int k)) (hc : P.cellsOf t = 1) : HasSh P t [.int k]
  | ws {t e : TypeId} (h : P.underlying t = some (.slice e)) (he : P.underlying e = some (.int .u32)) (hc : P.cellsOf e = 1) (hct : P.cellsOf t = 1) : HasSh P t [.ws]
  | rows {t e : TypeId} {es : List Sh} (h : P.underlying t = some (.slice e)) (he : HasSh P e es) (hz : 0 < es.length) (hct : P.cellsOf t = 1) : HasSh P t [.rows es]
  | st {t : TypeId} {fs : Array Field} (l : List (List Sh)) (h : P.underlying t = some (.struct fs)) (hl : l.length = fs.size) (hc : P.cellsOf t = l.flatten.length)
      (ho : ∀ (i : Nat) f, fs[i]? = some f → f.offset = ((l.take i).flatten).length) (hf : ∀ (i : Nat) f s, fs[i]? = some f → l[i]? = some s → HasSh P f.type s) : HasSh P t l.flatten
  | arr {t e : TypeId} {n : Nat} {es : List Sh} (h : P.underlying t = some (.array n e)) (he : HasSh P e es) (hc : P.cellsOf t = (List.replicate n es).flatten.length) : HasSh P t (List.replicate n es).flatten
theorem HasSh.cells {P : Program} {t : TypeId} {s : List Sh} (h : HasSh P t s) : P.cellsOf t = s.length := by
  cases h with
  | bool _ hc => exact hc
  | int _ hc => exact hc
  | ws _ _ _ hct => exact hct
  | rows _ _ _ hct => exact hct
  | st l _ _ hc => exact hc
  | arr _ _ hc => exact hc
theorem segs {R : D → Value → Prop} : ∀ (l : List (List Sh)) (cs : List Value), cs.length = l.flatten.length →
    (∀ (i : Nat) s, l[i]? = some s → ∃ ds, AllR R ds ((cs.drop ((l.take i).flatten.length)).take s.length) ∧ AllR OkD s ds) → ∃ ds, AllR R ds cs ∧ AllR OkD l.flatten ds := by
  intro l
  induction l with
  | nil =>
    intro cs h _
    have : cs = [] := List.eq_nil_of_length_eq_zero (by simpa using h)
    subst this
    exact ⟨[], AllR.nil, AllR.nil⟩
  | cons s l ih =>
    intro cs hl h
    have hl' : cs.length = s.length + l.flatten.length := by rw [hl, List.flatten_cons, List.length_append]
    obtain ⟨d0, h1, h2⟩ := h 0 s rfl
    obtain ⟨d1, h3, h4⟩ := ih (cs.drop s.length) (by rw [List.length_drop]; omega) (fun i x hx => by
      obtain ⟨ds, h5, h6⟩ := h (i + 1) x (by simpa using hx)
      refine ⟨ds, ?_, h6⟩
      rw [List.take_succ_cons, List.flatten_cons, List.length_append, ← List.drop_drop] at h5
      exact h5)
    refine ⟨d0 ++ d1, ?_, ?_⟩
    · have h7 : AllR R (d0 ++ d1) (cs.take s.length ++ cs.drop s.length) := AllR.app (by simpa using h1) h3
      rw [List.take_append_drop] at h7
      exact h7
    · rw [List.flatten_cons]
      exact h2.app h4
theorem pick2 {α β : Type} {Q : Nat → α → β → Prop} : ∀ n, (∀ i, i < n → ∃ a b, Q i a b) → ∃ (l : List α) (m : List β), l.length = n ∧ m.length = n ∧ ∀ (i : Nat) a b, l[i]? = some a → m[i]? = some b → Q i a b := by
  intro n
  induction n with
  | zero => intro _; exact ⟨[], [], rfl, rfl, fun i a b h => by simp at h⟩
  | succ n ih =>
    intro h
    obtain ⟨l, m, h1, h2, h3⟩ := ih (fun i hi => h i (by omega))
    obtain ⟨a, b, hq⟩ := h n (by omega)
    refine ⟨l ++ [a], m ++ [b], by simp [h1], by simp [h2], fun i x y hx hy => ?_⟩
    by_cases hi : i < n
    · rw [List.getElem?_append_left (by omega)] at hx
      rw [List.getElem?_append_left (by omega)] at hy
      exact h3 i x y hx hy
    · have hlt := (List.getElem?_eq_some_iff.1 hx).1
      simp only [List.length_append, List.length_singleton] at hlt
      have : i = n := by omega
      subst this
      rw [List.getElem?_append_right (by omega), h1, Nat.sub_self] at hx
      rw [List.getElem?_append_right (by omega), h2, Nat.sub_self] at hy
      simp at hx hy
      subst hx; subst hy
      exact hq
theorem flat_get {α : Type} {k : Nat} (hk : 0 < k) : ∀ (l : List (List α)) (j : Nat) (u : α), (∀ x ∈ l, x.length = k) → l.flatten[j]? = some u → ∃ x, l[j / k]? = some x ∧ x[j % k]? = some u := by
  intro l
  induction l with
  | nil => intro j u _ h; simp at h
  | cons x l ih =>
    intro j u hl h
    have hx : x.length = k := hl x (by simp)
    rw [List.flatten_cons] at h
    by_cases hj : j < k
    · rw [List.getElem?_append_left (by omega)] at h
      exact ⟨x, by rw [Nat.div_eq_of_lt hj]; rfl, by rw [Nat.mod_eq_of_lt hj]; exact h⟩
    · rw [List.getElem?_append_right (by omega), hx] at h
      obtain ⟨y, h1, h2⟩ := ih (j - k) u (fun y hy => hl y (by simp [hy])) h
      have e1 : j / k = (j - k) / k + 1 := by rw [Nat.div_eq_sub_div hk (by omega)]
      have e2 : j % k = (j - k) % k := by rw [Nat.mod_eq_sub_mod (by omega)]
      exact ⟨y, by rw [e1]; simpa using h1, by rw [e2]; exact h2⟩
theorem flat_allR {R : D → Value → Prop} : ∀ (l : List (List D)) (m : List (List Value)), l.length = m.length → (∀ (i : Nat) x y, l[i]? = some x → m[i]? = some y → AllR R x y) → AllR R l.flatten m.flatten := by
  intro l
  induction l with
  | nil =>
    intro m h _
    have : m = [] := List.eq_nil_of_length_eq_zero (by simpa using h.symm)
    subst this
    exact AllR.nil
  | cons x l ih =>
    intro m h hr
    cases m with
    | nil => simp at h
    | cons y m =>
      rw [List.flatten_cons, List.flatten_cons]
      exact (hr 0 x y rfl rfl).app (ih m (by simpa using h) (fun i x y hx hy => hr (i + 1) x y (by simpa using hx) (by simpa using hy)))
theorem hasSh_read {P : Program} {H : Type} {enc : TypeId × Value → H} {w : World} {sp : Nat → Bool} {t : TypeId} {shs : List Sh} (h : HasSh P t shs) :
    ∀ (fuel : Nat) (cs : List Value) (x : DataW H × List MemPlace), DataW.trod enc P w 0 sp true fuel t cs = some x → ∃ ds, AllR (RepL w (Fall w)) ds cs ∧ AllR OkD shs ds := by
  induction h with
  | bool hu hc =>
    intro fuel cs x hx
    obtain ⟨b, rfl, _⟩ := DataW.trod_bool hu hx
    exact ⟨[.bool b], AllR.cons (.bool b) AllR.nil, AllR.cons (.bool b) AllR.nil⟩
  | int hu hc =>
    intro fuel cs x hx
    obtain ⟨n, rfl, _, hw⟩ := DataW.trod_int hu hx
    exact ⟨[.int _ n], AllR.cons (.int _ n) AllR.nil, AllR.cons (.int _ n hw) AllR.nil⟩
  | ws hu he hc hct =>
    intro fuel cs x hx
    have key : ∀ {a : Option Addr} {len cap : Nat} {zs : List Int}, cs = [.slice a len cap] → IsRow .u32 w a len cap zs → ∃ ds, AllR (RepL w (Fall w)) ds cs ∧ AllR OkD [Sh.ws] ds := by
      intro a len cap zs e hr
      obtain ⟨l, h1, h2, h3⟩ := row_words hr
      exact ⟨[.words l], by rw [e]; exact AllR.cons h3 AllR.nil, AllR.cons (.ws l h1 h2) AllR.nil⟩
    rcases open_ints hu he hc hx with ⟨hcs, _⟩ | ⟨a, l, c, zs, hcs, _, hl, hm, hz, _, hcell, hwz⟩
    · exact key hcs (zs := []) (.inl ⟨rfl, rfl, rfl, rfl⟩)
    · rcases Nat.le_total l zs.length with hlz | hlz
      · -- the cells up to the length are all that is asked
        refine ⟨[.words (zs.take l)], ?_, AllR.cons (.ws _ (fun n hn => wf_u32 (hwz n (List.mem_of_mem_take hn))) (by rw [List.length_take]; omega)) AllR.nil⟩
        rw [hcs]
        have hlen : (zs.take l).length = l := by rw [List.length_take]; omega
        refine AllR.cons (RepL.sl (d := .words (zs.take l)) (sz := 1) (n := l) (fl := (zs.take l).map wd) (by simp only [D.sl?, hlen]) (some a) c ((zs.take l).map fun n => .int .u32 n) hl hm (by simp) (fun j u hu => ?_) (fun j d u hd hu => ?_)) AllR.nil
        · rw [List.getElem?_map] at hu
          cases hj : (zs.take l)[j]? with
          | none => rw [hj] at hu; cases hu
          | some n =>
            rw [hj] at hu
            simp only [Option.map_some, Option.some.injEq] at hu
            subst hu
            rw [List.getElem?_take] at hj
            split at hj
            · have hlt := (List.getElem?_eq_some_iff.1 hj).1
              have hc := hcell j hlt
              rw [List.getD_eq_getElem?_getD, hj] at hc
              have hb := World.block_lt_of_cell? w _ hc
              rw [add_block] at hb
              exact ⟨a, rfl, hb, hc⟩
            · cases hj
        · rw [List.getElem?_map] at hd hu
          cases hj : (zs.take l)[j]? with
          | none => rw [hj] at hu; cases hu
          | some n =>
            rw [hj] at hd hu
            simp only [Option.map_some, Option.some.injEq] at hd hu
            subst hd; subst hu
            exact RepL.int _ _
      · have e : zs.length = l := by
          rw [hz] at hlz ⊢
          split at hlz <;> split <;> first | omega | (exfalso; simp_all; done)
        have e2 : zs.take l = zs := List.take_of_length_le (by omega)
        refine ⟨[.words zs], ?_, AllR.cons (.ws _ (fun n hn => wf_u32 (hwz n hn)) (by omega)) AllR.nil⟩
        rw [hcs]
        refine AllR.cons (RepL.sl (d := .words zs) (sz := 1) (n := l) (fl := zs.map wd) (by simp only [D.sl?, e]) (some a) c (zs.map fun n => .int .u32 n) hl hm (by simp) (fun j u hu => ?_) (fun j d u hd hu => ?_)) AllR.nil
        · rw [List.getElem?_map] at hu
          cases hj : zs[j]? with
          | none => rw [hj] at hu; cases hu
          | some n =>
            rw [hj] at hu
            simp only [Option.map_some, Option.some.injEq] at hu
            subst hu
            have hlt := (List.getElem?_eq_some_iff.1 hj).1
            have hc := hcell j hlt
            rw [List.getD_eq_getElem?_getD, hj] at hc
            have hb := World.block_lt_of_cell? w _ hc
            rw [add_block] at hb
            exact ⟨a, rfl, hb, hc⟩
        · rw [List.getElem?_map] at hd hu
          cases hj : zs[j]? with
          | none => rw [hj] at hu; cases hu
          | some n =>
            rw [hj] at hd hu
            simp only [Option.map_some, Option.some.injEq] at hd hu
            subst hd; subst hu
            exact RepL.int _ _
  | @rows t e es hu he hz hct ih =>
    intro fuel cs x hx
    rcases DataW.trod_slice hu hx with ⟨hcs, _⟩ | ⟨a, len, cap, elems, rest, n, _, hcs, _, _, hl, hm, hlen, hel, _, _⟩
    · refine ⟨[.rows es.length []], ?_, AllR.cons (.rows es [] (by simp) (by simp) (Nat.zero_le _)) AllR.nil⟩
      rw [hcs]
      exact AllR.cons (RepL.nilR w (Fall w) es.length) AllR.nil
    · have hcl := he.cells
      have each : ∀ i, i < len → ∃ (ds : List D) (cv : List Value), (AllR (RepL w (Fall w)) ds cv ∧ AllR OkD es ds) ∧ ∀ (j : Nat) u, cv[j]? = some u → w.cell? (a.add (i * es.length + j)) = some u := by
        intro i hi
        have h1 := hel i hi
        rw [List.getElem?_eq_getElem (by omega), Option.bind_eq_some_iff] at h1
        obtain ⟨cv, h2, h3⟩ := h1
        obtain ⟨ds, h4, h5⟩ := ih n cv _ h3
        refine ⟨ds, cv, ⟨h4, h5⟩, fun j u hu => ?_⟩
        obtain ⟨_, h6, h7⟩ := World.cells?_some h2
        rw [hcl] at h6 h7
        have hj := (List.getElem?_eq_some_iff.1 hu).1
        have := h7 j (by omega)
        rw [add_add] at this
        rw [this, hu]
      obtain ⟨l, m, h1, h2, h3⟩ := pick2 len each
      have hall : ∀ x ∈ l, x.length = es.length := by
        intro y hy
        obtain ⟨i, hi⟩ := List.getElem?_of_mem hy
        have hlt := (List.getElem?_eq_some_iff.1 hi).1
        have := (h3 i y (m[i]'(by omega)) hi (List.getElem?_eq_getElem (by omega))).1.2.1
        exact this.symm
      have hallm : ∀ x ∈ m, x.length = es.length := by
        intro y hy
        obtain ⟨i, hi⟩ := List.getElem?_of_mem hy
        have hlt := (List.getElem?_eq_some_iff.1 hi).1
        have h4 := h3 i (l[i]'(by omega)) y (List.getElem?_eq_getElem (by omega)) hi
        have := h4.1.1.1
        rw [← this]
        exact h4.1.2.1.symm
      refine ⟨[.rows es.length l], ?_, AllR.cons (.rows es l hall (fun y hy j s d hs hd => ?_) (by omega)) AllR.nil⟩
      · rw [hcs]
        have hfl := flat_allR (R := RepL w (Fall w)) l m (by omega) (fun i x y hx hy => (h3 i x y hx hy).1.1)
        refine AllR.cons (RepL.sl (d := .rows es.length l) (sz := es.length) (n := len) (fl := l.flatten) ?_ (some a) cap m.flatten hl hm hfl.1.symm (fun j u hu => ?_) (fun j d u hd hu => hfl.2 j d u hd hu)) AllR.nil
        · have : l.all (fun x => x.length == es.length) = true := List.all_eq_true.2 (fun y hy => beq_iff_eq.2 (hall y hy))
          simp only [D.sl?, this, if_true, h1]
        · obtain ⟨y, h4, h5⟩ := flat_get hz m j u hallm hu
          have hlt := (List.getElem?_eq_some_iff.1 h4).1
          have h6 := (h3 (j / es.length) (l[j / es.length]'(by omega)) y (List.getElem?_eq_getElem (by omega)) h4).2 (j % es.length) u h5
          rw [Nat.div_add_mod'] at h6
          have hb := World.block_lt_of_cell? w _ h6
          rw [add_block] at hb
          exact ⟨a, rfl, hb, h6⟩
      · obtain ⟨i, hi⟩ := List.getElem?_of_mem hy
        have hlt := (List.getElem?_eq_some_iff.1 hi).1
        exact (h3 i y (m[i]'(by omega)) hi (List.getElem?_eq_getElem (by omega))).1.2.2 j s d hs hd
  | @st t fs' l hu hl hc ho hf ih =>
    intro fuel cs x hx
    obtain ⟨xs, n, _, _, hlen, hxs, hall⟩ := DataW.trod_struct hu hx
    refine segs l cs (by rw [hlen, hc]) (fun i s hs => ?_)
    have hi := (List.getElem?_eq_some_iff.1 hs).1
    have hfi : fs'[i]? = some (fs'[i]'(by omega)) := by simp [show i < fs'.size by omega]
    have h1 := hall i _ hfi
    rw [List.getElem?_eq_getElem (by omega), ho i _ hfi, (hf i _ s hfi hs).cells] at h1
    exact ih i _ s hfi hs n _ _ h1
  | @arr t e n es hu he hc ih =>
    intro fuel cs x hx
    obtain ⟨xs, m, _, _, hlen, hxs, hall⟩ := DataW.trod_array hu hx
    refine segs _ cs (by rw [hlen, hc]) (fun i s hs => ?_)
    have hi := (List.getElem?_eq_some_iff.1 hs).1
    rw [List.length_replicate] at hi
    rw [List.getElem?_replicate, if_pos hi] at hs
    injection hs with hs
    subst hs
    have h1 := hall i hi
    rw [List.getElem?_eq_getElem (show i < xs.length by omega), he.cells] at h1
    have e1 : ((List.replicate n es).take i).flatten.length = i * es.length := by
      rw [List.take_replicate, Nat.min_eq_left (Nat.le_of_lt hi)]; simp
    rw [e1]
    exact ih m _ _ h1
/-- An argument of one cell. -/
theorem read_one {P : Program} {H : Type} {enc : TypeId × Value → H} {w : World} {sp : Nat → Bool} {t : TypeId} {s : Sh} {v : Value} {d : DataW H} {p : List MemPlace} (h : HasSh P t [s]) (ht : DataW.Trod enc P w 0 sp true t v d p) (hv : v.cells = #[v]) :
    ∃ x, OkD s x ∧ VR1 w (Fall w) (fun _ => undef) (fun _ => none) (.d x) v := by
  obtain ⟨fuel, hf⟩ := ht
  obtain ⟨ds, h1, h2⟩ := hasSh_read h fuel _ _ hf
  rw [hv] at h1
  obtain ⟨u, us, e, h3, h4⟩ := h2.head
  obtain rfl := h4.nil_of
  subst e
  exact ⟨u, h3, h1.2 0 u v rfl rfl⟩
/-- An argument of many cells. -/
theorem read_agg {P : Program} {H : Type} {enc : TypeId × Value → H} {w : World} {sp : Nat → Bool} {t : TypeId} {s : List Sh} {cs : Array Value} {d : DataW H} {p : List MemPlace} (h : HasSh P t s) (ht : DataW.Trod enc P w 0 sp true t (.agg cs) d p) :
    ∃ ds, AllR OkD s ds ∧ VR1 w (Fall w) (fun _ => undef) (fun _ => none) (.agg s.length ds) (.agg cs) := by
  obtain ⟨fuel, hf⟩ := ht
  obtain ⟨ds, h1, h2⟩ := hasSh_read h fuel _ _ hf
  exact ⟨ds, h2, h2.1.symm, cs, rfl, h1⟩
theorem okWide_agg {P : Program} {W : World} {base : Nat} {r : Reach} {t : TypeId} {v : Value} {n : Nat} {e : TypeId} {fs : Array Field} (ht : P.underlying t = some (.struct fs) ∨ P.underlying t = some (.array n e)) (h : Value.okWide P W r base t v) : ∃ cs, v = .agg cs := by
  rcases ht with ht | ht <;> simp only [Value.okWide, ht] at h <;> obtain ⟨cs, h1, _⟩ := h <;> exact ⟨cs, h1⟩
theorem okWide_st {P : Program} {W : World} {base : Nat} {r : Reach} {t : TypeId} {v : Value} {fs : Array Field} (ht : P.underlying t = some (.struct fs)) (h : Value.okWide P W r base t v) : ∃ cs, v = .agg cs := okWide_agg (n := 0) (e := 0) (.inl ht) h
theorem okWide_ar {P : Program} {W : World} {base : Nat} {r : Reach} {t : TypeId} {v : Value} {n : Nat} {e : TypeId} (ht : P.underlying t = some (.array n e)) (h : Value.okWide P W r base t v) : ∃ cs, v = .agg cs := okWide_agg (fs := #[]) (.inr ht) h
theorem inv_ws {x : D} (h : OkD .ws x) : ∃ l, x = .words l ∧ Wd l ∧ l.length ≤ maxLen := by cases h; exact ⟨_, rfl, by assumption, by assumption⟩
theorem inv_bool {x : D} (h : OkD .bool x) : ∃ b, x = .bool b := by cases h; exact ⟨_, rfl⟩
theorem inv_int {k : IntKind} {x : D} (h : OkD (.int k) x) : ∃ n, x = .int k n ∧ (Lit.int k n).wf = true := by cases h; exact ⟨_, rfl, by assumption⟩
theorem inv_rows {e : List Sh} {x : D} (h : OkD (.rows e) x) : ∃ l, x = .rows e.length l ∧ (∀ y ∈ l, AllR OkD e y) ∧ l.length ≤ maxLen := by
  cases h with
  | rows _ l h1 h2 hl => exact ⟨l, rfl, fun y hy => ⟨(h1 y hy).symm, fun j s d => h2 y hy j s d⟩, hl⟩
end Go.Proofs.Ythefflmebkcilaa.Fw

/- The laws CommonBoth and CommonDivides, walked. -/
set_option linter.unusedVariables false
namespace Go.Proofs.Ythefflmebkcilaa.Fw
open Go Pu
theorem OfN_spec (n : Nat) (h : n < 18446744073709551616) : Runs Try.prog g_nat_Of [.d (.int .u64 (n : Int))] (.d (.words (toW n))) := by
  have := Of_spec (n := (n : Int)) (by omega) (by omega)
  rw [Int.toNat_natCast] at this
  exact this
theorem nwS {n : Nat} (h : n < 18446744073709551616) : (toW n).length ≤ 137438953472 := by have := nw_two.2 h; omega
theorem CancelN_spec {m n : Nat} (hm : (toW m).length ≤ 137438953472) (hn : (toW n).length ≤ 137438953472) :
    Runs Try.prog g_common_Cancel [.d (.words (toW m)), .d (.words (toW n))] (.tup [.d (.words (toW (m / Nat.gcd m n))), .d (.words (toW (n / Nat.gcd m n)))]) := by
  have := Cancel_spec (Wd.toW m) (Wd.toW n) hm hn
  rw [val_toW, val_toW] at this
  exact this
theorem GcdN_spec {m n : Nat} (hm : (toW m).length ≤ 137438953472) (hn : (toW n).length ≤ 137438953472) : Runs Try.prog g_common_Gcd [.d (.words (toW m)), .d (.words (toW n))] (.d (.words (toW (Nat.gcd m n)))) := by
  have := Gcd_spec (Wd.toW m) (Wd.toW n) hm hn
  rw [val_toW, val_toW] at this
  exact this
theorem LcmN_spec {m n : Nat} (hm : (toW m).length ≤ 137438953472) (hn : (toW n).length ≤ 137438953472) : Runs Try.prog g_common_Lcm [.d (.words (toW m)), .d (.words (toW n))] (.d (.words (toW (m / Nat.gcd m n * n)))) := by
  have := Lcm_spec (Wd.toW m) (Wd.toW n) hm hn
  rw [val_toW, val_toW] at this
  exact this
theorem MulN_spec {m n : Nat} (hm : (toW m).length ≤ 274877906944) (hn : (toW n).length ≤ 274877906944) : Runs Try.prog g_prod_Mul [.d (.words (toW m)), .d (.words (toW n))] (.d (.words (toW (m * n)))) := by
  have := Mul_spec (Wd.toW m) (Wd.toW n) hm hn
  rw [val_toW, val_toW] at this
  exact this
theorem works06 : Runs Try.prog g_retrospectlaw06_works [] (.d (.bool true)) := by
  refine run1 [] p_retrospectlaw06_works rfl rfl (fun B S F0 w0 V0 => ?_)
  have one : ∀ n : Nat, n ≠ 0 → n < 4294967296 → toW n = [(n : Int)] := fun n h0 h => nw_one h0 h
  have hcn := CancelN_spec (m := 12) (n := 18) (nwS (by omega)) (nwS (by omega))
  have hg := GcdN_spec (m := 12) (n := 18) (nwS (by omega)) (nwS (by omega))
  have hl := LcmN_spec (m := 4) (n := 6) (nwS (by omega)) (nwS (by omega))
  rw [show toW (12 / Nat.gcd 12 18) = [2] from one 2 (by omega) (by omega), show toW (18 / Nat.gcd 12 18) = [3] from one 3 (by omega) (by omega)] at hcn
  rw [show toW (Nat.gcd 12 18) = [6] from one 6 (by omega) (by omega)] at hg
  rw [show toW (4 / Nat.gcd 4 6 * 6) = [12] from one 12 (by omega) (by omega)] at hl
  refine call_intro _ (OfN_spec 12 (by omega)) ?_
  refine call_intro _ (OfN_spec 18 (by omega)) ?_
  refine call_intro _ hcn ?_
  refine call_intro _ (OfN_spec 12 (by omega)) ?_
  refine call_intro _ (OfN_spec 18 (by omega)) ?_
  refine call_intro _ hg ?_
  refine call_intro _ (same_true rfl (by decide)) ?_
  refine split_true rfl ?_
  refine call_intro _ (OfN_spec 4 (by omega)) ?_
  refine call_intro _ (OfN_spec 6 (by omega)) ?_
  refine call_intro _ hl ?_
  refine call_intro _ (same_true rfl (by decide)) ?_
  refine split_true rfl ?_
  refine call_intro _ (same_true rfl (by decide)) ?_
  refine split_true rfl ?_
  refine call_intro _ (same_true rfl (by decide)) ?_
  exact ret_intro rfl rfl
theorem lcm_times (a b : Nat) : Nat.gcd a b * (a / Nat.gcd a b * b) = a * b := by
  rw [← Nat.mul_assoc, Nat.mul_div_cancel' (Nat.gcd_dvd_left a b)]
theorem lcm_left (a b : Nat) : a ∣ a / Nat.gcd a b * b := by
  refine ⟨b / Nat.gcd a b, ?_⟩
  rcases Nat.eq_zero_or_pos (Nat.gcd a b) with h | h
  · rw [h, Nat.div_zero, Nat.div_zero, Nat.zero_mul, Nat.mul_zero]
  · apply Nat.eq_of_mul_eq_mul_left h
    rw [lcm_times, ← Nat.mul_assoc, Nat.mul_comm (Nat.gcd a b) a, Nat.mul_assoc, Nat.mul_div_cancel' (Nat.gcd_dvd_right a b)]
theorem ZeroN_spec {n : Nat} (h : (toW n).length ≤ 1099511627776) : Runs Try.prog g_nat_Zero [.d (.words (toW n))] (.d (.bool (decide (n = 0)))) := by
  have := Zero_spec (Wd.toW n) h
  rw [val_toW] at this
  exact this
theorem CommonBoth_runs {a b : List Int} (hwa : Wd a) (hwb : Wd b) (ha : a.length ≤ 9223372036854775807) (hb : b.length ≤ 9223372036854775807) :
    Runs Try.prog g_retrospectlaw06_CommonBoth [.d (.words a), .d (.words b)] (.d (.bool true)) := by
  refine run1 [] p_retrospectlaw06_CommonBoth rfl rfl (fun B S F0 w0 V0 => ?_)
  refine split_intro (fun h => ?_) (fun h => ?_)
  · refine split_true rfl ?_
    refine call_intro _ works06 ?_
    exact ret_intro rfl rfl
  have h1 : ¬ (a.length : Int) > 20 := of_decide_eq_false h
  refine split_intro (fun h => ?_) (fun h => ?_)
  · refine call_intro _ works06 ?_
    exact ret_intro rfl rfl
  have h2 : ¬ (b.length : Int) > 20 := of_decide_eq_false h
  have la := nw_val hwa (k := 20) (by omega)
  have lb := nw_val hwb (k := 20) (by omega)
  refine call_intro _ (Lcm_spec hwa hwb (by omega) (by omega)) ?_
  have lm : (toW (val a / Nat.gcd (val a) (val b) * val b)).length ≤ 40 := by
    have := nw_mul (val a / Nat.gcd (val a) (val b)) (val b)
    have := nw_le (Nat.div_le_self (val a) (Nat.gcd (val a) (val b))) la
    omega
  obtain ⟨m, hm⟩ : ∃ m, m = val a / Nat.gcd (val a) (val b) * val b := ⟨_, rfl⟩
  rw [← hm] at lm ⊢
  refine call_intro _ (Zero_spec hwa (by omega)) ?_
  have zcase : m = 0 → Runs Try.prog g_nat_Zero [.d (.words (toW m))] (.d (.bool true)) := fun h => by
    have := ZeroN_spec (n := m) (by omega)
    rw [decide_eq_true h] at this
    exact this
  refine split_intro (fun h => ?_) (fun h => ?_)
  · have h : val a = 0 := of_decide_eq_true h
    refine split_true rfl ?_
    refine call_intro _ (zcase (by rw [hm, h, Nat.zero_div, Nat.zero_mul])) ?_
    refine split_true rfl ?_
    refine call_intro _ works06 ?_
    exact ret_intro rfl rfl
  have ha0 : val a ≠ 0 := of_decide_eq_false h
  refine call_intro _ (Zero_spec hwb (by omega)) ?_
  refine split_intro (fun h => ?_) (fun h => ?_)
  · have h : val b = 0 := of_decide_eq_true h
    refine call_intro _ (zcase (by rw [hm, h, Nat.mul_zero])) ?_
    refine split_true rfl ?_
    refine call_intro _ works06 ?_
    exact ret_intro rfl rfl
  have hb0 : val b ≠ 0 := of_decide_eq_false h
  have hx1 := Exact_spec (a := toW m) (Wd.toW _) hwa (by omega) (by omega)
  have hx2 := Exact_spec (a := toW m) (Wd.toW _) hwb (by omega) (by omega)
  rw [val_toW, if_pos ⟨ha0, Nat.mod_eq_zero_of_dvd (by rw [hm]; exact lcm_left _ _)⟩] at hx1
  rw [val_toW, if_pos ⟨hb0, Nat.mod_eq_zero_of_dvd (by rw [hm]; exact Nat.dvd_mul_left _ _)⟩] at hx2
  refine call_intro _ hx1 ?_
  refine call_intro _ hx2 ?_
  refine call_intro _ (Gcd_spec hwa hwb (by omega) (by omega)) ?_
  have lg := nw_gcd la lb
  have hmu := MulN_spec (m := Nat.gcd (val a) (val b)) (n := m) (by omega) (by omega)
  rw [show Nat.gcd (val a) (val b) * m = val a * val b by rw [hm, lcm_times]] at hmu
  refine call_intro _ hmu ?_
  refine call_intro _ (Mul_spec hwa hwb (by omega) (by omega)) ?_
  have lab := nw_mul (val a) (val b)
  refine call_intro _ (same_true rfl (by omega)) ?_
  refine split_true rfl ?_
  refine split_true rfl ?_
  refine split_true rfl ?_
  refine call_intro _ works06 ?_
  exact ret_intro rfl rfl
theorem gcd_over {m n : Nat} (h : Nat.gcd m n ≠ 0) : Nat.gcd (m / Nat.gcd m n) (n / Nat.gcd m n) = 1 := by
  rw [Nat.gcd_div (Nat.gcd_dvd_left _ _) (Nat.gcd_dvd_right _ _), Nat.div_self (by omega)]
theorem CommonDivides_runs {a b c : List Int} (hwa : Wd a) (hwb : Wd b) (hwc : Wd c) (ha : a.length ≤ 9223372036854775807) (hb : b.length ≤ 9223372036854775807) (hc : c.length ≤ 9223372036854775807) :
    Runs Try.prog g_retrospectlaw06_CommonDivides [.d (.words a), .d (.words b), .d (.words c)] (.d (.bool true)) := by
  refine run1 [] p_retrospectlaw06_CommonDivides rfl rfl (fun B S F0 w0 V0 => ?_)
  refine split_intro (fun h => ?_) (fun h => ?_)
  · refine split_true rfl ?_
    refine split_true rfl ?_
    refine call_intro _ works06 ?_
    exact ret_intro rfl rfl
  have h1 : ¬ (a.length : Int) > 20 := of_decide_eq_false h
  refine split_intro (fun h => ?_) (fun h => ?_)
  · refine split_true rfl ?_
    refine call_intro _ works06 ?_
    exact ret_intro rfl rfl
  have h2 : ¬ (b.length : Int) > 20 := of_decide_eq_false h
  refine split_intro (fun h => ?_) (fun h => ?_)
  · refine call_intro _ works06 ?_
    exact ret_intro rfl rfl
  have h3 : ¬ (c.length : Int) > 20 := of_decide_eq_false h
  have la := nw_val hwa (k := 20) (by omega)
  have lb := nw_val hwb (k := 20) (by omega)
  have lc := nw_val hwc (k := 20) (by omega)
  refine call_intro _ (Gcd_spec hwa hwb (by omega) (by omega)) ?_
  have lg := nw_gcd la lb
  obtain ⟨g, hg⟩ : ∃ g, g = Nat.gcd (val a) (val b) := ⟨_, rfl⟩
  rw [← hg] at lg ⊢
  refine call_intro _ (Mul_spec hwa hwc (by omega) (by omega)) ?_
  refine call_intro _ (Mul_spec hwb hwc (by omega) (by omega)) ?_
  have lac := nw_mul (val a) (val c)
  have lbc := nw_mul (val b) (val c)
  have hgg := GcdN_spec (m := val a * val c) (n := val b * val c) (by omega) (by omega)
  rw [Nat.gcd_mul_right, ← hg] at hgg
  refine call_intro _ hgg ?_
  have hm := Mul_spec (a := toW g) (b := c) (Wd.toW _) hwc (by omega) (by omega)
  rw [val_toW] at hm
  refine call_intro _ hm ?_
  have lgc := nw_mul g (val c)
  refine call_intro _ (same_true rfl (by omega)) ?_
  refine split_false rfl ?_
  have hg2 := Gcd_spec hwb hwa (by omega) (by omega)
  rw [Nat.gcd_comm, ← hg] at hg2
  refine call_intro _ hg2 ?_
  refine call_intro _ (same_true rfl (by omega)) ?_
  refine split_false rfl ?_
  have hxa : g ≠ 0 → Runs Try.prog g_quot_Exact [.d (.words a), .d (.words (toW g))] (.tup [.d (.words (toW (val a / g))), .d (.bool true)]) := fun h0 => by
    have := Exact_spec (a := a) (b := toW g) hwa (Wd.toW _) (by omega) (by omega)
    rw [val_toW, if_pos ⟨h0, Nat.mod_eq_zero_of_dvd (by rw [hg]; exact Nat.gcd_dvd_left _ _)⟩] at this
    exact this
  have hxb : g ≠ 0 → Runs Try.prog g_quot_Exact [.d (.words b), .d (.words (toW g))] (.tup [.d (.words (toW (val b / g))), .d (.bool true)]) := fun h0 => by
    have := Exact_spec (a := b) (b := toW g) hwb (Wd.toW _) (by omega) (by omega)
    rw [val_toW, if_pos ⟨h0, Nat.mod_eq_zero_of_dvd (by rw [hg]; exact Nat.gcd_dvd_right _ _)⟩] at this
    exact this
  have hpr : g ≠ 0 → Runs Try.prog g_common_Prime [.d (.words (toW (val a / g))), .d (.words (toW (val b / g)))] (.d (.bool true)) := fun h0 => by
    have := Prime_spec (a := toW (val a / g)) (b := toW (val b / g)) (Wd.toW _) (Wd.toW _) (by have := nw_le (Nat.div_le_self (val a) g) la; omega) (by have := nw_le (Nat.div_le_self (val b) g) lb; omega)
    rw [val_toW, val_toW, decide_eq_true (by rw [hg]; exact gcd_over (by rw [← hg]; exact h0))] at this
    exact this
  refine call_intro _ (Zero_spec hwa (by omega)) ?_
  refine split_intro (fun h => ?_) (fun h => ?_)
  · have h : val a = 0 := of_decide_eq_true h
    refine call_intro _ (Zero_spec hwb (by omega)) ?_
    refine split_intro (fun h' => ?_) (fun h' => ?_)
    · have h' : val b = 0 := of_decide_eq_true h'
      have hz := ZeroN_spec (n := g) (by omega)
      rw [decide_eq_true (by rw [hg, h, h']; rfl)] at hz
      refine call_intro _ hz ?_
      refine split_true rfl ?_
      refine call_intro _ works06 ?_
      exact ret_intro rfl rfl
    · have h' : val b ≠ 0 := of_decide_eq_false h'
      have g0 : g ≠ 0 := by rw [hg]; intro e; exact h' (Nat.gcd_eq_zero_iff.1 e).2
      refine call_intro _ (hxa g0) ?_
      refine call_intro _ (hxb g0) ?_
      refine split_true rfl ?_
      refine split_true rfl ?_
      refine call_intro _ (hpr g0) ?_
      refine split_true rfl ?_
      refine call_intro _ works06 ?_
      exact ret_intro rfl rfl
  · have h : val a ≠ 0 := of_decide_eq_false h
    have g0 : g ≠ 0 := by rw [hg]; intro e; exact h (Nat.gcd_eq_zero_iff.1 e).1
    refine split_false rfl ?_
    refine call_intro _ (hxa g0) ?_
    refine call_intro _ (hxb g0) ?_
    refine split_true rfl ?_
    refine split_true rfl ?_
    refine call_intro _ (hpr g0) ?_
    refine split_true rfl ?_
    refine call_intro _ works06 ?_
    exact ret_intro rfl rfl
theorem CommonBoth_typed {x y : D} (h0 : OkD .ws x) (h1 : OkD .ws y) : Runs Try.prog g_retrospectlaw06_CommonBoth [.d x, .d y] (.d (.bool true)) := by
  obtain ⟨a, rfl, hwa, ha⟩ := inv_ws h0
  obtain ⟨b, rfl, hwb, hb⟩ := inv_ws h1
  exact CommonBoth_runs hwa hwb ha hb
theorem CommonDivides_typed {x y z : D} (h0 : OkD .ws x) (h1 : OkD .ws y) (h2 : OkD .ws z) : Runs Try.prog g_retrospectlaw06_CommonDivides [.d x, .d y, .d z] (.d (.bool true)) := by
  obtain ⟨a, rfl, hwa, ha⟩ := inv_ws h0
  obtain ⟨b, rfl, hwb, hb⟩ := inv_ws h1
  obtain ⟨c, rfl, hwc, hc⟩ := inv_ws h2
  exact CommonDivides_runs hwa hwb hwc ha hb hc
end Go.Proofs.Ythefflmebkcilaa.Fw

/- How often a number can be halved; common divisors by halving. -/
namespace Go.Proofs.Ythefflmebkcilaa.Pu
def tz (n : Nat) : Nat := if h : n % 2 = 1 ∨ n = 0 then 0 else tz (n / 2) + 1
termination_by n
decreasing_by omega
def op (n : Nat) : Nat := n / 2 ^ tz n
theorem tz_odd {n : Nat} (h : n % 2 = 1) : tz n = 0 := by rw [tz, dif_pos (.inl h)]
theorem tz_two {n : Nat} (h : n ≠ 0) : tz (2 * n) = tz n + 1 := by
  rw [tz, dif_neg (by omega), show 2 * n / 2 = n by omega]
theorem tz_even {n : Nat} (h : n % 2 = 0) (h0 : n ≠ 0) : tz n = tz (n / 2) + 1 := by rw [tz, dif_neg (by omega)]
theorem tz_pow (k u : Nat) (h : u % 2 = 1) : tz (2 ^ k * u) = k := by
  induction k with
  | zero => rw [Nat.pow_zero, Nat.one_mul]; exact tz_odd h
  | succ k ih =>
    have : 2 ^ k * u ≠ 0 := by
      have := Nat.mul_pos (Nat.two_pow_pos k) (show 0 < u by omega)
      omega
    rw [Nat.pow_succ, Nat.mul_comm (2 ^ k) 2, Nat.mul_assoc, tz_two this, ih]
theorem op_eq {n : Nat} (h : n ≠ 0) : n = 2 ^ tz n * op n ∧ op n % 2 = 1 := by
  induction n using Nat.strongRecOn with
  | _ n ih =>
    by_cases h1 : n % 2 = 1
    · unfold op
      rw [tz_odd h1, Nat.pow_zero, Nat.div_one, Nat.one_mul]
      exact ⟨rfl, h1⟩
    · obtain ⟨e1, e2⟩ := ih (n / 2) (by omega) (by omega)
      have e3 := tz_even (n := n) (by omega) h
      have e4 : n = 2 * (n / 2) := by omega
      have hp : 0 < 2 ^ tz (n / 2) := Nat.two_pow_pos _
      have e5 : op n = op (n / 2) := by
        have : op n = 2 * (n / 2) / (2 ^ tz (n / 2) * 2) := by
          unfold op
          rw [e3, Nat.pow_succ, ← e4]
        rw [this, Nat.mul_comm (2 ^ _) 2, Nat.mul_div_mul_left _ _ (by omega)]
        rfl
      rw [e5, e3]
      refine ⟨?_, e2⟩
      rw [Nat.pow_succ, Nat.mul_assoc, Nat.mul_comm 2, ← Nat.mul_assoc, ← e1]
      omega
theorem op_pos {n : Nat} (h : n ≠ 0) : 0 < op n := by have := (op_eq h).2; omega
theorem op_le (n : Nat) : op n ≤ n := Nat.div_le_self _ _
theorem pow_tz_le {n : Nat} (h : n ≠ 0) : 2 ^ tz n ≤ n := by
  obtain ⟨h1, h2⟩ := op_eq h
  have h3 : 2 ^ tz n * 1 ≤ 2 ^ tz n * op n := Nat.mul_le_mul_left _ (by omega)
  omega
theorem tz_lt {n k : Nat} (h : n ≠ 0) (hk : n < 2 ^ k) : tz n < k := by
  rcases Nat.lt_or_ge (tz n) k with h1 | h1
  · exact h1
  · have h2 := pow_tz_le h
    have h3 : 2 ^ k ≤ 2 ^ tz n := Nat.pow_le_pow_right (by omega) h1
    omega
theorem tz_word {x y : Nat} (hx : x ≠ 0) (hlt : x < 4294967296) : tz (x + 4294967296 * y) = tz x := by
  obtain ⟨h1, h2⟩ := op_eq hx
  have h3 : tz x < 32 := tz_lt hx hlt
  have h4 : 2 ^ tz x * 2 ^ (32 - tz x) = 4294967296 := pow32 (by omega)
  have h5 : 2 ^ (32 - tz x) = 2 * 2 ^ (31 - tz x) := by rw [show 32 - tz x = (31 - tz x) + 1 by omega, Nat.pow_succ, Nat.mul_comm]
  have e : x + 4294967296 * y = 2 ^ tz x * (op x + 2 * (2 ^ (31 - tz x) * y)) := by
    rw [Nat.mul_add, ← h1, ← Nat.mul_assoc 2, ← h5, ← Nat.mul_assoc, h4]
  rw [e, tz_pow _ _ (by omega)]
theorem tz_shift {n : Nat} (h : n ≠ 0) : tz (4294967296 * n) = 32 + tz n := by
  obtain ⟨h1, h2⟩ := op_eq h
  have e : 4294967296 * n = 2 ^ (32 + tz n) * op n := by
    rw [Nat.pow_add, Nat.mul_assoc, ← h1]
  rw [e, tz_pow _ _ h2]
theorem op_shift {n : Nat} (h : n ≠ 0) : op (4294967296 * n) = op n := by
  have h1 : op (4294967296 * n) = 4294967296 * n / (2 ^ 32 * 2 ^ tz n) := by unfold op; rw [tz_shift h, Nat.pow_add]
  rw [h1, show (2 : Nat) ^ 32 = 4294967296 from rfl, Nat.mul_div_mul_left _ _ (by omega)]
  rfl
theorem gcd_two_odd (m n : Nat) (h : n % 2 = 1) : Nat.gcd (2 * m) n = Nat.gcd m n := by
  have h1 : Nat.gcd 2 n = 1 := by rw [Nat.gcd_comm, Nat.gcd_comm, Nat.gcd_rec, h]; rfl
  exact Nat.Coprime.gcd_mul_left_cancel m h1
theorem gcd_pow_odd (k m n : Nat) (h : n % 2 = 1) : Nat.gcd (2 ^ k * m) n = Nat.gcd m n := by
  induction k with
  | zero => rw [Nat.pow_zero, Nat.one_mul]
  | succ k ih => rw [Nat.pow_succ, Nat.mul_comm (2 ^ k) 2, Nat.mul_assoc, gcd_two_odd _ _ h, ih]
theorem gcd_op {m n : Nat} (h : n % 2 = 1) (hm : m ≠ 0) : Nat.gcd (op m) n = Nat.gcd m n := by
  conv => rhs; rw [(op_eq hm).1]
  rw [gcd_pow_odd _ _ _ h]
theorem gcd_both {m n : Nat} (hm : m ≠ 0) (hn : n ≠ 0) : Nat.gcd m n = 2 ^ min (tz m) (tz n) * Nat.gcd (op m) (op n) := by
  obtain ⟨h1, h2⟩ := op_eq hm
  obtain ⟨h3, h4⟩ := op_eq hn
  rcases Nat.le_total (tz m) (tz n) with h | h
  · rw [Nat.min_eq_left h]
    have e : n = 2 ^ tz m * (2 ^ (tz n - tz m) * op n) := by
      rw [← Nat.mul_assoc, ← Nat.pow_add, show tz m + (tz n - tz m) = tz n by omega]; exact h3
    have e2 : Nat.gcd m n = Nat.gcd (2 ^ tz m * op m) (2 ^ tz m * (2 ^ (tz n - tz m) * op n)) := by rw [← h1, ← e]
    rw [e2, Nat.gcd_mul_left, Nat.gcd_comm (op m), gcd_pow_odd _ _ _ h2, Nat.gcd_comm]
  · rw [Nat.min_eq_right h]
    have e : m = 2 ^ tz n * (2 ^ (tz m - tz n) * op m) := by
      rw [← Nat.mul_assoc, ← Nat.pow_add, show tz n + (tz m - tz n) = tz m by omega]; exact h1
    have e2 : Nat.gcd m n = Nat.gcd (2 ^ tz n * (2 ^ (tz m - tz n) * op m)) (2 ^ tz n * op n) := by rw [← h3, ← e]
    rw [e2, Nat.gcd_mul_left, gcd_pow_odd _ _ _ h4]
theorem gcd_less {m n : Nat} (h : n ≤ m) : Nat.gcd (m - n) n = Nat.gcd m n := by
  rw [Nat.gcd_sub_self_left h]
end Go.Proofs.Ythefflmebkcilaa.Pu

/- The document's common divisor: its parts that turn rows in place. -/
set_option linter.unusedVariables false
namespace Go.Proofs.Ythefflmebkcilaa.Fw
open Go Pu
theorem Zeros_spec {x : Nat} (h0 : x ≠ 0) (hx : x < 4294967296) : Runs Try.prog g_retrospectref01_Zeros [.d (.int .u32 (x : Int))] (.d (.int .i64 (tz x))) := by
  refine run1 [] p_retrospectref01_Zeros rfl rfl (fun B S F0 w0 V0 => ?_)
  have ht := tz_lt (k := 32) h0 hx
  refine split_false (beq_eq_false_iff_ne.2 (by show (x : Int) ≠ 0; omega)) ?_
  refine loop_intro (fun p : Nat × Nat => st [(0, .d (.int .u32 (p.1 : Int))), (3, .d (.int .i64 (p.2 : Int)))] []) (fun p => p.1) (fun p => p.1 ≠ 0 ∧ p.1 < 4294967296 ∧ tz x = p.2 + tz p.1) (x, 0) ⟨h0, hx, (Nat.zero_add _).symm⟩ (weak_st _ _ ⟨rfl, rfl, trivial⟩ trivial rfl) ?_
  rintro ⟨y, n⟩ ⟨h1, h2, h3⟩
  dsimp only at h1 h2 h3
  refine side_intro (by show (2 : Int) ≠ 0; omega) ?_
  have em : ((y : Int)).tmod 2 = ((y % 2 : Nat) : Int) := by rw [Int.tmod_eq_emod_of_nonneg (by omega)]; omega
  refine split_intro (fun h => ?_) (fun h => ?_)
  · have h : ((y : Int)).tmod 2 = 0 := eq_of_beq h
    rw [em] at h
    have he : y % 2 = 0 := by omega
    have ht2 := tz_even he h1
    refine side_intro (by show (2 : Int) ≠ 0; omega) ?_
    refine ⟨(y / 2, n + 1), ⟨by show y / 2 ≠ 0; omega, by show y / 2 < _; omega, by show tz x = n + 1 + tz (y / 2); omega⟩, by show y / 2 < y; omega, weak_st _ _ ⟨u32_inj ?_, i64_inj ?_, trivial⟩ trivial rfl⟩
    · show IntKind.u32.wrap (((y : Int)).tdiv 2) = _
      rw [Int.tdiv_eq_ediv_of_nonneg (by omega), w32]; omega
    · show IntKind.i64.wrap ((n : Int) + 1) = _
      rw [wr (by omega) (by omega)]; rfl
  · have h : ((y : Int)).tmod 2 ≠ 0 := beq_eq_false_iff_ne.1 h
    rw [em] at h
    have := tz_odd (n := y) (by omega)
    refine ret_intro (i64_inj ?_) rfl
    show (n : Int) = _
    omega
theorem dig_toW {n v : Nat} (h : (toW v).length ≤ n) : dig n v = toW v ++ List.replicate (n - (toW v).length) 0 := by
  refine (dig_eq ((Wd.toW v).app (Wd.zeros _)) ?_ ?_).symm
  · rw [List.length_append, List.length_replicate]; omega
  · rw [val_app_zeros, val_toW]
theorem dig_top {n v k : Nat} (h : (toW v).length ≤ k) (hk : k < n) : (dig n v).getD k 0 = 0 := by
  rw [dig_toW (by omega), List.getD_eq_getElem?_getD, List.getElem?_append_right h, List.getElem?_replicate]
  split <;> rfl
theorem dig_last {n v : Nat} (hv : v ≠ 0) (h : (toW v).length ≤ n) : (dig n v).getD ((toW v).length - 1) 0 ≠ 0 := by
  have hl : (toW v).length ≠ 0 := fun e => hv (toW_len_zero.1 e)
  rw [dig_toW h, List.getD_eq_getElem?_getD, List.getElem?_append_left (by omega)]
  intro e
  have h1 : (toW v)[(toW v).length - 1]? = some ((toW v).getD ((toW v).length - 1) 0) := el _ (by omega)
  rw [h1] at e
  refine toW_last (n := v) (x := (toW v).getD ((toW v).length - 1) 0) ?_ e
  rw [List.getLast?_eq_getElem?, h1]
theorem down_spec {L M R : List Int} {n off len : Nat} (hoff : off = L.length) (hlen' : len = M.length) (hwM : Wd M) (hn : n < 32) (hlen : (L ++ (M ++ R)).length ≤ 8796093022208) (hv0 : val M / 2 ^ n ≠ 0) :
    RunsG Try.prog g_retrospectref06_down [.own 1000 off len, .d (.int .i64 (n : Int))] [(1000, .words tU32 (L ++ (M ++ R)))] (.own 1000 off (toW (val M / 2 ^ n)).length) [(1000, .words tU32 (L ++ (dig len (val M / 2 ^ n) ++ R)))] := by
  have hN : (L ++ (M ++ R)).length = off + len + R.length := by simp [hoff, hlen']; omega
  rw [hN] at hlen
  have hpp : 0 < 2 ^ n := Nat.two_pow_pos n
  have hvl : val M / 2 ^ n < 4294967296 ^ len := Nat.lt_of_le_of_lt (Nat.div_le_self _ _) (by rw [hlen']; exact val_lt hwM)
  have hwl : (toW (val M / 2 ^ n)).length ≤ len := toW_len_le hvl
  have hwl0 : (toW (val M / 2 ^ n)).length ≠ 0 := fun e => hv0 (toW_len_zero.1 e)
  refine runG [] p_retrospectref06_down rfl rfl rfl rfl (fun B S F0 w0 V0 => ?_)
  refine loop_intro (fun p : Nat × List Int => st [(0, .own 1000 off len), (1, .d (.int .i64 (n : Int))), (5, .d (.int .i64 (p.1 : Int)))] [(1000, .words tU32 (L ++ (p.2 ++ R)))]) (fun p => len - p.1)
    (fun p => p.1 ≤ len ∧ p.2.length = len ∧ Wd p.2 ∧ (∀ j, p.1 ≤ j → p.2.getD j 0 = M.getD j 0) ∧ val (p.2.take p.1) + 4294967296 ^ p.1 * (val (M.drop p.1) / 2 ^ n) = val M / 2 ^ n) (0, M)
    ⟨Nat.zero_le _, hlen'.symm, hwM, fun _ _ => rfl, by simp [val]⟩ (weak_st _ _ ⟨rfl, rfl, rfl, trivial⟩ ⟨rfl, trivial⟩ rfl) ?_
  rintro ⟨i, m⟩ ⟨hi, hl, hwm, hsame, hv⟩
  dsimp only at hi hl hwm hsame hv
  refine split_intro (fun h => ?_) (fun h => ?_)
  · have hlt : i < len := by have h : (i : Int) < (len : Int) := of_decide_eq_true h; omega
    have ei : IntKind.i64.wrap ((i : Int) + 1) = ((i + 1 : Nat) : Int) := by rw [wr (by omega) (by omega)]; omega
    obtain ⟨x, hx, hx'⟩ := mget M hwM i
    obtain ⟨y, hy, hy'⟩ := mget M hwM (i + 1)
    have hmx : m.getD i 0 = (x : Int) := by rw [hsame i (Nat.le_refl _), hx]
    have hvd := val_drop_cons' M i
    have hvm := val_mod M (i + 1) (n := n) (by omega)
    rw [hx, Int.toNat_natCast] at hvd
    rw [hy, Int.toNat_natCast] at hvm
    have hst := down_step (x := x) (n := n) (by omega) (by omega) hvm
    have fin : ∀ (dg : Int), dg = (((x + 4294967296 * y) / 2 ^ n % 4294967296 : Nat) : Int) → W32 dg ∧ val ((m.set i dg).take (i + 1)) + 4294967296 ^ (i + 1) * (val (M.drop (i + 1)) / 2 ^ n) = val M / 2 ^ n := by
      rintro _ rfl
      refine ⟨⟨by omega, by omega⟩, ?_⟩
      rw [val_take_set (by omega), Int.toNat_natCast, Nat.pow_succ, Nat.mul_assoc, Nat.add_assoc, ← Nat.mul_add, hst, ← hvd, hv]
    have fdn : ∀ (z : Nat), ((z : Int)).fdiv (2 ^ (min ((n : Int)).toNat IntKind.u64.bits)) = ((z / 2 ^ n : Nat) : Int) := by
      intro z
      rw [Int.fdiv_eq_ediv_of_nonneg _ (Int.pow_nonneg (by omega)), show min ((n : Int)).toNat IntKind.u64.bits = n by show min n 64 = n; omega]
      norm_cast
    have ex : IntKind.u64.wrap (m.getD i 0) = (x : Int) := by rw [hmx, w64]; omega
    have ed : ∀ nx : Int, nx = (y : Int) → IntKind.u32.wrap ((IntKind.u64.wrap (IntKind.u64.wrap (nx * 4294967296) + IntKind.u64.wrap (m.getD i 0))).fdiv (2 ^ (min ((n : Int)).toNat IntKind.u64.bits))) = (((x + 4294967296 * y) / 2 ^ n % 4294967296 : Nat) : Int) := by
      rintro nx rfl
      rw [ex, show IntKind.u64.wrap (IntKind.u64.wrap ((y : Int) * 4294967296) + (x : Int)) = ((x + 4294967296 * y : Nat) : Int) by rw [w64, w64]; omega, fdn, w32]
      generalize (x + 4294967296 * y) / 2 ^ n = k
      omega
    have getm : ∀ j, j < len → (L ++ (m ++ R))[((off + (j : Int).toNat : Nat) : Int).toNat]? = some (m.getD j 0) := by
      intro j hj
      rw [Int.toNat_natCast, Int.toNat_natCast]
      exact mid_elem (by omega) (by omega)
    have rest : ∀ nx : Int, nx = (y : Int) → ∀ {K : Prop}, ((∃ p : Nat × List Int, (p.1 ≤ len ∧ p.2.length = len ∧ Wd p.2 ∧ (∀ j, p.1 ≤ j → p.2.getD j 0 = M.getD j 0) ∧ val (p.2.take p.1) + 4294967296 ^ p.1 * (val (M.drop p.1) / 2 ^ n) = val M / 2 ^ n) ∧ len - p.1 < len - i ∧ p.1 = i + 1 ∧ p.2 = m.set i (IntKind.u32.wrap ((IntKind.u64.wrap (IntKind.u64.wrap (nx * 4294967296) + IntKind.u64.wrap (m.getD i 0))).fdiv (2 ^ (min ((n : Int)).toNat IntKind.u64.bits))))) → K) → K := by
      intro nx hnx K hK
      obtain ⟨f1, f2⟩ := fin _ (ed nx hnx)
      refine hK ⟨(i + 1, m.set i _), ⟨hlt, by show (m.set i _).length = _; rw [List.length_set]; exact hl, hwm.set i f1.1 f1.2, fun j hj => ?_, f2⟩, by show len - (i + 1) < len - i; omega, rfl, rfl⟩
      have hj : i + 1 ≤ j := hj
      show (m.set i _).getD j 0 = _
      rw [getD_setne (by omega)]
      exact hsame j (by omega)
    refine split_intro (fun h1 => ?_) (fun h1 => ?_)
    · have h1 : IntKind.i64.wrap ((i : Int) + 1) < (len : Int) := of_decide_eq_true h1
      rw [ei] at h1
      refine side_intro (by show 0 ≤ IntKind.i64.wrap ((i : Int) + 1) ∧ IntKind.i64.wrap ((i : Int) + 1) < (len : Int); rw [ei]; omega) ?_
      refine idx_intro (m.getD (i + 1) 0) (Int.natCast_nonneg _) (by
        show (L ++ (m ++ R))[((off + (IntKind.i64.wrap ((i : Int) + 1)).toNat : Nat) : Int).toNat]? = _
        rw [ei]; exact getm (i + 1) (by omega)) ?_
      refine side_intro (by show 0 ≤ (i : Int) ∧ (i : Int) < (len : Int); omega) ?_
      refine idx_intro (m.getD i 0) (Int.natCast_nonneg _) (getm i hlt) ?_
      refine side_intro (by show (0 : Int) ≤ n; omega) ?_
      refine side_intro (by show 0 ≤ (i : Int) ∧ (i : Int) < (len : Int); omega) ?_
      have ey : IntKind.u64.wrap (m.getD (i + 1) 0) = (y : Int) := by rw [hsame (i + 1) (by omega), hy, w64]; omega
      refine rest (IntKind.u64.wrap (m.getD (i + 1) 0)) ey (fun ⟨p, h3, h4, h5, h6⟩ => ?_)
      refine ⟨p, h3, h4, ?_⟩
      refine weak_st _ _ ⟨rfl, rfl, i64_inj (by rw [h5]; exact ei), trivial⟩ ⟨?_, trivial⟩ rfl
      rw [h6]
      show some (MO.words tU32 ((L ++ (m ++ R)).set (off + ((i : Int)).toNat) _)) = _
      rw [mid_set (j := i) (by rw [Int.toNat_natCast]; omega) (by omega)]
    · have h1 : ¬ IntKind.i64.wrap ((i : Int) + 1) < (len : Int) := of_decide_eq_false h1
      rw [ei] at h1
      refine side_intro (by show 0 ≤ (i : Int) ∧ (i : Int) < (len : Int); omega) ?_
      refine idx_intro (m.getD i 0) (Int.natCast_nonneg _) (getm i hlt) ?_
      refine side_intro (by show (0 : Int) ≤ n; omega) ?_
      refine side_intro (by show 0 ≤ (i : Int) ∧ (i : Int) < (len : Int); omega) ?_
      have ey : (0 : Int) = (y : Int) := by rw [← hy, getD_ge (by omega)]
      refine rest 0 ey (fun ⟨p, h3, h4, h5, h6⟩ => ?_)
      refine ⟨p, h3, h4, ?_⟩
      refine weak_st _ _ ⟨rfl, rfl, i64_inj (by rw [h5]; exact ei), trivial⟩ ⟨?_, trivial⟩ rfl
      rw [h6]
      show some (MO.words tU32 ((L ++ (m ++ R)).set (off + ((i : Int)).toNat) _)) = _
      rw [mid_set (j := i) (by rw [Int.toNat_natCast]; omega) (by omega)]
  · have hend : i = len := by have h : ¬ (i : Int) < (len : Int) := of_decide_eq_false h; omega
    subst hend
    have hd0 : val (M.drop i) = 0 := by rw [List.drop_eq_nil_of_le (by omega)]; rfl
    rw [hd0, Nat.zero_div, Nat.mul_zero, Nat.add_zero, ← hl, List.take_length] at hv
    have hme : m = dig i (val M / 2 ^ n) := dig_eq hwm hl hv
    subst hme
    obtain ⟨v, hvd⟩ : ∃ v, v = val M / 2 ^ n := ⟨_, rfl⟩
    rw [← hvd] at hwl hwl0 hv0 ⊢
    have getm : ∀ j, j < i → (L ++ (dig i v ++ R))[((off + (j : Int).toNat : Nat) : Int).toNat]? = some ((dig i v).getD j 0) := by
      intro j hj
      rw [Int.toNat_natCast, Int.toNat_natCast]
      exact mid_elem (by omega) (by rw [dig_len]; omega)
    refine loop_intro (fun k : Nat => st [(0, .own 1000 off k)] [(1000, .words tU32 (L ++ (dig i v ++ R)))]) (fun k => k) (fun k => (toW v).length ≤ k ∧ k ≤ i) i ⟨hwl, Nat.le_refl _⟩ (weak_st _ _ ⟨rfl, trivial⟩ ⟨rfl, trivial⟩ rfl) ?_
    rintro k ⟨hk1, hk2⟩
    refine split_true (decide_eq_true (by show (k : Int) > 0; omega)) ?_
    have ek : IntKind.i64.wrap ((k : Int) - 1) = ((k - 1 : Nat) : Int) := by rw [wr (by omega) (by omega)]; omega
    refine side_intro (by show 0 ≤ IntKind.i64.wrap ((k : Int) - 1) ∧ IntKind.i64.wrap ((k : Int) - 1) < (k : Int); rw [ek]; omega) ?_
    refine idx_intro ((dig i v).getD (k - 1) 0) (Int.natCast_nonneg _) (by
      show (L ++ (dig i v ++ R))[((off + (IntKind.i64.wrap ((k : Int) - 1)).toNat : Nat) : Int).toNat]? = _
      rw [ek]; exact getm (k - 1) (by omega)) ?_
    refine split_intro (fun h1 => ?_) (fun h1 => ?_)
    · have h1 : (dig i v).getD (k - 1) 0 = 0 := eq_of_beq h1
      have hk3 : (toW v).length ≠ k := by
        intro e
        rw [← e] at h1
        exact dig_last hv0 hwl h1
      cases off with
      | zero =>
        refine side_intro (by show 0 ≤ IntKind.i64.wrap ((k : Int) - 1) ∧ IntKind.i64.wrap ((k : Int) - 1) ≤ (k : Int); rw [ek]; omega) ?_
        refine ⟨k - 1, ⟨by omega, by omega⟩, by omega, weak_st _ _ ⟨?_, trivial⟩ ⟨rfl, trivial⟩ rfl⟩
        show V.own 1000 0 (IntKind.i64.wrap ((k : Int) - 1)).toNat = _
        rw [ek, Int.toNat_natCast]
      | succ off =>
        refine side_intro (by show 0 < IntKind.i64.wrap ((k : Int) - 1) ∧ IntKind.i64.wrap ((k : Int) - 1) ≤ (k : Int); rw [ek]; omega) ?_
        refine ⟨k - 1, ⟨by omega, by omega⟩, by omega, weak_st _ _ ⟨?_, trivial⟩ ⟨rfl, trivial⟩ rfl⟩
        show V.own 1000 (off + 1) (IntKind.i64.wrap ((k : Int) - 1)).toNat = _
        rw [ek, Int.toNat_natCast]
    · have h1 : (dig i v).getD (k - 1) 0 ≠ 0 := beq_eq_false_iff_ne.1 h1
      have hk3 : k = (toW v).length := by
        refine Classical.byContradiction fun hne => h1 (dig_top (by omega) (by omega))
      refine retG_intro ?_ rfl ⟨rfl, trivial⟩ rfl
      show V.own 1000 off k = _
      rw [hk3]
end Go.Proofs.Ythefflmebkcilaa.Fw

/- The document's common divisor: odd parts, differences in place, products. -/
set_option linter.unusedVariables false
namespace Go.Proofs.Ythefflmebkcilaa.Fw
open Go Pu
theorem hAB (A B : List Int) : (A ++ B).length = A.length + B.length := List.length_append
theorem first_nz {M : List Int} (hw : Wd M) (h : val M ≠ 0) : ∃ z, z < M.length ∧ (∀ j, j < z → M.getD j 0 = 0) ∧ M.getD z 0 ≠ 0 ∧ val M = 4294967296 ^ z * val (M.drop z) := by
  induction M with
  | nil => exact absurd rfl h
  | cons x M ih =>
    by_cases hx : x = 0
    · subst hx
      have hv : val (0 :: M) = 4294967296 * val M := by simp [val]
      obtain ⟨z, h1, h2, h3, h4⟩ := ih hw.tail (by intro e; rw [hv, e] at h; exact h rfl)
      refine ⟨z + 1, by simpa using h1, fun j hj => ?_, by simpa using h3, ?_⟩
      · cases j with
        | zero => rfl
        | succ j => simpa using h2 j (by omega)
      · rw [hv, List.drop_succ_cons, Nat.pow_succ, Nat.mul_comm (4294967296 ^ z) 4294967296, Nat.mul_assoc, ← h4]
    · exact ⟨0, by simp, by intro j hj; omega, by simpa using hx, by simp⟩
theorem tz_pows {z n : Nat} (h : n ≠ 0) : tz (4294967296 ^ z * n) = 32 * z + tz n ∧ op (4294967296 ^ z * n) = op n ∧ 4294967296 ^ z * n ≠ 0 := by
  induction z with
  | zero => rw [Nat.pow_zero, Nat.one_mul]; exact ⟨by omega, rfl, h⟩
  | succ z ih =>
    obtain ⟨h1, h2, h3⟩ := ih
    rw [Nat.pow_succ, Nat.mul_comm (4294967296 ^ z), Nat.mul_assoc]
    exact ⟨by rw [tz_shift h3, h1]; omega, by rw [op_shift h3, h2], by omega⟩
theorem odd_specL {L M R : List Int} {off len : Nat} (hoff : off = L.length) (hlen' : len = M.length) (hwL : Wd L) (hwM : Wd M) (hwR : Wd R) (hlen : (L ++ (M ++ R)).length ≤ 8796093022208) (hv0 : val M ≠ 0) :
    ∃ (X' : List Int) (off' : Nat), X'.length = (L ++ (M ++ R)).length ∧ Wd X' ∧ off' + (toW (op (val M))).length ≤ X'.length ∧ (X'.drop off').take (toW (op (val M))).length = toW (op (val M)) ∧
      RunsG Try.prog g_retrospectref06_odd [.own 1000 off len] [(1000, .words tU32 (L ++ (M ++ R)))] (.tup [.own 1000 off' (toW (op (val M))).length, .d (.int .i64 (tz (val M)))]) [(1000, .words tU32 X')] := by
  have hN : (L ++ (M ++ R)).length = off + len + R.length := by simp [hoff, hlen']; omega
  obtain ⟨z, hz, hzz, hznz, hzv⟩ := first_nz hwM hv0
  obtain ⟨x, hx, hx'⟩ := mget M hwM z
  have hx0 : x ≠ 0 := by intro e; rw [hx, e] at hznz; exact hznz rfl
  have hvd := val_drop_cons' M z
  rw [hx, Int.toNat_natCast] at hvd
  have htx := tz_lt (k := 32) hx0 hx'
  have hdz : val (M.drop z) ≠ 0 := by omega
  have htz : tz (val (M.drop z)) = tz x := by rw [hvd]; exact tz_word hx0 hx'
  obtain ⟨hp1, hp2, hp3⟩ := tz_pows (z := z) hdz
  rw [← hzv, htz] at hp1
  rw [← hzv] at hp2
  have hop : val (M.drop z) / 2 ^ tz x = op (val M) := by rw [hp2]; unfold op; rw [htz]
  have hopv : op (val M) ≠ 0 := by have := op_pos hv0; omega
  have hMz : (L ++ M.take z) ++ (M.drop z ++ R) = L ++ (M ++ R) := by rw [List.append_assoc, ← List.append_assoc (M.take z), List.take_append_drop]
  have hlz : (L ++ M.take z).length = off + z := by rw [List.length_append, List.length_take, hoff]; omega
  have hdl : (M.drop z).length = len - z := by rw [List.length_drop, hlen']
  have hdown := down_spec (L := L ++ M.take z) (M := M.drop z) (R := R) (n := tz x) (off := off + z) (len := len - z) hlz.symm hdl.symm (hwM.drop z) htx (by rw [hMz]; exact hlen) (by rw [hop]; exact hopv)
  rw [hMz, hop] at hdown
  have hll : (toW (op (val M))).length ≤ len - z := by
    have h1 : op (val M) ≤ val (M.drop z) := by rw [← hop]; exact Nat.div_le_self _ _
    have h2 := nw_le h1 (nw_val (hwM.drop z) (Nat.le_refl _))
    rw [hdl] at h2
    exact h2
  refine ⟨(L ++ M.take z) ++ (dig (M.drop z).length (op (val M)) ++ R), off + z, ?_, ?_, ?_, ?_, ?_⟩
  · rw [hN, hAB (L ++ M.take z), hlz, hAB (dig _ _), dig_len, hdl]; omega
  · exact (hwL.app (hwM.take z)).app ((Wd.dig _ _).app hwR)
  · rw [hAB (L ++ M.take z), hlz, hAB (dig _ _), dig_len, hdl]; omega
  · rw [List.drop_append_of_le_length (by omega), List.drop_eq_nil_of_le (by omega), List.nil_append, dig_toW (by rw [hdl]; exact hll), List.append_assoc]
    exact List.take_left
  rw [hN] at hlen
  refine runG [] p_retrospectref06_odd rfl rfl rfl rfl (fun B S F0 w0 V0 => ?_)
  have getm : ∀ k, k ≤ z → (L ++ (M ++ R))[((off + k + (0 : Int).toNat : Nat) : Int).toNat]? = some (M.getD k 0) := by
    intro k hk
    rw [Int.toNat_natCast]
    exact mid_elem (by show off + k + 0 = L.length + k; omega) (by omega)
  refine loop_intro (fun k : Nat => st [(0, .own 1000 (off + k) (len - k)), (4, .d (.int .i64 ((32 * k : Nat) : Int)))] [(1000, .words tU32 (L ++ (M ++ R)))]) (fun k => z - k) (fun k => k ≤ z) 0 (Nat.zero_le _) (weak_st _ _ ⟨rfl, rfl, trivial⟩ ⟨rfl, trivial⟩ rfl) ?_
  intro k hk
  refine side_intro (by show 0 ≤ (0 : Int) ∧ (0 : Int) < ((len - k : Nat) : Int); omega) ?_
  refine idx_intro (M.getD k 0) (Int.natCast_nonneg _) (getm k hk) ?_
  refine split_intro (fun h => ?_) (fun h => ?_)
  · have h : M.getD k 0 = 0 := eq_of_beq h
    have hkz : k ≠ z := by intro e; rw [e] at h; exact hznz h
    refine side_intro (by show 0 ≤ (1 : Int) ∧ (1 : Int) < ((len - k : Nat) : Int); omega) ?_
    refine ⟨k + 1, by omega, by omega, weak_st _ _ ⟨?_, i64_inj ?_, trivial⟩ ⟨rfl, trivial⟩ rfl⟩
    · show V.own 1000 (off + k + (1 : Int).toNat) (len - k - (1 : Int).toNat) = V.own 1000 (off + (k + 1)) (len - (k + 1))
      have e1 : (1 : Int).toNat = 1 := rfl
      rw [e1, Nat.add_assoc, Nat.sub_sub]
    · show IntKind.i64.wrap (((32 * k : Nat) : Int) + 32) = _
      rw [wr (by omega) (by omega)]; omega
  · have h : M.getD k 0 ≠ 0 := beq_eq_false_iff_ne.1 h
    have hkz : k = z := by
      refine Classical.byContradiction fun hne => h (hzz k (by omega))
    subst hkz
    refine side_intro (by show 0 ≤ (0 : Int) ∧ (0 : Int) < ((len - k : Nat) : Int); omega) ?_
    refine idx_intro (x : Int) (Int.natCast_nonneg _) (by rw [← hx]; exact getm k hk) ?_
    refine call_intro _ (Zeros_spec hx0 hx') ?_
    refine call_row 1000 hdown rfl rfl rfl rfl rfl rfl (same_words ?_) ?_
    · rw [← hMz, hAB (L ++ M.take k), hAB (L ++ M.take k), hAB (M.drop k), hAB (dig _ _), dig_len, hdl]
    refine retG_intro ?_ rfl ⟨by rw [hdl]; rfl, trivial⟩ rfl
    show V.tup [.own 1000 (off + k) (toW (op (val M))).length, .d (.int .i64 (IntKind.i64.wrap (((32 * k : Nat) : Int) + (tz x : Int))))] = _
    rw [hp1, wr (by omega) (by omega)]
    exact congrArg (fun y => V.tup [V.own 1000 (off + k) (toW (op (val M))).length, V.d (.int .i64 y)]) (by omega)
theorem odd_spec {X : List Int} {off len v : Nat} (hw : Wd X) (hl : off + len ≤ X.length) (hX : X.length ≤ 8796093022208) (hv : val ((X.drop off).take len) = v) (hv0 : v ≠ 0) :
    ∃ (X' : List Int) (off' : Nat), X'.length = X.length ∧ Wd X' ∧ off' + (toW (op v)).length ≤ X'.length ∧ (X'.drop off').take (toW (op v)).length = toW (op v) ∧
      RunsG Try.prog g_retrospectref06_odd [.own 1000 off len] [(1000, .words tU32 X)] (.tup [.own 1000 off' (toW (op v)).length, .d (.int .i64 (tz v))]) [(1000, .words tU32 X')] := by
  have h3 := three X off len
  have hL : (X.take off).length = off := by rw [List.length_take]; omega
  have hM : ((X.drop off).take len).length = len := by rw [List.length_take, List.length_drop]; omega
  have := odd_specL (L := X.take off) (M := (X.drop off).take len) (R := X.drop (off + len)) (off := off) (len := len) hL.symm hM.symm (hw.take _) ((hw.drop _).take _) (hw.drop _) (by rw [← h3]; exact hX) (by rw [hv]; exact hv0)
  rw [← h3, hv] at this
  exact this
theorem Less_specL {L M R b : List Int} {off len : Nat} (hoff : off = L.length) (hlen' : len = M.length) (hwa : Wd M) (hwb : Wd b) (hlen : (L ++ (M ++ R)).length ≤ 8796093022208) (hlb : b.length ≤ 1099511627776) (hle : val b ≤ val M) :
    RunsG Try.prog g_retrospectref05_Less [.own 1000 off len, .d (.words b)] [(1000, .words tU32 (L ++ (M ++ R)))] (.tup []) [(1000, .words tU32 (L ++ (dig len (val M - val b) ++ R)))] := by
  have hN : (L ++ (M ++ R)).length = off + len + R.length := by simp [hoff, hlen']; omega
  rw [hN] at hlen
  refine runG [] p_retrospectref05_Less rfl rfl rfl rfl (fun B S F0 w0 V0 => ?_)
  refine loop_intro (fun p : Nat × List Int × Nat => st [(0, .own 1000 off len), (1, .d (.words b)), (4, .d (.int .u64 (p.2.2 : Int))), (5, .d (.int .i64 (p.1 : Int)))] [(1000, .words tU32 (L ++ (p.2.1 ++ R)))]) (fun p => len - p.1)
    (fun p => p.1 ≤ len ∧ p.2.1.length = len ∧ Wd p.2.1 ∧ p.2.2 ≤ 1 ∧ (∀ j, p.1 ≤ j → p.2.1.getD j 0 = M.getD j 0) ∧ val (p.2.1.take p.1) + val (b.take p.1) = val (M.take p.1) + 4294967296 ^ p.1 * (p.2.2 + 0)) (0, M, 0)
    ⟨Nat.zero_le _, hlen'.symm, hwa, Nat.zero_le _, fun _ _ => rfl, by simp [val]⟩ (weak_st _ _ ⟨rfl, rfl, rfl, rfl, trivial⟩ ⟨rfl, trivial⟩ rfl) ?_
  rintro ⟨i, m, u⟩ ⟨hi, hl, hwm, hu, hsame, hv⟩
  dsimp only at hi hl hwm hu hsame hv
  refine split_intro (fun h => ?_) (fun h => ?_)
  · have hlt : i < len := by have h : (i : Int) < (len : Int) := of_decide_eq_true h; omega
    have ei : IntKind.i64.wrap ((i : Int) + 1) = ((i + 1 : Nat) : Int) := by rw [wr (by omega) (by omega)]; omega
    obtain ⟨x, hx, hx'⟩ := mget m hwm i
    obtain ⟨y, hy, hy'⟩ := mget b hwb i
    have getm : (L ++ (m ++ R))[((off + (i : Int).toNat : Nat) : Int).toNat]? = some (m.getD i 0) := by
      rw [Int.toNat_natCast, Int.toNat_natCast]
      exact mid_elem (by omega) (by omega)
    refine side_intro (by show (0 : Int) ≤ i ∧ (i : Int) < ((len : Nat) : Int); omega) ?_
    refine idx_intro (m.getD i 0) (Int.natCast_nonneg _) getm ?_
    refine call_intro _ (rAt_spec (a := b) (i := i) hlb) ?_
    have ex : IntKind.u64.wrap (m.getD i 0) = (x : Int) := by rw [hx, w64]; omega
    have ey : IntKind.u64.wrap (IntKind.u64.wrap (b.getD i 0) + (u : Int)) = ((y + u : Nat) : Int) := by rw [hy, w64, w64]; omega
    have fin : ∀ (d w : Nat), d < 4294967296 → w ≤ 1 → d + y + u + 0 = x + 4294967296 * (w + 0) → val ((m.set i (d : Int)).take (i + 1)) + val (b.take (i + 1)) = val (M.take (i + 1)) + 4294967296 ^ (i + 1) * (w + 0) := by
      intro d w hd hw he
      rw [val_take_set (by omega), val_take_succ' (a := b), val_take_succ' (a := M), ← hsame i (Nat.le_refl _), hx, hy, Nat.pow_succ]
      simp only [Int.toNat_natCast]
      exact step_sum hv he
    have same' : ∀ d : Int, ∀ j, i + 1 ≤ j → (m.set i d).getD j 0 = M.getD j 0 := by
      intro d j hj
      rw [getD_setne (by omega)]
      exact hsame j (by omega)
    refine split_intro (fun h1 => ?_) (fun h1 => ?_)
    · have h1 : IntKind.u64.wrap (m.getD i 0) < IntKind.u64.wrap (IntKind.u64.wrap (b.getD i 0) + (u : Int)) := of_decide_eq_true h1
      refine side_intro (by show (0 : Int) ≤ i ∧ (i : Int) < ((len : Nat) : Int); omega) ?_
      have ed : IntKind.u32.wrap (IntKind.u64.wrap (IntKind.u64.wrap (IntKind.u64.wrap (m.getD i 0) + 4294967296) - IntKind.u64.wrap (IntKind.u64.wrap (b.getD i 0) + (u : Int)))) = ((x + 4294967296 - (y + u) : Nat) : Int) := by
        rw [ex, ey, w64 ((x : Int) + 4294967296), w64, w32]; omega
      refine ⟨(i + 1, m.set i ((x + 4294967296 - (y + u) : Nat) : Int), 1), ⟨hlt, by show (m.set i _).length = _; rw [List.length_set]; exact hl, hwm.set i (by omega) (by omega), Nat.le_refl _, same' _, fin _ 1 (by omega) (Nat.le_refl _) (by omega)⟩, by show len - (i + 1) < len - i; omega, ?_⟩
      refine weak_st _ _ ⟨rfl, rfl, rfl, i64_inj ei, trivial⟩ ⟨?_, trivial⟩ rfl
      show some (MO.words tU32 ((L ++ (m ++ R)).set (off + ((i : Int)).toNat) (IntKind.u32.wrap (IntKind.u64.wrap (IntKind.u64.wrap (IntKind.u64.wrap (m.getD i 0) + 4294967296) - IntKind.u64.wrap (IntKind.u64.wrap (b.getD i 0) + (u : Int))))))) = _
      rw [ed, mid_set (j := i) (by rw [Int.toNat_natCast]; omega) (by omega)]
    · have h1 : ¬ IntKind.u64.wrap (m.getD i 0) < IntKind.u64.wrap (IntKind.u64.wrap (b.getD i 0) + (u : Int)) := of_decide_eq_false h1
      refine side_intro (by show (0 : Int) ≤ i ∧ (i : Int) < ((len : Nat) : Int); omega) ?_
      have ed : IntKind.u32.wrap (IntKind.u64.wrap (IntKind.u64.wrap (m.getD i 0) - IntKind.u64.wrap (IntKind.u64.wrap (b.getD i 0) + (u : Int)))) = ((x - (y + u) : Nat) : Int) := by
        rw [ex, ey, w64, w32]; omega
      refine ⟨(i + 1, m.set i ((x - (y + u) : Nat) : Int), 0), ⟨hlt, by show (m.set i _).length = _; rw [List.length_set]; exact hl, hwm.set i (by omega) (by omega), Nat.zero_le _, same' _, fin _ 0 (by omega) (Nat.zero_le _) (by omega)⟩, by show len - (i + 1) < len - i; omega, ?_⟩
      refine weak_st _ _ ⟨rfl, rfl, rfl, i64_inj ei, trivial⟩ ⟨?_, trivial⟩ rfl
      show some (MO.words tU32 ((L ++ (m ++ R)).set (off + ((i : Int)).toNat) (IntKind.u32.wrap (IntKind.u64.wrap (IntKind.u64.wrap (m.getD i 0) - IntKind.u64.wrap (IntKind.u64.wrap (b.getD i 0) + (u : Int))))))) = _
      rw [ed, mid_set (j := i) (by rw [Int.toNat_natCast]; omega) (by omega)]
  · have hend : i = len := by have h : ¬ (i : Int) < (len : Int) := of_decide_eq_false h; omega
    refine retG_intro rfl rfl ⟨?_, trivial⟩ rfl
    show some (MO.words tU32 (L ++ (m ++ R))) = _
    have h2 := val_lt hwm
    have h3 := val_lt hwa
    rw [hl] at h2
    rw [← hlen'] at h3
    rw [hend, ← hl, List.take_length, hl, hlen', List.take_length, ← hlen'] at hv
    have hbt : val (b.take len) = val b := by
      by_cases hj : len ≤ b.length
      · have h4 := val_drop_zero (a := b) (i := len) hj (by omega)
        rw [val_take_drop b len hj, h4, Nat.mul_zero, Nat.add_zero]
      · rw [val_take_ge (by omega)]
    rw [hbt, Nat.add_zero] at hv
    generalize 4294967296 ^ len = q at hv h2 h3
    have hu0 : u = 0 := by
      have : u = 0 ∨ u = 1 := by omega
      rcases this with h | h
      · exact h
      · subst h; omega
    subst hu0
    rw [dig_eq (n := len) (v := val M - val b) hwm hl (by omega)]
theorem LessX_spec {X b : List Int} {off len v : Nat} (hw : Wd X) (hl : off + len ≤ X.length) (hX : X.length ≤ 8796093022208) (hv : val ((X.drop off).take len) = v) (hwb : Wd b) (hlb : b.length ≤ 1099511627776) (hle : val b ≤ v) :
    ∃ X' : List Int, X.length = X'.length ∧ Wd X' ∧ val ((X'.drop off).take len) = v - val b ∧ RunsG Try.prog g_retrospectref05_Less [.own 1000 off len, .d (.words b)] [(1000, .words tU32 X)] (.tup []) [(1000, .words tU32 X')] := by
  have h3 := three X off len
  have hL : (X.take off).length = off := by rw [List.length_take]; omega
  have hM : ((X.drop off).take len).length = len := by rw [List.length_take, List.length_drop]; omega
  have := Less_specL (L := X.take off) (M := (X.drop off).take len) (R := X.drop (off + len)) (b := b) (off := off) (len := len) hL.symm hM.symm ((hw.drop _).take _) hwb (by rw [← h3]; exact hX) hlb (by rw [hv]; exact hle)
  rw [← h3, hv] at this
  refine ⟨_, ?_, ?_, ?_, this⟩
  · rw [List.length_append, List.length_append, hL, dig_len, List.length_drop]; omega
  · exact (hw.take _).app ((Wd.dig _ _).app (hw.drop _))
  · rw [List.drop_append_of_le_length (by omega), List.drop_eq_nil_of_le (by omega), List.nil_append, List.take_append_of_le_length (by rw [dig_len]; omega), List.take_of_length_le (by rw [dig_len]; omega), val_dig_lt]
    have h4 := val_lt ((hw.drop off).take len)
    rw [hM, hv] at h4
    omega
end Go.Proofs.Ythefflmebkcilaa.Fw

/- The document's products, common divisors and multiples. -/
set_option linter.unusedVariables false
namespace Go.Proofs.Ythefflmebkcilaa.Fw
open Go Pu
theorem u64mul {x y m c : Nat} (hx : x < 4294967296) (hy : y < 4294967296) (hm : m < 4294967296) (hc : c < 4294967296) :
    IntKind.u64.wrap ((c : Int) + IntKind.u64.wrap (IntKind.u64.wrap (IntKind.u64.wrap (x : Int) * IntKind.u64.wrap (y : Int)) + IntKind.u64.wrap (m : Int))) = ((x * y + m + c : Nat) : Int) := by
  have h1 : x * y ≤ 4294967295 * 4294967295 := Nat.mul_le_mul (by omega) (by omega)
  have e : ∀ z : Nat, z < 18446744073709551616 → IntKind.u64.wrap (z : Int) = (z : Int) := fun z hz => by rw [w64]; omega
  rw [e x (by omega), e y (by omega), e m (by omega), show (x : Int) * (y : Int) = ((x * y : Nat) : Int) from (Int.natCast_mul x y).symm]
  generalize x * y = p at h1 ⊢
  rw [e p (by omega), show (p : Int) + (m : Int) = ((p + m : Nat) : Int) by omega, e (p + m) (by omega), show (c : Int) + ((p + m : Nat) : Int) = ((p + m + c : Nat) : Int) by omega, e _ (by omega)]
set_option maxHeartbeats 2000000 in
theorem rMul_specG {a b : List Int} (hwa : Wd a) (hwb : Wd b) (ha : a.length ≤ 274877906944) (hb : b.length ≤ 274877906944) : RunsG Try.prog g_retrospectref04_Mul [.d (.words a), .d (.words b)] [] (.own 67 0 (toW (val a * val b)).length) [(67, .words tU32 (toW (val a * val b)))] := by
  refine runG [67] p_retrospectref04_Mul rfl rfl rfl rfl (fun B S F0 w0 V0 => ?_)
  have e1 : IntKind.i64.wrap ((a.length : Int) + (b.length : Int)) = ((a.length + b.length : Nat) : Int) := by rw [wr (by omega) (by omega)]; omega
  refine opp_make hT rfl rfl (Nat.le_of_ble_eq_true rfl) (e := tU32) rfl rfl (Nat.le_of_ble_eq_true rfl) (fun _ => rfl) (k := .i64) (k' := .i64) (n := ((a.length + b.length : Nat) : Int)) (i64_inj e1) (i64_inj e1) rfl (by omega) ?_ ?_ ?_
  · show 4 * ((a.length + b.length : Nat) : Int).toNat ≤ _
    omega
  · unfold maxLen; omega
  rw [Int.toNat_natCast]
  refine loop_intro (fun p : Nat × List Int => st [(0, .d (.words a)), (1, .d (.words b)), (5, .own 14 0 (a.length + b.length)), (6, .d (.int .i64 (p.1 : Int)))] [(14, .words tU32 p.2)]) (fun p => a.length - p.1)
    (fun p => p.1 ≤ a.length ∧ p.2.length = a.length + b.length ∧ Wd p.2 ∧ val p.2 = val (a.take p.1) * val b) (0, List.replicate (a.length + b.length) 0)
    ⟨Nat.zero_le _, by simp, Wd.zeros _, by simp only [val_zeros]; simp [val]⟩ (weak_st _ _ ⟨rfl, rfl, rfl, rfl, trivial⟩ ⟨rfl, trivial⟩ rfl) ?_
  rintro ⟨i, out⟩ ⟨hi, hl, hwo, hv⟩
  dsimp only at hi hl hwo hv
  refine split_intro (fun h => ?_) (fun h => ?_)
  · have hlt : i < a.length := by have h : (i : Int) < a.length := of_decide_eq_true h; omega
    have ei : IntKind.i64.wrap ((i : Int) + 1) = ((i + 1 : Nat) : Int) := by rw [wr (by omega) (by omega)]; omega
    obtain ⟨x, hx, hx'⟩ := mget a hwa i
    have hsp := three out i (b.length + 1)
    have hL : (out.take i).length = i := by rw [List.length_take]; omega
    have hMl : ((out.drop i).take (b.length + 1)).length = b.length + 1 := by rw [List.length_take, List.length_drop]; omega
    have hval := val_lt (hwa.take i)
    have hbt : (a.take i).length = i := by rw [List.length_take]; omega
    rw [hbt] at hval
    have hva := val_lt hwb
    have hout : val out < 4294967296 ^ (i + b.length) := by
      rw [hv, Nat.pow_add]
      exact Nat.mul_lt_mul'' hval hva
    have hz := val_drop_zero (i := i + b.length) (by omega) hout
    have hz2 : val (out.drop (i + (b.length + 1))) = 0 := by
      have h2 : val (out.drop (i + b.length)) = _ := val_take_drop (out.drop (i + b.length)) 1 (by rw [List.length_drop]; omega)
      rw [hz, List.drop_drop, Nat.add_assoc] at h2
      have : 4294967296 ^ 1 * val (out.drop (i + (b.length + 1))) = 0 := by omega
      omega
    have hmid : val (out.drop i) = val ((out.drop i).take b.length) := by
      have h2 := val_take_drop (out.drop i) b.length (by rw [List.length_drop]; omega)
      rw [List.drop_drop, hz] at h2
      omega
    obtain ⟨L, hLd⟩ : ∃ L, L = out.take i := ⟨_, rfl⟩
    obtain ⟨M, hMd⟩ : ∃ M, M = (out.drop i).take (b.length + 1) := ⟨_, rfl⟩
    obtain ⟨R, hRd⟩ : ∃ R, R = out.drop (i + (b.length + 1)) := ⟨_, rfl⟩
    rw [← hLd, ← hMd, ← hRd] at hsp
    rw [← hLd] at hL
    rw [← hMd] at hMl
    rw [← hRd] at hz2
    have hwM : Wd M := by rw [hMd]; exact (hwo.drop i).take _
    have hwL : Wd L := by rw [hLd]; exact hwo.take i
    have hwR : Wd R := by rw [hRd]; exact hwo.drop _
    have htt : val (M.take b.length) = val (out.drop i) := by rw [hMd, List.take_take, Nat.min_eq_left (by omega), ← hmid]
    have hoi : val out = val L + 4294967296 ^ i * val (out.drop i) := by rw [hLd]; exact val_take_drop out i (by omega)
    have hN : a.length + b.length = i + (b.length + 1) + R.length := by rw [← hl, hsp, hAB L, hAB M, hL, hMl]; omega
    refine loop_intro (fun p : Nat × List Int × Nat => st [(0, .d (.words a)), (1, .d (.words b)), (5, .own 14 0 (a.length + b.length)), (6, .d (.int .i64 (i : Int))), (7, .d (.int .u64 (p.2.2 : Int))), (8, .d (.int .i64 (p.1 : Int)))] [(14, .words tU32 (L ++ (p.2.1 ++ R)))]) (fun p => b.length - p.1)
      (fun p => p.1 ≤ b.length ∧ p.2.1.length = b.length + 1 ∧ Wd p.2.1 ∧ p.2.2 < 4294967296 ∧ (∀ j, p.1 ≤ j → p.2.1.getD j 0 = M.getD j 0) ∧ val (p.2.1.take p.1) + 4294967296 ^ p.1 * p.2.2 = x * val (b.take p.1) + val (M.take p.1) + 0) (0, M, 0)
      ⟨Nat.zero_le _, hMl, hwM, by show 0 < 4294967296; omega, fun _ _ => rfl, by simp [val]⟩ (weak_st _ _ ⟨rfl, rfl, rfl, rfl, rfl, rfl, trivial⟩ ⟨congrArg (fun z => some (MO.words tU32 z)) hsp, trivial⟩ rfl) ?_
    rintro ⟨k, m, c⟩ ⟨hk, hml, hwm, hc, hsame, hkv⟩
    dsimp only at hk hml hwm hc hsame hkv
    have getm : ∀ j, j < b.length + 1 → ∀ z : Int, z = ((i + j : Nat) : Int) → (L ++ (m ++ R))[((0 + z.toNat : Nat) : Int).toNat]? = some (m.getD j 0) := by
      rintro j hj z rfl
      rw [Int.toNat_natCast, Int.toNat_natCast, Nat.zero_add]
      exact mid_elem (by omega) (by omega)
    refine split_intro (fun h1 => ?_) (fun h1 => ?_)
    · have hlk : k < b.length := by have h1 : (k : Int) < b.length := of_decide_eq_true h1; omega
      have ek : IntKind.i64.wrap ((k : Int) + 1) = ((k + 1 : Nat) : Int) := by rw [wr (by omega) (by omega)]; omega
      have eik : IntKind.i64.wrap ((i : Int) + (k : Int)) = ((i + k : Nat) : Int) := by rw [wr (by omega) (by omega)]; omega
      obtain ⟨y, hy, hy'⟩ := mget b hwb k
      obtain ⟨u, hu, hu'⟩ := mget m hwm k
      have eu := u64mul hx' hy' hu' hc
      rw [← hx, ← hy, ← hu] at eu
      have hlt2 : x * y + u + c < 18446744073709551616 := by
        have h1 : x * y ≤ 4294967295 * 4294967295 := Nat.mul_le_mul (by omega) (by omega)
        generalize x * y = p at h1 ⊢
        omega
      obtain ⟨q, hq⟩ : ∃ q, q = x * y + u + c := ⟨_, rfl⟩
      rw [← hq] at eu hlt2
      refine side_intro rfl ?_
      refine idx_w i rfl hlt ?_
      refine idx_w k rfl hlk ?_
      refine side_intro (by show 0 ≤ IntKind.i64.wrap ((i : Int) + (k : Int)) ∧ IntKind.i64.wrap ((i : Int) + (k : Int)) < ((a.length + b.length : Nat) : Int); omega) ?_
      refine idx_intro (m.getD k 0) (Int.natCast_nonneg _) (getm k (by omega) _ eik) ?_
      refine side_intro (by show (4294967296 : Int) ≠ 0; omega) ?_
      refine side_intro (by show 0 ≤ IntKind.i64.wrap ((i : Int) + (k : Int)) ∧ IntKind.i64.wrap ((i : Int) + (k : Int)) < ((a.length + b.length : Nat) : Int); omega) ?_
      refine side_intro (by show (4294967296 : Int) ≠ 0; omega) ?_
      refine ⟨(k + 1, m.set k ((q % 4294967296 : Nat) : Int), q / 4294967296), ⟨hlk, by show (m.set k _).length = _; rw [List.length_set]; exact hml, hwm.set k (by omega) (by omega), by show q / 4294967296 < 4294967296; omega, fun j hj => ?_, ?_⟩, by show b.length - (k + 1) < b.length - k; omega, ?_⟩
      · have hj : k + 1 ≤ j := hj
        show (m.set k _).getD j 0 = _
        rw [getD_setne (by omega)]
        exact hsame j (by omega)
      · show val ((m.set k _).take (k + 1)) + 4294967296 ^ (k + 1) * _ = _
        rw [val_take_set (by omega), val_take_succ' (a := b), val_take_succ' (a := M), ← hsame k (Nat.le_refl _), hy, hu, Nat.pow_succ]
        have hrs := row_step (A := val (m.take k)) (q := 4294967296 ^ k) (C := val (b.take k)) (D := val (M.take k)) (K := 0) (x := (x : Int)) (y := (y : Int)) (m := (u : Int)) (c := (c : Int)) (by omega) (by omega) (by omega) (by omega) (by rw [Int.toNat_natCast, Int.toNat_natCast]; exact hkv)
        have e4 : (x : Int) * (y : Int) + (u : Int) + (c : Int) = (q : Int) := by rw [hq, Int.natCast_add, Int.natCast_add, Int.natCast_mul]
        rw [e4] at hrs
        have e5 : ((q : Int) % 4294967296).toNat = q % 4294967296 := by omega
        have e6 : ((q : Int) / 4294967296).toNat = q / 4294967296 := by omega
        rw [e5, e6] at hrs
        simp only [Int.toNat_natCast] at hrs ⊢
        exact hrs
      · refine weak_st _ _ ⟨rfl, rfl, rfl, rfl, u64_inj ?_, i64_inj ek, trivial⟩ ⟨?_, trivial⟩ rfl
        · show IntKind.u64.wrap ((IntKind.u64.wrap ((c : Int) + IntKind.u64.wrap (IntKind.u64.wrap (IntKind.u64.wrap (a.getD i 0) * IntKind.u64.wrap (b.getD k 0)) + IntKind.u64.wrap (m.getD k 0)))).tdiv 4294967296) = ((q / 4294967296 : Nat) : Int)
          rw [eu, Int.tdiv_eq_ediv_of_nonneg (by omega), w64]; omega
        · show some (MO.words tU32 ((L ++ (m ++ R)).set (0 + (IntKind.i64.wrap ((i : Int) + (k : Int))).toNat) (IntKind.u32.wrap ((IntKind.u64.wrap ((c : Int) + IntKind.u64.wrap (IntKind.u64.wrap (IntKind.u64.wrap (a.getD i 0) * IntKind.u64.wrap (b.getD k 0)) + IntKind.u64.wrap (m.getD k 0)))).tmod 4294967296)))) = _
          rw [eu, Int.tmod_eq_emod_of_nonneg (by omega), w32, mid_set (j := k) (by rw [eik]; omega) (by omega)]
          have e7 : ((q : Int) % 4294967296) % 4294967296 = ((q % 4294967296 : Nat) : Int) := by omega
          rw [e7]
    · have hend : k = b.length := by have h1 : ¬ (k : Int) < b.length := of_decide_eq_false h1; omega
      subst hend
      have eib : IntKind.i64.wrap ((i : Int) + (b.length : Int)) = ((i + b.length : Nat) : Int) := by rw [wr (by omega) (by omega)]; omega
      refine side_intro (by show 0 ≤ IntKind.i64.wrap ((i : Int) + (b.length : Int)) ∧ IntKind.i64.wrap ((i : Int) + (b.length : Int)) < ((a.length + b.length : Nat) : Int); omega) ?_
      have ec : IntKind.u32.wrap (c : Int) = (c : Int) := by rw [w32]; omega
      have hwm' : Wd (m.set b.length (c : Int)) := hwm.set _ (by omega) (by omega)
      have hvm : val (m.set b.length (c : Int)) = x * val b + val (out.drop i) := by
        rw [val_set_last (by omega), Int.toNat_natCast, hkv, List.take_length, htt, Nat.add_zero]
      refine ⟨(i + 1, L ++ (m.set b.length (c : Int) ++ R)), ⟨hlt, ?_, hwL.app (hwm'.app hwR), ?_⟩, by show a.length - (i + 1) < a.length - i; omega, ?_⟩
      · show (L ++ (m.set b.length (c : Int) ++ R)).length = _
        rw [hAB L, hAB (m.set _ _), List.length_set, hL, hml]; omega
      · show val (L ++ (m.set b.length (c : Int) ++ R)) = val (a.take (i + 1)) * val b
        rw [val_parts, hz2, Nat.mul_zero, Nat.add_zero, hvm, hL, val_take_succ hlt, hx, Int.toNat_natCast, Nat.add_mul, ← hv, hoi, Nat.mul_add, Nat.mul_assoc]
        omega
      · refine weak_st _ _ ⟨rfl, rfl, rfl, i64_inj ei, trivial⟩ ⟨?_, trivial⟩ rfl
        show some (MO.words tU32 ((L ++ (m ++ R)).set (0 + (IntKind.i64.wrap ((i : Int) + (b.length : Int))).toNat) (IntKind.u32.wrap (c : Int)))) = _
        rw [ec, mid_set (j := b.length) (by rw [eib]; omega) (by omega)]
  · have hend : i = a.length := by have h : ¬ (i : Int) < a.length := of_decide_eq_false h; omega
    rw [hend, List.take_length] at hv
    refine opp_weak _ (weak_freeze (i := 14) (m := .words tU32 out) (Nat.le_of_ble_eq_true rfl) rfl) ?_
    have hn := rNorm_specG (a := out) hwo (by omega)
    rw [hv] at hn
    refine call_new 67 hn rfl rfl rfl rfl rfl ?_ rfl ?_
    · show [snapM (.words tU32 out) 0 (a.length + b.length)] = _
      rw [snap_all tU32 _ hl.symm]
    exact retG_intro rfl rfl ⟨rfl, trivial⟩ rfl
theorem rMul_spec {a b : List Int} (hwa : Wd a) (hwb : Wd b) (ha : a.length ≤ 274877906944) (hb : b.length ≤ 274877906944) : Runs Try.prog g_retrospectref04_Mul [.d (.words a), .d (.words b)] (.d (.words (toW (val a * val b)))) := by
  have := runs_of_G (rMul_specG hwa hwb ha hb) rfl rfl
  have e : snapR [(67, MO.words tU32 (toW (val a * val b)))] (.own 67 0 (toW (val a * val b)).length) = .d (.words (toW (val a * val b))) := snap_all tU32 _ rfl
  rw [e] at this
  exact this
end Go.Proofs.Ythefflmebkcilaa.Fw

/- The document's common divisors and multiples. -/
set_option linter.unusedVariables false
namespace Go.Proofs.Ythefflmebkcilaa.Fw
open Go Pu
theorem double_spec {a : List Int} {t : Nat} (hwa : Wd a) (ha : a.length ≤ 68719476736) (ht : t ≤ 2199023255552) : Runs Try.prog g_retrospectref06_double [.d (.words a), .d (.int .i64 (t : Int))] (.d (.words (toW (2 ^ t * val a)))) := by
  refine run1 [] p_retrospectref06_double rfl rfl (fun B S F0 w0 V0 => ?_)
  have e1 : IntKind.i64.wrap (((t : Int)).tdiv 32) = ((t / 32 : Nat) : Int) := by rw [Int.tdiv_eq_ediv_of_nonneg (by omega), wr (by omega) (by omega)]; omega
  have e2 : ((t : Int)).tmod 32 = ((t % 32 : Nat) : Int) := by rw [Int.tmod_eq_emod_of_nonneg (by omega)]; omega
  refine side_intro (by show (32 : Int) ≠ 0; omega) ?_
  refine opp_make hT rfl rfl (Nat.le_of_ble_eq_true rfl) (e := tU32) rfl rfl (Nat.le_of_ble_eq_true rfl) (fun _ => rfl) (k := .i64) (k' := .i64) (n := ((t / 32 : Nat) : Int)) (i64_inj e1) (i64_inj e1) rfl (by omega) ?_ ?_ ?_
  · show 4 * ((t / 32 : Nat) : Int).toNat ≤ _
    omega
  · unfold maxLen; omega
  rw [Int.toNat_natCast]
  have hzl : (List.replicate (t / 32) (0 : Int)).length = t / 32 := List.length_replicate ..
  refine opp_append_own hT (e := tU32) (i := 8) (j := 10) (obj := .words tU32 (List.replicate (t / 32) 0)) (obj2 := .words tU32 (List.replicate (t / 32) 0 ++ a)) (n := t / 32) (m := a.length) (fl := (List.replicate (t / 32) (0 : Int)).map wd) (fl2 := a.map wd) rfl rfl rfl rfl rfl rfl ?_ rfl rfl ?_ (Nat.le_of_ble_eq_true rfl) (Nat.le_of_ble_eq_true rfl) (.inr rfl) ?_ ?_ ?_
  · show some (tU32, 1, (List.replicate (t / 32) (0 : Int)).length, _) = _
    rw [hzl]; rfl
  · rw [List.length_map]; show a.length = a.length * 1; omega
  · show some (tU32, 1, (List.replicate (t / 32) 0 ++ a).length, (List.replicate (t / 32) 0 ++ a).map wd) = _
    rw [hAB, List.map_append, hzl]; rfl
  · show (t / 32 + a.length) * (4 + 1) ≤ _
    omega
  refine side_intro (by show (32 : Int) ≠ 0; omega) ?_
  refine side_intro (by show 0 ≤ ((t : Int)).tmod 32; rw [e2]; omega) ?_
  have hr32 : t % 32 < 32 := Nat.mod_lt _ (by omega)
  have hp31 : 2 ^ (t % 32) ≤ 2 ^ 31 := Nat.pow_le_pow_right (by omega) (by omega)
  have hp0 : 0 < 2 ^ (t % 32) := Nat.two_pow_pos _
  have es : IntKind.u32.wrap (1 * 2 ^ (min (((t : Int)).tmod 32).toNat IntKind.u32.bits)) = ((2 ^ (t % 32) : Nat) : Int) := by
    rw [e2, Int.toNat_natCast, show min (t % 32) IntKind.u32.bits = t % 32 by show min (t % 32) 32 = _; omega, Int.one_mul, show (2 : Int) ^ (t % 32) = ((2 ^ (t % 32) : Nat) : Int) by rw [Int.natCast_pow]; rfl, w32]
    generalize 2 ^ (t % 32) = z at hp31
    omega
  have hwz : Wd (List.replicate (t / 32) 0 ++ a) := (Wd.zeros _).app hwa
  have hm := rMul_spec (a := List.replicate (t / 32) 0 ++ a) (b := [((2 ^ (t % 32) : Nat) : Int)]) hwz (Wd.cons (by omega) (by generalize 2 ^ (t % 32) = z at hp31; omega) Wd.nil) (by rw [hAB, hzl]; omega) (by show 1 ≤ _; omega)
  have ev : val (List.replicate (t / 32) 0 ++ a) * val [((2 ^ (t % 32) : Nat) : Int)] = 2 ^ t * val a := by
    have h1 : val [((2 ^ (t % 32) : Nat) : Int)] = 2 ^ (t % 32) := by show (((2 ^ (t % 32) : Nat) : Int)).toNat + 4294967296 * 0 = _; rw [Int.toNat_natCast]; omega
    rw [val_app, val_zeros, hzl, Nat.zero_add, h1, Nat.mul_right_comm, ← pow_split, Nat.div_add_mod]
  rw [ev] at hm
  refine opp_frz 10 (.words tU32 (List.replicate (t / 32) 0 ++ a)) rfl (Nat.le_of_ble_eq_true rfl) rfl ?_
  refine call_intro (.d (.words (toW (2 ^ t * val a)))) ?_ ?_
  · rw [← snap_all tU32 (List.replicate (t / 32) 0 ++ a) (n := t / 32 + a.length) (by rw [hAB, hzl]), ← es] at hm
    exact hm
  exact ret_intro rfl rfl
theorem rOne_spec {n : Nat} : Runs Try.prog g_retrospectref06_One [.d (.words (toW n))] (.d (.bool (decide (n = 1)))) := by
  refine run1 [] p_retrospectref06_One rfl rfl (fun B S F0 w0 V0 => ?_)
  refine split_intro (fun h1 => ?_) (fun h1 => ?_)
  · have h1 : ((toW n).length : Int) = 1 := eq_of_beq h1
    refine idx_w 0 rfl (by omega) ?_
    refine ret_intro (b_inj ?_) rfl
    show ((toW n).getD 0 0 == 1) = _
    by_cases hn : n = 1
    · rw [decide_eq_true hn]; exact beq_iff_eq.2 (toW_is_one.2 hn).2
    · rw [decide_eq_false hn]; exact beq_eq_false_iff_ne.2 (fun e => hn (toW_is_one.1 ⟨by omega, e⟩))
  · have h1 : ((toW n).length : Int) ≠ 1 := beq_eq_false_iff_ne.1 h1
    refine ret_intro (b_inj ?_) rfl
    rw [decide_eq_false (fun e => by have := (toW_is_one.2 e).1; omega)]
theorem rOver_spec {a : List Int} {g : Nat} (hwa : Wd a) (ha : a.length ≤ 137438953472) (hg : (toW g).length ≤ 137438953472) (h0 : g ≠ 0) : Runs Try.prog g_retrospectref06_Over [.d (.words a), .d (.words (toW g))] (.d (.words (toW (val a / g)))) := by
  refine run1 [] p_retrospectref06_Over rfl rfl (fun B S F0 w0 V0 => ?_)
  refine call_intro _ rOne_spec ?_
  refine split_intro (fun h1 => ?_) (fun h1 => ?_)
  · have h1 : g = 1 := of_decide_eq_true h1
    rw [h1, Nat.div_one]
    refine call_intro _ (rNorm_spec hwa (by omega)) ?_
    exact ret_intro rfl rfl
  · have hd := rDiv_spec (b := toW g) hwa (Wd.toW _) ha hg (by rw [val_toW]; exact h0)
    rw [val_toW] at hd
    refine call_intro _ hd ?_
    exact ret_intro rfl rfl
theorem minI (m n : Nat) : (if (n : Int) < (m : Int) then (n : Int) else (m : Int)) = ((min m n : Nat) : Int) := by
  split <;> omega
def gst (sw : Bool) (X Y : List Int) (o1 A o2 B m n : Nat) : St :=
  bif sw then st [(5, .own 14 o1 (toW A).length), (6, .own 12 o2 (toW B).length), (7, .d (.int .i64 (m : Int))), (8, .d (.int .i64 (n : Int)))] [(14, .words tU32 X), (12, .words tU32 Y)]
  else st [(5, .own 12 o1 (toW A).length), (6, .own 14 o2 (toW B).length), (7, .d (.int .i64 (m : Int))), (8, .d (.int .i64 (n : Int)))] [(12, .words tU32 X), (14, .words tU32 Y)]
structure GI (X Y : List Int) (o1 A o2 B G : Nat) : Prop where
  wx : Wd X
  wy : Wd Y
  lx : o1 + (toW A).length ≤ X.length
  ly : o2 + (toW B).length ≤ Y.length
  bx : X.length ≤ 68719476736
  bY : Y.length ≤ 68719476736
  vx : (X.drop o1).take (toW A).length = toW A
  vy : (Y.drop o2).take (toW B).length = toW B
  ox : A % 2 = 1
  oy : B % 2 = 1
  g : Nat.gcd A B = G
theorem GI.next {X Y X1 X2 : List Int} {o1 A o2 B G o' : Nat} (h : GI X Y o1 A o2 B G) (hlt : B < A) (h1 : X.length = X1.length) (h2 : X2.length = X1.length) (hw : Wd X2) (h3 : o' + (toW (op (A - B))).length ≤ X2.length) (h4 : (X2.drop o').take (toW (op (A - B))).length = toW (op (A - B))) : GI X2 Y o' (op (A - B)) o2 B G := by
  have h0 : A - B ≠ 0 := by omega
  exact ⟨hw, h.wy, h3, h.ly, by have := h.bx; omega, h.bY, h4, h.vy, (op_eq h0).2, h.oy, by rw [gcd_op h.oy h0, gcd_less (by omega), h.g]⟩
theorem GI.swap {X Y : List Int} {o1 A o2 B G : Nat} (h : GI X Y o1 A o2 B G) : GI Y X o2 B o1 A G := ⟨h.wy, h.wx, h.ly, h.lx, h.bY, h.bx, h.vy, h.vx, h.oy, h.ox, by rw [Nat.gcd_comm]; exact h.g⟩
set_option maxHeartbeats 2000000 in
theorem rGcd_spec {a b : List Int} (hwa : Wd a) (hwb : Wd b) (ha : a.length ≤ 68719476736) (hb : b.length ≤ 68719476736) : Runs Try.prog g_retrospectref06_Gcd [.d (.words a), .d (.words b)] (.d (.words (toW (Nat.gcd (val a) (val b))))) := by
  refine run1 [12, 14] p_retrospectref06_Gcd rfl rfl (fun B S F0 w0 V0 => ?_)
  refine call_new 12 (rNorm_specG hwa (by omega)) rfl rfl rfl rfl rfl rfl rfl ?_
  refine call_new 14 (rNorm_specG hwb (by omega)) rfl rfl rfl rfl rfl rfl rfl ?_
  have la := nw_val hwa ha
  have lb := nw_val hwb hb
  obtain ⟨E, hE⟩ : ∃ E, E = 2199023255552 := ⟨_, rfl⟩
  have ba : val a < 2 ^ E := Nat.lt_of_lt_of_le (val_lt_bits hwa) (Nat.pow_le_pow_right (by omega) (by omega))
  clear hwa hwb ha hb
  obtain ⟨va, hva⟩ : ∃ va, va = val a := ⟨_, rfl⟩
  obtain ⟨vb, hvb⟩ : ∃ vb, vb = val b := ⟨_, rfl⟩
  rw [← hva] at la ba ⊢
  rw [← hvb] at lb ⊢
  clear hva hvb
  refine split_intro (fun h => ?_) (fun h => ?_)
  · have h : ((toW va).length : Int) = 0 := eq_of_beq h
    have h0 : va = 0 := toW_len_zero.1 (by omega)
    rw [h0, Nat.gcd_zero_left]
    exact ret_intro (snap_all tU32 _ rfl) rfl
  have h : ((toW va).length : Int) ≠ 0 := beq_eq_false_iff_ne.1 h
  have a0 : va ≠ 0 := by intro e; have := toW_len_zero.2 e; omega
  refine split_intro (fun h' => ?_) (fun h' => ?_)
  · have h' : ((toW vb).length : Int) = 0 := eq_of_beq h'
    have h0 : vb = 0 := toW_len_zero.1 (by omega)
    rw [h0, Nat.gcd_zero_right]
    exact ret_intro (snap_all tU32 _ rfl) rfl
  have h' : ((toW vb).length : Int) ≠ 0 := beq_eq_false_iff_ne.1 h'
  have b0 : vb ≠ 0 := by intro e; have := toW_len_zero.2 e; omega
  obtain ⟨X, o1, x1, x2, x3, x4, hox⟩ := odd_spec (X := toW va) (off := 0) (len := (toW va).length) (v := va) (Wd.toW _) (by omega) (by omega) (by rw [List.drop_zero, List.take_length, val_toW]) a0
  obtain ⟨Y, o2, y1, y2, y3, y4, hoy⟩ := odd_spec (X := toW vb) (off := 0) (len := (toW vb).length) (v := vb) (Wd.toW _) (by omega) (by omega) (by rw [List.drop_zero, List.take_length, val_toW]) b0
  refine call_row 12 hox rfl rfl rfl rfl rfl rfl (same_words x1.symm) ?_
  refine call_row 14 hoy rfl rfl rfl rfl rfl rfl (same_words y1.symm) ?_
  have htz : tz va < E := tz_lt a0 ba
  have hgb := gcd_both a0 b0
  refine loop_intro (fun p : Bool × (List Int × Nat × Nat) × (List Int × Nat × Nat) => gst p.1 p.2.1.1 p.2.2.1 p.2.1.2.1 p.2.1.2.2 p.2.2.2.1 p.2.2.2.2 (tz va) (tz vb)) (fun p => p.2.1.2.2 + p.2.2.2.2) (fun p => GI p.2.1.1 p.2.2.1 p.2.1.2.1 p.2.1.2.2 p.2.2.2.1 p.2.2.2.2 (Nat.gcd (op va) (op vb))) (false, (X, o1, op va), (Y, o2, op vb))
    ⟨x2, y2, x3, y3, by show X.length ≤ _; omega, by show Y.length ≤ _; omega, x4, y4, (op_eq a0).2, (op_eq b0).2, rfl⟩ (weak_st _ _ ⟨rfl, rfl, rfl, rfl, trivial⟩ ⟨rfl, rfl, trivial⟩ rfl) ?_
  clear hox hoy x1 x2 x3 x4 y1 y2 y3 y4 X Y o1 o2
  rintro ⟨sw, ⟨X, o1, A⟩, ⟨Y, o2, C⟩⟩ hI
  have hI : GI X Y o1 A o2 C (Nat.gcd (op va) (op vb)) := hI
  have lx := hI.lx
  have ly := hI.ly
  have bx := hI.bx
  have bY := hI.bY
  have hcm := rCmp_spec (a := toW A) (b := toW C) (Wd.toW _) (Wd.toW _) (by omega) (by omega)
  rw [val_toW, val_toW] at hcm
  have hox := hI.ox
  have hoy := hI.oy
  have hxs : ∀ k, k = (toW A).length → snapM (.words tU32 X) o1 k = .d (.words (toW A)) := by
    intro k hk
    show V.d (.words ((X.drop o1).take k)) = _
    rw [hk, hI.vx]
  have hys : ∀ k, k = (toW C).length → snapM (.words tU32 Y) o2 k = .d (.words (toW C)) := by
    intro k hk
    show V.d (.words ((Y.drop o2).take k)) = _
    rw [hk, hI.vy]
  cases sw
  · refine opp_callR (T := TB) hcm rfl rfl rfl (by show [snapM (.words tU32 X) o1 (toW A).length, snapM (.words tU32 Y) o2 (toW C).length] = _; rw [hxs _ rfl, hys _ rfl]) rfl rfl ?_
    refine split_intro (fun h => ?_) (fun h => ?_)
    · have h : cmpI A C = 0 := eq_of_beq h
      have hAC : A = C := cmpI_eq.1 h
      have hg := hI.g
      rw [← hAC, Nat.gcd_self] at hg
      rw [hgb, ← hg]
      have hdb := double_spec (a := toW A) (t := min (tz va) (tz vb)) (Wd.toW _) (by omega) (by omega)
      rw [val_toW, ← minI, ← hxs _ rfl] at hdb
      refine opp_frz 12 (.words tU32 X) rfl (Nat.le_of_ble_eq_true rfl) rfl ?_
      refine call_intro _ hdb ?_
      exact ret_intro rfl rfl
    have h : cmpI A C ≠ 0 := beq_eq_false_iff_ne.1 h
    have hne : A ≠ C := fun e => h (cmpI_eq.2 e)
    refine split_intro (fun h1 => ?_) (fun h1 => ?_)
    · have h1 : cmpI A C < 0 := of_decide_eq_true h1
      have hlt : A < C := cmpI_lt.1 h1
      obtain ⟨Y1, q1, q2, q3, hls⟩ := LessX_spec (X := Y) (b := toW A) (off := o2) (len := (toW C).length) (v := C) hI.wy hI.ly (by omega) (by rw [hI.vy, val_toW]) (Wd.toW _) (by omega) (by rw [val_toW]; omega)
      rw [val_toW] at q3
      obtain ⟨Y2, o', r1, r2, r3, r4, hod⟩ := odd_spec (X := Y1) (off := o2) (len := (toW C).length) (v := C - A) q2 (by omega) (by omega) q3 (by omega)
      refine opp_call_mut_read (T := TB) (i := 14) (j := 12) (by decide) hls rfl rfl rfl rfl rfl rfl hI.vx q1 ?_
      refine call_row 14 hod rfl rfl rfl rfl rfl rfl (same_words r1.symm) ?_
      exact ⟨(true, (Y2, o', op (C - A)), (X, o1, A)), hI.swap.next hlt q1 r1 r2 r3 r4, by have := op_le (C - A); show op (C - A) + A < A + C; omega, weak_st _ _ ⟨rfl, rfl, rfl, rfl, trivial⟩ ⟨rfl, rfl, trivial⟩ rfl⟩
    · have h1 : ¬ cmpI A C < 0 := of_decide_eq_false h1
      have hlt : C < A := by
        have := mt cmpI_lt.2 h1
        omega
      obtain ⟨X1, q1, q2, q3, hls⟩ := LessX_spec (X := X) (b := toW C) (off := o1) (len := (toW A).length) (v := A) hI.wx hI.lx (by omega) (by rw [hI.vx, val_toW]) (Wd.toW _) (by omega) (by rw [val_toW]; omega)
      rw [val_toW] at q3
      obtain ⟨X2, o', r1, r2, r3, r4, hod⟩ := odd_spec (X := X1) (off := o1) (len := (toW A).length) (v := A - C) q2 (by omega) (by omega) q3 (by omega)
      refine opp_call_mut_read (T := TB) (i := 12) (j := 14) (by decide) hls rfl rfl rfl rfl rfl rfl hI.vy q1 ?_
      refine call_row 12 hod rfl rfl rfl rfl rfl rfl (same_words r1.symm) ?_
      exact ⟨(false, (X2, o', op (A - C)), (Y, o2, C)), hI.next hlt q1 r1 r2 r3 r4, by have := op_le (A - C); show op (A - C) + C < A + C; omega, weak_st _ _ ⟨rfl, rfl, rfl, rfl, trivial⟩ ⟨rfl, rfl, trivial⟩ rfl⟩
  · refine opp_callR (T := TB) hcm rfl rfl rfl (by show [snapM (.words tU32 X) o1 (toW A).length, snapM (.words tU32 Y) o2 (toW C).length] = _; rw [hxs _ rfl, hys _ rfl]) rfl rfl ?_
    refine split_intro (fun h => ?_) (fun h => ?_)
    · have h : cmpI A C = 0 := eq_of_beq h
      have hAC : A = C := cmpI_eq.1 h
      have hg := hI.g
      rw [← hAC, Nat.gcd_self] at hg
      rw [hgb, ← hg]
      have hdb := double_spec (a := toW A) (t := min (tz va) (tz vb)) (Wd.toW _) (by omega) (by omega)
      rw [val_toW, ← minI, ← hxs _ rfl] at hdb
      refine opp_frz 14 (.words tU32 X) rfl (Nat.le_of_ble_eq_true rfl) rfl ?_
      refine call_intro _ hdb ?_
      exact ret_intro rfl rfl
    have h : cmpI A C ≠ 0 := beq_eq_false_iff_ne.1 h
    have hne : A ≠ C := fun e => h (cmpI_eq.2 e)
    refine split_intro (fun h1 => ?_) (fun h1 => ?_)
    · have h1 : cmpI A C < 0 := of_decide_eq_true h1
      have hlt : A < C := cmpI_lt.1 h1
      obtain ⟨Y1, q1, q2, q3, hls⟩ := LessX_spec (X := Y) (b := toW A) (off := o2) (len := (toW C).length) (v := C) hI.wy hI.ly (by omega) (by rw [hI.vy, val_toW]) (Wd.toW _) (by omega) (by rw [val_toW]; omega)
      rw [val_toW] at q3
      obtain ⟨Y2, o', r1, r2, r3, r4, hod⟩ := odd_spec (X := Y1) (off := o2) (len := (toW C).length) (v := C - A) q2 (by omega) (by omega) q3 (by omega)
      refine opp_call_mut_read (T := TB) (i := 12) (j := 14) (by decide) hls rfl rfl rfl rfl rfl rfl hI.vx q1 ?_
      refine call_row 12 hod rfl rfl rfl rfl rfl rfl (same_words r1.symm) ?_
      exact ⟨(false, (Y2, o', op (C - A)), (X, o1, A)), hI.swap.next hlt q1 r1 r2 r3 r4, by have := op_le (C - A); show op (C - A) + A < A + C; omega, weak_st _ _ ⟨rfl, rfl, rfl, rfl, trivial⟩ ⟨rfl, rfl, trivial⟩ rfl⟩
    · have h1 : ¬ cmpI A C < 0 := of_decide_eq_false h1
      have hlt : C < A := by
        have := mt cmpI_lt.2 h1
        omega
      obtain ⟨X1, q1, q2, q3, hls⟩ := LessX_spec (X := X) (b := toW C) (off := o1) (len := (toW A).length) (v := A) hI.wx hI.lx (by omega) (by rw [hI.vx, val_toW]) (Wd.toW _) (by omega) (by rw [val_toW]; omega)
      rw [val_toW] at q3
      obtain ⟨X2, o', r1, r2, r3, r4, hod⟩ := odd_spec (X := X1) (off := o1) (len := (toW A).length) (v := A - C) q2 (by omega) (by omega) q3 (by omega)
      refine opp_call_mut_read (T := TB) (i := 14) (j := 12) (by decide) hls rfl rfl rfl rfl rfl rfl hI.vy q1 ?_
      refine call_row 14 hod rfl rfl rfl rfl rfl rfl (same_words r1.symm) ?_
      exact ⟨(true, (X2, o', op (A - C)), (Y, o2, C)), hI.next hlt q1 r1 r2 r3 r4, by have := op_le (A - C); show op (A - C) + C < A + C; omega, weak_st _ _ ⟨rfl, rfl, rfl, rfl, trivial⟩ ⟨rfl, rfl, trivial⟩ rfl⟩
theorem rLcm_spec {a b : List Int} (hwa : Wd a) (hwb : Wd b) (ha : a.length ≤ 68719476736) (hb : b.length ≤ 68719476736) : Runs Try.prog g_retrospectref06_Lcm [.d (.words a), .d (.words b)] (.d (.words (toW (val a / Nat.gcd (val a) (val b) * val b)))) := by
  refine run1 [] p_retrospectref06_Lcm rfl rfl (fun B S F0 w0 V0 => ?_)
  refine call_intro _ (rGcd_spec hwa hwb ha hb) ?_
  have lg := nw_gcd (nw_val hwa ha) (nw_val hwb hb)
  obtain ⟨g, hg⟩ : ∃ g, g = Nat.gcd (val a) (val b) := ⟨_, rfl⟩
  rw [← hg] at lg ⊢
  refine split_intro (fun h => ?_) (fun h => ?_)
  · have h : ((toW g).length : Int) = 0 := eq_of_beq h
    have h0 : g = 0 := toW_len_zero.1 (by omega)
    rw [h0, Nat.div_zero, Nat.zero_mul]
    exact ret_intro rfl rfl
  have h : ((toW g).length : Int) ≠ 0 := beq_eq_false_iff_ne.1 h
  have h0 : g ≠ 0 := by intro e; have := toW_len_zero.2 e; omega
  refine call_intro _ (rOver_spec hwa (by omega) (by omega) h0) ?_
  have hm := rMul_spec (a := toW (val a / g)) (b := b) (Wd.toW _) hwb (by have := nw_le (Nat.div_le_self (val a) g) (nw_val hwa ha); omega) (by omega)
  rw [val_toW] at hm
  refine call_intro _ hm ?_
  exact ret_intro rfl rfl
end Go.Proofs.Ythefflmebkcilaa.Fw

/- The laws CommonTells and CommonAll, walked. -/
set_option linter.unusedVariables false
namespace Go.Proofs.Ythefflmebkcilaa.Fw
open Go Pu
theorem CommonTells_runs {a b : List Int} (hwa : Wd a) (hwb : Wd b) (ha : a.length ≤ 9223372036854775807) (hb : b.length ≤ 9223372036854775807) :
    Runs Try.prog g_retrospectlaw06_CommonTells [.d (.words a), .d (.words b)] (.d (.bool true)) := by
  refine run1 [] p_retrospectlaw06_CommonTells rfl rfl (fun B S F0 w0 V0 => ?_)
  refine split_intro (fun h => ?_) (fun h => ?_)
  · refine split_true rfl ?_
    refine call_intro _ works06 ?_
    exact ret_intro rfl rfl
  have h1 : ¬ (a.length : Int) > 30 := of_decide_eq_false h
  refine split_intro (fun h => ?_) (fun h => ?_)
  · refine call_intro _ works06 ?_
    exact ret_intro rfl rfl
  have h2 : ¬ (b.length : Int) > 30 := of_decide_eq_false h
  have la := nw_val hwa (k := 30) (by omega)
  have lb := nw_val hwb (k := 30) (by omega)
  have hg1 := rGcd_spec hwa hwb (by omega) (by omega)
  have hcn := Cancel_spec hwa hwb (by omega) (by omega)
  have hg2 := Gcd_spec hwa hwb (by omega) (by omega)
  have hl1 := Lcm_spec hwa hwb (by omega) (by omega)
  have hl2 := rLcm_spec hwa hwb (by omega) (by omega)
  have lg := nw_gcd la lb
  have lm : (toW (val a / Nat.gcd (val a) (val b) * val b)).length ≤ 60 := by
    have := nw_mul (val a / Nat.gcd (val a) (val b)) (val b)
    have := nw_le (Nat.div_le_self (val a) (Nat.gcd (val a) (val b))) la
    omega
  have lx := nw_le (Nat.div_le_self (val a) (Nat.gcd (val a) (val b))) la
  have ly := nw_le (Nat.div_le_self (val b) (Nat.gcd (val a) (val b))) lb
  obtain ⟨g, hg⟩ : ∃ g, g = Nat.gcd (val a) (val b) := ⟨_, rfl⟩
  have hpr : Runs Try.prog g_common_Prime [.d (.words a), .d (.words b)] (.d (.bool (decide (g = 1)))) := by
    have h := Prime_spec hwa hwb (by omega) (by omega)
    have e : (decide (Nat.gcd (val a) (val b) = 1)) = decide (g = 1) := by subst hg; exact decide_eq_decide.2 Iff.rfl
    rw [e] at h
    exact h
  rw [← hg] at hg1 hcn hg2 hl1 hl2 lg lm lx ly
  refine call_intro _ hg1 ?_
  refine call_intro _ hcn ?_
  refine call_intro _ hg2 ?_
  refine call_intro _ (same_true rfl (by omega)) ?_
  refine split_false rfl ?_
  refine call_intro _ hpr ?_
  refine call_intro _ rOne_spec ?_
  refine split_false (by show (!(decide (g = 1) == decide (g = 1))) = false; rw [beq_self_eq_true]; rfl) ?_
  refine call_intro _ hl1 ?_
  refine call_intro _ hl2 ?_
  refine call_intro _ (same_true rfl (by omega)) ?_
  refine split_false rfl ?_
  refine split_intro (fun h => ?_) (fun h => ?_)
  · have h : ((toW g).length : Int) = 0 := eq_of_beq h
    have h0 : g = 0 := toW_len_zero.1 (by omega)
    have hz : ∀ n, ((toW (n / g)).length : Int) = 0 := fun n => by rw [h0, Nat.div_zero, toW_zero]; rfl
    refine split_true (beq_iff_eq.2 (hz (val a))) ?_
    refine split_true (beq_iff_eq.2 (hz (val b))) ?_
    refine call_intro _ works06 ?_
    exact ret_intro rfl rfl
  have h : ((toW g).length : Int) ≠ 0 := beq_eq_false_iff_ne.1 h
  have h0 : g ≠ 0 := by intro e; have := toW_len_zero.2 e; omega
  refine call_intro _ (rOver_spec hwa (by omega) (by omega) h0) ?_
  refine call_intro _ (same_true rfl (by omega)) ?_
  refine split_true rfl ?_
  refine call_intro _ (rOver_spec hwb (by omega) (by omega) h0) ?_
  refine call_intro _ (same_true rfl (by omega)) ?_
  refine split_true rfl ?_
  refine call_intro _ works06 ?_
  exact ret_intro rfl rfl
/-- Lists of words, as cells. -/
def rowsOf (l : List (List Int)) : D := .rows 1 (l.map fun x => [.words x])
theorem rowsOf_get {l : List (List Int)} {i : Nat} (h : i < l.length) : (l.map fun x => [D.words x])[i]? = some [.words (l.getD i [])] := by
  rw [List.getElem?_map, List.getElem?_eq_getElem h, List.getD_eq_getElem?_getD, List.getElem?_eq_getElem h]; rfl
theorem idx_rows {l : List (List Int)} {x : Int} {k : List D → Prop} (i : Nat) (hx : x = (i : Int)) (h : i < l.length) (hk : k [.words (l.getD i [])]) : IdxP (l.map fun x => [D.words x]) x k :=
  idx_intro _ (by omega) (by rw [hx, Int.toNat_natCast]; exact rowsOf_get h) hk
theorem inv_wss {x : D} (h : OkD (.rows [.ws]) x) : ∃ l : List (List Int), x = rowsOf l ∧ (∀ y ∈ l, Wd y ∧ y.length ≤ maxLen) ∧ l.length ≤ maxLen := by
  obtain ⟨l, rfl, h1, h2⟩ := inv_rows h
  have : ∀ (l : List (List D)), (∀ y ∈ l, AllR OkD [.ws] y) → ∃ m : List (List Int), l = m.map (fun x => [D.words x]) ∧ ∀ y ∈ m, Wd y ∧ y.length ≤ maxLen := by
    intro l
    induction l with
    | nil => intro _; exact ⟨[], rfl, by simp⟩
    | cons y l ih =>
      intro h
      obtain ⟨m, rfl, hm⟩ := ih (fun z hz => h z (by simp [hz]))
      obtain ⟨u, us, e, h3, h4⟩ := (h y (by simp)).head
      obtain rfl := h4.nil_of
      obtain ⟨w, rfl, hw, hl⟩ := inv_ws h3
      refine ⟨w :: m, by rw [e]; rfl, fun z hz => ?_⟩
      rcases List.mem_cons.1 hz with rfl | hz
      · exact ⟨hw, hl⟩
      · exact hm z hz
  obtain ⟨m, rfl, hm⟩ := this l h1
  exact ⟨m, rfl, hm, by simpa using h2⟩
def longB : List (List Int) → Nat → Int → Bool
  | [], _, _ => false
  | x :: r, i, m => bif decide ((x.length : Int) > m) || decide ((i : Int) ≥ 100) then true else longB r (i + 1) (m - x.length)
theorem longB_no : ∀ (l : List (List Int)) (i : Nat) (m : Int), longB l i m = false → (l ≠ [] → (i : Int) + l.length ≤ 100) ∧ ∀ x ∈ l, (x.length : Int) ≤ m := by
  intro l
  induction l with
  | nil => intro i m _; exact ⟨fun h => absurd rfl h, by simp⟩
  | cons x r ih =>
    intro i m h
    simp only [longB] at h
    cases hb : decide ((x.length : Int) > m) || decide ((i : Int) ≥ 100) with
    | true => rw [hb] at h; cases h
    | false =>
      rw [hb, cond_false] at h
      simp only [Bool.or_eq_false_iff, decide_eq_false_iff_not] at hb
      obtain ⟨h1, h2⟩ := ih _ _ h
      refine ⟨fun _ => ?_, fun y hy => ?_⟩
      · simp only [List.length_cons]
        by_cases hr : r = []
        · subst hr; simp; omega
        · have := h1 hr; omega
      · rcases List.mem_cons.1 hy with rfl | hy
        · omega
        · have := h2 y hy; omega
theorem getD_mem {l : List (List Int)} {i : Nat} (h : i < l.length) : l.getD i [] ∈ l := by
  rw [List.getD_eq_getElem?_getD, List.getElem?_eq_getElem h]; exact List.getElem_mem h
theorem Long_spec {l : List (List Int)} {m : Int} (hl : l.length ≤ maxLen) (hx : ∀ x ∈ l, x.length ≤ maxLen) (h0 : 0 ≤ m) (h1 : m ≤ 1000000) : Runs Try.prog g_retrospectref02_Long [.d (rowsOf l), .d (.int .i64 m)] (.d (.bool (longB l 0 m))) := by
  refine run1 [] p_retrospectref02_Long rfl rfl (fun B S F0 w0 V0 => ?_)
  refine loop_intro (fun p : Nat × Int => st [(0, .d (rowsOf l)), (1, .d (.int .i64 p.2)), (5, .d (.int .i64 (p.1 : Int)))] []) (fun p => l.length - p.1) (fun p => p.1 ≤ l.length ∧ 0 ≤ p.2 ∧ p.2 ≤ m ∧ longB (l.drop p.1) p.1 p.2 = longB l 0 m) (0, m) ⟨Nat.zero_le _, h0, Int.le_refl _, rfl⟩ (weak_st _ _ ⟨rfl, rfl, rfl, trivial⟩ trivial rfl) ?_
  rintro ⟨i, k⟩ ⟨hi, hk0, hk, hv⟩
  dsimp only at hi hk0 hk hv
  have hml : l.length < 9223372036854775808 := by unfold maxLen at hl; omega
  refine split_intro (fun h => ?_) (fun h => ?_)
  · have hlt : i < l.length := by
      have h : (i : Int) < ((l.map fun x => [D.words x]).length : Int) := of_decide_eq_true h
      rw [List.length_map] at h; omega
    have ei : IntKind.i64.wrap ((i : Int) + 1) = ((i + 1 : Nat) : Int) := by rw [wr (by omega) (by omega)]; omega
    have hdr : l.drop i = l.getD i [] :: l.drop (i + 1) := by
      rw [List.drop_eq_getElem_cons hlt, List.getD_eq_getElem?_getD, List.getElem?_eq_getElem hlt]; rfl
    rw [hdr, longB] at hv
    have hxl := hx _ (getD_mem hlt)
    refine idx_rows i rfl hlt ?_
    refine split_intro (fun h1 => ?_) (fun h1 => ?_)
    · refine split_true rfl ?_
      have h1 : (((l.getD i []).length : Int) > k) := of_decide_eq_true h1
      rw [decide_eq_true h1] at hv
      refine ret_intro (b_inj ?_) rfl
      exact hv
    have h1' : ¬ (((l.getD i []).length : Int) > k) := of_decide_eq_false h1
    refine split_intro (fun h2 => ?_) (fun h2 => ?_)
    · have h2 : ((i : Int) ≥ 100) := of_decide_eq_true h2
      rw [decide_eq_false h1', decide_eq_true h2] at hv
      refine ret_intro (b_inj ?_) rfl
      exact hv
    · have h2 : ¬ ((i : Int) ≥ 100) := of_decide_eq_false h2
      rw [decide_eq_false h1', decide_eq_false h2] at hv
      refine idx_rows i rfl hlt ?_
      refine ⟨(i + 1, k - ((l.getD i []).length : Int)), ⟨hlt, by show 0 ≤ k - _; omega, by show k - _ ≤ m; omega, hv⟩, by show l.length - (i + 1) < l.length - i; omega, weak_st _ _ ⟨rfl, i64_inj ?_, i64_inj ei, trivial⟩ trivial rfl⟩
      show IntKind.i64.wrap (k - ((l.getD i []).length : Int)) = _
      rw [wr (by omega) (by omega)]
  · have hend : i = l.length := by
      have h : ¬ (i : Int) < ((l.map fun x => [D.words x]).length : Int) := of_decide_eq_false h
      rw [List.length_map] at h; omega
    rw [hend, List.drop_length] at hv
    refine ret_intro (b_inj ?_) rfl
    exact hv
def gAll (l : List (List Int)) : Nat := l.foldl (fun g x => Nat.gcd g (val x)) 0
theorem gAll_succ {l : List (List Int)} {i : Nat} (h : i < l.length) : gAll (l.take (i + 1)) = Nat.gcd (gAll (l.take i)) (val (l.getD i [])) := by
  rw [List.take_succ_eq_append_getElem h, gAll, List.foldl_append]
  rw [List.getD_eq_getElem?_getD, List.getElem?_eq_getElem h]; rfl
theorem gAll_len {l : List (List Int)} {k : Nat} (h : ∀ x ∈ l, Wd x ∧ x.length ≤ k) (i : Nat) : (toW (gAll (l.take i))).length ≤ k := by
  induction i with
  | zero => rw [List.take_zero]; show (toW 0).length ≤ k; rw [toW_zero]; exact Nat.zero_le _
  | succ i ih =>
    by_cases hi : i < l.length
    · rw [gAll_succ hi]
      obtain ⟨h1, h2⟩ := h _ (getD_mem hi)
      exact nw_gcd ih (nw_val h1 h2)
    · rw [List.take_of_length_le (by omega)] at ih ⊢
      exact ih
theorem All_spec {l : List (List Int)} (h : ∀ x ∈ l, Wd x ∧ x.length ≤ 137438953472) (hl : l.length ≤ maxLen) : Runs Try.prog g_common_All [.d (rowsOf l)] (.d (.words (toW (gAll l)))) := by
  refine run1 [] p_common_All rfl rfl (fun B S F0 w0 V0 => ?_)
  have hml : l.length < 9223372036854775808 := by unfold maxLen at hl; omega
  refine loop_intro (fun i : Nat => st [(3, .d (.words (toW (gAll (l.take i))))), (6, .d (rowsOf l)), (7, .d (.int .i64 (l.length : Int))), (8, .d (.int .i64 (i : Int)))] []) (fun i => l.length - i) (fun i => i ≤ l.length) 0
    (Nat.zero_le _) (weak_trans (weak_st _ _ ⟨by show V.d (.words []) = V.d (.words (toW 0)); rw [toW_zero], rfl, i64_inj (by show ((l.map fun x => [D.words x]).length : Int) = _; rw [List.length_map]), rfl, trivial⟩ trivial rfl) (weak_nilW 3 rfl)) ?_
  intro i hi
  refine split_intro (fun h1 => ?_) (fun h1 => ?_)
  · have hlt : i < l.length := by have h1 : (i : Int) < l.length := of_decide_eq_true h1; omega
    have ei : IntKind.i64.wrap ((i : Int) + 1) = ((i + 1 : Nat) : Int) := by rw [wr (by omega) (by omega)]; omega
    obtain ⟨hw, hx⟩ := h _ (getD_mem hlt)
    refine idx_rows i rfl hlt ?_
    have hg := Gcd_spec (a := l.getD i []) (b := toW (gAll (l.take i))) hw (Wd.toW _) hx (gAll_len h i)
    rw [val_toW, Nat.gcd_comm, ← gAll_succ hlt] at hg
    refine call_intro _ hg ?_
    exact ⟨i + 1, hlt, by omega, weak_st _ _ ⟨rfl, rfl, rfl, i64_inj ei, trivial⟩ trivial rfl⟩
  · have hend : i = l.length := by have h1 : ¬ (i : Int) < l.length := of_decide_eq_false h1; omega
    refine ret_intro ?_ rfl
    show V.d (.words (toW (gAll (l.take i)))) = _
    rw [hend, List.take_length]
theorem CommonAll_runs {l : List (List Int)} (h : ∀ x ∈ l, Wd x ∧ x.length ≤ maxLen) (hl : l.length ≤ maxLen) : Runs Try.prog g_retrospectlaw06_CommonAll [.d (rowsOf l)] (.d (.bool true)) := by
  refine run1 [] p_retrospectlaw06_CommonAll rfl rfl (fun B S F0 w0 V0 => ?_)
  refine call_intro _ (Long_spec (m := 60) hl (fun x hx => (h x hx).2) (by omega) (by omega)) ?_
  refine split_intro (fun hb => ?_) (fun hb => ?_)
  · refine call_intro _ works06 ?_
    exact ret_intro rfl rfl
  have hno := (longB_no l 0 60 hb).2
  have h6 : ∀ x ∈ l, Wd x ∧ x.length ≤ 60 := fun x hx => ⟨(h x hx).1, by have := hno x hx; omega⟩
  have hml : l.length < 9223372036854775808 := by unfold maxLen at hl; omega
  refine loop_intro (fun i : Nat => st [(0, .d (rowsOf l)), (3, .d (.words (toW (gAll (l.take i))))), (4, .d (.int .i64 (i : Int)))] []) (fun i => l.length - i) (fun i => i ≤ l.length) 0
    (Nat.zero_le _) (weak_st _ _ ⟨rfl, by show V.d (.words []) = V.d (.words (toW 0)); rw [toW_zero], rfl, trivial⟩ trivial rfl) ?_
  intro i hi
  refine split_intro (fun h1 => ?_) (fun h1 => ?_)
  · have hlt : i < l.length := by
      have h1 : (i : Int) < ((l.map fun x => [D.words x]).length : Int) := of_decide_eq_true h1
      rw [List.length_map] at h1; omega
    have ei : IntKind.i64.wrap ((i : Int) + 1) = ((i + 1 : Nat) : Int) := by rw [wr (by omega) (by omega)]; omega
    obtain ⟨hw, hx⟩ := h6 _ (getD_mem hlt)
    refine idx_rows i rfl hlt ?_
    have hg := rGcd_spec (a := toW (gAll (l.take i))) (b := l.getD i []) (Wd.toW _) hw (by have := gAll_len h6 i; omega) (by omega)
    rw [val_toW, ← gAll_succ hlt] at hg
    refine call_intro _ hg ?_
    exact ⟨i + 1, hlt, by omega, weak_st _ _ ⟨rfl, rfl, i64_inj ei, trivial⟩ trivial rfl⟩
  · have hend : i = l.length := by
      have h1 : ¬ (i : Int) < ((l.map fun x => [D.words x]).length : Int) := of_decide_eq_false h1
      rw [List.length_map] at h1; omega
    refine call_intro _ (All_spec (fun x hx => ⟨(h6 x hx).1, by have := (h6 x hx).2; omega⟩) hl) ?_
    have hlen := gAll_len h6 l.length
    rw [List.take_length] at hlen
    refine call_intro _ (same_true (by rw [hend, List.take_length]) (by omega)) ?_
    refine split_true rfl ?_
    refine call_intro _ works06 ?_
    exact ret_intro rfl rfl
theorem CommonTells_typed {x y : D} (h0 : OkD .ws x) (h1 : OkD .ws y) : Runs Try.prog g_retrospectlaw06_CommonTells [.d x, .d y] (.d (.bool true)) := by
  obtain ⟨a, rfl, hwa, ha⟩ := inv_ws h0
  obtain ⟨b, rfl, hwb, hb⟩ := inv_ws h1
  exact CommonTells_runs hwa hwb ha hb
theorem CommonAll_typed {x : D} (h0 : OkD (.rows [.ws]) x) : Runs Try.prog g_retrospectlaw06_CommonAll [.d x] (.d (.bool true)) := by
  obtain ⟨l, rfl, h, hl⟩ := inv_wss h0
  exact CommonAll_runs h hl
end Go.Proofs.Ythefflmebkcilaa.Fw

/- The shapes of the types of the arguments. -/
set_option linter.unusedVariables false
set_option linter.unusedSimpArgs false
namespace Go.Proofs.Ythefflmebkcilaa.Fw
open Go
abbrev shF : List Sh := [.bool, .ws, .ws]
abbrev shR : Sh := .rows shF
theorem sh_int : HasSh Try.prog 3 [.int .i64] := .int Try.underlying3 (by kernel_rfl)
theorem sh_bool : HasSh Try.prog 4 [.bool] := .bool Try.underlying4 (by kernel_rfl)
theorem sh_u32 : HasSh Try.prog 32 [.int .u32] := .int Try.underlying32 (by kernel_rfl)
theorem sh_ws : HasSh Try.prog 22 [.ws] := .ws Try.underlying22 Try.underlying32 (by kernel_rfl) (by kernel_rfl)
theorem sh_wss : HasSh Try.prog 41 [.rows [.ws]] := .rows Try.underlying41 sh_ws (by decide) (by kernel_rfl)
end Go.Proofs.Ythefflmebkcilaa.Fw
