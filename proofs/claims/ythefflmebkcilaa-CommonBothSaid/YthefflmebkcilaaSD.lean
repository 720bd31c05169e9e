/- Shifts by less than a word, the quotient by a word. -/
import Derived.Test.YthefflmebkcilaaSC
set_option linter.unusedVariables false
namespace Go.Proofs.Ythefflmebkcilaa.Fw
open Go Pu
theorem or32 {m l : Int} {k : Nat} (hm : 0 ≤ m) (hk : m < 2 ^ k) (hl0 : 0 ≤ l) (hl : l < 4294967296) (t : Nat) (ht : l = ((2 ^ k * t : Nat) : Int)) (hk2 : k < 32) :
    IntKind.u32.wrap (BitVec.ofInt 32 m ||| BitVec.ofInt 32 l).toNat = m + l := by
  obtain ⟨m, rfl⟩ := Int.eq_ofNat_of_zero_le hm
  subst ht
  have hk' : m < 2 ^ k := by exact_mod_cast hk
  have hlt : 2 ^ k * t < 4294967296 := by generalize 2 ^ k * t = z at hl ⊢; omega
  have h2 : 2 ^ k ≤ 2 ^ 31 := Nat.pow_le_pow_right (by omega) (by omega)
  rw [BitVec.ofInt_natCast, BitVec.ofInt_natCast, BitVec.toNat_or, BitVec.toNat_ofNat, BitVec.toNat_ofNat, Nat.mod_eq_of_lt (show m < 2 ^ 32 by omega), Nat.mod_eq_of_lt (show 2 ^ k * t < 2 ^ 32 from hlt), Nat.or_comm, ← Nat.two_pow_add_eq_or_of_lt hk', w32]
  have h3 : 2 ^ k * t + m < 4294967296 := by
    have hc := pow32 (n := k) (by omega)
    have : t < 2 ^ (32 - k) := by
      rcases Nat.lt_or_ge t (2 ^ (32 - k)) with h | h
      · exact h
      · have := Nat.mul_le_mul_left (2 ^ k) h; omega
    have := Nat.mul_le_mul_left (2 ^ k) this
    rw [Nat.mul_succ] at this
    omega
  generalize 2 ^ k * t = z at h3 hlt ⊢
  omega
theorem Up_specG {a : List Int} {n : Nat} (hwa : Wd a) (ha : a.length ≤ 274877906944) (hn : n < 32) : RunsG Try.prog g_twos_Up [.d (.words a), .d (.int .i64 (n : Int))] [] (.own 56 0 (toW (val a * 2 ^ n)).length) [(56, .words tU32 (toW (val a * 2 ^ n)))] := by
  refine runG [56] p_twos_Up rfl rfl rfl rfl (fun B S F0 w0 V0 => ?_)
  have e1 : (if (0 : Int) > (n : Int) then (0 : Int) else (n : Int)) = (n : Int) := if_neg (by omega)
  have e2 : (if (4096 : Int) < (n : Int) then (4096 : Int) else (n : Int)) = (n : Int) := if_neg (by omega)
  have e0 : (if (4096 : Int) < (if (0 : Int) > (n : Int) then (0 : Int) else (n : Int)) then (4096 : Int) else (if (0 : Int) > (n : Int) then (0 : Int) else (n : Int))) = (n : Int) := by rw [e1, e2]
  have d1 : IntKind.i64.wrap ((n : Int).tdiv 32) = 0 := by rw [Int.tdiv_eq_ediv_of_nonneg (by omega), wr (by omega) (by omega)]; omega
  have d2 : ((n : Int).tmod 32) = (n : Int) := by rw [Int.tmod_eq_emod_of_nonneg (by omega)]; omega
  refine side_intro (by show (32 : Int) ≠ 0; omega) ?_
  refine side_intro (by show (32 : Int) ≠ 0; omega) ?_
  have d1' : IntKind.i64.wrap ((if (4096 : Int) < (if (0 : Int) > (n : Int) then (0 : Int) else (n : Int)) then (4096 : Int) else (if (0 : Int) > (n : Int) then (0 : Int) else (n : Int))).tdiv 32) = 0 := by rw [e0]; exact d1
  have d2' : ((if (4096 : Int) < (if (0 : Int) > (n : Int) then (0 : Int) else (n : Int)) then (4096 : Int) else (if (0 : Int) > (n : Int) then (0 : Int) else (n : Int))).tmod 32) = (n : Int) := by rw [e0]; exact d2
  have e3 : IntKind.i64.wrap (IntKind.i64.wrap (IntKind.i64.wrap ((if (4096 : Int) < (if (0 : Int) > (n : Int) then (0 : Int) else (n : Int)) then (4096 : Int) else (if (0 : Int) > (n : Int) then (0 : Int) else (n : Int))).tdiv 32) + (a.length : Int)) + 1) = ((a.length + 1 : Nat) : Int) := by
    rw [d1', wr (x := 0 + (a.length : Int)) (by omega) (by omega), wr (by omega) (by omega)]; omega
  refine opp_make hT rfl rfl (Nat.le_of_ble_eq_true rfl) (e := 32) rfl rfl (Nat.le_of_ble_eq_true rfl) (fun _ => rfl) (k := .i64) (k' := .i64) (n := ((a.length + 1 : Nat) : Int)) (i64_inj e3) (i64_inj e3) rfl (by omega) ?_ ?_ ?_
  · show 4 * ((a.length + 1 : Nat) : Int).toNat ≤ _
    omega
  · unfold maxLen; omega
  rw [Int.toNat_natCast]
  refine loop_intro (fun p : Nat × List Int => st [(0, .d (.words a)), (5, .d (.int .i64 0)), (6, .d (.int .i64 (n : Int))), (7, .own 23 0 (a.length + 1)), (24, .d (.words a)), (25, .d (.int .i64 (a.length : Int))), (26, .d (.int .i64 (p.1 : Int)))] [(23, .words 32 p.2)]) (fun p => a.length - p.1)
    (fun p => p.1 ≤ a.length ∧ p.2.length = a.length + 1 ∧ Wd p.2 ∧ val p.2 = val (a.take p.1) * 2 ^ n ∧ (∀ j, p.1 < j → p.2.getD j 0 = 0) ∧ (p.2.getD p.1 0).toNat < 2 ^ n) (0, List.replicate (a.length + 1) 0)
    ⟨Nat.zero_le _, by simp, Wd.zeros _, by simp only [val_zeros]; simp [val], fun j _ => by dsimp only; rw [List.getD_eq_getElem?_getD, List.getElem?_replicate]; split <;> rfl, by show ((List.replicate (a.length + 1) (0 : Int)).getD 0 0).toNat < 2 ^ n; rw [List.getD_eq_getElem?_getD, List.getElem?_replicate]; split <;> exact Nat.two_pow_pos n⟩ (weak_st _ _ ⟨rfl, i64_inj d1', i64_inj d2', rfl, rfl, rfl, rfl, trivial⟩ ⟨rfl, trivial⟩ rfl) ?_
  rintro ⟨i, out⟩ ⟨hi, hl, hwo, hv, hz, hs⟩
  dsimp only at hi hl hwo hv hz hs
  refine split_intro (fun h => ?_) (fun h => ?_)
  · have hlt : i < a.length := by have h : (i : Int) < a.length := of_decide_eq_true h; omega
    have ei : IntKind.i64.wrap ((i : Int) + 1) = ((i + 1 : Nat) : Int) := by rw [wr (by omega) (by omega)]; omega
    have ej : IntKind.i64.wrap (0 + (i : Int)) = (i : Int) := by rw [wr (by omega) (by omega)]; omega
    have ej2 : IntKind.i64.wrap (IntKind.i64.wrap (0 + (i : Int)) + 1) = ((i + 1 : Nat) : Int) := by rw [ej]; exact ei
    have g1 := hwa.g i
    have g2 := hwo.g i
    refine idx_w i rfl hlt ?_
    refine side_intro (by show (0 : Int) ≤ n; omega) ?_
    refine side_intro (by show (0 : Int) ≤ IntKind.i64.wrap (0 + (i : Int)) ∧ IntKind.i64.wrap (0 + (i : Int)) < ((a.length + 1 : Nat) : Int); omega) ?_
    refine idx_intro (out.getD i 0) (Int.natCast_nonneg _) (by
      show out[((0 + (IntKind.i64.wrap (0 + (i : Int))).toNat : Nat) : Int).toNat]? = _
      rw [ej, Int.toNat_natCast, Int.toNat_natCast, Nat.zero_add]
      exact el out (by omega)) ?_
    refine side_intro (by show (0 : Int) ≤ IntKind.i64.wrap (0 + (i : Int)) ∧ IntKind.i64.wrap (0 + (i : Int)) < ((a.length + 1 : Nat) : Int); omega) ?_
    refine side_intro (by show (0 : Int) ≤ 32; omega) ?_
    refine side_intro (by show (0 : Int) ≤ IntKind.i64.wrap (IntKind.i64.wrap (0 + (i : Int)) + 1) ∧ IntKind.i64.wrap (IntKind.i64.wrap (0 + (i : Int)) + 1) < ((a.length + 1 : Nat) : Int); omega) ?_
    have hpc := pow32 (n := n) (by omega)
    have hpp : 0 < 2 ^ n := Nat.two_pow_pos n
    obtain ⟨x, hx⟩ := Int.eq_ofNat_of_zero_le g1.1
    obtain ⟨u, hu⟩ := Int.eq_ofNat_of_zero_le g2.1
    rw [hx] at g1
    rw [hu] at g2 hs
    have hs' : u < 2 ^ n := hs
    have hX : x * 2 ^ n < 4294967296 * 2 ^ n := Nat.mul_lt_mul_of_pos_right (by omega) hpp
    have hn31 : 2 ^ n ≤ 2 ^ 31 := Nat.pow_le_pow_right (by omega) (by omega)
    have ew : IntKind.u64.wrap (IntKind.u64.wrap (a.getD i 0) * 2 ^ (min ((n : Int)).toNat IntKind.u64.bits)) = ((x * 2 ^ n : Nat) : Int) := by
      rw [hx, show min ((n : Int)).toNat IntKind.u64.bits = n by show min n 64 = n; omega, w64 ((x : Nat) : Int), show ((x : Nat) : Int) % 18446744073709551616 = ((x : Nat) : Int) by omega, w64]
      have : ((x : Int) * 2 ^ n) = ((x * 2 ^ n : Nat) : Int) := by rw [Int.natCast_mul, Int.natCast_pow]; rfl
      rw [this]
      generalize x * 2 ^ n = X at hX ⊢
      omega
    have elo : IntKind.u32.wrap (BitVec.ofInt 32 (out.getD i 0) ||| BitVec.ofInt 32 (IntKind.u32.wrap (IntKind.u64.wrap (IntKind.u64.wrap (a.getD i 0) * 2 ^ (min ((n : Int)).toNat IntKind.u64.bits))))).toNat = ((u + x * 2 ^ n % 4294967296 : Nat) : Int) := by
      rw [ew, hu, w32 ((x * 2 ^ n : Nat) : Int)]
      have hl : ((x * 2 ^ n : Nat) : Int) % 4294967296 = ((x * 2 ^ n % 4294967296 : Nat) : Int) := by omega
      rw [hl]
      rw [or32 (k := n) (by show (0 : Int) ≤ (u : Int); omega) (by show (u : Int) < 2 ^ n; exact_mod_cast hs') (by omega) (by omega) (x % 2 ^ (32 - n)) (by rw [← hpc, Nat.mul_comm x, Nat.mul_mod_mul_left]) hn]
      show (u : Int) + _ = _
      omega
    have ehi : IntKind.u32.wrap ((IntKind.u64.wrap (IntKind.u64.wrap (a.getD i 0) * 2 ^ (min ((n : Int)).toNat IntKind.u64.bits))).fdiv (2 ^ (min ((32 : Int)).toNat IntKind.u64.bits))) = ((x * 2 ^ n / 4294967296 : Nat) : Int) := by
      rw [ew, show (2 : Int) ^ (min ((32 : Int)).toNat IntKind.u64.bits) = 4294967296 from rfl, Int.fdiv_eq_ediv_of_nonneg _ (by omega), w32]
      generalize x * 2 ^ n = X at hX ⊢
      omega
    have hlo : u + x * 2 ^ n % 4294967296 < 4294967296 := by
      rw [← hpc, Nat.mul_comm x, Nat.mul_mod_mul_left]
      have : x % 2 ^ (32 - n) < 2 ^ (32 - n) := Nat.mod_lt _ (Nat.two_pow_pos _)
      have := Nat.mul_le_mul_left (2 ^ n) this
      rw [Nat.mul_succ] at this
      omega
    have hhi : x * 2 ^ n / 4294967296 < 2 ^ n := (Nat.div_lt_iff_lt_mul (by omega)).2 (by rw [Nat.mul_comm (2 ^ n)]; exact hX)
    have hw1 : Wd (out.set i ((u + x * 2 ^ n % 4294967296 : Nat) : Int)) := hwo.set i (by omega) (by omega)
    refine ⟨(i + 1, (out.set i ((u + x * 2 ^ n % 4294967296 : Nat) : Int)).set (i + 1) ((x * 2 ^ n / 4294967296 : Nat) : Int)), ⟨hlt, by show ((out.set i _).set (i + 1) _).length = _; rw [List.length_set, List.length_set]; exact hl, hw1.set _ (by omega) (by omega), ?_, fun j hj => ?_, ?_⟩, by show a.length - (i + 1) < a.length - i; omega, ?_⟩
    · show val ((out.set i ((u + x * 2 ^ n % 4294967296 : Nat) : Int)).set (i + 1) ((x * 2 ^ n / 4294967296 : Nat) : Int)) = val (a.take (i + 1)) * 2 ^ n
      rw [up_step (u := u) (r := x * 2 ^ n % 4294967296) (d := x * 2 ^ n / 4294967296) (by omega) (by rw [hu]; rfl) (by rw [hz (i + 1) (by omega)]; rfl) (Int.toNat_natCast _) (Int.toNat_natCast _), hv, val_take_succ hlt, hx, Nat.add_mul, Int.toNat_natCast, Nat.mul_assoc, Nat.pow_succ, Nat.add_assoc, up_sum (Nat.div_add_mod _ _)]
    · show ((out.set i _).set (i + 1) _).getD j 0 = 0
      have hj : i + 1 < j := hj
      rw [getD_setne (by omega), getD_setne (by omega)]
      exact hz j (by omega)
    · show (((out.set i _).set (i + 1) ((x * 2 ^ n / 4294967296 : Nat) : Int)).getD (i + 1) 0).toNat < 2 ^ n
      rw [getD_setself (by rw [List.length_set]; omega), Int.toNat_natCast]
      exact hhi
    · refine weak_st _ _ ⟨rfl, rfl, rfl, rfl, rfl, rfl, i64_inj ei, trivial⟩ ⟨?_, trivial⟩ rfl
      show some (MO.words 32 ((out.set (0 + (IntKind.i64.wrap (0 + (i : Int))).toNat) (IntKind.u32.wrap (BitVec.ofInt 32 (out.getD i 0) ||| BitVec.ofInt 32 (IntKind.u32.wrap (IntKind.u64.wrap (IntKind.u64.wrap (a.getD i 0) * 2 ^ (min ((n : Int)).toNat IntKind.u64.bits))))).toNat)).set (0 + (IntKind.i64.wrap (IntKind.i64.wrap (0 + (i : Int)) + 1)).toNat) (IntKind.u32.wrap ((IntKind.u64.wrap (IntKind.u64.wrap (a.getD i 0) * 2 ^ (min ((n : Int)).toNat IntKind.u64.bits))).fdiv (2 ^ (min ((32 : Int)).toNat IntKind.u64.bits)))))) = _
      rw [elo, ehi, ej, ei, Nat.zero_add, Nat.zero_add, Int.toNat_natCast, Int.toNat_natCast]
  · have hend : i = a.length := by have h : ¬ (i : Int) < a.length := of_decide_eq_false h; omega
    subst hend
    have e : snapM (.words 32 out) 0 (a.length + 1) = .d (.words out) := by
      show V.d (.words ((out.drop 0).take (a.length + 1))) = _
      rw [List.drop_zero, List.take_of_length_le (by omega)]
    have hn := norm_specG hwo (by omega)
    rw [hv, List.take_length] at hn
    refine opp_weak _ (weak_freeze (i := 23) (m := .words 32 out) (Nat.le_of_ble_eq_true rfl) rfl) ?_
    refine call_new 56 hn rfl rfl rfl rfl rfl ?_ rfl ?_
    · show [snapM (.words 32 out) 0 (a.length + 1)] = _
      rw [e]
    · exact retG_intro rfl rfl ⟨rfl, trivial⟩ rfl
theorem Down_spec {a : List Int} {n : Nat} (hwa : Wd a) (ha : a.length ≤ 274877906944) (hn : n < 32) : Runs Try.prog g_twos_Down [.d (.words a), .d (.int .i64 (n : Int))] (.d (.words (toW (val a / 2 ^ n)))) := by
  refine run1 [] p_twos_Down rfl rfl (fun B S F0 w0 V0 => ?_)
  have e1 : (if (0 : Int) > (n : Int) then (0 : Int) else (n : Int)) = (n : Int) := if_neg (by omega)
  have d1 : IntKind.i64.wrap ((if (0 : Int) > (n : Int) then (0 : Int) else (n : Int)).tdiv 32) = 0 := by rw [e1, Int.tdiv_eq_ediv_of_nonneg (by omega), wr (by omega) (by omega)]; omega
  have d2 : ((if (0 : Int) > (n : Int) then (0 : Int) else (n : Int)).tmod 32) = (n : Int) := by rw [e1, Int.tmod_eq_emod_of_nonneg (by omega)]; omega
  refine side_intro (by show (32 : Int) ≠ 0; omega) ?_
  refine side_intro (by show (32 : Int) ≠ 0; omega) ?_
  refine split_intro (fun h => ?_) (fun h => ?_)
  · have h : IntKind.i64.wrap ((if (0 : Int) > (n : Int) then (0 : Int) else (n : Int)).tdiv 32) ≥ (a.length : Int) := of_decide_eq_true h
    rw [d1] at h
    have : a = [] := List.eq_nil_of_length_eq_zero (by omega)
    subst this
    refine ret_intro (ws_inj ?_) rfl
    simp [val, toW_zero]
  have h : ¬ IntKind.i64.wrap ((if (0 : Int) > (n : Int) then (0 : Int) else (n : Int)).tdiv 32) ≥ (a.length : Int) := of_decide_eq_false h
  have e3 : IntKind.i64.wrap ((a.length : Int) - IntKind.i64.wrap ((if (0 : Int) > (n : Int) then (0 : Int) else (n : Int)).tdiv 32)) = ((a.length : Nat) : Int) := by rw [d1, wr (by omega) (by omega)]; omega
  refine opp_make hT rfl rfl (Nat.le_of_ble_eq_true rfl) (e := 32) rfl rfl (Nat.le_of_ble_eq_true rfl) (fun _ => rfl) (k := .i64) (k' := .i64) (n := ((a.length : Nat) : Int)) (i64_inj e3) (i64_inj e3) rfl (by omega) ?_ ?_ ?_
  · show 4 * ((a.length : Nat) : Int).toNat ≤ _
    omega
  · unfold maxLen; omega
  rw [Int.toNat_natCast]
  refine loop_intro (fun p : Nat × List Int => st [(0, .d (.words a)), (5, .d (.int .i64 0)), (6, .d (.int .i64 (n : Int))), (7, .own 24 0 a.length), (26, .d (.int .i64 (a.length : Int))), (27, .d (.int .i64 (p.1 : Int)))] [(24, .words 32 p.2)]) (fun p => a.length - p.1)
    (fun p => p.1 ≤ a.length ∧ p.2.length = a.length ∧ Wd p.2 ∧ val (p.2.take p.1) + 4294967296 ^ p.1 * (val (a.drop p.1) / 2 ^ n) = val a / 2 ^ n) (0, List.replicate a.length 0)
    ⟨Nat.zero_le _, by simp, Wd.zeros _, by simp [val]⟩ (weak_st _ _ ⟨rfl, i64_inj d1, i64_inj d2, rfl, rfl, rfl, trivial⟩ ⟨rfl, trivial⟩ rfl) ?_
  rintro ⟨i, out⟩ ⟨hi, hl, hwo, hv⟩
  dsimp only at hi hl hwo hv
  refine split_intro (fun h => ?_) (fun h => ?_)
  · have hlt : i < a.length := by have h : (i : Int) < a.length := of_decide_eq_true h; omega
    have ei : IntKind.i64.wrap ((i : Int) + 1) = ((i + 1 : Nat) : Int) := by rw [wr (by omega) (by omega)]; omega
    have ej : IntKind.i64.wrap (0 + (i : Int)) = (i : Int) := by rw [wr (by omega) (by omega)]; omega
    have ej2 : IntKind.i64.wrap (IntKind.i64.wrap (0 + (i : Int)) + 1) = ((i + 1 : Nat) : Int) := by rw [ej]; exact ei
    have g1 := hwa.g i
    have g2 := hwa.g (i + 1)
    obtain ⟨x, hx⟩ := Int.eq_ofNat_of_zero_le g1.1
    obtain ⟨y, hy⟩ := Int.eq_ofNat_of_zero_le g2.1
    have hvd := val_drop_cons' a i
    have hvm := val_mod a (i + 1) (n := n) (by omega)
    rw [hx] at g1 hvd
    rw [hy] at g2 hvm
    rw [Int.toNat_natCast] at hvd hvm
    have hpp : 0 < 2 ^ n := Nat.two_pow_pos n
    have hst := down_step (x := x) (n := n) (by omega) (by omega) hvm
    have fin : ∀ (dg : Int), dg = (((x + 4294967296 * y) / 2 ^ n % 4294967296 : Nat) : Int) → W32 dg ∧ val ((out.set i dg).take (i + 1)) + 4294967296 ^ (i + 1) * (val (a.drop (i + 1)) / 2 ^ n) = val a / 2 ^ n := by
      rintro _ rfl
      refine ⟨⟨by omega, by omega⟩, ?_⟩
      rw [val_take_set (by omega), Int.toNat_natCast, Nat.pow_succ, Nat.mul_assoc, Nat.add_assoc, ← Nat.mul_add, hst, ← hvd, hv]
    have eu : IntKind.u64.wrap (a.getD i 0) = (x : Int) := by rw [hx, w64]; omega
    have fdn : ∀ (z : Nat), ((z : Int)).fdiv (2 ^ (min ((n : Int)).toNat IntKind.u64.bits)) = ((z / 2 ^ n : Nat) : Int) := by
      intro z
      rw [Int.fdiv_eq_ediv_of_nonneg _ (Int.pow_nonneg (by omega)), show min ((n : Int)).toNat IntKind.u64.bits = n by show min n 64 = n; omega]
      norm_cast
    refine idx_w i ej hlt ?_
    refine split_intro (fun h => ?_) (fun h => ?_)
    · have h : IntKind.i64.wrap (IntKind.i64.wrap (0 + (i : Int)) + 1) < (a.length : Int) := of_decide_eq_true h
      rw [ej2] at h
      refine idx_w (i + 1) ej2 (by omega) ?_
      refine side_intro (by show (0 : Int) ≤ 32; omega) ?_
      refine side_intro (by show (0 : Int) ≤ n; omega) ?_
      refine side_intro (by show (0 : Int) ≤ i ∧ (i : Int) < ((a.length : Nat) : Int); omega) ?_
      have ed : IntKind.u32.wrap ((IntKind.u64.wrap (BitVec.ofInt 64 (IntKind.u64.wrap (a.getD i 0)) ||| BitVec.ofInt 64 (IntKind.u64.wrap (IntKind.u64.wrap (a.getD (i + 1) 0) * 2 ^ (min ((32 : Int)).toNat IntKind.u64.bits)))).toNat).fdiv (2 ^ (min ((n : Int)).toNat IntKind.u64.bits))) = (((x + 4294967296 * y) / 2 ^ n % 4294967296 : Nat) : Int) := by
        have e2 : IntKind.u64.wrap (a.getD (i + 1) 0) = (y : Int) := by rw [hy, w64]; omega
        rw [eu, e2, show (2 : Int) ^ (min ((32 : Int)).toNat IntKind.u64.bits) = 4294967296 from rfl, show IntKind.u64.wrap ((y : Int) * 4294967296) = (y : Int) * 4294967296 by rw [w64]; omega, BitVec.or_comm, or_add (y : Int) (x : Int) (by omega) (by omega) (by omega) (by omega)]
        rw [show (y : Int) * 4294967296 + (x : Int) = ((x + 4294967296 * y : Nat) : Int) by omega, fdn, w32]
        generalize (x + 4294967296 * y) / 2 ^ n = k
        omega
      obtain ⟨f1, f2⟩ := fin _ ed
      refine ⟨(i + 1, out.set i _), ⟨hlt, by show (out.set i _).length = _; rw [List.length_set]; exact hl, hwo.set i f1.1 f1.2, f2⟩, by show a.length - (i + 1) < a.length - i; omega, ?_⟩
      refine weak_st _ _ ⟨rfl, rfl, rfl, rfl, rfl, i64_inj ei, trivial⟩ ⟨?_, trivial⟩ rfl
      show some (MO.words 32 (out.set (0 + ((i : Int)).toNat) _)) = _
      rw [Nat.zero_add]; rfl
    · have h : ¬ IntKind.i64.wrap (IntKind.i64.wrap (0 + (i : Int)) + 1) < (a.length : Int) := of_decide_eq_false h
      rw [ej2] at h
      refine side_intro (by show (0 : Int) ≤ n; omega) ?_
      refine side_intro (by show (0 : Int) ≤ i ∧ (i : Int) < ((a.length : Nat) : Int); omega) ?_
      have hy0 : y = 0 := by rw [getD_ge (by omega)] at hy; omega
      have ed : IntKind.u32.wrap ((IntKind.u64.wrap (a.getD i 0)).fdiv (2 ^ (min ((n : Int)).toNat IntKind.u64.bits))) = (((x + 4294967296 * y) / 2 ^ n % 4294967296 : Nat) : Int) := by
        rw [eu, fdn, w32, hy0, Nat.mul_zero, Nat.add_zero]
        generalize x / 2 ^ n = k
        omega
      obtain ⟨f1, f2⟩ := fin _ ed
      refine ⟨(i + 1, out.set i _), ⟨hlt, by show (out.set i _).length = _; rw [List.length_set]; exact hl, hwo.set i f1.1 f1.2, f2⟩, by show a.length - (i + 1) < a.length - i; omega, ?_⟩
      refine weak_st _ _ ⟨rfl, rfl, rfl, rfl, rfl, i64_inj ei, trivial⟩ ⟨?_, trivial⟩ rfl
      show some (MO.words 32 (out.set (0 + ((i : Int)).toNat) _)) = _
      rw [Nat.zero_add]; rfl
  · have hend : i = a.length := by have h : ¬ (i : Int) < a.length := of_decide_eq_false h; omega
    subst hend
    have e : snapM (.words 32 out) 0 a.length = .d (.words out) := by
      show V.d (.words ((out.drop 0).take a.length)) = _
      rw [List.drop_zero, List.take_of_length_le (by omega)]
    refine opp_frz 24 (.words 32 out) rfl (Nat.le_of_ble_eq_true rfl) rfl ?_
    refine call_intro (.d (.words (toW (val out)))) ?_ ?_
    · have := norm_spec hwo (by omega)
      rw [← e] at this
      exact this
    · refine ret_intro (ws_inj ?_) rfl
      rw [List.drop_length, ← hl, List.take_length] at hv
      rw [← hv]
      simp [val]
theorem Word_no (a : List Int) : Runs Try.prog g_quot_Word [.d (.words a), .d (.int .u32 0)] (.tup [.d (.words []), .d (.int .u32 0), .d (.bool false)]) := by
  refine run1 [] p_quot_Word rfl rfl (fun B S F0 w0 V0 => ?_)
  refine split_true rfl ?_
  exact ret_intro rfl rfl
theorem Word_spec {a : List Int} {x : Int} (hwa : Wd a) (ha : a.length ≤ 274877906944) (hx : W32 x) (h0 : x ≠ 0) : Runs Try.prog g_quot_Word [.d (.words a), .d (.int .u32 x)] (.tup [.d (.words (toW (val a / x.toNat))), .d (.int .u32 ((val a % x.toNat : Nat) : Int)), .d (.bool true)]) := by
  refine run1 [] p_quot_Word rfl rfl (fun B S F0 w0 V0 => ?_)
  refine split_false (beq_eq_false_iff_ne.2 h0) ?_
  refine opp_make hT rfl rfl (Nat.le_of_ble_eq_true rfl) (e := 32) rfl rfl (Nat.le_of_ble_eq_true rfl) (fun _ => rfl) (k := .i64) (k' := .i64) (n := ((a.length : Nat) : Int)) rfl rfl rfl (by omega) ?_ ?_ ?_
  · show 4 * ((a.length : Nat) : Int).toNat ≤ _
    omega
  · unfold maxLen; omega
  rw [Int.toNat_natCast]
  have e0 : IntKind.i64.wrap ((a.length : Int) - 1) = (a.length : Int) - 1 := wr (by omega) (by omega)
  obtain ⟨x, rfl⟩ := Int.eq_ofNat_of_zero_le hx.1
  have hx0 : 0 < x := by omega
  refine loop_intro (fun p : Nat × List Int × Nat => st [(0, .d (.words a)), (1, .d (.int .u32 (x : Int))), (4, .own 12 0 a.length), (5, .d (.int .u32 (p.2.2 : Int))), (7, .d (.int .i64 ((p.1 : Int) - 1)))] [(12, .words 32 p.2.1)]) (fun p => p.1)
    (fun p => p.1 ≤ a.length ∧ p.2.1.length = a.length ∧ Wd p.2.1 ∧ p.2.2 < x ∧ val (p.2.1.drop p.1) * x + p.2.2 = val (a.drop p.1)) (a.length, List.replicate a.length 0, 0)
    ⟨Nat.le_refl _, by simp, Wd.zeros _, hx0, by simp [val]⟩ (weak_st _ _ ⟨rfl, rfl, rfl, rfl, i64_inj e0, trivial⟩ ⟨rfl, trivial⟩ rfl) ?_
  rintro ⟨k, q, r⟩ ⟨hk, hl, hwq, hr, hv⟩
  dsimp only at hk hl hwq hr hv
  refine split_intro (fun h => ?_) (fun h => ?_)
  · have h : (k : Int) - 1 ≥ 0 := of_decide_eq_true h
    have e1 : (k : Int) - 1 = ((k - 1 : Nat) : Int) := by omega
    have e2 : IntKind.i64.wrap ((k : Int) - 1 - 1) = ((k - 1 : Nat) : Int) - 1 := by rw [wr (by omega) (by omega)]; omega
    have g1 := hwa.g (k - 1)
    refine idx_w (k - 1) e1 (by omega) ?_
    refine call_intro _ (limb_Div_spec (h := (r : Int)) (l := a.getD (k - 1) 0) (y := (x : Int)) ⟨by omega, by have := hx.2; omega⟩ g1 hx (by omega)) ?_
    refine side_intro (by show (0 : Int) ≤ (k : Int) - 1 ∧ (k : Int) - 1 < ((a.length : Nat) : Int); omega) ?_
    obtain ⟨y, hy⟩ := Int.eq_ofNat_of_zero_le g1.1
    have eq : ((r : Int) * 4294967296 + a.getD (k - 1) 0) / (x : Int) = (((r * 4294967296 + y) / x : Nat) : Int) := by
      rw [hy, Int.natCast_ediv]
      congr 1
    have er : ((r : Int) * 4294967296 + a.getD (k - 1) 0) % (x : Int) = (((r * 4294967296 + y) % x : Nat) : Int) := by
      rw [hy, Int.natCast_emod]
      congr 1
    have hql : (r * 4294967296 + y) / x < 4294967296 := by
      rw [Nat.div_lt_iff_lt_mul hx0]
      have : (r + 1) * 4294967296 ≤ x * 4294967296 := Nat.mul_le_mul_right _ hr
      rw [Nat.mul_comm 4294967296 x]
      omega
    refine ⟨(k - 1, q.set (k - 1) (((r * 4294967296 + y) / x : Nat) : Int), (r * 4294967296 + y) % x), ⟨by show k - 1 ≤ a.length; omega, by show (q.set _ _).length = _; rw [List.length_set]; exact hl, hwq.set _ (Int.natCast_nonneg _) (by generalize (r * 4294967296 + y) / x = z at hql ⊢; omega), Nat.mod_lt _ hx0, ?_⟩, by show k - 1 < k; omega, ?_⟩
    · show val ((q.set (k - 1) (((r * 4294967296 + y) / x : Nat) : Int)).drop (k - 1)) * x + (r * 4294967296 + y) % x = val (a.drop (k - 1))
      rw [val_drop_cons (by rw [List.length_set]; omega), getD_setself (by omega), List.drop_set_of_lt (by omega), val_drop_cons (a := a) (by omega), hy, show k - 1 + 1 = k by omega, ← hv, Int.toNat_natCast, Int.toNat_natCast, Nat.add_mul]
      have hd := Nat.div_add_mod (r * 4294967296 + y) x
      rw [Nat.mul_comm] at hd
      generalize (r * 4294967296 + y) / x * x = z at hd ⊢
      generalize (r * 4294967296 + y) % x = z2 at hd ⊢
      rw [Nat.mul_add, Nat.mul_assoc]
      generalize val (q.drop k) * x = z3
      omega
    · refine weak_st _ _ ⟨rfl, rfl, rfl, by show V.d (.int .u32 _) = _; rw [er], i64_inj e2, trivial⟩ ⟨?_, trivial⟩ rfl
      show some (MO.words 32 (q.set (0 + ((k : Int) - 1).toNat) _)) = _
      rw [eq, e1, Nat.zero_add, Int.toNat_natCast]
  · have h : ¬ (k : Int) - 1 ≥ 0 := of_decide_eq_false h
    have hk0 : k = 0 := by omega
    subst hk0
    simp only [List.drop_zero] at hv
    have e : snapM (.words 32 q) 0 a.length = .d (.words q) := by
      show V.d (.words ((q.drop 0).take a.length)) = _
      rw [List.drop_zero, List.take_of_length_le (by omega)]
    refine opp_frz 12 (.words 32 q) rfl (Nat.le_of_ble_eq_true rfl) rfl ?_
    have hq : val q = val a / x := by
      rw [← hv, Nat.mul_comm, Nat.mul_add_div hx0, Nat.div_eq_of_lt hr, Nat.add_zero]
    have hrr : r = val a % x := by
      rw [← hv, Nat.mul_comm, Nat.mul_add_mod, Nat.mod_eq_of_lt hr]
    refine call_intro (.d (.words (toW (val q)))) ?_ ?_
    · have := norm_spec hwq (by omega)
      rw [← e] at this
      exact this
    · refine ret_intro (tup3 (ws_inj ?_) (u32_inj ?_) rfl) rfl
      · rw [hq]; rfl
      · rw [hrr]; rfl
end Go.Proofs.Ythefflmebkcilaa.Fw
