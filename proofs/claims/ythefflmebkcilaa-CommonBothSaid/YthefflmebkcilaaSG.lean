/- The long quotient. -/
import Derived.Test.YthefflmebkcilaaSF
import Derived.Test.YthefflmebkcilaaPF
set_option linter.unusedVariables false
namespace Go.Proofs.Ythefflmebkcilaa.Fw
open Go Pu
theorem pred_emod {x : Nat} (h0 : 1 ≤ x) (h1 : x < 4294967296) : ((x : Int) - 1) % 4294967296 = ((x - 1 : Nat) : Int) := by omega
theorem idx_own {l : List Int} {x : Int} {k : Int → Prop} (i : Nat) (hx : x = (i : Int)) (h : i < l.length) (hk : k (l.getD i 0)) : IdxP l ((0 + x.toNat : Nat) : Int) k :=
  idx_intro (l.getD i 0) (Int.natCast_nonneg _) (by rw [hx, Int.toNat_natCast, Int.toNat_natCast, Nat.zero_add]; exact el l h) hk
set_option maxHeartbeats 2000000 in
theorem long_spec {a b : List Int} {n : Nat} (hwa : Wd a) (hwb : Wd b) (hbl : b.length = n + 2) (hle : n + 2 ≤ a.length) (ha : a.length ≤ 8796093022208) (hb1 : 0 < (b.getD (n + 1) 0).toNat) (htop : val (a.drop (a.length - (n + 2))) < val b) :
    RunsG Try.prog g_quot_long [.own 1000 0 a.length, .d (.words b)] [(1000, .words tU32 a)] (.own 15 0 (a.length - (n + 2))) [(1000, .words tU32 (dig a.length (val a % val b))), (15, .words tU32 (dig (a.length - (n + 2)) (val a / val b)))] := by
  refine runG [] p_quot_long rfl rfl rfl rfl (fun B S F0 w0 V0 => ?_)
  have hvb : 0 < val b := by omega
  obtain ⟨la, hla⟩ : ∃ la, la = a.length := ⟨_, rfl⟩
  obtain ⟨va, hva⟩ : ∃ va, va = val a := ⟨_, rfl⟩
  have e1 : IntKind.i64.wrap ((a.length : Int) - (b.length : Int)) = ((a.length - (n + 2) : Nat) : Int) := by rw [hbl, wr (by omega) (by omega)]; omega
  refine opp_make hT rfl rfl (Nat.le_of_ble_eq_true rfl) (e := 32) rfl rfl (Nat.le_of_ble_eq_true rfl) (fun _ => rfl) (k := .i64) (k' := .i64) (n := ((a.length - (n + 2) : Nat) : Int)) (i64_inj e1) (i64_inj e1) rfl (by omega) ?_ ?_ ?_
  · show 4 * ((a.length - (n + 2) : Nat) : Int).toNat ≤ _
    omega
  · unfold maxLen; omega
  rw [Int.toNat_natCast]
  have e2 : IntKind.i64.wrap (((a.length - (n + 2) : Nat) : Int) - 1) = ((a.length - (n + 2) : Nat) : Int) - 1 := wr (by omega) (by omega)
  refine loop_intro (fun p : Nat × List Int × List Int => st [(0, .own 1000 0 a.length), (1, .d (.words b)), (5, .d (.int .i64 (b.length : Int))), (6, .own 15 0 (a.length - (n + 2))), (7, .d (.int .i64 ((p.1 : Int) - 1)))] [(1000, .words 32 p.2.1), (15, .words 32 p.2.2)]) (fun p => p.1)
    (fun p => p.1 ≤ a.length - (n + 2) ∧ p.2.1.length = a.length ∧ Wd p.2.1 ∧ p.2.2.length = a.length - (n + 2) ∧ Wd p.2.2 ∧ val (p.2.1.drop p.1) < val b ∧ val (p.2.2.drop p.1) * val b + val (p.2.1.drop p.1) = val (a.drop p.1) ∧ p.2.1.take p.1 = a.take p.1) (a.length - (n + 2), a, List.replicate (a.length - (n + 2)) 0)
    ⟨Nat.le_refl _, rfl, hwa, by simp, Wd.zeros _, htop, by simp [val], rfl⟩ (weak_st _ _ ⟨rfl, rfl, rfl, rfl, i64_inj e2, trivial⟩ ⟨rfl, rfl, trivial⟩ rfl) ?_
  rintro ⟨k, c, q⟩ ⟨hk, hcl, hwc, hql, hwq, hlt, hv, hsame⟩
  dsimp only at hk hcl hwc hql hwq hlt hv hsame
  refine split_intro (fun h => ?_) (fun h => ?_)
  · have h : (k : Int) - 1 ≥ 0 := of_decide_eq_true h
    obtain ⟨i, rfl⟩ : ∃ i, k = i + 1 := ⟨k - 1, by omega⟩
    have hll : i + (n + 3 + (a.length - (i + (n + 3)))) = a.length := by omega
    have hilt : i < a.length - (n + 2) := by omega
    have hile : i ≤ c.length := by omega
    have ek : ((i + 1 : Nat) : Int) - 1 = (i : Int) := by omega
    have f0 : IntKind.i64.wrap (((i + 1 : Nat) : Int) - 1 + (b.length : Int)) = ((i + (n + 2) : Nat) : Int) := by rw [ek, hbl, wr (by omega) (by omega)]; omega
    have f1 : IntKind.i64.wrap (IntKind.i64.wrap (((i + 1 : Nat) : Int) - 1 + (b.length : Int)) - 1) = ((i + (n + 1) : Nat) : Int) := by rw [f0, wr (by omega) (by omega)]; omega
    have f2 : IntKind.i64.wrap (IntKind.i64.wrap (((i + 1 : Nat) : Int) - 1 + (b.length : Int)) - 2) = ((i + n : Nat) : Int) := by rw [f0, wr (by omega) (by omega)]; omega
    have f3 : IntKind.i64.wrap ((b.length : Int) - 1) = ((n + 1 : Nat) : Int) := by rw [hbl, wr (by omega) (by omega)]; omega
    have f4 : IntKind.i64.wrap ((b.length : Int) - 2) = ((n : Nat) : Int) := by rw [hbl, wr (by omega) (by omega)]; omega
    have f5 : IntKind.i64.wrap (((i + 1 : Nat) : Int) - 1 - 1) = (i : Int) - 1 := by rw [ek, wr (by omega) (by omega)]
    refine side_intro rfl ?_
    refine side_intro (by show (0 : Int) ≤ IntKind.i64.wrap (((i + 1 : Nat) : Int) - 1 + (b.length : Int)) ∧ IntKind.i64.wrap (((i + 1 : Nat) : Int) - 1 + (b.length : Int)) < ((a.length : Nat) : Int); omega) ?_
    refine idx_own (i + (n + 2)) f0 (by show _ < c.length; omega) ?_
    refine side_intro (by show (0 : Int) ≤ IntKind.i64.wrap (IntKind.i64.wrap (((i + 1 : Nat) : Int) - 1 + (b.length : Int)) - 1) ∧ IntKind.i64.wrap (IntKind.i64.wrap (((i + 1 : Nat) : Int) - 1 + (b.length : Int)) - 1) < ((a.length : Nat) : Int); omega) ?_
    refine idx_own (i + (n + 1)) f1 (by show _ < c.length; omega) ?_
    refine side_intro (by show (0 : Int) ≤ IntKind.i64.wrap (IntKind.i64.wrap (((i + 1 : Nat) : Int) - 1 + (b.length : Int)) - 2) ∧ IntKind.i64.wrap (IntKind.i64.wrap (((i + 1 : Nat) : Int) - 1 + (b.length : Int)) - 2) < ((a.length : Nat) : Int); omega) ?_
    refine idx_own (i + n) f2 (by show _ < c.length; omega) ?_
    refine idx_w (n + 1) f3 (by omega) ?_
    refine idx_w n f4 (by omega) ?_
    obtain ⟨a2, ha2, ha2'⟩ := mget c hwc (i + (n + 2))
    obtain ⟨a1, ha1, ha1'⟩ := mget c hwc (i + (n + 1))
    obtain ⟨a0, ha0, ha0'⟩ := mget c hwc (i + n)
    obtain ⟨b1, hb1e, hb1'⟩ := mget b hwb (n + 1)
    obtain ⟨b0, hb0e, hb0'⟩ := mget b hwb n
    rw [hb1e, Int.toNat_natCast] at hb1
    -- the numbers
    have hLl : (c.take i).length = i := by rw [List.length_take]; omega
    have hMl : ((c.drop i).take (n + 3)).length = n + 3 := by rw [List.length_take, List.length_drop]; omega
    have hR0 : val (c.drop (i + (n + 3))) = 0 := by
      have hb2 := val_lt hwb
      rw [hbl] at hb2
      have := val_drop_zero (a := c.drop (i + 1)) (i := n + 2) (by rw [List.length_drop]; omega) (by omega)
      rw [List.drop_drop] at this
      rw [show i + (n + 3) = i + 1 + (n + 2) by omega]
      exact this
    have hMv : val ((c.drop i).take (n + 3)) = val (c.drop i) := by
      have h2 := val_take_drop (c.drop i) (n + 3) (by rw [List.length_drop]; omega)
      rw [List.drop_drop, hR0] at h2
      omega
    have hRd : val (c.drop i) = (c.getD i 0).toNat + 4294967296 * val (c.drop (i + 1)) := val_drop_cons' c i
    have hRlt : val (c.drop i) < 4294967296 * val b := by
      have g := hwc.g i
      have := Nat.mul_le_mul_left 4294967296 hlt
      rw [Nat.mul_succ] at this
      omega
    have ht3 := top3 hMl
    rw [getD_mid (by omega), getD_mid (by omega), getD_mid (by omega), ha2, ha1, ha0, hMv] at ht3
    have ht2 := top2 hbl
    rw [hb1e, hb0e] at ht2
    simp only [Int.toNat_natCast] at ht3 ht2
    have hrl := val_take_lt ((hwc.drop i).take (n + 3)) n
    have hbl2 := val_take_lt hwb n
    have hg := guess_ok (by omega) ht3 hrl ht2 hbl2 hb1 hRlt
    obtain ⟨x, hx⟩ : ∃ x, x = gW 4294967296 a2 a1 a0 b1 b0 := ⟨_, rfl⟩
    have hxl : x < 4294967296 := by rw [hx]; exact gW_lt (by omega)
    rw [← hx] at hg
    clear ht3 ht2 hrl hbl2
    refine call_intro (.d (.int .u32 (x : Int))) ?_ ?_
    · have hgs := guess_spec ha2' ha1' ha0' hb1' hb0' hb1
      rw [← hx, ← ha2, ← ha1, ← ha0, ← hb1e, ← hb0e] at hgs
      exact hgs
    clear hx
    have hsp := three c i (n + 3)
    have hwM := (hwc.drop i).take (n + 3)
    obtain ⟨L, hL⟩ : ∃ L, L = c.take i := ⟨_, rfl⟩
    obtain ⟨M, hM⟩ : ∃ M, M = (c.drop i).take (n + 3) := ⟨_, rfl⟩
    obtain ⟨R, hR⟩ : ∃ R, R = c.drop (i + (n + 3)) := ⟨_, rfl⟩
    have hwL : Wd L := by rw [hL]; exact hwc.take i
    have hwR : Wd R := by rw [hR]; exact hwc.drop _
    have hRl : R.length = a.length - (i + (n + 3)) := by rw [hR, List.length_drop, hcl]
    rw [← hL, ← hM, ← hR] at hsp
    rw [← hL] at hLl
    rw [← hM] at hMl hMv hwM
    rw [← hR] at hR0
    have hN1 : val b < 4294967296 ^ (n + 3) := by
      have := val_lt hwb
      rw [hbl] at this
      exact Nat.lt_of_lt_of_le this (Nat.pow_le_pow_right (by omega) (by omega))
    have hQ : x * val b < 4294967296 ^ (n + 3) := by
      have := val_lt hwb
      rw [hbl] at this
      exact mul_step (D := 0) hxl this (Nat.pow_pos (by omega))
    obtain ⟨lo1, lo2⟩ := left_over hvb hg.1 hg.2 hN1 hQ
    have htk := take_spec (L := L) (M := M) (R := R) (b := b) (x := x) hwb hwM hxl (by omega) (by rw [← hsp]; omega)
    have len3 : ∀ v, (L ++ (dig (n + 3) v ++ R)).length = a.length := fun v => by rw [List.length_append, List.length_append, dig_len, hLl, hRl]; exact hll
    rw [← hsp, hcl, hLl, hMv, hbl, ← ek] at htk
    refine call_row 1000 htk rfl rfl rfl rfl rfl rfl (same_words (by rw [hcl]; exact (len3 _).symm)) ?_
    have fin : ∀ (y : Nat), y = val (c.drop i) / val b → _ := fun y hy => long_round (n := n) hilt hLl hL len3 hwL hwR hR0 hql hwq hvb hN1 hRlt hsame hRd hv hy
    refine split_intro (fun hs => ?_) (fun hs => ?_)
    · have hs : val (c.drop i) < x * val b := of_decide_eq_true hs
      obtain ⟨hx1, hx2, hx3⟩ := lo2 hs
      have hx0 : 1 ≤ x := by rw [hx1]; exact Nat.succ_pos _
      have hxe : ((x : Int) - 1) % 4294967296 = ((x - 1 : Nat) : Int) := pred_emod hx0 hxl
      have hgv := give_spec (L := L) (M := dig (n + 3) (takeN (4294967296 ^ (n + 3)) (val (c.drop i)) (x * val b))) (R := R) (b := b) hwb (Wd.dig _ _) (by rw [dig_len, hbl]) (by rw [len3]; exact ha)
      rw [len3, hLl, hbl, val_dig_lt hx2, ← ek] at hgv
      refine call_row 1000 hgv rfl rfl rfl rfl rfl rfl (same_words (by rw [len3, len3])) ?_
      refine side_intro (by show (0 : Int) ≤ ((i + 1 : Nat) : Int) - 1 ∧ ((i + 1 : Nat) : Int) - 1 < ((a.length - (n + 2) : Nat) : Int); omega) ?_
      have hdd : dig (n + 3) (takeN (4294967296 ^ (n + 3)) (val (c.drop i)) (x * val b) + val b) = dig (n + 3) (val (c.drop i) % val b) := by
        apply val_inj (Wd.dig _ _) (Wd.dig _ _) (by rw [dig_len, dig_len])
        rw [val_dig, hx3, val_dig_lt (Nat.lt_trans (Nat.mod_lt _ hvb) hN1)]
      have hf := fin (x - 1) (by rw [hx1, Nat.add_sub_cancel])
      rw [← hdd] at hf
      refine ⟨(i, L ++ (dig (n + 3) (takeN (4294967296 ^ (n + 3)) (val (c.drop i)) (x * val b) + val b) ++ R), q.set i ((x - 1 : Nat) : Int)), hf, Nat.lt_succ_self i, ?_⟩
      refine weak_st _ _ ⟨rfl, rfl, rfl, rfl, i64_inj f5, trivial⟩ ⟨rfl, ?_, trivial⟩ rfl
      show some (MO.words 32 (q.set (0 + (((i + 1 : Nat) : Int) - 1).toNat) (IntKind.u32.wrap ((x : Int) - 1)))) = _
      rw [ek, Nat.zero_add, Int.toNat_natCast, w32, hxe]
    · have hs : ¬ val (c.drop i) < x * val b := of_decide_eq_false hs
      obtain ⟨hx1, hx2⟩ := lo1 hs
      refine side_intro (by show (0 : Int) ≤ ((i + 1 : Nat) : Int) - 1 ∧ ((i + 1 : Nat) : Int) - 1 < ((a.length - (n + 2) : Nat) : Int); omega) ?_
      have hf := fin x hx1
      rw [← hx2] at hf
      refine ⟨(i, L ++ (dig (n + 3) (takeN (4294967296 ^ (n + 3)) (val (c.drop i)) (x * val b)) ++ R), q.set i (x : Int)), hf, Nat.lt_succ_self i, ?_⟩
      refine weak_st _ _ ⟨rfl, rfl, rfl, rfl, i64_inj f5, trivial⟩ ⟨rfl, ?_, trivial⟩ rfl
      show some (MO.words 32 (q.set (0 + (((i + 1 : Nat) : Int) - 1).toNat) (x : Int))) = _
      rw [ek, Nat.zero_add, Int.toNat_natCast]
  · have h : ¬ (k : Int) - 1 ≥ 0 := of_decide_eq_false h
    have hk0 : k = 0 := by omega
    subst hk0
    simp only [List.drop_zero] at hlt hv
    refine retG_intro rfl rfl ⟨?_, ?_, trivial⟩ rfl
    · show some (MO.words 32 c) = _
      rw [dig_eq (n := a.length) (v := val a % val b) hwc hcl (by rw [← hv, Nat.mul_comm, Nat.mul_add_mod, Nat.mod_eq_of_lt hlt])]
    · show some (MO.words 32 q) = _
      rw [dig_eq (n := a.length - (n + 2)) (v := val a / val b) hwq hql (by rw [← hv, Nat.mul_comm, Nat.mul_add_div hvb, Nat.div_eq_of_lt hlt, Nat.add_zero])]
end Go.Proofs.Ythefflmebkcilaa.Fw
