/- Texts of the proof, one after the other: TR LN LP. -/
import Derived.Test.YtclkhdcbpocldaaGreatM5
set_option linter.unusedSimpArgs false
set_option linter.unusedVariables false
/- The document's rows: too long, handed over. -/
set_option linter.unusedVariables false
namespace Go.Proofs.YtclkhdcbpocldaaGreat.Fw
open Go Pu
/-- Is a row too long, or one of its fractions? -/
theorem Long11_spec {l : List FD} {m : Nat} {k : Int} (hl : l.length ≤ maxLen) (hm : m ≤ 1000000) : ∃ b : Bool, Runs Tryz.prog g_retrospectref11_Long [.d (rowsF l), .d (.int .i64 (m : Int)), .d (.int .i64 k)] (.d (.bool b)) ∧ (b = false → l.length ≤ m ∧ ∀ x ∈ l, (x.n.length : Int) ≤ k ∧ (x.d.length : Int) ≤ k) := by
  have hml : l.length < 9223372036854775808 := by unfold maxLen at hl; omega
  by_cases hex : ∃ i, i < l.length ∧ i < m ∧ (decide (((l.getD i FD.none).n.length : Int) > k) || decide (((l.getD i FD.none).d.length : Int) > k)) = true
  · refine ⟨true, ?_, fun h => by cases h⟩
    obtain ⟨i0, h1, h2, h3⟩ := hex
    refine run1 [] p_retrospectref11_Long rfl rfl (fun B S F0 w0 V0 => ?_)
    refine loop_intro (fun i : Nat => st [(0, .d (rowsF l)), (1, .d (.int .i64 (m : Int))), (2, .d (.int .i64 k)), (7, .d (.int .i64 (i : Int)))] []) (fun i => i0 + 1 - i) (fun i => i ≤ i0) 0 (Nat.zero_le _) (weak_st _ _ ⟨rfl, rfl, rfl, rfl, trivial⟩ trivial rfl) ?_
    intro i hi
    have ei : IntKind.i64.wrap ((i : Int) + 1) = ((i + 1 : Nat) : Int) := by rw [wr (by omega) (by omega)]; omega
    refine split_true (decide_eq_true (by show (i : Int) < ((l.map FD.c).length : Int); rw [List.length_map]; omega)) ?_
    refine split_true (decide_eq_true (by show (i : Int) < (m : Int); omega)) ?_
    refine idx_F i rfl (by omega) ?_
    refine call_intro _ (LongD (x := l.getD i FD.none)) ?_
    refine split_intro (fun h => ?_) (fun h => ?_)
    · exact ret_intro rfl rfl
    · have hne : i ≠ i0 := by
        intro e
        rw [← e] at h3
        rw [h3] at h; cases h
      exact ⟨i + 1, by omega, by omega, weak_st _ _ ⟨rfl, rfl, rfl, i64_inj ei, trivial⟩ trivial rfl⟩
  · have hall : ∀ i, i < l.length → i < m → (decide (((l.getD i FD.none).n.length : Int) > k) || decide (((l.getD i FD.none).d.length : Int) > k)) = false := by
      intro i h1 h2
      cases hb : (decide (((l.getD i FD.none).n.length : Int) > k) || decide (((l.getD i FD.none).d.length : Int) > k)) with
      | false => rfl
      | true => exact absurd ⟨i, h1, h2, hb⟩ hex
    refine ⟨decide ((l.length : Int) > m), ?_, fun h => ?_⟩
    · refine run1 [] p_retrospectref11_Long rfl rfl (fun B S F0 w0 V0 => ?_)
      refine loop_intro (fun i : Nat => st [(0, .d (rowsF l)), (1, .d (.int .i64 (m : Int))), (2, .d (.int .i64 k)), (7, .d (.int .i64 (i : Int)))] []) (fun i => m + 1 - i) (fun i => i ≤ l.length ∧ i ≤ m) 0 ⟨Nat.zero_le _, Nat.zero_le _⟩ (weak_st _ _ ⟨rfl, rfl, rfl, rfl, trivial⟩ trivial rfl) ?_
      rintro i ⟨hi, him⟩
      have ei : IntKind.i64.wrap ((i : Int) + 1) = ((i + 1 : Nat) : Int) := by rw [wr (by omega) (by omega)]; omega
      have hret : V.d (.bool (decide (((l.map FD.c).length : Int) > (m : Int)))) = V.d (.bool (decide ((l.length : Int) > (m : Int)))) := by rw [List.length_map]
      refine split_intro (fun h1 => ?_) (fun h1 => ?_)
      · have h1 : i < l.length := by
          have h1 : (i : Int) < ((l.map FD.c).length : Int) := of_decide_eq_true h1
          rw [List.length_map] at h1; omega
        refine split_intro (fun h2 => ?_) (fun h2 => ?_)
        · have h2 : i < m := by have h2 : (i : Int) < (m : Int) := of_decide_eq_true h2; omega
          refine idx_F i rfl h1 ?_
          refine call_intro _ (LongD (x := l.getD i FD.none)) ?_
          refine split_false (hall i h1 h2) ?_
          exact ⟨i + 1, ⟨by omega, by omega⟩, by omega, weak_st _ _ ⟨rfl, rfl, rfl, i64_inj ei, trivial⟩ trivial rfl⟩
        · exact ret_intro hret rfl
      · refine split_false rfl ?_
        exact ret_intro hret rfl
    · have h : ¬ (l.length : Int) > m := of_decide_eq_false h
      refine ⟨by omega, fun x hx => ?_⟩
      obtain ⟨i, hi⟩ := List.getElem?_of_mem hx
      have hlt := (List.getElem?_eq_some_iff.1 hi).1
      have h3 := longOr (x := l.getD i FD.none) (hall i hlt (by omega))
      rw [List.getD_eq_getElem?_getD, hi] at h3
      exact h3
theorem To11_spec {l : List FD} (hl : l.length ≤ 1000000) : Runs Tryz.prog g_retrospectlaw11_To [.d (rowsF l)] (.d (rowsF l)) := by
  refine run1 [] p_retrospectlaw11_To rfl rfl (fun B S F0 w0 V0 => ?_)
  refine loop_intro (fun i : Nat => st [(0, .d (rowsF l)), (3, .own 18 0 i), (4, .d (.int .i64 (i : Int)))] [(18, .rows tFrac 3 ((l.take i).map FD.c))]) (fun i => l.length - i) (fun i => i ≤ l.length) 0 (Nat.zero_le _)
    (weak_trans (weak_st _ _ ⟨rfl, rfl, rfl, trivial⟩ ⟨rfl, trivial⟩ rfl) (weak_nil_own 3 18 (.rows tFrac 3 []) (e := tFrac) (sz := 3) rfl rfl rfl rfl (by omega))) ?_
  intro i hi
  refine split_intro (fun h => ?_) (fun h => ?_)
  · have hlt : i < l.length := by
      have h : (i : Int) < ((l.map FD.c).length : Int) := of_decide_eq_true h
      rw [List.length_map] at h; omega
    have ei : IntKind.i64.wrap ((i : Int) + 1) = ((i + 1 : Nat) : Int) := by rw [wr (by omega) (by omega)]; omega
    have htl : (l.take i).length = i := by rw [List.length_take]; omega
    have htl1 : (l.take (i + 1)).length = i + 1 := by rw [List.length_take]; omega
    refine idx_F i rfl hlt ?_
    refine call_intro _ (ToD (x := l.getD i FD.none)) ?_
    refine opp_append_own hT (e := tFrac) (i := 18) (j := 18) (obj := .rows tFrac 3 ((l.take i).map FD.c)) (obj2 := .rows tFrac 3 ((l.take (i + 1)).map FD.c)) (n := i) (m := 1) (fl := ((l.take i).map FD.c).flatten) (fl2 := (l.getD i FD.none).c) rfl rfl rfl rfl rfl rfl ?_ rfl rfl rfl (Nat.le_of_ble_eq_true rfl) (Nat.le_of_ble_eq_true rfl) (.inl rfl) ?_ ?_ ?_
    · rw [rowsF_row, htl]; rfl
    · rw [rowsF_row, htl1, take_succF hlt, List.flatten_append]
      show some (tFrac, 3, i + 1, ((l.take i).map FD.c).flatten ++ ((l.getD i FD.none).c ++ [])) = _
      rw [List.append_nil]; rfl
    · show (i + 1) * (56 + 1) ≤ _
      omega
    exact ⟨i + 1, hlt, by omega, weak_st _ _ ⟨rfl, rfl, i64_inj ei, trivial⟩ ⟨rfl, trivial⟩ rfl⟩
  · have hend : i = l.length := by
      have h : ¬ (i : Int) < ((l.map FD.c).length : Int) := of_decide_eq_false h
      rw [List.length_map] at h; omega
    subst hend
    refine ret_intro ?_ rfl
    show snapM (.rows tFrac 3 ((l.take l.length).map FD.c)) 0 l.length = _
    rw [List.take_length, snap_F _ _ rfl]
end Go.Proofs.YtclkhdcbpocldaaGreat.Fw

/- The law PolySums, walked. -/
set_option linter.unusedVariables false
namespace Go.Proofs.YtclkhdcbpocldaaGreat.Fw
open Go Pu
theorem trim_padd (a b : List Rat) : trim (padd (trim a) (trim b)) = trim (padd a b) := trim_inj (fun i => by rw [co_padd, co_padd, co_trim, co_trim])
theorem trim_psub (a b : List Rat) : trim (psub (trim a) (trim b)) = trim (psub a b) := trim_inj (fun i => by rw [co_psub, co_psub, co_trim, co_trim])
theorem trim_pmul (a b : List Rat) : trim (pmul (trim a) (trim b)) = trim (pmul a b) := trim_inj (fun i => by rw [co_pmul, co_pmul]; exact conv_congr (co_trim a) (co_trim b) i)
theorem trim_pscale (c : Rat) (a : List Rat) : trim (pscale c (trim a)) = trim (pscale c a) := trim_inj (fun i => by rw [co_pscale, co_pscale, co_trim])
theorem Sz_all {l : List Rat} : ∃ k, 1 ≤ k ∧ ∀ q ∈ l, Sz k q := by
  induction l with
  | nil => exact ⟨1, Nat.le_refl _, by simp⟩
  | cons a l ih =>
    obtain ⟨k, h1, h⟩ := ih
    refine ⟨k + (toW a.num.natAbs).length + (toW a.den).length, by omega, fun q hq => ?_⟩
    rcases List.mem_cons.1 hq with rfl | hq
    · exact ⟨by omega, by omega⟩
    · exact (h q hq).mono (by omega)
set_option maxHeartbeats 4000000 in
theorem PolySums_runs {a b : List FD} {c : FD} (ha : ∀ y ∈ a, Wd y.n ∧ Wd y.d) (hb : ∀ y ∈ b, Wd y.n ∧ Wd y.d) (hc : Wd c.n ∧ Wd c.d) (hma : a.length ≤ maxLen) (hmb : b.length ≤ maxLen) :
    Runs Tryz.prog g_retrospectlaw14_PolySums [.d (rowsF a), .d (rowsF b), c.v] (.d (.bool true)) := by
  obtain ⟨ba, hla, hna⟩ := Long11_spec (l := a) (m := 10) (k := 4) hma (by omega)
  obtain ⟨bb, hlb, hnb⟩ := Long11_spec (l := b) (m := 10) (k := 4) hmb (by omega)
  refine run1 [] p_retrospectlaw14_PolySums rfl rfl (fun B S F0 w0 V0 => ?_)
  refine call_intro _ hla ?_
  refine split_intro (fun g => ?_) (fun g => ?_)
  · refine split_true rfl ?_
    refine split_true rfl ?_
    refine call_intro _ works14 ?_
    exact ret_intro rfl rfl
  obtain ⟨la, wa⟩ := hna g
  refine call_intro _ hlb ?_
  refine split_intro (fun g => ?_) (fun g => ?_)
  · refine split_true rfl ?_
    refine call_intro _ works14 ?_
    exact ret_intro rfl rfl
  obtain ⟨lb', wb⟩ := hnb g
  refine call_intro _ (LongD (x := c)) ?_
  refine split_intro (fun g => ?_) (fun g => ?_)
  · refine call_intro _ works14 ?_
    exact ret_intro rfl rfl
  obtain ⟨c1, c2⟩ := longOr g
  have oa : ∀ x ∈ a, x.ok 4 := fun x hx => ⟨(ha x hx).1, (ha x hx).2, by have := (wa x hx).1; omega, by have := (wa x hx).2; omega⟩
  have ob : ∀ x ∈ b, x.ok 4 := fun x hx => ⟨(hb x hx).1, (hb x hx).2, by have := (wb x hx).1; omega, by have := (wb x hx).2; omega⟩
  have oc : c.ok 4 := ⟨hc.1, hc.2, by omega, by omega⟩
  have sa := Sz_trim (Sz_Qs oa (by omega))
  have sb := Sz_trim (Sz_Qs ob (by omega))
  have sc := oc.sz (by omega)
  have ta := trim_len (Qs a)
  have tb := trim_len (Qs b)
  rw [Qs_len] at ta tb
  have z1 : ∀ q ∈ trim (padd (Qs a) (Qs b)), Sz 9 q := Sz_trim (fun q hq => by
    obtain ⟨i, _, rfl⟩ := List.mem_map.1 hq
    exact Sz_add (Sz_co (by omega) (Sz_Qs oa (by omega)) i) (Sz_co (by omega) (Sz_Qs ob (by omega)) i))
  have z2 : ∀ q ∈ trim (psub (Qs a) (Qs b)), Sz 9 q := Sz_trim (fun q hq => by
    obtain ⟨i, _, rfl⟩ := List.mem_map.1 hq
    exact Sz_sub (Sz_co (by omega) (Sz_Qs oa (by omega)) i) (Sz_co (by omega) (Sz_Qs ob (by omega)) i))
  have z3 : ∀ q ∈ trim (pmul (Qs a) (Qs b)), Sz 1000 q := Sz_trim (fun q hq => by
    obtain ⟨i, hi, rfl⟩ := List.mem_map.1 hq
    have hi := List.mem_range.1 hi
    rw [Qs_len, Qs_len] at hi
    exact (Sz_sumTo (m := 8) (i + 1) (fun t _ => Sz_mul (Sz_co (by omega) (Sz_Qs oa (by omega)) t) (Sz_co (by omega) (Sz_Qs ob (by omega)) (i - t)))).mono (by show (i + 1) * 9 + 1 ≤ 1000; omega))
  have z4 : ∀ q ∈ trim (pscale c.q (Qs a)), Sz 8 q := Sz_trim (Sz_pscale sc (Sz_Qs oa (by omega)))
  have z5 := (pev_sz sc (by omega) (Qs a) (Sz_Qs oa (by omega))).mono (show (Qs a).length * (2 * 4 + 1) + 1 ≤ 1000 by rw [Qs_len]; omega)
  have p1 := rNorms_spec oa (by omega) (by omega)
  have p2 := pRNorm_spec (l := Qs a) (by rw [Qs_len]; omega)
  have p3 := rNorms_spec ob (by omega) (by omega)
  have p4 := pRNorm_spec (l := Qs b) (by rw [Qs_len]; omega)
  have d1 := Degree_spec oa (by omega) (by omega) (by omega)
  have e1 := pREval_spec sa sc (by omega) (by omega) (by omega)
  rw [pev_trim] at e1
  have r1 := pRAdd_spec sa sb (by omega) (by omega) (by omega) (by omega)
  rw [trim_padd] at r1
  have r2 := pRSub_spec sa sb (by omega) (by omega) (by omega) (by omega)
  rw [trim_psub] at r2
  have r3 := pRMul_spec sa sb (by omega) (by omega) (by omega) (by omega)
  rw [trim_pmul] at r3
  have r4 := pRScale_spec sc sa (by omega) (by omega)
  rw [trim_pscale] at r4
  have hml : (((Fs (trim (Qs a))).map FD.c).length : Int) = ((trim (Qs a)).length : Int) := by rw [List.length_map, Fs_len]
  refine call_intro _ p1 ?_
  refine call_intro _ p2 ?_
  refine call_intro _ p3 ?_
  refine call_intro _ p4 ?_
  refine call_intro _ (rNormD oc (by omega)) ?_
  refine call_intro _ (To11_spec (by omega)) ?_
  refine call_intro _ (To11_spec (by omega)) ?_
  refine call_intro _ (ToD (x := c)) ?_
  refine side_intro rfl ?_
  refine call_intro _ (pNorm_spec oa (by omega) (by omega) (by omega)) ?_
  refine call_intro _ (Is11_true sa (by omega) (by omega) rfl) ?_
  refine split_false rfl ?_
  refine call_intro _ d1 ?_
  refine split_false (by show ((((trim (Qs a)).length : Int) - 1) != IntKind.i64.wrap ((((Fs (trim (Qs a))).map FD.c).length : Int) - 1)) = false; rw [hml, wr (by omega) (by omega)]; exact bne_self_eq_false _) ?_
  refine call_intro _ (pSame_spec oa ob (by omega) (by omega) (by omega) (by omega)) ?_
  refine call_intro _ (rSame11_spec sa (by omega) (by omega) (by omega)) ?_
  refine split_false (bne_self_eq_false _) ?_
  refine call_intro _ (pEval_spec oa oc (by omega) (by omega) (by omega)) ?_
  refine call_intro _ e1 ?_
  refine call_intro _ (Is_true z5 (by omega) rfl) ?_
  refine split_false rfl ?_
  refine side_intro rfl ?_
  refine call_intro _ (pAdd_spec oa ob (by omega) (by omega) (by omega) (by omega)) ?_
  refine call_intro _ r1 ?_
  refine call_intro _ (Is11_true z1 (by omega) (Nat.le_trans (trim_len _) (by rw [padd_len, Qs_len, Qs_len]; omega)) rfl) ?_
  refine split_true rfl ?_
  refine call_intro _ (pSub_spec oa ob (by omega) (by omega) (by omega) (by omega)) ?_
  refine call_intro _ r2 ?_
  refine call_intro _ (Is11_true z2 (by omega) (Nat.le_trans (trim_len _) (by unfold psub; rw [List.length_map, List.length_range, Qs_len, Qs_len]; omega)) rfl) ?_
  refine split_true rfl ?_
  refine call_intro _ (pMul_spec oa ob (by omega) (by omega) (by omega) (by omega)) ?_
  refine call_intro _ r3 ?_
  refine call_intro _ (Is11_true z3 (by omega) (Nat.le_trans (trim_len _) (by rw [pmul_len, Qs_len, Qs_len]; omega)) rfl) ?_
  refine split_true rfl ?_
  refine call_intro _ (pScale_spec oc oa (by omega) (by omega) (by omega)) ?_
  refine call_intro _ r4 ?_
  refine call_intro _ (Is11_true z4 (by omega) (Nat.le_trans (trim_len _) (by unfold pscale; rw [List.length_map, Qs_len]; omega)) rfl) ?_
  refine split_true rfl ?_
  refine call_intro _ works14 ?_
  exact ret_intro rfl rfl
theorem PolySums_typed {x y : D} {z : List D} (h0 : OkD shR x) (h1 : OkD shR y) (h2 : AllR OkD shF z) : Runs Tryz.prog g_retrospectlaw14_PolySums [.d x, .d y, .agg shF.length z] (.d (.bool true)) := by
  obtain ⟨a, rfl, ha, hma⟩ := inv_fracs h0
  obtain ⟨b, rfl, hb, hmb⟩ := inv_fracs h1
  obtain ⟨c, rfl, hc, hc', _⟩ := inv_frac h2
  exact PolySums_runs (fun y hy => ⟨(ha y hy).1, (ha y hy).2.1⟩) (fun y hy => ⟨(hb y hy).1, (hb y hy).2.1⟩) ⟨hc, hc'⟩ hma hmb
end Go.Proofs.YtclkhdcbpocldaaGreat.Fw

/- The law PolyDivides, walked. -/
set_option linter.unusedVariables false
namespace Go.Proofs.YtclkhdcbpocldaaGreat.Fw
open Go Pu
theorem trim_pdif (a : List Rat) : trim (pdif (trim a)) = trim (pdif a) := trim_inj (fun i => by rw [co_pdif, co_pdif]; unfold dif; rw [co_trim])
theorem gc_trims (a b : List Rat) : gc (trim a) (trim b) = gc a b := gc_congr (trim_trim a) (trim_trim b)
theorem Cz_Qs {l : List FD} {k : Nat} (h : ∀ x ∈ l, x.ok k) (h1 : 1 ≤ k) : Cz (32 * k * l.length) (Qs l) := by
  have := Cz_of (Sz_Qs h h1)
  rwa [Qs_len] at this
set_option maxHeartbeats 4000000 in
theorem PolyDivides_runs {a b : List FD} (ha : ∀ y ∈ a, Wd y.n ∧ Wd y.d) (hb : ∀ y ∈ b, Wd y.n ∧ Wd y.d) (hma : a.length ≤ maxLen) (hmb : b.length ≤ maxLen) :
    Runs Tryz.prog g_retrospectlaw14_PolyDivides [.d (rowsF a), .d (rowsF b)] (.d (.bool true)) := by
  obtain ⟨ba, hla, hna⟩ := Long11_spec (l := a) (m := 7) (k := 2) hma (by omega)
  obtain ⟨bb, hlb, hnb⟩ := Long11_spec (l := b) (m := 7) (k := 2) hmb (by omega)
  refine run1 [] p_retrospectlaw14_PolyDivides rfl rfl (fun B S F0 w0 V0 => ?_)
  refine call_intro _ hla ?_
  refine split_intro (fun g => ?_) (fun g => ?_)
  · refine split_true rfl ?_
    refine call_intro _ works14 ?_
    exact ret_intro rfl rfl
  obtain ⟨la, wa⟩ := hna g
  refine call_intro _ hlb ?_
  refine split_intro (fun g => ?_) (fun g => ?_)
  · refine call_intro _ works14 ?_
    exact ret_intro rfl rfl
  obtain ⟨lb', wb⟩ := hnb g
  have oa : ∀ x ∈ a, x.ok 2 := fun x hx => ⟨(ha x hx).1, (ha x hx).2, by have := (wa x hx).1; omega, by have := (wa x hx).2; omega⟩
  have ob : ∀ x ∈ b, x.ok 2 := fun x hx => ⟨(hb x hx).1, (hb x hx).2, by have := (wb x hx).1; omega, by have := (wb x hx).2; omega⟩
  have sa := Sz_trim (Sz_Qs oa (by omega))
  have sb := Sz_trim (Sz_Qs ob (by omega))
  have ta := trim_len (Qs a)
  have tb := trim_len (Qs b)
  rw [Qs_len] at ta tb
  have ca : Cz 448 (Qs a) := (Cz_Qs oa (by omega)).mono (by omega)
  have cb : Cz 448 (Qs b) := (Cz_Qs ob (by omega)).mono (by omega)
  have hcs : cs 448 7 / 32 + 1 ≤ 100000 := by decide +kernel
  have g1 := pGcd_spec (N := 7) (K := 100000) oa ob (by omega) (by omega) la lb' (by omega) ca cb hcs (by omega)
  have g2 := pRGcd_spec (N := 7) (K := 100000) (trim_trim (Qs a)) (trim_trim (Qs b)) (by omega) (by omega) (by omega) ca.trim cb.trim hcs (by omega)
  rw [gc_trims] at g2
  have gz := gc_sz (N := 7) (by rw [Qs_len]; exact la) (by rw [Qs_len]; exact lb') ca cb
  have sg : ∀ q ∈ gc (Qs a) (Qs b), Sz 100000 q := fun q hq => ((gz.2.mono (cs_mono (by omega))).sz q hq).mono hcs
  have d1 := pDiff_spec oa (by omega) (by omega) (by omega)
  have d2 := pRDiff_spec sa (by omega) (by omega) (by omega)
  rw [trim_pdif] at d2
  have z1 : ∀ q ∈ trim (pdif (Qs a)), Sz 3 q := Sz_trim (fun q hq => by
    obtain ⟨i, hi, rfl⟩ := List.mem_map.1 hq
    have hi := List.mem_range.1 hi
    rw [Qs_len] at hi
    exact Sz_mul (cast_sz (by omega)) (Sz_co (by omega) (Sz_Qs oa (by omega)) _))
  have lz1 : (trim (pdif (Qs a))).length ≤ 1000000 := Nat.le_trans (trim_len _) (by unfold pdif; rw [List.length_map, List.length_range, Qs_len]; omega)
  refine call_intro _ (rNorms_spec oa (by omega) (by omega)) ?_
  refine call_intro _ (pRNorm_spec (l := Qs a) (by rw [Qs_len]; omega)) ?_
  refine call_intro _ (rNorms_spec ob (by omega) (by omega)) ?_
  refine call_intro _ (pRNorm_spec (l := Qs b) (by rw [Qs_len]; omega)) ?_
  refine call_intro _ (To11_spec (by omega)) ?_
  refine call_intro _ (To11_spec (by omega)) ?_
  by_cases h0 : trim (Qs b) = []
  · refine call_intro _ (pDiv_zero ob (by omega) (by omega) (by omega) h0) ?_
    refine call_intro _ d1 ?_
    refine call_intro _ d2 ?_
    refine call_intro _ (Is11_true z1 (by omega) lz1 rfl) ?_
    refine split_false rfl ?_
    refine call_intro _ g1 ?_
    refine call_intro _ g2 ?_
    refine call_intro _ (Is11_true sg (by omega) (by omega) rfl) ?_
    refine split_false rfl ?_
    refine split_true (by show ((((Fs (trim (Qs b))).map FD.c).length : Int) == 0) = true; rw [h0]; rfl) ?_
    refine split_true rfl ?_
    refine split_true rfl ?_
    refine split_true rfl ?_
    refine call_intro _ works14 ?_
    exact ret_intro rfl rfl
  · have hp := lpos h0
    have hk : (448 + sts (trim (Qs a)) (trim (Qs b)) * (448 + 1)) / 32 + 1 ≤ 1000 := by
      have : sts (trim (Qs a)) (trim (Qs b)) ≤ 7 := by unfold sts; omega
      have := Nat.mul_le_mul_right (448 + 1) this
      omega
    have e1 := pDiv_spec (K := 1000) oa ob (by omega) (by omega) (by omega) (by omega) rfl rfl h0 ca.trim cb.trim hk (by omega) (by omega)
    have e2 := pRDiv_spec (K := 1000) (trim_trim (Qs a)) (trim_trim (Qs b)) h0 (by omega) (by omega) ca.trim cb.trim hk (by omega) (by omega)
    have cz := Cz_div (trim_trim (Qs b)) h0 ca.trim cb.trim (Nat.le_refl _)
    have szq : ∀ q ∈ pq (trim (Qs a)) (trim (Qs b)), Sz 1000 q := fun q hq => (cz.sz q (List.mem_append_left _ hq)).mono hk
    have szr : ∀ q ∈ pr (trim (Qs a)) (trim (Qs b)), Sz 1000 q := fun q hq => (cz.sz q (List.mem_append_right _ hq)).mono hk
    have lq := pq_len (trim (Qs a)) (trim (Qs b))
    have lr := pr_lt (a := trim (Qs a)) (trim_trim (Qs b)) h0
    have lst : sts (trim (Qs a)) (trim (Qs b)) ≤ 7 := by unfold sts; omega
    refine call_intro _ e1 ?_
    refine call_intro _ d1 ?_
    refine call_intro _ d2 ?_
    refine call_intro _ (Is11_true z1 (by omega) lz1 rfl) ?_
    refine split_false rfl ?_
    refine call_intro _ g1 ?_
    refine call_intro _ g2 ?_
    refine call_intro _ (Is11_true sg (by omega) (by omega) rfl) ?_
    refine split_false rfl ?_
    refine split_false (by show ((((Fs (trim (Qs b))).map FD.c).length : Int) == 0) = false; rw [FsI]; exact beq_eq_false_iff_ne.2 (by omega)) ?_
    refine call_intro _ e2 ?_
    refine call_intro _ (Is11_true szq (by omega) (by omega) rfl) ?_
    refine split_true rfl ?_
    refine call_intro _ (Is11_true szr (by omega) (by omega) rfl) ?_
    refine split_true rfl ?_
    refine split_true rfl ?_
    refine call_intro _ works14 ?_
    exact ret_intro rfl rfl
theorem PolyDivides_typed {x y : D} (h0 : OkD shR x) (h1 : OkD shR y) : Runs Tryz.prog g_retrospectlaw14_PolyDivides [.d x, .d y] (.d (.bool true)) := by
  obtain ⟨a, rfl, ha, hma⟩ := inv_fracs h0
  obtain ⟨b, rfl, hb, hmb⟩ := inv_fracs h1
  exact PolyDivides_runs (fun y hy => ⟨(ha y hy).1, (ha y hy).2.1⟩) (fun y hy => ⟨(hb y hy).1, (hb y hy).2.1⟩) hma hmb
end Go.Proofs.YtclkhdcbpocldaaGreat.Fw
