/- Products, shifts. -/
import Derived.Test.YthefflmebkcilaaSB
import Derived.Test.YthefflmebkcilaaPC
set_option linter.unusedVariables false
namespace Go.Proofs.Ythefflmebkcilaa.Fw
open Go Pu
theorem row_spec {L M R a : List Int} {x k : Int} (hwa : Wd a) (hwM : Wd M) (hx : W32 x) (hk : W32 k) (hM : M.length = a.length + 1) (hlen : (L ++ (M ++ R)).length ≤ 8796093022208) :
    RunsG Try.prog g_prod_row [.own 1000 0 (L ++ (M ++ R)).length, .d (.int .i64 (L.length : Int)), .d (.words a), .d (.int .u32 x), .d (.int .u32 k)] [(1000, .words tU32 (L ++ (M ++ R)))] (.tup [])
      [(1000, .words tU32 (L ++ (dig (a.length + 1) (x.toNat * val a + val (M.take a.length) + k.toNat) ++ R)))] := by
  refine runG [] p_prod_row rfl rfl rfl rfl (fun B S F0 w0 V0 => ?_)
  have hN : (L ++ (M ++ R)).length = L.length + a.length + 1 + R.length := by simp [hM]; omega
  rw [hN] at hlen ⊢
  refine loop_intro (fun p : Nat × List Int × Int => st [(0, .own 1000 0 (L.length + a.length + 1 + R.length)), (1, .d (.int .i64 (L.length : Int))), (2, .d (.words a)), (3, .d (.int .u32 x)), (4, .d (.int .u32 p.2.2)), (12, .d (.words a)), (13, .d (.int .i64 (a.length : Int))), (14, .d (.int .i64 (p.1 : Int)))] [(1000, .words 32 (L ++ (p.2.1 ++ R)))]) (fun p => a.length - p.1)
    (fun p => p.1 ≤ a.length ∧ p.2.1.length = a.length + 1 ∧ Wd p.2.1 ∧ W32 p.2.2 ∧ (∀ j, p.1 ≤ j → p.2.1.getD j 0 = M.getD j 0) ∧ val (p.2.1.take p.1) + 4294967296 ^ p.1 * p.2.2.toNat = x.toNat * val (a.take p.1) + val (M.take p.1) + k.toNat) (0, M, k)
    ⟨Nat.zero_le _, hM, hwM, hk, fun _ _ => rfl, by simp [val]⟩ (weak_st _ _ ⟨rfl, rfl, rfl, rfl, rfl, rfl, rfl, rfl, trivial⟩ ⟨rfl, trivial⟩ rfl) ?_
  rintro ⟨i, m, c⟩ ⟨hi, hl, hwm, hc, hsame, hv⟩
  dsimp only at hi hl hwm hc hsame hv
  refine split_intro (fun h => ?_) (fun h => ?_)
  · have hlt : i < a.length := by have h : (i : Int) < a.length := of_decide_eq_true h; omega
    have ei : IntKind.i64.wrap ((i : Int) + 1) = ((i + 1 : Nat) : Int) := by rw [wr (by omega) (by omega)]; omega
    have ea : IntKind.i64.wrap ((L.length : Int) + (i : Int)) = ((L.length + i : Nat) : Int) := by rw [wr (by omega) (by omega)]; omega
    have g1 := hwa.g i
    have g2 := hwm.g i
    have hmb := mul_bd hx g1 g2 hc
    refine idx_w i rfl hlt ?_
    refine side_intro (by show (0 : Int) ≤ IntKind.i64.wrap ((L.length : Int) + (i : Int)) ∧ IntKind.i64.wrap ((L.length : Int) + (i : Int)) < ((L.length + a.length + 1 + R.length : Nat) : Int); omega) ?_
    refine idx_intro (m.getD i 0) (Int.natCast_nonneg _) (by
      show (L ++ (m ++ R))[((0 + (IntKind.i64.wrap ((L.length : Int) + (i : Int))).toNat : Nat) : Int).toNat]? = _
      rw [ea, Int.toNat_natCast, Int.toNat_natCast]
      exact mid_elem (by omega) (by omega)) ?_
    refine call_intro _ (limb_Mul_spec hx g1 g2 hc) ?_
    refine side_intro (by show (0 : Int) ≤ IntKind.i64.wrap ((L.length : Int) + (i : Int)) ∧ IntKind.i64.wrap ((L.length : Int) + (i : Int)) < ((L.length + a.length + 1 + R.length : Nat) : Int); omega) ?_
    have q0 : 0 ≤ (x * a.getD i 0 + m.getD i 0 + c) / 4294967296 := by
      have := g2.1; have := hc.1; generalize x * a.getD i 0 = xx at hmb ⊢; omega
    have q1 : (x * a.getD i 0 + m.getD i 0 + c) / 4294967296 < 4294967296 := by
      generalize x * a.getD i 0 = xx at hmb ⊢; omega
    refine ⟨(i + 1, m.set i ((x * a.getD i 0 + m.getD i 0 + c) % 4294967296), (x * a.getD i 0 + m.getD i 0 + c) / 4294967296), ⟨hlt, by show (m.set i _).length = _; rw [List.length_set]; exact hl, hwm.set i (by omega) (by omega), ⟨q0, q1⟩, fun j hj => ?_, ?_⟩, by show a.length - (i + 1) < a.length - i; omega, ?_⟩
    · show (m.set i _).getD j 0 = _
      have hj : i + 1 ≤ j := hj
      rw [getD_setne (by omega)]
      exact hsame j (by omega)
    · show val ((m.set i _).take (i + 1)) + 4294967296 ^ (i + 1) * _ = _
      rw [val_take_set (by omega), val_take_succ' (a := a), val_take_succ' (a := M), ← hsame i (Nat.le_refl _), Nat.pow_succ]
      exact row_step hx.1 g1.1 g2.1 hc.1 hv
    · refine weak_st _ _ ⟨rfl, rfl, rfl, rfl, rfl, rfl, rfl, i64_inj ei, trivial⟩ ⟨?_, trivial⟩ rfl
      show some (MO.words 32 ((L ++ (m ++ R)).set (0 + (IntKind.i64.wrap ((L.length : Int) + (i : Int))).toNat) _)) = _
      rw [mid_set (j := i) (by rw [ea]; omega) (by omega)]
  · have hend : i = a.length := by have h : ¬ (i : Int) < a.length := of_decide_eq_false h; omega
    subst hend
    have ea : IntKind.i64.wrap ((L.length : Int) + (a.length : Int)) = ((L.length + a.length : Nat) : Int) := by rw [wr (by omega) (by omega)]; omega
    refine side_intro (by show (0 : Int) ≤ IntKind.i64.wrap ((L.length : Int) + (a.length : Int)) ∧ IntKind.i64.wrap ((L.length : Int) + (a.length : Int)) < ((L.length + a.length + 1 + R.length : Nat) : Int); omega) ?_
    refine retG_intro rfl rfl ⟨?_, trivial⟩ rfl
    show some (MO.words 32 ((L ++ (m ++ R)).set (0 + (IntKind.i64.wrap ((L.length : Int) + (a.length : Int))).toNat) c)) = _
    rw [mid_set (j := a.length) (by rw [ea]; omega) (by omega)]
    rw [dig_eq (l := m.set a.length c) (n := a.length + 1) (v := x.toNat * val a + val (List.take a.length M) + k.toNat) (hwm.set _ hc.1 hc.2) (by rw [List.length_set]; exact hl) (by rw [val_set_last (by omega), hv, List.take_length])]
theorem call_row {c : Ctx} {s : St} {o : Oper} {K : St → Prop} {cl : Call} {g : FuncId} {args : List V} {m m' : MO} {r : V} (i : Nat) (hr : RunsG Try.prog g args [(1000, m)] r [(1000, m')]) (ho : o.op = .call cl) (hc : cl.callee = .value (.func g)) (hd : dstOk c.N o = true)
    (has : coeL TB (cl.args.toList.map s.ev) cl.argTypes.toList = args.map (renV (lk [(1000, i)]))) (hlive : liveA (memL [(1000, m)]) args = true) (hm : s.mem i = some m) (hsh : SameSh m m')
    (hK : K ((s.upd i m').put o.dst (renV (lk [(1000, i)]) r))) : OpP Try.prog c o s K :=
  call_G [(1000, i)] hr ho hc hd has hlive ⟨hm, trivial⟩ ⟨hsh, trivial⟩ ⟨trivial, trivial⟩ (by simp [injB]) hK
theorem same_words {e : TypeId} {l m : List Int} (h : l.length = m.length) : SameSh (.words e l) (.words e m) := .inr ⟨e, 1, l.length, l.map wd, m.map wd, rfl, by simp only [MO.row?, h]⟩
theorem Mul_spec {a b : List Int} (hwa : Wd a) (hwb : Wd b) (ha : a.length ≤ 274877906944) (hb : b.length ≤ 274877906944) : Runs Try.prog g_prod_Mul [.d (.words a), .d (.words b)] (.d (.words (toW (val a * val b)))) := by
  refine run1 [] p_prod_Mul rfl rfl (fun B S F0 w0 V0 => ?_)
  have e1 : IntKind.i64.wrap (IntKind.i64.wrap ((a.length : Int) + (b.length : Int)) + 1) = ((a.length + b.length + 1 : Nat) : Int) := by rw [wr (x := (a.length : Int) + b.length) (by omega) (by omega), wr (by omega) (by omega)]; omega
  refine opp_make hT rfl rfl (Nat.le_of_ble_eq_true rfl) (e := 32) rfl rfl (Nat.le_of_ble_eq_true rfl) (fun _ => rfl) (k := .i64) (k' := .i64) (n := ((a.length + b.length + 1 : Nat) : Int)) (i64_inj e1) (i64_inj e1) rfl (by omega) ?_ ?_ ?_
  · show 4 * ((a.length + b.length + 1 : Nat) : Int).toNat ≤ _
    omega
  · unfold maxLen; omega
  rw [Int.toNat_natCast]
  refine loop_intro (fun p : Nat × List Int => st [(0, .d (.words a)), (5, .own 14 0 (a.length + b.length + 1)), (15, .d (.words b)), (16, .d (.int .i64 (b.length : Int))), (17, .d (.int .i64 (p.1 : Int)))] [(14, .words 32 p.2)]) (fun p => b.length - p.1)
    (fun p => p.1 ≤ b.length ∧ p.2.length = a.length + b.length + 1 ∧ Wd p.2 ∧ val p.2 = val a * val (b.take p.1)) (0, List.replicate (a.length + b.length + 1) 0)
    ⟨Nat.zero_le _, by simp, Wd.zeros _, by simp only [val_zeros]; simp [val]⟩ (weak_st _ _ ⟨rfl, rfl, rfl, rfl, rfl, trivial⟩ ⟨rfl, trivial⟩ rfl) ?_
  rintro ⟨i, out⟩ ⟨hi, hl, hwo, hv⟩
  dsimp only at hi hl hwo hv
  refine split_intro (fun h => ?_) (fun h => ?_)
  · have hlt : i < b.length := by have h : (i : Int) < b.length := of_decide_eq_true h; omega
    have ei : IntKind.i64.wrap ((i : Int) + 1) = ((i + 1 : Nat) : Int) := by rw [wr (by omega) (by omega)]; omega
    have g1 := hwb.g i
    refine idx_w i rfl hlt ?_
    have hsp := three out i (a.length + 1)
    have hL : (out.take i).length = i := by rw [List.length_take]; omega
    have hMl : ((out.drop i).take (a.length + 1)).length = a.length + 1 := by rw [List.length_take, List.length_drop]; omega
    have hr := row_spec (L := out.take i) (M := (out.drop i).take (a.length + 1)) (R := out.drop (i + (a.length + 1))) (a := a) (x := b.getD i 0) (k := 0) hwa ((hwo.drop i).take _) g1 ⟨by omega, by omega⟩ hMl (by rw [← hsp]; omega)
    rw [← hsp, hL] at hr
    rw [hl] at hr
    have hval := val_lt (hwb.take i)
    have hbt : (b.take i).length = i := by rw [List.length_take]; omega
    rw [hbt] at hval
    have hva := val_lt hwa
    have hout : val out < 4294967296 ^ (i + a.length) := by
      rw [hv, Nat.pow_add, Nat.mul_comm]
      exact Nat.mul_lt_mul'' hval hva
    have hz := val_drop_zero (i := i + a.length) (by omega) hout
    have hz2 : val (out.drop (i + (a.length + 1))) = 0 := by
      have h2 : val (out.drop (i + a.length)) = _ := val_take_drop (out.drop (i + a.length)) 1 (by rw [List.length_drop]; omega)
      rw [hz, List.drop_drop, Nat.add_assoc] at h2
      have : 4294967296 ^ 1 * val (out.drop (i + (a.length + 1))) = 0 := by omega
      omega
    have hmid : val (out.drop i) = val ((out.drop i).take a.length) := by
      have h2 := val_take_drop (out.drop i) a.length (by rw [List.length_drop]; omega)
      rw [List.drop_drop, hz] at h2
      omega
    have htt : ((out.drop i).take (a.length + 1)).take a.length = (out.drop i).take a.length := by rw [List.take_take, Nat.min_eq_left (by omega)]
    have hstep : (b.getD i 0).toNat * val a + val ((out.drop i).take a.length) < 4294967296 ^ (a.length + 1) := by
      refine mul_step (by omega) hva ?_
      have := val_take_lt (hwo.drop i) a.length
      exact this
    rw [htt] at hr
    have hlen2 : (out.take i ++ (dig (a.length + 1) ((b.getD i 0).toNat * val a + val ((out.drop i).take a.length) + (0 : Int).toNat) ++ out.drop (i + (a.length + 1)))).length = a.length + b.length + 1 := by
      rw [List.length_append, List.length_append, dig_len, hL, List.length_drop]; omega
    refine call_row 14 hr rfl rfl rfl rfl rfl rfl (same_words (by rw [hl]; exact hlen2.symm)) ?_
    refine ⟨(i + 1, out.take i ++ (dig (a.length + 1) ((b.getD i 0).toNat * val a + val ((out.drop i).take a.length) + (0 : Int).toNat) ++ out.drop (i + (a.length + 1)))), ⟨hlt, hlen2, (hwo.take i).app ((Wd.dig _ _).app (hwo.drop _)), ?_⟩, by show b.length - (i + 1) < b.length - i; omega, ?_⟩
    · show val (out.take i ++ (dig (a.length + 1) ((b.getD i 0).toNat * val a + val ((out.drop i).take a.length) + 0) ++ out.drop (i + (a.length + 1)))) = val a * val (b.take (i + 1))
      simp only [Nat.add_zero]
      rw [val_parts, hL, val_dig_lt hstep, hz2, Nat.mul_zero, Nat.add_zero, val_take_succ hlt, ← hmid]
      have h3 := val_take_drop out i (by omega)
      rw [hv] at h3
      clear hr hsp hstep
      generalize val (b.take i) = t at h3 ⊢
      generalize val (out.take i) = o1 at h3 ⊢
      generalize val (out.drop i) = o2 at h3 ⊢
      generalize 4294967296 ^ i = p at h3 ⊢
      generalize (b.getD i 0).toNat = u
      generalize val a = A at h3 ⊢
      grind
    · exact weak_st _ _ ⟨rfl, rfl, rfl, rfl, i64_inj ei, trivial⟩ ⟨rfl, trivial⟩ rfl
  · have hend : i = b.length := by have h : ¬ (i : Int) < b.length := of_decide_eq_false h; omega
    subst hend
    refine opp_frz 14 (.words 32 out) rfl (Nat.le_of_ble_eq_true rfl) rfl ?_
    refine call_intro (.d (.words (toW (val out)))) ?_ ?_
    · have := norm_spec hwo (by omega)
      have e : snapM (.words 32 out) 0 (a.length + b.length + 1) = .d (.words out) := by
        show V.d (.words ((out.drop 0).take (a.length + b.length + 1))) = _
        rw [List.drop_zero, List.take_of_length_le (by omega)]
      rw [← e] at this
      exact this
    · refine ret_intro (ws_inj ?_) rfl
      rw [hv, List.take_length]
end Go.Proofs.Ythefflmebkcilaa.Fw
