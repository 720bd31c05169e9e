/- Texts of the proof, one after the other: PM FX SM SN SO SQ SX LA AZ RA RB LC RC. -/
import Derived.Lib.AppendZeros
import Derived.Below
import Derived.OpenShut
import Derived.Test.YthefflmebkcilaaM3
set_option linter.unusedSimpArgs false
set_option linter.unusedVariables false
/- How often a number can be halved; common divisors by halving. -/
namespace Go.Proofs.Ythefflmebkcilaa.Pu
def tz (n : Nat) : Nat := if h : n % 2 = 1 ∨ n = 0 then 0 else tz (n / 2) + 1
termination_by n
decreasing_by omega
def op (n : Nat) : Nat := n / 2 ^ tz n
theorem tz_odd {n : Nat} (h : n % 2 = 1) : tz n = 0 := by rw [tz, dif_pos (.inl h)]
theorem tz_two {n : Nat} (h : n ≠ 0) : tz (2 * n) = tz n + 1 := by
  rw [tz, dif_neg (by omega), show 2 * n / 2 = n by omega]
theorem tz_even {n : Nat} (h : n % 2 = 0) (h0 : n ≠ 0) : tz n = tz (n / 2) + 1 := by rw [tz, dif_neg (by omega)]
theorem tz_pow (k u : Nat) (h : u % 2 = 1) : tz (2 ^ k * u) = k := by
  induction k with
  | zero => rw [Nat.pow_zero, Nat.one_mul]; exact tz_odd h
  | succ k ih =>
    have : 2 ^ k * u ≠ 0 := by
      have := Nat.mul_pos (Nat.two_pow_pos k) (show 0 < u by omega)
      omega
    rw [Nat.pow_succ, Nat.mul_comm (2 ^ k) 2, Nat.mul_assoc, tz_two this, ih]
theorem op_eq {n : Nat} (h : n ≠ 0) : n = 2 ^ tz n * op n ∧ op n % 2 = 1 := by
  induction n using Nat.strongRecOn with
  | _ n ih =>
    by_cases h1 : n % 2 = 1
    · unfold op
      rw [tz_odd h1, Nat.pow_zero, Nat.div_one, Nat.one_mul]
      exact ⟨rfl, h1⟩
    · obtain ⟨e1, e2⟩ := ih (n / 2) (by omega) (by omega)
      have e3 := tz_even (n := n) (by omega) h
      have e4 : n = 2 * (n / 2) := by omega
      have hp : 0 < 2 ^ tz (n / 2) := Nat.two_pow_pos _
      have e5 : op n = op (n / 2) := by
        have : op n = 2 * (n / 2) / (2 ^ tz (n / 2) * 2) := by
          unfold op
          rw [e3, Nat.pow_succ, ← e4]
        rw [this, Nat.mul_comm (2 ^ _) 2, Nat.mul_div_mul_left _ _ (by omega)]
        rfl
      rw [e5, e3]
      refine ⟨?_, e2⟩
      rw [Nat.pow_succ, Nat.mul_assoc, Nat.mul_comm 2, ← Nat.mul_assoc, ← e1]
      omega
theorem op_pos {n : Nat} (h : n ≠ 0) : 0 < op n := by have := (op_eq h).2; omega
theorem op_le (n : Nat) : op n ≤ n := Nat.div_le_self _ _
theorem pow_tz_le {n : Nat} (h : n ≠ 0) : 2 ^ tz n ≤ n := by
  obtain ⟨h1, h2⟩ := op_eq h
  have h3 : 2 ^ tz n * 1 ≤ 2 ^ tz n * op n := Nat.mul_le_mul_left _ (by omega)
  omega
theorem tz_lt {n k : Nat} (h : n ≠ 0) (hk : n < 2 ^ k) : tz n < k := by
  rcases Nat.lt_or_ge (tz n) k with h1 | h1
  · exact h1
  · have h2 := pow_tz_le h
    have h3 : 2 ^ k ≤ 2 ^ tz n := Nat.pow_le_pow_right (by omega) h1
    omega
theorem tz_word {x y : Nat} (hx : x ≠ 0) (hlt : x < 4294967296) : tz (x + 4294967296 * y) = tz x := by
  obtain ⟨h1, h2⟩ := op_eq hx
  have h3 : tz x < 32 := tz_lt hx hlt
  have h4 : 2 ^ tz x * 2 ^ (32 - tz x) = 4294967296 := pow32 (by omega)
  have h5 : 2 ^ (32 - tz x) = 2 * 2 ^ (31 - tz x) := by rw [show 32 - tz x = (31 - tz x) + 1 by omega, Nat.pow_succ, Nat.mul_comm]
  have e : x + 4294967296 * y = 2 ^ tz x * (op x + 2 * (2 ^ (31 - tz x) * y)) := by
    rw [Nat.mul_add, ← h1, ← Nat.mul_assoc 2, ← h5, ← Nat.mul_assoc, h4]
  rw [e, tz_pow _ _ (by omega)]
theorem tz_shift {n : Nat} (h : n ≠ 0) : tz (4294967296 * n) = 32 + tz n := by
  obtain ⟨h1, h2⟩ := op_eq h
  have e : 4294967296 * n = 2 ^ (32 + tz n) * op n := by
    rw [Nat.pow_add, Nat.mul_assoc, ← h1]
  rw [e, tz_pow _ _ h2]
theorem op_shift {n : Nat} (h : n ≠ 0) : op (4294967296 * n) = op n := by
  have h1 : op (4294967296 * n) = 4294967296 * n / (2 ^ 32 * 2 ^ tz n) := by unfold op; rw [tz_shift h, Nat.pow_add]
  rw [h1, show (2 : Nat) ^ 32 = 4294967296 from rfl, Nat.mul_div_mul_left _ _ (by omega)]
  rfl
theorem gcd_two_odd (m n : Nat) (h : n % 2 = 1) : Nat.gcd (2 * m) n = Nat.gcd m n := by
  have h1 : Nat.gcd 2 n = 1 := by rw [Nat.gcd_comm, Nat.gcd_comm, Nat.gcd_rec, h]; rfl
  exact Nat.Coprime.gcd_mul_left_cancel m h1
theorem gcd_pow_odd (k m n : Nat) (h : n % 2 = 1) : Nat.gcd (2 ^ k * m) n = Nat.gcd m n := by
  induction k with
  | zero => rw [Nat.pow_zero, Nat.one_mul]
  | succ k ih => rw [Nat.pow_succ, Nat.mul_comm (2 ^ k) 2, Nat.mul_assoc, gcd_two_odd _ _ h, ih]
theorem gcd_op {m n : Nat} (h : n % 2 = 1) (hm : m ≠ 0) : Nat.gcd (op m) n = Nat.gcd m n := by
  conv => rhs; rw [(op_eq hm).1]
  rw [gcd_pow_odd _ _ _ h]
theorem gcd_both {m n : Nat} (hm : m ≠ 0) (hn : n ≠ 0) : Nat.gcd m n = 2 ^ min (tz m) (tz n) * Nat.gcd (op m) (op n) := by
  obtain ⟨h1, h2⟩ := op_eq hm
  obtain ⟨h3, h4⟩ := op_eq hn
  rcases Nat.le_total (tz m) (tz n) with h | h
  · rw [Nat.min_eq_left h]
    have e : n = 2 ^ tz m * (2 ^ (tz n - tz m) * op n) := by
      rw [← Nat.mul_assoc, ← Nat.pow_add, show tz m + (tz n - tz m) = tz n by omega]; exact h3
    have e2 : Nat.gcd m n = Nat.gcd (2 ^ tz m * op m) (2 ^ tz m * (2 ^ (tz n - tz m) * op n)) := by rw [← h1, ← e]
    rw [e2, Nat.gcd_mul_left, Nat.gcd_comm (op m), gcd_pow_odd _ _ _ h2, Nat.gcd_comm]
  · rw [Nat.min_eq_right h]
    have e : m = 2 ^ tz n * (2 ^ (tz m - tz n) * op m) := by
      rw [← Nat.mul_assoc, ← Nat.pow_add, show tz n + (tz m - tz n) = tz m by omega]; exact h1
    have e2 : Nat.gcd m n = Nat.gcd (2 ^ tz n * (2 ^ (tz m - tz n) * op m)) (2 ^ tz n * op n) := by rw [← h3, ← e]
    rw [e2, Nat.gcd_mul_left, gcd_pow_odd _ _ _ h4]
theorem gcd_less {m n : Nat} (h : n ≤ m) : Nat.gcd (m - n) n = Nat.gcd m n := by
  rw [Nat.gcd_sub_self_left h]
end Go.Proofs.Ythefflmebkcilaa.Pu

/- A call that turns one own row of words and reads another one. -/
set_option linter.unusedVariables false
namespace Go.Proofs.Ythefflmebkcilaa.Fw
open Go
variable {P : Program} {T : TT} {c : Ctx} {F : Nat → Prop} {ν : Nat → Value} {s : St} {a : Act} {w : World} {o : Oper} {keep : List Nat}
theorem opp_call_mut_read {K : St → Prop} {cl : Call} {g : FuncId} {e e2 : TypeId} {X X' Y b : List Int} {i j o1 n1 o2 n2 : Nat} (hij : i ≠ j)
    (hr : RunsG P g [.own 1000 o1 n1, .d (.words b)] [(1000, .words e X)] (.tup []) [(1000, .words e X')]) (ho : o.op = .call cl) (hc : cl.callee = .value (.func g)) (hd : dstOk c.N o = true)
    (has : coeL T (cl.args.toList.map s.ev) cl.argTypes.toList = [.own i o1 n1, .own j o2 n2]) (hi : s.mem i = some (.words e X)) (hj : s.mem j = some (.words e2 Y)) (hb : (Y.drop o2).take n2 = b) (hl : X.length = X'.length)
    (hK : K ((s.upd i (.words e X')).put o.dst (.tup []))) : OpP P c o s K := by
  unfold OpP
  rintro Q a w ⟨F, ν, h⟩
  unfold RunsG at hr
  have hrun := enter_run (P := P) h ho hc hr.1
  have hav := coeL_rep T _ _ cl.argTypes.toList s.mem (args_rep h cl.args.toList)
  rw [has, show cl.args.toList.map a.eval = (cl.args.map a.eval).toList by simp] at hav
  have hn1 : ∀ x, memL [(1000, MO.words e X)] x = if x = 1000 then some (MO.words e X) else none := by
    intro x
    simp only [memL]
    by_cases ex : x = 1000
    · subst ex; simp
    · rw [beq_no ex]; simp [ex]
  have hn2 : ∀ x, memL [(1000, MO.words e X')] x = if x = 1000 then some (MO.words e X') else none := by
    intro x
    simp only [memL]
    by_cases ex : x = 1000
    · subst ex; simp
    · rw [beq_no ex]; simp [ex]
  obtain ⟨F1, hF1⟩ : ∃ F1 : Nat → Prop, F1 = fun k => F k ∨ blk (ν j) = some k := ⟨_, rfl⟩
  have hF1F : ∀ k, F k → F1 k := fun k hk => by rw [hF1]; exact .inl hk
  have hav1 : AllR (VR1 w F1 (fun _ => ν i) (memL [(1000, MO.words e X)])) [.own 1000 o1 n1, .d (.words b)] (cl.args.map a.eval).toList := by
    obtain ⟨u0, us, e0, r0, hav'⟩ := hav.head
    obtain ⟨u1, us1, e1, r1, hav''⟩ := hav'.head
    have := hav''.nil_of
    rw [e0, e1, this]
    refine AllR.cons ?_ (AllR.cons ?_ AllR.nil)
    · obtain ⟨obj, e', sz, n, fl, A, n', cc, h1, h2⟩ := r0
      have h1' : s.mem i = some obj := h1
      rw [hi] at h1'
      cases h1'
      exact ⟨_, e', sz, n, fl, A, n', cc, by rw [hn1, if_pos rfl], h2⟩
    · have hs := snap_rep h hj r1 F1 hF1F (fun k hk => by rw [hF1]; exact .inr hk)
      have e3 : snapM (.words e2 Y) o2 n2 = .d (.words b) := by show V.d (.words ((Y.drop o2).take n2)) = _; rw [hb]
      rw [e3] at hs
      exact hs
  have hO : Objs w F1 (fun _ => ν i) (memL [(1000, MO.words e X)]) (fun _ _ => True) := by
    refine ⟨fun x obj hx => ?_, fun x obj k hx hk => ⟨?_, trivial⟩, fun x y obj obj' k hx hy _ _ => ?_⟩
    · rw [hn1] at hx
      split at hx
      · cases hx; exact MRep.frame (h.mem i _ hi) hF1F (fun _ _ => rfl) (fun _ _ => rfl)
      · cases hx
    · rw [hF1]
      rintro (h1 | h1)
      · exact (h.sep i _ k hi hk).1 h1
      · exact hij (h.inj i j _ _ k hi hj hk h1)
    · rw [hn1] at hx hy
      split at hx
      · split at hy
        · omega
        · cases hy
      · cases hx
  have hcall := hr.2 F1 (fun _ => ν i) w _ (fun k hk => by
    rw [hF1] at hk
    rcases hk with h1 | h1
    · exact (h.fin k h1).1
    · exact MRep.lt (h.mem j _ hj) h1) hav1 hO
  unfold Oper.wp
  rw [hrun]
  show Calls P g _ w _
  rw [Array.toArray_toList] at hcall
  refine hcall.mono ?_
  rintro e' w' ⟨v, F', ν', rfl, hv, hO', hF', hν, hk⟩
  have hbk : ∀ k, BlkOf (fun _ => ν i) (memL [(1000, MO.words e X)]) k → blk (ν i) = some k := by
    rintro k ⟨x, obj, _, h2⟩; exact h2
  have hν1 : ν' 1000 = ν i := hν 1000 (.words e X) (by rw [hn1, if_pos rfl])
  have hinjL : ∀ p q x y, memL [(1000, MO.words e X')] p = some x → memL [(1000, MO.words e X')] q = some y → lk [(1000, i)] p = lk [(1000, i)] q → p = q := by
    intro p q x y hp hq _
    rw [hn2] at hp hq
    split at hp
    · split at hq
      · omega
      · cases hq
    · cases hp
  have hlk : lk [(1000, i)] 1000 = i := by simp [lk]
  have hO2 : Objs w' (fun k => F' k ∧ (F k ∨ w.heap.size ≤ k)) ν' (memL [(1000, MO.words e X')]) (fun x k => w.heap.size ≤ k ∨ (BlkOf (fun x => ν (lk [(1000, i)] x)) (memL [(1000, MO.words e X)]) k ∧ ∃ ob, memL [(1000, MO.words e X)] x = some ob)) := by
    refine ⟨fun x obj hx => ?_, fun x obj k hx hk' => ?_, hO'.inj⟩
    · have hx' := hx
      rw [hn2] at hx
      split at hx
      · cases hx
        obtain ⟨e', sz, n, fl, cs, h1, h2, h3, h4⟩ := hO'.rep x _ hx'
        refine ⟨e', sz, n, fl, cs, h1, h2, h3, h4.1, fun q y u hy hu => ?_⟩
        have hy' := hy
        simp only [MO.row?, Option.some.injEq, Prod.mk.injEq] at h1
        obtain ⟨_, _, _, rfl⟩ := h1
        rw [List.getElem?_map] at hy'
        obtain ⟨z, _, rfl⟩ := Option.map_eq_some_iff.1 hy'
        have := h4.2 q _ u hy hu
        have e5 := RepL.int_inv this
        subst e5
        exact RepL.int _ _
      · cases hx
    · obtain ⟨h1, h2⟩ := hO'.sep x obj k hx hk'
      refine ⟨fun h3 => h1 h3.1, ?_⟩
      rcases h2 with h2 | ⟨h2, h3⟩
      · exact .inl h2
      · refine .inr ⟨⟨1000, .words e X, by rw [hn1, if_pos rfl], ?_⟩, h3⟩
        show blk (ν (lk [(1000, i)] 1000)) = some k
        rw [hlk]
        exact hbk k h2
  have hkeep : Keep w.heap.size (BlkOf (fun x => ν (lk [(1000, i)] x)) (memL [(1000, MO.words e X)])) w w' := by
    refine ⟨hk.os, hk.tape, hk.output, hk.size, fun k hk' hS => hk.block k hk' (fun h1 => hS ⟨1000, .words e X, by rw [hn1, if_pos rfl], ?_⟩)⟩
    show blk (ν (lk [(1000, i)] 1000)) = some k
    rw [hlk]
    exact hbk k h1
  have hafter := h.afterG (σ := lk [(1000, i)]) (mi := [(1000, MO.words e X)]) (mo := [(1000, MO.words e X')]) (fun x m hx => by
      rw [hn1] at hx
      split at hx
      · rename_i ex; cases hx; rw [ex, hlk]; exact hi
      · cases hx) (fun x m hx => by
      rw [hn1] at hx
      split at hx
      · rename_i ex; cases hx
        exact ⟨.words e X', by rw [hn2, if_pos ex], .inr ⟨e, 1, X.length, X.map wd, X'.map wd, rfl, by simp only [MO.row?, hl]⟩⟩
      · cases hx) (fun x m hx hn => by
      rw [hn2] at hx
      split at hx
      · rename_i ex; rw [hn1, if_pos ex] at hn; cases hn
      · cases hx) hinjL hO2 (fun k hk' => ⟨(hF' k hk'.1).1, hk'.2⟩) (fun x obj hx => by
      rw [hn1] at hx
      split at hx
      · rename_i ex; rw [ex, hlk]; exact hν1
      · cases hx) hkeep
  have hv' : v = .tuple #[] := by
    obtain ⟨vs, rfl, ha⟩ := hv
    have := ha.nil_of
    have : vs = #[] := by apply Array.ext'; simpa using this
    rw [this]
  have e9 : s.updL (lk [(1000, i)]) [(1000, MO.words e X')] = s.upd i (.words e X') := by
    show (s.updL (lk [(1000, i)]) []).upd (lk [(1000, i)] 1000) (.words e X') = _
    rw [hlk]; rfl
  rw [e9] at hafter
  subst hv'
  have hfin := hafter.put (o := o.dst) (v := .tup []) (x := .tuple #[]) ⟨#[], rfl, AllR.nil⟩ (dst_lt hd)
  exact ⟨_, hK, _, _, hfin⟩
end Go.Proofs.Ythefflmebkcilaa.Fw

/- The document's common divisor: its parts that turn rows in place. -/
set_option linter.unusedVariables false
namespace Go.Proofs.Ythefflmebkcilaa.Fw
open Go Pu
theorem Zeros_spec {x : Nat} (h0 : x ≠ 0) (hx : x < 4294967296) : Runs Try.prog g_retrospectref01_Zeros [.d (.int .u32 (x : Int))] (.d (.int .i64 (tz x))) := by
  refine run1 [] p_retrospectref01_Zeros rfl rfl (fun B S F0 w0 V0 => ?_)
  have ht := tz_lt (k := 32) h0 hx
  refine split_false (beq_eq_false_iff_ne.2 (by show (x : Int) ≠ 0; omega)) ?_
  refine loop_intro (fun p : Nat × Nat => st [(0, .d (.int .u32 (p.1 : Int))), (3, .d (.int .i64 (p.2 : Int)))] []) (fun p => p.1) (fun p => p.1 ≠ 0 ∧ p.1 < 4294967296 ∧ tz x = p.2 + tz p.1) (x, 0) ⟨h0, hx, (Nat.zero_add _).symm⟩ (weak_st _ _ ⟨rfl, rfl, trivial⟩ trivial rfl) ?_
  rintro ⟨y, n⟩ ⟨h1, h2, h3⟩
  dsimp only at h1 h2 h3
  refine side_intro (by show (2 : Int) ≠ 0; omega) ?_
  have em : ((y : Int)).tmod 2 = ((y % 2 : Nat) : Int) := by rw [Int.tmod_eq_emod_of_nonneg (by omega)]; omega
  refine split_intro (fun h => ?_) (fun h => ?_)
  · have h : ((y : Int)).tmod 2 = 0 := eq_of_beq h
    rw [em] at h
    have he : y % 2 = 0 := by omega
    have ht2 := tz_even he h1
    refine side_intro (by show (2 : Int) ≠ 0; omega) ?_
    refine ⟨(y / 2, n + 1), ⟨by show y / 2 ≠ 0; omega, by show y / 2 < _; omega, by show tz x = n + 1 + tz (y / 2); omega⟩, by show y / 2 < y; omega, weak_st _ _ ⟨u32_inj ?_, i64_inj ?_, trivial⟩ trivial rfl⟩
    · show IntKind.u32.wrap (((y : Int)).tdiv 2) = _
      rw [Int.tdiv_eq_ediv_of_nonneg (by omega), w32]; omega
    · show IntKind.i64.wrap ((n : Int) + 1) = _
      rw [wr (by omega) (by omega)]; rfl
  · have h : ((y : Int)).tmod 2 ≠ 0 := beq_eq_false_iff_ne.1 h
    rw [em] at h
    have := tz_odd (n := y) (by omega)
    refine ret_intro (i64_inj ?_) rfl
    show (n : Int) = _
    omega
theorem dig_toW {n v : Nat} (h : (toW v).length ≤ n) : dig n v = toW v ++ List.replicate (n - (toW v).length) 0 := by
  refine (dig_eq ((Wd.toW v).app (Wd.zeros _)) ?_ ?_).symm
  · rw [List.length_append, List.length_replicate]; omega
  · rw [val_app_zeros, val_toW]
theorem dig_top {n v k : Nat} (h : (toW v).length ≤ k) (hk : k < n) : (dig n v).getD k 0 = 0 := by
  rw [dig_toW (by omega), List.getD_eq_getElem?_getD, List.getElem?_append_right h, List.getElem?_replicate]
  split <;> rfl
theorem dig_last {n v : Nat} (hv : v ≠ 0) (h : (toW v).length ≤ n) : (dig n v).getD ((toW v).length - 1) 0 ≠ 0 := by
  have hl : (toW v).length ≠ 0 := fun e => hv (toW_len_zero.1 e)
  rw [dig_toW h, List.getD_eq_getElem?_getD, List.getElem?_append_left (by omega)]
  intro e
  have h1 : (toW v)[(toW v).length - 1]? = some ((toW v).getD ((toW v).length - 1) 0) := el _ (by omega)
  rw [h1] at e
  refine toW_last (n := v) (x := (toW v).getD ((toW v).length - 1) 0) ?_ e
  rw [List.getLast?_eq_getElem?, h1]
theorem down_spec {L M R : List Int} {n off len : Nat} (hoff : off = L.length) (hlen' : len = M.length) (hwM : Wd M) (hn : n < 32) (hlen : (L ++ (M ++ R)).length ≤ 8796093022208) (hv0 : val M / 2 ^ n ≠ 0) :
    RunsG Try.prog g_retrospectref06_down [.own 1000 off len, .d (.int .i64 (n : Int))] [(1000, .words tU32 (L ++ (M ++ R)))] (.own 1000 off (toW (val M / 2 ^ n)).length) [(1000, .words tU32 (L ++ (dig len (val M / 2 ^ n) ++ R)))] := by
  have hN : (L ++ (M ++ R)).length = off + len + R.length := by simp [hoff, hlen']; omega
  rw [hN] at hlen
  have hpp : 0 < 2 ^ n := Nat.two_pow_pos n
  have hvl : val M / 2 ^ n < 4294967296 ^ len := Nat.lt_of_le_of_lt (Nat.div_le_self _ _) (by rw [hlen']; exact val_lt hwM)
  have hwl : (toW (val M / 2 ^ n)).length ≤ len := toW_len_le hvl
  have hwl0 : (toW (val M / 2 ^ n)).length ≠ 0 := fun e => hv0 (toW_len_zero.1 e)
  refine runG [] p_retrospectref06_down rfl rfl rfl rfl (fun B S F0 w0 V0 => ?_)
  refine loop_intro (fun p : Nat × List Int => st [(0, .own 1000 off len), (1, .d (.int .i64 (n : Int))), (5, .d (.int .i64 (p.1 : Int)))] [(1000, .words tU32 (L ++ (p.2 ++ R)))]) (fun p => len - p.1)
    (fun p => p.1 ≤ len ∧ p.2.length = len ∧ Wd p.2 ∧ (∀ j, p.1 ≤ j → p.2.getD j 0 = M.getD j 0) ∧ val (p.2.take p.1) + 4294967296 ^ p.1 * (val (M.drop p.1) / 2 ^ n) = val M / 2 ^ n) (0, M)
    ⟨Nat.zero_le _, hlen'.symm, hwM, fun _ _ => rfl, by simp [val]⟩ (weak_st _ _ ⟨rfl, rfl, rfl, trivial⟩ ⟨rfl, trivial⟩ rfl) ?_
  rintro ⟨i, m⟩ ⟨hi, hl, hwm, hsame, hv⟩
  dsimp only at hi hl hwm hsame hv
  refine split_intro (fun h => ?_) (fun h => ?_)
  · have hlt : i < len := by have h : (i : Int) < (len : Int) := of_decide_eq_true h; omega
    have ei : IntKind.i64.wrap ((i : Int) + 1) = ((i + 1 : Nat) : Int) := by rw [wr (by omega) (by omega)]; omega
    obtain ⟨x, hx, hx'⟩ := mget M hwM i
    obtain ⟨y, hy, hy'⟩ := mget M hwM (i + 1)
    have hmx : m.getD i 0 = (x : Int) := by rw [hsame i (Nat.le_refl _), hx]
    have hvd := val_drop_cons' M i
    have hvm := val_mod M (i + 1) (n := n) (by omega)
    rw [hx, Int.toNat_natCast] at hvd
    rw [hy, Int.toNat_natCast] at hvm
    have hst := down_step (x := x) (n := n) (by omega) (by omega) hvm
    have fin : ∀ (dg : Int), dg = (((x + 4294967296 * y) / 2 ^ n % 4294967296 : Nat) : Int) → W32 dg ∧ val ((m.set i dg).take (i + 1)) + 4294967296 ^ (i + 1) * (val (M.drop (i + 1)) / 2 ^ n) = val M / 2 ^ n := by
      rintro _ rfl
      refine ⟨⟨by omega, by omega⟩, ?_⟩
      rw [val_take_set (by omega), Int.toNat_natCast, Nat.pow_succ, Nat.mul_assoc, Nat.add_assoc, ← Nat.mul_add, hst, ← hvd, hv]
    have fdn : ∀ (z : Nat), ((z : Int)).fdiv (2 ^ (min ((n : Int)).toNat IntKind.u64.bits)) = ((z / 2 ^ n : Nat) : Int) := by
      intro z
      rw [Int.fdiv_eq_ediv_of_nonneg _ (Int.pow_nonneg (by omega)), show min ((n : Int)).toNat IntKind.u64.bits = n by show min n 64 = n; omega]
      norm_cast
    have ex : IntKind.u64.wrap (m.getD i 0) = (x : Int) := by rw [hmx, w64]; omega
    have ed : ∀ nx : Int, nx = (y : Int) → IntKind.u32.wrap ((IntKind.u64.wrap (IntKind.u64.wrap (nx * 4294967296) + IntKind.u64.wrap (m.getD i 0))).fdiv (2 ^ (min ((n : Int)).toNat IntKind.u64.bits))) = (((x + 4294967296 * y) / 2 ^ n % 4294967296 : Nat) : Int) := by
      rintro nx rfl
      rw [ex, show IntKind.u64.wrap (IntKind.u64.wrap ((y : Int) * 4294967296) + (x : Int)) = ((x + 4294967296 * y : Nat) : Int) by rw [w64, w64]; omega, fdn, w32]
      generalize (x + 4294967296 * y) / 2 ^ n = k
      omega
    have getm : ∀ j, j < len → (L ++ (m ++ R))[((off + (j : Int).toNat : Nat) : Int).toNat]? = some (m.getD j 0) := by
      intro j hj
      rw [Int.toNat_natCast, Int.toNat_natCast]
      exact mid_elem (by omega) (by omega)
    have rest : ∀ nx : Int, nx = (y : Int) → ∀ {K : Prop}, ((∃ p : Nat × List Int, (p.1 ≤ len ∧ p.2.length = len ∧ Wd p.2 ∧ (∀ j, p.1 ≤ j → p.2.getD j 0 = M.getD j 0) ∧ val (p.2.take p.1) + 4294967296 ^ p.1 * (val (M.drop p.1) / 2 ^ n) = val M / 2 ^ n) ∧ len - p.1 < len - i ∧ p.1 = i + 1 ∧ p.2 = m.set i (IntKind.u32.wrap ((IntKind.u64.wrap (IntKind.u64.wrap (nx * 4294967296) + IntKind.u64.wrap (m.getD i 0))).fdiv (2 ^ (min ((n : Int)).toNat IntKind.u64.bits))))) → K) → K := by
      intro nx hnx K hK
      obtain ⟨f1, f2⟩ := fin _ (ed nx hnx)
      refine hK ⟨(i + 1, m.set i _), ⟨hlt, by show (m.set i _).length = _; rw [List.length_set]; exact hl, hwm.set i f1.1 f1.2, fun j hj => ?_, f2⟩, by show len - (i + 1) < len - i; omega, rfl, rfl⟩
      have hj : i + 1 ≤ j := hj
      show (m.set i _).getD j 0 = _
      rw [getD_setne (by omega)]
      exact hsame j (by omega)
    refine split_intro (fun h1 => ?_) (fun h1 => ?_)
    · have h1 : IntKind.i64.wrap ((i : Int) + 1) < (len : Int) := of_decide_eq_true h1
      rw [ei] at h1
      refine side_intro (by show 0 ≤ IntKind.i64.wrap ((i : Int) + 1) ∧ IntKind.i64.wrap ((i : Int) + 1) < (len : Int); rw [ei]; omega) ?_
      refine idx_intro (m.getD (i + 1) 0) (Int.natCast_nonneg _) (by
        show (L ++ (m ++ R))[((off + (IntKind.i64.wrap ((i : Int) + 1)).toNat : Nat) : Int).toNat]? = _
        rw [ei]; exact getm (i + 1) (by omega)) ?_
      refine side_intro (by show 0 ≤ (i : Int) ∧ (i : Int) < (len : Int); omega) ?_
      refine idx_intro (m.getD i 0) (Int.natCast_nonneg _) (getm i hlt) ?_
      refine side_intro (by show (0 : Int) ≤ n; omega) ?_
      refine side_intro (by show 0 ≤ (i : Int) ∧ (i : Int) < (len : Int); omega) ?_
      have ey : IntKind.u64.wrap (m.getD (i + 1) 0) = (y : Int) := by rw [hsame (i + 1) (by omega), hy, w64]; omega
      refine rest (IntKind.u64.wrap (m.getD (i + 1) 0)) ey (fun ⟨p, h3, h4, h5, h6⟩ => ?_)
      refine ⟨p, h3, h4, ?_⟩
      refine weak_st _ _ ⟨rfl, rfl, i64_inj (by rw [h5]; exact ei), trivial⟩ ⟨?_, trivial⟩ rfl
      rw [h6]
      show some (MO.words tU32 ((L ++ (m ++ R)).set (off + ((i : Int)).toNat) _)) = _
      rw [mid_set (j := i) (by rw [Int.toNat_natCast]; omega) (by omega)]
    · have h1 : ¬ IntKind.i64.wrap ((i : Int) + 1) < (len : Int) := of_decide_eq_false h1
      rw [ei] at h1
      refine side_intro (by show 0 ≤ (i : Int) ∧ (i : Int) < (len : Int); omega) ?_
      refine idx_intro (m.getD i 0) (Int.natCast_nonneg _) (getm i hlt) ?_
      refine side_intro (by show (0 : Int) ≤ n; omega) ?_
      refine side_intro (by show 0 ≤ (i : Int) ∧ (i : Int) < (len : Int); omega) ?_
      have ey : (0 : Int) = (y : Int) := by rw [← hy, getD_ge (by omega)]
      refine rest 0 ey (fun ⟨p, h3, h4, h5, h6⟩ => ?_)
      refine ⟨p, h3, h4, ?_⟩
      refine weak_st _ _ ⟨rfl, rfl, i64_inj (by rw [h5]; exact ei), trivial⟩ ⟨?_, trivial⟩ rfl
      rw [h6]
      show some (MO.words tU32 ((L ++ (m ++ R)).set (off + ((i : Int)).toNat) _)) = _
      rw [mid_set (j := i) (by rw [Int.toNat_natCast]; omega) (by omega)]
  · have hend : i = len := by have h : ¬ (i : Int) < (len : Int) := of_decide_eq_false h; omega
    subst hend
    have hd0 : val (M.drop i) = 0 := by rw [List.drop_eq_nil_of_le (by omega)]; rfl
    rw [hd0, Nat.zero_div, Nat.mul_zero, Nat.add_zero, ← hl, List.take_length] at hv
    have hme : m = dig i (val M / 2 ^ n) := dig_eq hwm hl hv
    subst hme
    obtain ⟨v, hvd⟩ : ∃ v, v = val M / 2 ^ n := ⟨_, rfl⟩
    rw [← hvd] at hwl hwl0 hv0 ⊢
    have getm : ∀ j, j < i → (L ++ (dig i v ++ R))[((off + (j : Int).toNat : Nat) : Int).toNat]? = some ((dig i v).getD j 0) := by
      intro j hj
      rw [Int.toNat_natCast, Int.toNat_natCast]
      exact mid_elem (by omega) (by rw [dig_len]; omega)
    refine loop_intro (fun k : Nat => st [(0, .own 1000 off k)] [(1000, .words tU32 (L ++ (dig i v ++ R)))]) (fun k => k) (fun k => (toW v).length ≤ k ∧ k ≤ i) i ⟨hwl, Nat.le_refl _⟩ (weak_st _ _ ⟨rfl, trivial⟩ ⟨rfl, trivial⟩ rfl) ?_
    rintro k ⟨hk1, hk2⟩
    refine split_true (decide_eq_true (by show (k : Int) > 0; omega)) ?_
    have ek : IntKind.i64.wrap ((k : Int) - 1) = ((k - 1 : Nat) : Int) := by rw [wr (by omega) (by omega)]; omega
    refine side_intro (by show 0 ≤ IntKind.i64.wrap ((k : Int) - 1) ∧ IntKind.i64.wrap ((k : Int) - 1) < (k : Int); rw [ek]; omega) ?_
    refine idx_intro ((dig i v).getD (k - 1) 0) (Int.natCast_nonneg _) (by
      show (L ++ (dig i v ++ R))[((off + (IntKind.i64.wrap ((k : Int) - 1)).toNat : Nat) : Int).toNat]? = _
      rw [ek]; exact getm (k - 1) (by omega)) ?_
    refine split_intro (fun h1 => ?_) (fun h1 => ?_)
    · have h1 : (dig i v).getD (k - 1) 0 = 0 := eq_of_beq h1
      have hk3 : (toW v).length ≠ k := by
        intro e
        rw [← e] at h1
        exact dig_last hv0 hwl h1
      cases off with
      | zero =>
        refine side_intro (by show 0 ≤ IntKind.i64.wrap ((k : Int) - 1) ∧ IntKind.i64.wrap ((k : Int) - 1) ≤ (k : Int); rw [ek]; omega) ?_
        refine ⟨k - 1, ⟨by omega, by omega⟩, by omega, weak_st _ _ ⟨?_, trivial⟩ ⟨rfl, trivial⟩ rfl⟩
        show V.own 1000 0 (IntKind.i64.wrap ((k : Int) - 1)).toNat = _
        rw [ek, Int.toNat_natCast]
      | succ off =>
        refine side_intro (by show 0 < IntKind.i64.wrap ((k : Int) - 1) ∧ IntKind.i64.wrap ((k : Int) - 1) ≤ (k : Int); rw [ek]; omega) ?_
        refine ⟨k - 1, ⟨by omega, by omega⟩, by omega, weak_st _ _ ⟨?_, trivial⟩ ⟨rfl, trivial⟩ rfl⟩
        show V.own 1000 (off + 1) (IntKind.i64.wrap ((k : Int) - 1)).toNat = _
        rw [ek, Int.toNat_natCast]
    · have h1 : (dig i v).getD (k - 1) 0 ≠ 0 := beq_eq_false_iff_ne.1 h1
      have hk3 : k = (toW v).length := by
        refine Classical.byContradiction fun hne => h1 (dig_top (by omega) (by omega))
      refine retG_intro ?_ rfl ⟨rfl, trivial⟩ rfl
      show V.own 1000 off k = _
      rw [hk3]
end Go.Proofs.Ythefflmebkcilaa.Fw

/- The document's common divisor: odd parts, differences in place, products. -/
set_option linter.unusedVariables false
namespace Go.Proofs.Ythefflmebkcilaa.Fw
open Go Pu
theorem hAB (A B : List Int) : (A ++ B).length = A.length + B.length := List.length_append
theorem first_nz {M : List Int} (hw : Wd M) (h : val M ≠ 0) : ∃ z, z < M.length ∧ (∀ j, j < z → M.getD j 0 = 0) ∧ M.getD z 0 ≠ 0 ∧ val M = 4294967296 ^ z * val (M.drop z) := by
  induction M with
  | nil => exact absurd rfl h
  | cons x M ih =>
    by_cases hx : x = 0
    · subst hx
      have hv : val (0 :: M) = 4294967296 * val M := by simp [val]
      obtain ⟨z, h1, h2, h3, h4⟩ := ih hw.tail (by intro e; rw [hv, e] at h; exact h rfl)
      refine ⟨z + 1, by simpa using h1, fun j hj => ?_, by simpa using h3, ?_⟩
      · cases j with
        | zero => rfl
        | succ j => simpa using h2 j (by omega)
      · rw [hv, List.drop_succ_cons, Nat.pow_succ, Nat.mul_comm (4294967296 ^ z) 4294967296, Nat.mul_assoc, ← h4]
    · exact ⟨0, by simp, by intro j hj; omega, by simpa using hx, by simp⟩
theorem tz_pows {z n : Nat} (h : n ≠ 0) : tz (4294967296 ^ z * n) = 32 * z + tz n ∧ op (4294967296 ^ z * n) = op n ∧ 4294967296 ^ z * n ≠ 0 := by
  induction z with
  | zero => rw [Nat.pow_zero, Nat.one_mul]; exact ⟨by omega, rfl, h⟩
  | succ z ih =>
    obtain ⟨h1, h2, h3⟩ := ih
    rw [Nat.pow_succ, Nat.mul_comm (4294967296 ^ z), Nat.mul_assoc]
    exact ⟨by rw [tz_shift h3, h1]; omega, by rw [op_shift h3, h2], by omega⟩
theorem odd_specL {L M R : List Int} {off len : Nat} (hoff : off = L.length) (hlen' : len = M.length) (hwL : Wd L) (hwM : Wd M) (hwR : Wd R) (hlen : (L ++ (M ++ R)).length ≤ 8796093022208) (hv0 : val M ≠ 0) :
    ∃ (X' : List Int) (off' : Nat), X'.length = (L ++ (M ++ R)).length ∧ Wd X' ∧ off' + (toW (op (val M))).length ≤ X'.length ∧ (X'.drop off').take (toW (op (val M))).length = toW (op (val M)) ∧
      RunsG Try.prog g_retrospectref06_odd [.own 1000 off len] [(1000, .words tU32 (L ++ (M ++ R)))] (.tup [.own 1000 off' (toW (op (val M))).length, .d (.int .i64 (tz (val M)))]) [(1000, .words tU32 X')] := by
  have hN : (L ++ (M ++ R)).length = off + len + R.length := by simp [hoff, hlen']; omega
  obtain ⟨z, hz, hzz, hznz, hzv⟩ := first_nz hwM hv0
  obtain ⟨x, hx, hx'⟩ := mget M hwM z
  have hx0 : x ≠ 0 := by intro e; rw [hx, e] at hznz; exact hznz rfl
  have hvd := val_drop_cons' M z
  rw [hx, Int.toNat_natCast] at hvd
  have htx := tz_lt (k := 32) hx0 hx'
  have hdz : val (M.drop z) ≠ 0 := by omega
  have htz : tz (val (M.drop z)) = tz x := by rw [hvd]; exact tz_word hx0 hx'
  obtain ⟨hp1, hp2, hp3⟩ := tz_pows (z := z) hdz
  rw [← hzv, htz] at hp1
  rw [← hzv] at hp2
  have hop : val (M.drop z) / 2 ^ tz x = op (val M) := by rw [hp2]; unfold op; rw [htz]
  have hopv : op (val M) ≠ 0 := by have := op_pos hv0; omega
  have hMz : (L ++ M.take z) ++ (M.drop z ++ R) = L ++ (M ++ R) := by rw [List.append_assoc, ← List.append_assoc (M.take z), List.take_append_drop]
  have hlz : (L ++ M.take z).length = off + z := by rw [List.length_append, List.length_take, hoff]; omega
  have hdl : (M.drop z).length = len - z := by rw [List.length_drop, hlen']
  have hdown := down_spec (L := L ++ M.take z) (M := M.drop z) (R := R) (n := tz x) (off := off + z) (len := len - z) hlz.symm hdl.symm (hwM.drop z) htx (by rw [hMz]; exact hlen) (by rw [hop]; exact hopv)
  rw [hMz, hop] at hdown
  have hll : (toW (op (val M))).length ≤ len - z := by
    have h1 : op (val M) ≤ val (M.drop z) := by rw [← hop]; exact Nat.div_le_self _ _
    have h2 := nw_le h1 (nw_val (hwM.drop z) (Nat.le_refl _))
    rw [hdl] at h2
    exact h2
  refine ⟨(L ++ M.take z) ++ (dig (M.drop z).length (op (val M)) ++ R), off + z, ?_, ?_, ?_, ?_, ?_⟩
  · rw [hN, hAB (L ++ M.take z), hlz, hAB (dig _ _), dig_len, hdl]; omega
  · exact (hwL.app (hwM.take z)).app ((Wd.dig _ _).app hwR)
  · rw [hAB (L ++ M.take z), hlz, hAB (dig _ _), dig_len, hdl]; omega
  · rw [List.drop_append_of_le_length (by omega), List.drop_eq_nil_of_le (by omega), List.nil_append, dig_toW (by rw [hdl]; exact hll), List.append_assoc]
    exact List.take_left
  rw [hN] at hlen
  refine runG [] p_retrospectref06_odd rfl rfl rfl rfl (fun B S F0 w0 V0 => ?_)
  have getm : ∀ k, k ≤ z → (L ++ (M ++ R))[((off + k + (0 : Int).toNat : Nat) : Int).toNat]? = some (M.getD k 0) := by
    intro k hk
    rw [Int.toNat_natCast]
    exact mid_elem (by show off + k + 0 = L.length + k; omega) (by omega)
  refine loop_intro (fun k : Nat => st [(0, .own 1000 (off + k) (len - k)), (4, .d (.int .i64 ((32 * k : Nat) : Int)))] [(1000, .words tU32 (L ++ (M ++ R)))]) (fun k => z - k) (fun k => k ≤ z) 0 (Nat.zero_le _) (weak_st _ _ ⟨rfl, rfl, trivial⟩ ⟨rfl, trivial⟩ rfl) ?_
  intro k hk
  refine side_intro (by show 0 ≤ (0 : Int) ∧ (0 : Int) < ((len - k : Nat) : Int); omega) ?_
  refine idx_intro (M.getD k 0) (Int.natCast_nonneg _) (getm k hk) ?_
  refine split_intro (fun h => ?_) (fun h => ?_)
  · have h : M.getD k 0 = 0 := eq_of_beq h
    have hkz : k ≠ z := by intro e; rw [e] at h; exact hznz h
    refine side_intro (by show 0 ≤ (1 : Int) ∧ (1 : Int) < ((len - k : Nat) : Int); omega) ?_
    refine ⟨k + 1, by omega, by omega, weak_st _ _ ⟨?_, i64_inj ?_, trivial⟩ ⟨rfl, trivial⟩ rfl⟩
    · show V.own 1000 (off + k + (1 : Int).toNat) (len - k - (1 : Int).toNat) = V.own 1000 (off + (k + 1)) (len - (k + 1))
      have e1 : (1 : Int).toNat = 1 := rfl
      rw [e1, Nat.add_assoc, Nat.sub_sub]
    · show IntKind.i64.wrap (((32 * k : Nat) : Int) + 32) = _
      rw [wr (by omega) (by omega)]; omega
  · have h : M.getD k 0 ≠ 0 := beq_eq_false_iff_ne.1 h
    have hkz : k = z := by
      refine Classical.byContradiction fun hne => h (hzz k (by omega))
    subst hkz
    refine side_intro (by show 0 ≤ (0 : Int) ∧ (0 : Int) < ((len - k : Nat) : Int); omega) ?_
    refine idx_intro (x : Int) (Int.natCast_nonneg _) (by rw [← hx]; exact getm k hk) ?_
    refine call_intro _ (Zeros_spec hx0 hx') ?_
    refine call_row 1000 hdown rfl rfl rfl rfl rfl rfl (same_words ?_) ?_
    · rw [← hMz, hAB (L ++ M.take k), hAB (L ++ M.take k), hAB (M.drop k), hAB (dig _ _), dig_len, hdl]
    refine retG_intro ?_ rfl ⟨by rw [hdl]; rfl, trivial⟩ rfl
    show V.tup [.own 1000 (off + k) (toW (op (val M))).length, .d (.int .i64 (IntKind.i64.wrap (((32 * k : Nat) : Int) + (tz x : Int))))] = _
    rw [hp1, wr (by omega) (by omega)]
    exact congrArg (fun y => V.tup [V.own 1000 (off + k) (toW (op (val M))).length, V.d (.int .i64 y)]) (by omega)
theorem odd_spec {X : List Int} {off len v : Nat} (hw : Wd X) (hl : off + len ≤ X.length) (hX : X.length ≤ 8796093022208) (hv : val ((X.drop off).take len) = v) (hv0 : v ≠ 0) :
    ∃ (X' : List Int) (off' : Nat), X'.length = X.length ∧ Wd X' ∧ off' + (toW (op v)).length ≤ X'.length ∧ (X'.drop off').take (toW (op v)).length = toW (op v) ∧
      RunsG Try.prog g_retrospectref06_odd [.own 1000 off len] [(1000, .words tU32 X)] (.tup [.own 1000 off' (toW (op v)).length, .d (.int .i64 (tz v))]) [(1000, .words tU32 X')] := by
  have h3 := three X off len
  have hL : (X.take off).length = off := by rw [List.length_take]; omega
  have hM : ((X.drop off).take len).length = len := by rw [List.length_take, List.length_drop]; omega
  have := odd_specL (L := X.take off) (M := (X.drop off).take len) (R := X.drop (off + len)) (off := off) (len := len) hL.symm hM.symm (hw.take _) ((hw.drop _).take _) (hw.drop _) (by rw [← h3]; exact hX) (by rw [hv]; exact hv0)
  rw [← h3, hv] at this
  exact this
theorem Less_specL {L M R b : List Int} {off len : Nat} (hoff : off = L.length) (hlen' : len = M.length) (hwa : Wd M) (hwb : Wd b) (hlen : (L ++ (M ++ R)).length ≤ 8796093022208) (hlb : b.length ≤ 1099511627776) (hle : val b ≤ val M) :
    RunsG Try.prog g_retrospectref05_Less [.own 1000 off len, .d (.words b)] [(1000, .words tU32 (L ++ (M ++ R)))] (.tup []) [(1000, .words tU32 (L ++ (dig len (val M - val b) ++ R)))] := by
  have hN : (L ++ (M ++ R)).length = off + len + R.length := by simp [hoff, hlen']; omega
  rw [hN] at hlen
  refine runG [] p_retrospectref05_Less rfl rfl rfl rfl (fun B S F0 w0 V0 => ?_)
  refine loop_intro (fun p : Nat × List Int × Nat => st [(0, .own 1000 off len), (1, .d (.words b)), (4, .d (.int .u64 (p.2.2 : Int))), (5, .d (.int .i64 (p.1 : Int)))] [(1000, .words tU32 (L ++ (p.2.1 ++ R)))]) (fun p => len - p.1)
    (fun p => p.1 ≤ len ∧ p.2.1.length = len ∧ Wd p.2.1 ∧ p.2.2 ≤ 1 ∧ (∀ j, p.1 ≤ j → p.2.1.getD j 0 = M.getD j 0) ∧ val (p.2.1.take p.1) + val (b.take p.1) = val (M.take p.1) + 4294967296 ^ p.1 * (p.2.2 + 0)) (0, M, 0)
    ⟨Nat.zero_le _, hlen'.symm, hwa, Nat.zero_le _, fun _ _ => rfl, by simp [val]⟩ (weak_st _ _ ⟨rfl, rfl, rfl, rfl, trivial⟩ ⟨rfl, trivial⟩ rfl) ?_
  rintro ⟨i, m, u⟩ ⟨hi, hl, hwm, hu, hsame, hv⟩
  dsimp only at hi hl hwm hu hsame hv
  refine split_intro (fun h => ?_) (fun h => ?_)
  · have hlt : i < len := by have h : (i : Int) < (len : Int) := of_decide_eq_true h; omega
    have ei : IntKind.i64.wrap ((i : Int) + 1) = ((i + 1 : Nat) : Int) := by rw [wr (by omega) (by omega)]; omega
    obtain ⟨x, hx, hx'⟩ := mget m hwm i
    obtain ⟨y, hy, hy'⟩ := mget b hwb i
    have getm : (L ++ (m ++ R))[((off + (i : Int).toNat : Nat) : Int).toNat]? = some (m.getD i 0) := by
      rw [Int.toNat_natCast, Int.toNat_natCast]
      exact mid_elem (by omega) (by omega)
    refine side_intro (by show (0 : Int) ≤ i ∧ (i : Int) < ((len : Nat) : Int); omega) ?_
    refine idx_intro (m.getD i 0) (Int.natCast_nonneg _) getm ?_
    refine call_intro _ (rAt_spec (a := b) (i := i) hlb) ?_
    have ex : IntKind.u64.wrap (m.getD i 0) = (x : Int) := by rw [hx, w64]; omega
    have ey : IntKind.u64.wrap (IntKind.u64.wrap (b.getD i 0) + (u : Int)) = ((y + u : Nat) : Int) := by rw [hy, w64, w64]; omega
    have fin : ∀ (d w : Nat), d < 4294967296 → w ≤ 1 → d + y + u + 0 = x + 4294967296 * (w + 0) → val ((m.set i (d : Int)).take (i + 1)) + val (b.take (i + 1)) = val (M.take (i + 1)) + 4294967296 ^ (i + 1) * (w + 0) := by
      intro d w hd hw he
      rw [val_take_set (by omega), val_take_succ' (a := b), val_take_succ' (a := M), ← hsame i (Nat.le_refl _), hx, hy, Nat.pow_succ]
      simp only [Int.toNat_natCast]
      exact step_sum hv he
    have same' : ∀ d : Int, ∀ j, i + 1 ≤ j → (m.set i d).getD j 0 = M.getD j 0 := by
      intro d j hj
      rw [getD_setne (by omega)]
      exact hsame j (by omega)
    refine split_intro (fun h1 => ?_) (fun h1 => ?_)
    · have h1 : IntKind.u64.wrap (m.getD i 0) < IntKind.u64.wrap (IntKind.u64.wrap (b.getD i 0) + (u : Int)) := of_decide_eq_true h1
      refine side_intro (by show (0 : Int) ≤ i ∧ (i : Int) < ((len : Nat) : Int); omega) ?_
      have ed : IntKind.u32.wrap (IntKind.u64.wrap (IntKind.u64.wrap (IntKind.u64.wrap (m.getD i 0) + 4294967296) - IntKind.u64.wrap (IntKind.u64.wrap (b.getD i 0) + (u : Int)))) = ((x + 4294967296 - (y + u) : Nat) : Int) := by
        rw [ex, ey, w64 ((x : Int) + 4294967296), w64, w32]; omega
      refine ⟨(i + 1, m.set i ((x + 4294967296 - (y + u) : Nat) : Int), 1), ⟨hlt, by show (m.set i _).length = _; rw [List.length_set]; exact hl, hwm.set i (by omega) (by omega), Nat.le_refl _, same' _, fin _ 1 (by omega) (Nat.le_refl _) (by omega)⟩, by show len - (i + 1) < len - i; omega, ?_⟩
      refine weak_st _ _ ⟨rfl, rfl, rfl, i64_inj ei, trivial⟩ ⟨?_, trivial⟩ rfl
      show some (MO.words tU32 ((L ++ (m ++ R)).set (off + ((i : Int)).toNat) (IntKind.u32.wrap (IntKind.u64.wrap (IntKind.u64.wrap (IntKind.u64.wrap (m.getD i 0) + 4294967296) - IntKind.u64.wrap (IntKind.u64.wrap (b.getD i 0) + (u : Int))))))) = _
      rw [ed, mid_set (j := i) (by rw [Int.toNat_natCast]; omega) (by omega)]
    · have h1 : ¬ IntKind.u64.wrap (m.getD i 0) < IntKind.u64.wrap (IntKind.u64.wrap (b.getD i 0) + (u : Int)) := of_decide_eq_false h1
      refine side_intro (by show (0 : Int) ≤ i ∧ (i : Int) < ((len : Nat) : Int); omega) ?_
      have ed : IntKind.u32.wrap (IntKind.u64.wrap (IntKind.u64.wrap (m.getD i 0) - IntKind.u64.wrap (IntKind.u64.wrap (b.getD i 0) + (u : Int)))) = ((x - (y + u) : Nat) : Int) := by
        rw [ex, ey, w64, w32]; omega
      refine ⟨(i + 1, m.set i ((x - (y + u) : Nat) : Int), 0), ⟨hlt, by show (m.set i _).length = _; rw [List.length_set]; exact hl, hwm.set i (by omega) (by omega), Nat.zero_le _, same' _, fin _ 0 (by omega) (Nat.zero_le _) (by omega)⟩, by show len - (i + 1) < len - i; omega, ?_⟩
      refine weak_st _ _ ⟨rfl, rfl, rfl, i64_inj ei, trivial⟩ ⟨?_, trivial⟩ rfl
      show some (MO.words tU32 ((L ++ (m ++ R)).set (off + ((i : Int)).toNat) (IntKind.u32.wrap (IntKind.u64.wrap (IntKind.u64.wrap (m.getD i 0) - IntKind.u64.wrap (IntKind.u64.wrap (b.getD i 0) + (u : Int))))))) = _
      rw [ed, mid_set (j := i) (by rw [Int.toNat_natCast]; omega) (by omega)]
  · have hend : i = len := by have h : ¬ (i : Int) < (len : Int) := of_decide_eq_false h; omega
    refine retG_intro rfl rfl ⟨?_, trivial⟩ rfl
    show some (MO.words tU32 (L ++ (m ++ R))) = _
    have h2 := val_lt hwm
    have h3 := val_lt hwa
    rw [hl] at h2
    rw [← hlen'] at h3
    rw [hend, ← hl, List.take_length, hl, hlen', List.take_length, ← hlen'] at hv
    have hbt : val (b.take len) = val b := by
      by_cases hj : len ≤ b.length
      · have h4 := val_drop_zero (a := b) (i := len) hj (by omega)
        rw [val_take_drop b len hj, h4, Nat.mul_zero, Nat.add_zero]
      · rw [val_take_ge (by omega)]
    rw [hbt, Nat.add_zero] at hv
    generalize 4294967296 ^ len = q at hv h2 h3
    have hu0 : u = 0 := by
      have : u = 0 ∨ u = 1 := by omega
      rcases this with h | h
      · exact h
      · subst h; omega
    subst hu0
    rw [dig_eq (n := len) (v := val M - val b) hwm hl (by omega)]
theorem LessX_spec {X b : List Int} {off len v : Nat} (hw : Wd X) (hl : off + len ≤ X.length) (hX : X.length ≤ 8796093022208) (hv : val ((X.drop off).take len) = v) (hwb : Wd b) (hlb : b.length ≤ 1099511627776) (hle : val b ≤ v) :
    ∃ X' : List Int, X.length = X'.length ∧ Wd X' ∧ val ((X'.drop off).take len) = v - val b ∧ RunsG Try.prog g_retrospectref05_Less [.own 1000 off len, .d (.words b)] [(1000, .words tU32 X)] (.tup []) [(1000, .words tU32 X')] := by
  have h3 := three X off len
  have hL : (X.take off).length = off := by rw [List.length_take]; omega
  have hM : ((X.drop off).take len).length = len := by rw [List.length_take, List.length_drop]; omega
  have := Less_specL (L := X.take off) (M := (X.drop off).take len) (R := X.drop (off + len)) (b := b) (off := off) (len := len) hL.symm hM.symm ((hw.drop _).take _) hwb (by rw [← h3]; exact hX) hlb (by rw [hv]; exact hle)
  rw [← h3, hv] at this
  refine ⟨_, ?_, ?_, ?_, this⟩
  · rw [List.length_append, List.length_append, hL, dig_len, List.length_drop]; omega
  · exact (hw.take _).app ((Wd.dig _ _).app (hw.drop _))
  · rw [List.drop_append_of_le_length (by omega), List.drop_eq_nil_of_le (by omega), List.nil_append, List.take_append_of_le_length (by rw [dig_len]; omega), List.take_of_length_le (by rw [dig_len]; omega), val_dig_lt]
    have h4 := val_lt ((hw.drop off).take len)
    rw [hM, hv] at h4
    omega
end Go.Proofs.Ythefflmebkcilaa.Fw

/- The document's products, common divisors and multiples. -/
set_option linter.unusedVariables false
namespace Go.Proofs.Ythefflmebkcilaa.Fw
open Go Pu
theorem u64mul {x y m c : Nat} (hx : x < 4294967296) (hy : y < 4294967296) (hm : m < 4294967296) (hc : c < 4294967296) :
    IntKind.u64.wrap ((c : Int) + IntKind.u64.wrap (IntKind.u64.wrap (IntKind.u64.wrap (x : Int) * IntKind.u64.wrap (y : Int)) + IntKind.u64.wrap (m : Int))) = ((x * y + m + c : Nat) : Int) := by
  have h1 : x * y ≤ 4294967295 * 4294967295 := Nat.mul_le_mul (by omega) (by omega)
  have e : ∀ z : Nat, z < 18446744073709551616 → IntKind.u64.wrap (z : Int) = (z : Int) := fun z hz => by rw [w64]; omega
  rw [e x (by omega), e y (by omega), e m (by omega), show (x : Int) * (y : Int) = ((x * y : Nat) : Int) from (Int.natCast_mul x y).symm]
  generalize x * y = p at h1 ⊢
  rw [e p (by omega), show (p : Int) + (m : Int) = ((p + m : Nat) : Int) by omega, e (p + m) (by omega), show (c : Int) + ((p + m : Nat) : Int) = ((p + m + c : Nat) : Int) by omega, e _ (by omega)]
set_option maxHeartbeats 2000000 in
theorem rMul_specG {a b : List Int} (hwa : Wd a) (hwb : Wd b) (ha : a.length ≤ 274877906944) (hb : b.length ≤ 274877906944) : RunsG Try.prog g_retrospectref04_Mul [.d (.words a), .d (.words b)] [] (.own 67 0 (toW (val a * val b)).length) [(67, .words tU32 (toW (val a * val b)))] := by
  refine runG [67] p_retrospectref04_Mul rfl rfl rfl rfl (fun B S F0 w0 V0 => ?_)
  have e1 : IntKind.i64.wrap ((a.length : Int) + (b.length : Int)) = ((a.length + b.length : Nat) : Int) := by rw [wr (by omega) (by omega)]; omega
  refine opp_make hT rfl rfl (Nat.le_of_ble_eq_true rfl) (e := tU32) rfl rfl (Nat.le_of_ble_eq_true rfl) (fun _ => rfl) (k := .i64) (k' := .i64) (n := ((a.length + b.length : Nat) : Int)) (i64_inj e1) (i64_inj e1) rfl (by omega) ?_ ?_ ?_
  · show 4 * ((a.length + b.length : Nat) : Int).toNat ≤ _
    omega
  · unfold maxLen; omega
  rw [Int.toNat_natCast]
  refine loop_intro (fun p : Nat × List Int => st [(0, .d (.words a)), (1, .d (.words b)), (5, .own 14 0 (a.length + b.length)), (6, .d (.int .i64 (p.1 : Int)))] [(14, .words tU32 p.2)]) (fun p => a.length - p.1)
    (fun p => p.1 ≤ a.length ∧ p.2.length = a.length + b.length ∧ Wd p.2 ∧ val p.2 = val (a.take p.1) * val b) (0, List.replicate (a.length + b.length) 0)
    ⟨Nat.zero_le _, by simp, Wd.zeros _, by simp only [val_zeros]; simp [val]⟩ (weak_st _ _ ⟨rfl, rfl, rfl, rfl, trivial⟩ ⟨rfl, trivial⟩ rfl) ?_
  rintro ⟨i, out⟩ ⟨hi, hl, hwo, hv⟩
  dsimp only at hi hl hwo hv
  refine split_intro (fun h => ?_) (fun h => ?_)
  · have hlt : i < a.length := by have h : (i : Int) < a.length := of_decide_eq_true h; omega
    have ei : IntKind.i64.wrap ((i : Int) + 1) = ((i + 1 : Nat) : Int) := by rw [wr (by omega) (by omega)]; omega
    obtain ⟨x, hx, hx'⟩ := mget a hwa i
    have hsp := three out i (b.length + 1)
    have hL : (out.take i).length = i := by rw [List.length_take]; omega
    have hMl : ((out.drop i).take (b.length + 1)).length = b.length + 1 := by rw [List.length_take, List.length_drop]; omega
    have hval := val_lt (hwa.take i)
    have hbt : (a.take i).length = i := by rw [List.length_take]; omega
    rw [hbt] at hval
    have hva := val_lt hwb
    have hout : val out < 4294967296 ^ (i + b.length) := by
      rw [hv, Nat.pow_add]
      exact Nat.mul_lt_mul'' hval hva
    have hz := val_drop_zero (i := i + b.length) (by omega) hout
    have hz2 : val (out.drop (i + (b.length + 1))) = 0 := by
      have h2 : val (out.drop (i + b.length)) = _ := val_take_drop (out.drop (i + b.length)) 1 (by rw [List.length_drop]; omega)
      rw [hz, List.drop_drop, Nat.add_assoc] at h2
      have : 4294967296 ^ 1 * val (out.drop (i + (b.length + 1))) = 0 := by omega
      omega
    have hmid : val (out.drop i) = val ((out.drop i).take b.length) := by
      have h2 := val_take_drop (out.drop i) b.length (by rw [List.length_drop]; omega)
      rw [List.drop_drop, hz] at h2
      omega
    obtain ⟨L, hLd⟩ : ∃ L, L = out.take i := ⟨_, rfl⟩
    obtain ⟨M, hMd⟩ : ∃ M, M = (out.drop i).take (b.length + 1) := ⟨_, rfl⟩
    obtain ⟨R, hRd⟩ : ∃ R, R = out.drop (i + (b.length + 1)) := ⟨_, rfl⟩
    rw [← hLd, ← hMd, ← hRd] at hsp
    rw [← hLd] at hL
    rw [← hMd] at hMl
    rw [← hRd] at hz2
    have hwM : Wd M := by rw [hMd]; exact (hwo.drop i).take _
    have hwL : Wd L := by rw [hLd]; exact hwo.take i
    have hwR : Wd R := by rw [hRd]; exact hwo.drop _
    have htt : val (M.take b.length) = val (out.drop i) := by rw [hMd, List.take_take, Nat.min_eq_left (by omega), ← hmid]
    have hoi : val out = val L + 4294967296 ^ i * val (out.drop i) := by rw [hLd]; exact val_take_drop out i (by omega)
    have hN : a.length + b.length = i + (b.length + 1) + R.length := by rw [← hl, hsp, hAB L, hAB M, hL, hMl]; omega
    refine loop_intro (fun p : Nat × List Int × Nat => st [(0, .d (.words a)), (1, .d (.words b)), (5, .own 14 0 (a.length + b.length)), (6, .d (.int .i64 (i : Int))), (7, .d (.int .u64 (p.2.2 : Int))), (8, .d (.int .i64 (p.1 : Int)))] [(14, .words tU32 (L ++ (p.2.1 ++ R)))]) (fun p => b.length - p.1)
      (fun p => p.1 ≤ b.length ∧ p.2.1.length = b.length + 1 ∧ Wd p.2.1 ∧ p.2.2 < 4294967296 ∧ (∀ j, p.1 ≤ j → p.2.1.getD j 0 = M.getD j 0) ∧ val (p.2.1.take p.1) + 4294967296 ^ p.1 * p.2.2 = x * val (b.take p.1) + val (M.take p.1) + 0) (0, M, 0)
      ⟨Nat.zero_le _, hMl, hwM, by show 0 < 4294967296; omega, fun _ _ => rfl, by simp [val]⟩ (weak_st _ _ ⟨rfl, rfl, rfl, rfl, rfl, rfl, trivial⟩ ⟨congrArg (fun z => some (MO.words tU32 z)) hsp, trivial⟩ rfl) ?_
    rintro ⟨k, m, c⟩ ⟨hk, hml, hwm, hc, hsame, hkv⟩
    dsimp only at hk hml hwm hc hsame hkv
    have getm : ∀ j, j < b.length + 1 → ∀ z : Int, z = ((i + j : Nat) : Int) → (L ++ (m ++ R))[((0 + z.toNat : Nat) : Int).toNat]? = some (m.getD j 0) := by
      rintro j hj z rfl
      rw [Int.toNat_natCast, Int.toNat_natCast, Nat.zero_add]
      exact mid_elem (by omega) (by omega)
    refine split_intro (fun h1 => ?_) (fun h1 => ?_)
    · have hlk : k < b.length := by have h1 : (k : Int) < b.length := of_decide_eq_true h1; omega
      have ek : IntKind.i64.wrap ((k : Int) + 1) = ((k + 1 : Nat) : Int) := by rw [wr (by omega) (by omega)]; omega
      have eik : IntKind.i64.wrap ((i : Int) + (k : Int)) = ((i + k : Nat) : Int) := by rw [wr (by omega) (by omega)]; omega
      obtain ⟨y, hy, hy'⟩ := mget b hwb k
      obtain ⟨u, hu, hu'⟩ := mget m hwm k
      have eu := u64mul hx' hy' hu' hc
      rw [← hx, ← hy, ← hu] at eu
      have hlt2 : x * y + u + c < 18446744073709551616 := by
        have h1 : x * y ≤ 4294967295 * 4294967295 := Nat.mul_le_mul (by omega) (by omega)
        generalize x * y = p at h1 ⊢
        omega
      obtain ⟨q, hq⟩ : ∃ q, q = x * y + u + c := ⟨_, rfl⟩
      rw [← hq] at eu hlt2
      refine side_intro rfl ?_
      refine idx_w i rfl hlt ?_
      refine idx_w k rfl hlk ?_
      refine side_intro (by show 0 ≤ IntKind.i64.wrap ((i : Int) + (k : Int)) ∧ IntKind.i64.wrap ((i : Int) + (k : Int)) < ((a.length + b.length : Nat) : Int); omega) ?_
      refine idx_intro (m.getD k 0) (Int.natCast_nonneg _) (getm k (by omega) _ eik) ?_
      refine side_intro (by show (4294967296 : Int) ≠ 0; omega) ?_
      refine side_intro (by show 0 ≤ IntKind.i64.wrap ((i : Int) + (k : Int)) ∧ IntKind.i64.wrap ((i : Int) + (k : Int)) < ((a.length + b.length : Nat) : Int); omega) ?_
      refine side_intro (by show (4294967296 : Int) ≠ 0; omega) ?_
      refine ⟨(k + 1, m.set k ((q % 4294967296 : Nat) : Int), q / 4294967296), ⟨hlk, by show (m.set k _).length = _; rw [List.length_set]; exact hml, hwm.set k (by omega) (by omega), by show q / 4294967296 < 4294967296; omega, fun j hj => ?_, ?_⟩, by show b.length - (k + 1) < b.length - k; omega, ?_⟩
      · have hj : k + 1 ≤ j := hj
        show (m.set k _).getD j 0 = _
        rw [getD_setne (by omega)]
        exact hsame j (by omega)
      · show val ((m.set k _).take (k + 1)) + 4294967296 ^ (k + 1) * _ = _
        rw [val_take_set (by omega), val_take_succ' (a := b), val_take_succ' (a := M), ← hsame k (Nat.le_refl _), hy, hu, Nat.pow_succ]
        have hrs := row_step (A := val (m.take k)) (q := 4294967296 ^ k) (C := val (b.take k)) (D := val (M.take k)) (K := 0) (x := (x : Int)) (y := (y : Int)) (m := (u : Int)) (c := (c : Int)) (by omega) (by omega) (by omega) (by omega) (by rw [Int.toNat_natCast, Int.toNat_natCast]; exact hkv)
        have e4 : (x : Int) * (y : Int) + (u : Int) + (c : Int) = (q : Int) := by rw [hq, Int.natCast_add, Int.natCast_add, Int.natCast_mul]
        rw [e4] at hrs
        have e5 : ((q : Int) % 4294967296).toNat = q % 4294967296 := by omega
        have e6 : ((q : Int) / 4294967296).toNat = q / 4294967296 := by omega
        rw [e5, e6] at hrs
        simp only [Int.toNat_natCast] at hrs ⊢
        exact hrs
      · refine weak_st _ _ ⟨rfl, rfl, rfl, rfl, u64_inj ?_, i64_inj ek, trivial⟩ ⟨?_, trivial⟩ rfl
        · show IntKind.u64.wrap ((IntKind.u64.wrap ((c : Int) + IntKind.u64.wrap (IntKind.u64.wrap (IntKind.u64.wrap (a.getD i 0) * IntKind.u64.wrap (b.getD k 0)) + IntKind.u64.wrap (m.getD k 0)))).tdiv 4294967296) = ((q / 4294967296 : Nat) : Int)
          rw [eu, Int.tdiv_eq_ediv_of_nonneg (by omega), w64]; omega
        · show some (MO.words tU32 ((L ++ (m ++ R)).set (0 + (IntKind.i64.wrap ((i : Int) + (k : Int))).toNat) (IntKind.u32.wrap ((IntKind.u64.wrap ((c : Int) + IntKind.u64.wrap (IntKind.u64.wrap (IntKind.u64.wrap (a.getD i 0) * IntKind.u64.wrap (b.getD k 0)) + IntKind.u64.wrap (m.getD k 0)))).tmod 4294967296)))) = _
          rw [eu, Int.tmod_eq_emod_of_nonneg (by omega), w32, mid_set (j := k) (by rw [eik]; omega) (by omega)]
          have e7 : ((q : Int) % 4294967296) % 4294967296 = ((q % 4294967296 : Nat) : Int) := by omega
          rw [e7]
    · have hend : k = b.length := by have h1 : ¬ (k : Int) < b.length := of_decide_eq_false h1; omega
      subst hend
      have eib : IntKind.i64.wrap ((i : Int) + (b.length : Int)) = ((i + b.length : Nat) : Int) := by rw [wr (by omega) (by omega)]; omega
      refine side_intro (by show 0 ≤ IntKind.i64.wrap ((i : Int) + (b.length : Int)) ∧ IntKind.i64.wrap ((i : Int) + (b.length : Int)) < ((a.length + b.length : Nat) : Int); omega) ?_
      have ec : IntKind.u32.wrap (c : Int) = (c : Int) := by rw [w32]; omega
      have hwm' : Wd (m.set b.length (c : Int)) := hwm.set _ (by omega) (by omega)
      have hvm : val (m.set b.length (c : Int)) = x * val b + val (out.drop i) := by
        rw [val_set_last (by omega), Int.toNat_natCast, hkv, List.take_length, htt, Nat.add_zero]
      refine ⟨(i + 1, L ++ (m.set b.length (c : Int) ++ R)), ⟨hlt, ?_, hwL.app (hwm'.app hwR), ?_⟩, by show a.length - (i + 1) < a.length - i; omega, ?_⟩
      · show (L ++ (m.set b.length (c : Int) ++ R)).length = _
        rw [hAB L, hAB (m.set _ _), List.length_set, hL, hml]; omega
      · show val (L ++ (m.set b.length (c : Int) ++ R)) = val (a.take (i + 1)) * val b
        rw [val_parts, hz2, Nat.mul_zero, Nat.add_zero, hvm, hL, val_take_succ hlt, hx, Int.toNat_natCast, Nat.add_mul, ← hv, hoi, Nat.mul_add, Nat.mul_assoc]
        omega
      · refine weak_st _ _ ⟨rfl, rfl, rfl, i64_inj ei, trivial⟩ ⟨?_, trivial⟩ rfl
        show some (MO.words tU32 ((L ++ (m ++ R)).set (0 + (IntKind.i64.wrap ((i : Int) + (b.length : Int))).toNat) (IntKind.u32.wrap (c : Int)))) = _
        rw [ec, mid_set (j := b.length) (by rw [eib]; omega) (by omega)]
  · have hend : i = a.length := by have h : ¬ (i : Int) < a.length := of_decide_eq_false h; omega
    rw [hend, List.take_length] at hv
    refine opp_weak _ (weak_freeze (i := 14) (m := .words tU32 out) (Nat.le_of_ble_eq_true rfl) rfl) ?_
    have hn := rNorm_specG (a := out) hwo (by omega)
    rw [hv] at hn
    refine call_new 67 hn rfl rfl rfl rfl rfl ?_ rfl ?_
    · show [snapM (.words tU32 out) 0 (a.length + b.length)] = _
      rw [snap_all tU32 _ hl.symm]
    exact retG_intro rfl rfl ⟨rfl, trivial⟩ rfl
theorem rMul_spec {a b : List Int} (hwa : Wd a) (hwb : Wd b) (ha : a.length ≤ 274877906944) (hb : b.length ≤ 274877906944) : Runs Try.prog g_retrospectref04_Mul [.d (.words a), .d (.words b)] (.d (.words (toW (val a * val b)))) := by
  have := runs_of_G (rMul_specG hwa hwb ha hb) rfl rfl
  have e : snapR [(67, MO.words tU32 (toW (val a * val b)))] (.own 67 0 (toW (val a * val b)).length) = .d (.words (toW (val a * val b))) := snap_all tU32 _ rfl
  rw [e] at this
  exact this
end Go.Proofs.Ythefflmebkcilaa.Fw

/- The document's common divisors and multiples. -/
set_option linter.unusedVariables false
namespace Go.Proofs.Ythefflmebkcilaa.Fw
open Go Pu
theorem double_spec {a : List Int} {t : Nat} (hwa : Wd a) (ha : a.length ≤ 68719476736) (ht : t ≤ 2199023255552) : Runs Try.prog g_retrospectref06_double [.d (.words a), .d (.int .i64 (t : Int))] (.d (.words (toW (2 ^ t * val a)))) := by
  refine run1 [] p_retrospectref06_double rfl rfl (fun B S F0 w0 V0 => ?_)
  have e1 : IntKind.i64.wrap (((t : Int)).tdiv 32) = ((t / 32 : Nat) : Int) := by rw [Int.tdiv_eq_ediv_of_nonneg (by omega), wr (by omega) (by omega)]; omega
  have e2 : ((t : Int)).tmod 32 = ((t % 32 : Nat) : Int) := by rw [Int.tmod_eq_emod_of_nonneg (by omega)]; omega
  refine side_intro (by show (32 : Int) ≠ 0; omega) ?_
  refine opp_make hT rfl rfl (Nat.le_of_ble_eq_true rfl) (e := tU32) rfl rfl (Nat.le_of_ble_eq_true rfl) (fun _ => rfl) (k := .i64) (k' := .i64) (n := ((t / 32 : Nat) : Int)) (i64_inj e1) (i64_inj e1) rfl (by omega) ?_ ?_ ?_
  · show 4 * ((t / 32 : Nat) : Int).toNat ≤ _
    omega
  · unfold maxLen; omega
  rw [Int.toNat_natCast]
  have hzl : (List.replicate (t / 32) (0 : Int)).length = t / 32 := List.length_replicate ..
  refine opp_append_own hT (e := tU32) (i := 8) (j := 10) (obj := .words tU32 (List.replicate (t / 32) 0)) (obj2 := .words tU32 (List.replicate (t / 32) 0 ++ a)) (n := t / 32) (m := a.length) (fl := (List.replicate (t / 32) (0 : Int)).map wd) (fl2 := a.map wd) rfl rfl rfl rfl rfl rfl ?_ rfl rfl ?_ (Nat.le_of_ble_eq_true rfl) (Nat.le_of_ble_eq_true rfl) (.inr rfl) ?_ ?_ ?_
  · show some (tU32, 1, (List.replicate (t / 32) (0 : Int)).length, _) = _
    rw [hzl]; rfl
  · rw [List.length_map]; show a.length = a.length * 1; omega
  · show some (tU32, 1, (List.replicate (t / 32) 0 ++ a).length, (List.replicate (t / 32) 0 ++ a).map wd) = _
    rw [hAB, List.map_append, hzl]; rfl
  · show (t / 32 + a.length) * (4 + 1) ≤ _
    omega
  refine side_intro (by show (32 : Int) ≠ 0; omega) ?_
  refine side_intro (by show 0 ≤ ((t : Int)).tmod 32; rw [e2]; omega) ?_
  have hr32 : t % 32 < 32 := Nat.mod_lt _ (by omega)
  have hp31 : 2 ^ (t % 32) ≤ 2 ^ 31 := Nat.pow_le_pow_right (by omega) (by omega)
  have hp0 : 0 < 2 ^ (t % 32) := Nat.two_pow_pos _
  have es : IntKind.u32.wrap (1 * 2 ^ (min (((t : Int)).tmod 32).toNat IntKind.u32.bits)) = ((2 ^ (t % 32) : Nat) : Int) := by
    rw [e2, Int.toNat_natCast, show min (t % 32) IntKind.u32.bits = t % 32 by show min (t % 32) 32 = _; omega, Int.one_mul, show (2 : Int) ^ (t % 32) = ((2 ^ (t % 32) : Nat) : Int) by rw [Int.natCast_pow]; rfl, w32]
    generalize 2 ^ (t % 32) = z at hp31
    omega
  have hwz : Wd (List.replicate (t / 32) 0 ++ a) := (Wd.zeros _).app hwa
  have hm := rMul_spec (a := List.replicate (t / 32) 0 ++ a) (b := [((2 ^ (t % 32) : Nat) : Int)]) hwz (Wd.cons (by omega) (by generalize 2 ^ (t % 32) = z at hp31; omega) Wd.nil) (by rw [hAB, hzl]; omega) (by show 1 ≤ _; omega)
  have ev : val (List.replicate (t / 32) 0 ++ a) * val [((2 ^ (t % 32) : Nat) : Int)] = 2 ^ t * val a := by
    have h1 : val [((2 ^ (t % 32) : Nat) : Int)] = 2 ^ (t % 32) := by show (((2 ^ (t % 32) : Nat) : Int)).toNat + 4294967296 * 0 = _; rw [Int.toNat_natCast]; omega
    rw [val_app, val_zeros, hzl, Nat.zero_add, h1, Nat.mul_right_comm, ← pow_split, Nat.div_add_mod]
  rw [ev] at hm
  refine opp_frz 10 (.words tU32 (List.replicate (t / 32) 0 ++ a)) rfl (Nat.le_of_ble_eq_true rfl) rfl ?_
  refine call_intro (.d (.words (toW (2 ^ t * val a)))) ?_ ?_
  · rw [← snap_all tU32 (List.replicate (t / 32) 0 ++ a) (n := t / 32 + a.length) (by rw [hAB, hzl]), ← es] at hm
    exact hm
  exact ret_intro rfl rfl
theorem rOne_spec {n : Nat} : Runs Try.prog g_retrospectref06_One [.d (.words (toW n))] (.d (.bool (decide (n = 1)))) := by
  refine run1 [] p_retrospectref06_One rfl rfl (fun B S F0 w0 V0 => ?_)
  refine split_intro (fun h1 => ?_) (fun h1 => ?_)
  · have h1 : ((toW n).length : Int) = 1 := eq_of_beq h1
    refine idx_w 0 rfl (by omega) ?_
    refine ret_intro (b_inj ?_) rfl
    show ((toW n).getD 0 0 == 1) = _
    by_cases hn : n = 1
    · rw [decide_eq_true hn]; exact beq_iff_eq.2 (toW_is_one.2 hn).2
    · rw [decide_eq_false hn]; exact beq_eq_false_iff_ne.2 (fun e => hn (toW_is_one.1 ⟨by omega, e⟩))
  · have h1 : ((toW n).length : Int) ≠ 1 := beq_eq_false_iff_ne.1 h1
    refine ret_intro (b_inj ?_) rfl
    rw [decide_eq_false (fun e => by have := (toW_is_one.2 e).1; omega)]
theorem rOver_spec {a : List Int} {g : Nat} (hwa : Wd a) (ha : a.length ≤ 137438953472) (hg : (toW g).length ≤ 137438953472) (h0 : g ≠ 0) : Runs Try.prog g_retrospectref06_Over [.d (.words a), .d (.words (toW g))] (.d (.words (toW (val a / g)))) := by
  refine run1 [] p_retrospectref06_Over rfl rfl (fun B S F0 w0 V0 => ?_)
  refine call_intro _ rOne_spec ?_
  refine split_intro (fun h1 => ?_) (fun h1 => ?_)
  · have h1 : g = 1 := of_decide_eq_true h1
    rw [h1, Nat.div_one]
    refine call_intro _ (rNorm_spec hwa (by omega)) ?_
    exact ret_intro rfl rfl
  · have hd := rDiv_spec (b := toW g) hwa (Wd.toW _) ha hg (by rw [val_toW]; exact h0)
    rw [val_toW] at hd
    refine call_intro _ hd ?_
    exact ret_intro rfl rfl
theorem minI (m n : Nat) : (if (n : Int) < (m : Int) then (n : Int) else (m : Int)) = ((min m n : Nat) : Int) := by
  split <;> omega
def gst (sw : Bool) (X Y : List Int) (o1 A o2 B m n : Nat) : St :=
  bif sw then st [(5, .own 14 o1 (toW A).length), (6, .own 12 o2 (toW B).length), (7, .d (.int .i64 (m : Int))), (8, .d (.int .i64 (n : Int)))] [(14, .words tU32 X), (12, .words tU32 Y)]
  else st [(5, .own 12 o1 (toW A).length), (6, .own 14 o2 (toW B).length), (7, .d (.int .i64 (m : Int))), (8, .d (.int .i64 (n : Int)))] [(12, .words tU32 X), (14, .words tU32 Y)]
structure GI (X Y : List Int) (o1 A o2 B G : Nat) : Prop where
  wx : Wd X
  wy : Wd Y
  lx : o1 + (toW A).length ≤ X.length
  ly : o2 + (toW B).length ≤ Y.length
  bx : X.length ≤ 68719476736
  bY : Y.length ≤ 68719476736
  vx : (X.drop o1).take (toW A).length = toW A
  vy : (Y.drop o2).take (toW B).length = toW B
  ox : A % 2 = 1
  oy : B % 2 = 1
  g : Nat.gcd A B = G
theorem GI.next {X Y X1 X2 : List Int} {o1 A o2 B G o' : Nat} (h : GI X Y o1 A o2 B G) (hlt : B < A) (h1 : X.length = X1.length) (h2 : X2.length = X1.length) (hw : Wd X2) (h3 : o' + (toW (op (A - B))).length ≤ X2.length) (h4 : (X2.drop o').take (toW (op (A - B))).length = toW (op (A - B))) : GI X2 Y o' (op (A - B)) o2 B G := by
  have h0 : A - B ≠ 0 := by omega
  exact ⟨hw, h.wy, h3, h.ly, by have := h.bx; omega, h.bY, h4, h.vy, (op_eq h0).2, h.oy, by rw [gcd_op h.oy h0, gcd_less (by omega), h.g]⟩
theorem GI.swap {X Y : List Int} {o1 A o2 B G : Nat} (h : GI X Y o1 A o2 B G) : GI Y X o2 B o1 A G := ⟨h.wy, h.wx, h.ly, h.lx, h.bY, h.bx, h.vy, h.vx, h.oy, h.ox, by rw [Nat.gcd_comm]; exact h.g⟩
set_option maxHeartbeats 2000000 in
theorem rGcd_spec {a b : List Int} (hwa : Wd a) (hwb : Wd b) (ha : a.length ≤ 68719476736) (hb : b.length ≤ 68719476736) : Runs Try.prog g_retrospectref06_Gcd [.d (.words a), .d (.words b)] (.d (.words (toW (Nat.gcd (val a) (val b))))) := by
  refine run1 [12, 14] p_retrospectref06_Gcd rfl rfl (fun B S F0 w0 V0 => ?_)
  refine call_new 12 (rNorm_specG hwa (by omega)) rfl rfl rfl rfl rfl rfl rfl ?_
  refine call_new 14 (rNorm_specG hwb (by omega)) rfl rfl rfl rfl rfl rfl rfl ?_
  have la := nw_val hwa ha
  have lb := nw_val hwb hb
  obtain ⟨E, hE⟩ : ∃ E, E = 2199023255552 := ⟨_, rfl⟩
  have ba : val a < 2 ^ E := Nat.lt_of_lt_of_le (val_lt_bits hwa) (Nat.pow_le_pow_right (by omega) (by omega))
  clear hwa hwb ha hb
  obtain ⟨va, hva⟩ : ∃ va, va = val a := ⟨_, rfl⟩
  obtain ⟨vb, hvb⟩ : ∃ vb, vb = val b := ⟨_, rfl⟩
  rw [← hva] at la ba ⊢
  rw [← hvb] at lb ⊢
  clear hva hvb
  refine split_intro (fun h => ?_) (fun h => ?_)
  · have h : ((toW va).length : Int) = 0 := eq_of_beq h
    have h0 : va = 0 := toW_len_zero.1 (by omega)
    rw [h0, Nat.gcd_zero_left]
    exact ret_intro (snap_all tU32 _ rfl) rfl
  have h : ((toW va).length : Int) ≠ 0 := beq_eq_false_iff_ne.1 h
  have a0 : va ≠ 0 := by intro e; have := toW_len_zero.2 e; omega
  refine split_intro (fun h' => ?_) (fun h' => ?_)
  · have h' : ((toW vb).length : Int) = 0 := eq_of_beq h'
    have h0 : vb = 0 := toW_len_zero.1 (by omega)
    rw [h0, Nat.gcd_zero_right]
    exact ret_intro (snap_all tU32 _ rfl) rfl
  have h' : ((toW vb).length : Int) ≠ 0 := beq_eq_false_iff_ne.1 h'
  have b0 : vb ≠ 0 := by intro e; have := toW_len_zero.2 e; omega
  obtain ⟨X, o1, x1, x2, x3, x4, hox⟩ := odd_spec (X := toW va) (off := 0) (len := (toW va).length) (v := va) (Wd.toW _) (by omega) (by omega) (by rw [List.drop_zero, List.take_length, val_toW]) a0
  obtain ⟨Y, o2, y1, y2, y3, y4, hoy⟩ := odd_spec (X := toW vb) (off := 0) (len := (toW vb).length) (v := vb) (Wd.toW _) (by omega) (by omega) (by rw [List.drop_zero, List.take_length, val_toW]) b0
  refine call_row 12 hox rfl rfl rfl rfl rfl rfl (same_words x1.symm) ?_
  refine call_row 14 hoy rfl rfl rfl rfl rfl rfl (same_words y1.symm) ?_
  have htz : tz va < E := tz_lt a0 ba
  have hgb := gcd_both a0 b0
  refine loop_intro (fun p : Bool × (List Int × Nat × Nat) × (List Int × Nat × Nat) => gst p.1 p.2.1.1 p.2.2.1 p.2.1.2.1 p.2.1.2.2 p.2.2.2.1 p.2.2.2.2 (tz va) (tz vb)) (fun p => p.2.1.2.2 + p.2.2.2.2) (fun p => GI p.2.1.1 p.2.2.1 p.2.1.2.1 p.2.1.2.2 p.2.2.2.1 p.2.2.2.2 (Nat.gcd (op va) (op vb))) (false, (X, o1, op va), (Y, o2, op vb))
    ⟨x2, y2, x3, y3, by show X.length ≤ _; omega, by show Y.length ≤ _; omega, x4, y4, (op_eq a0).2, (op_eq b0).2, rfl⟩ (weak_st _ _ ⟨rfl, rfl, rfl, rfl, trivial⟩ ⟨rfl, rfl, trivial⟩ rfl) ?_
  clear hox hoy x1 x2 x3 x4 y1 y2 y3 y4 X Y o1 o2
  rintro ⟨sw, ⟨X, o1, A⟩, ⟨Y, o2, C⟩⟩ hI
  have hI : GI X Y o1 A o2 C (Nat.gcd (op va) (op vb)) := hI
  have lx := hI.lx
  have ly := hI.ly
  have bx := hI.bx
  have bY := hI.bY
  have hcm := rCmp_spec (a := toW A) (b := toW C) (Wd.toW _) (Wd.toW _) (by omega) (by omega)
  rw [val_toW, val_toW] at hcm
  have hox := hI.ox
  have hoy := hI.oy
  have hxs : ∀ k, k = (toW A).length → snapM (.words tU32 X) o1 k = .d (.words (toW A)) := by
    intro k hk
    show V.d (.words ((X.drop o1).take k)) = _
    rw [hk, hI.vx]
  have hys : ∀ k, k = (toW C).length → snapM (.words tU32 Y) o2 k = .d (.words (toW C)) := by
    intro k hk
    show V.d (.words ((Y.drop o2).take k)) = _
    rw [hk, hI.vy]
  cases sw
  · refine opp_callR (T := TB) hcm rfl rfl rfl (by show [snapM (.words tU32 X) o1 (toW A).length, snapM (.words tU32 Y) o2 (toW C).length] = _; rw [hxs _ rfl, hys _ rfl]) rfl rfl ?_
    refine split_intro (fun h => ?_) (fun h => ?_)
    · have h : cmpI A C = 0 := eq_of_beq h
      have hAC : A = C := cmpI_eq.1 h
      have hg := hI.g
      rw [← hAC, Nat.gcd_self] at hg
      rw [hgb, ← hg]
      have hdb := double_spec (a := toW A) (t := min (tz va) (tz vb)) (Wd.toW _) (by omega) (by omega)
      rw [val_toW, ← minI, ← hxs _ rfl] at hdb
      refine opp_frz 12 (.words tU32 X) rfl (Nat.le_of_ble_eq_true rfl) rfl ?_
      refine call_intro _ hdb ?_
      exact ret_intro rfl rfl
    have h : cmpI A C ≠ 0 := beq_eq_false_iff_ne.1 h
    have hne : A ≠ C := fun e => h (cmpI_eq.2 e)
    refine split_intro (fun h1 => ?_) (fun h1 => ?_)
    · have h1 : cmpI A C < 0 := of_decide_eq_true h1
      have hlt : A < C := cmpI_lt.1 h1
      obtain ⟨Y1, q1, q2, q3, hls⟩ := LessX_spec (X := Y) (b := toW A) (off := o2) (len := (toW C).length) (v := C) hI.wy hI.ly (by omega) (by rw [hI.vy, val_toW]) (Wd.toW _) (by omega) (by rw [val_toW]; omega)
      rw [val_toW] at q3
      obtain ⟨Y2, o', r1, r2, r3, r4, hod⟩ := odd_spec (X := Y1) (off := o2) (len := (toW C).length) (v := C - A) q2 (by omega) (by omega) q3 (by omega)
      refine opp_call_mut_read (T := TB) (i := 14) (j := 12) (by decide) hls rfl rfl rfl rfl rfl rfl hI.vx q1 ?_
      refine call_row 14 hod rfl rfl rfl rfl rfl rfl (same_words r1.symm) ?_
      exact ⟨(true, (Y2, o', op (C - A)), (X, o1, A)), hI.swap.next hlt q1 r1 r2 r3 r4, by have := op_le (C - A); show op (C - A) + A < A + C; omega, weak_st _ _ ⟨rfl, rfl, rfl, rfl, trivial⟩ ⟨rfl, rfl, trivial⟩ rfl⟩
    · have h1 : ¬ cmpI A C < 0 := of_decide_eq_false h1
      have hlt : C < A := by
        have := mt cmpI_lt.2 h1
        omega
      obtain ⟨X1, q1, q2, q3, hls⟩ := LessX_spec (X := X) (b := toW C) (off := o1) (len := (toW A).length) (v := A) hI.wx hI.lx (by omega) (by rw [hI.vx, val_toW]) (Wd.toW _) (by omega) (by rw [val_toW]; omega)
      rw [val_toW] at q3
      obtain ⟨X2, o', r1, r2, r3, r4, hod⟩ := odd_spec (X := X1) (off := o1) (len := (toW A).length) (v := A - C) q2 (by omega) (by omega) q3 (by omega)
      refine opp_call_mut_read (T := TB) (i := 12) (j := 14) (by decide) hls rfl rfl rfl rfl rfl rfl hI.vy q1 ?_
      refine call_row 12 hod rfl rfl rfl rfl rfl rfl (same_words r1.symm) ?_
      exact ⟨(false, (X2, o', op (A - C)), (Y, o2, C)), hI.next hlt q1 r1 r2 r3 r4, by have := op_le (A - C); show op (A - C) + C < A + C; omega, weak_st _ _ ⟨rfl, rfl, rfl, rfl, trivial⟩ ⟨rfl, rfl, trivial⟩ rfl⟩
  · refine opp_callR (T := TB) hcm rfl rfl rfl (by show [snapM (.words tU32 X) o1 (toW A).length, snapM (.words tU32 Y) o2 (toW C).length] = _; rw [hxs _ rfl, hys _ rfl]) rfl rfl ?_
    refine split_intro (fun h => ?_) (fun h => ?_)
    · have h : cmpI A C = 0 := eq_of_beq h
      have hAC : A = C := cmpI_eq.1 h
      have hg := hI.g
      rw [← hAC, Nat.gcd_self] at hg
      rw [hgb, ← hg]
      have hdb := double_spec (a := toW A) (t := min (tz va) (tz vb)) (Wd.toW _) (by omega) (by omega)
      rw [val_toW, ← minI, ← hxs _ rfl] at hdb
      refine opp_frz 14 (.words tU32 X) rfl (Nat.le_of_ble_eq_true rfl) rfl ?_
      refine call_intro _ hdb ?_
      exact ret_intro rfl rfl
    have h : cmpI A C ≠ 0 := beq_eq_false_iff_ne.1 h
    have hne : A ≠ C := fun e => h (cmpI_eq.2 e)
    refine split_intro (fun h1 => ?_) (fun h1 => ?_)
    · have h1 : cmpI A C < 0 := of_decide_eq_true h1
      have hlt : A < C := cmpI_lt.1 h1
      obtain ⟨Y1, q1, q2, q3, hls⟩ := LessX_spec (X := Y) (b := toW A) (off := o2) (len := (toW C).length) (v := C) hI.wy hI.ly (by omega) (by rw [hI.vy, val_toW]) (Wd.toW _) (by omega) (by rw [val_toW]; omega)
      rw [val_toW] at q3
      obtain ⟨Y2, o', r1, r2, r3, r4, hod⟩ := odd_spec (X := Y1) (off := o2) (len := (toW C).length) (v := C - A) q2 (by omega) (by omega) q3 (by omega)
      refine opp_call_mut_read (T := TB) (i := 12) (j := 14) (by decide) hls rfl rfl rfl rfl rfl rfl hI.vx q1 ?_
      refine call_row 12 hod rfl rfl rfl rfl rfl rfl (same_words r1.symm) ?_
      exact ⟨(false, (Y2, o', op (C - A)), (X, o1, A)), hI.swap.next hlt q1 r1 r2 r3 r4, by have := op_le (C - A); show op (C - A) + A < A + C; omega, weak_st _ _ ⟨rfl, rfl, rfl, rfl, trivial⟩ ⟨rfl, rfl, trivial⟩ rfl⟩
    · have h1 : ¬ cmpI A C < 0 := of_decide_eq_false h1
      have hlt : C < A := by
        have := mt cmpI_lt.2 h1
        omega
      obtain ⟨X1, q1, q2, q3, hls⟩ := LessX_spec (X := X) (b := toW C) (off := o1) (len := (toW A).length) (v := A) hI.wx hI.lx (by omega) (by rw [hI.vx, val_toW]) (Wd.toW _) (by omega) (by rw [val_toW]; omega)
      rw [val_toW] at q3
      obtain ⟨X2, o', r1, r2, r3, r4, hod⟩ := odd_spec (X := X1) (off := o1) (len := (toW A).length) (v := A - C) q2 (by omega) (by omega) q3 (by omega)
      refine opp_call_mut_read (T := TB) (i := 14) (j := 12) (by decide) hls rfl rfl rfl rfl rfl rfl hI.vy q1 ?_
      refine call_row 14 hod rfl rfl rfl rfl rfl rfl (same_words r1.symm) ?_
      exact ⟨(true, (X2, o', op (A - C)), (Y, o2, C)), hI.next hlt q1 r1 r2 r3 r4, by have := op_le (A - C); show op (A - C) + C < A + C; omega, weak_st _ _ ⟨rfl, rfl, rfl, rfl, trivial⟩ ⟨rfl, rfl, trivial⟩ rfl⟩
end Go.Proofs.Ythefflmebkcilaa.Fw

/- Quotients without a rest, common multiples: what only the statements of numbers reach. -/
set_option linter.unusedVariables false
namespace Go.Proofs.Ythefflmebkcilaa.Fw
open Go Pu
theorem Exact_spec {a b : List Int} (hwa : Wd a) (hwb : Wd b) (ha : a.length ≤ 137438953472) (hb : b.length ≤ 137438953472) : Runs Try.prog g_quot_Exact [.d (.words a), .d (.words b)] (if val b ≠ 0 ∧ val a % val b = 0 then .tup [.d (.words (toW (val a / val b))), .d (.bool true)] else .tup [.d (.words []), .d (.bool false)]) := by
  refine run1 [] p_quot_Exact rfl rfl (fun B S F0 w0 V0 => ?_)
  by_cases h0 : val b = 0
  · rw [if_neg (fun h => h.1 h0)]
    refine call_intro _ (Div_zero hwb (by omega) h0) ?_
    refine split_true rfl ?_
    refine split_true rfl ?_
    refine split_true rfl ?_
    exact ret_intro rfl rfl
  · refine call_intro _ (Div_spec hwa hwb ha (by omega) h0) ?_
    refine split_false rfl ?_
    have hql : (toW (val a / val b)).length ≤ a.length := Nat.le_trans (toW_len_mono (Nat.div_le_self _ _)) (toW_len_val_le hwa)
    have hrl : (toW (val a % val b)).length ≤ a.length := Nat.le_trans (toW_len_mono (Nat.mod_le _ _)) (toW_len_val_le hwa)
    refine call_intro _ (Zero_spec (Wd.toW _) (by omega)) ?_
    rw [val_toW]
    by_cases hr : val a % val b = 0
    · rw [if_pos ⟨h0, hr⟩]
      refine split_false (by show (!decide (val a % val b = 0)) = false; rw [decide_eq_true hr]; rfl) ?_
      have hm := Mul_spec (Wd.toW (val a / val b)) hwb (by omega) (by omega)
      rw [val_toW, Nat.div_mul_cancel (Nat.dvd_of_mod_eq_zero hr)] at hm
      refine call_intro _ hm ?_
      refine call_intro _ (Cmp_spec (Wd.toW (val a)) hwa (by have := toW_len_val_le hwa; omega) (by omega)) ?_
      rw [val_toW]
      refine split_false (by show (cmpI (val a) (val a) != 0) = false; rw [cmpI_eq.2 rfl]; rfl) ?_
      exact ret_intro rfl rfl
    · rw [if_neg (fun h => hr h.2)]
      refine split_true (by show (!decide (val a % val b = 0)) = true; rw [decide_eq_false hr]; rfl) ?_
      refine split_true rfl ?_
      exact ret_intro rfl rfl
theorem Prime_spec {a b : List Int} (hwa : Wd a) (hwb : Wd b) (ha : a.length ≤ 137438953472) (hb : b.length ≤ 137438953472) : Runs Try.prog g_common_Prime [.d (.words a), .d (.words b)] (.d (.bool (decide (Nat.gcd (val a) (val b) = 1)))) := by
  refine run1 [] p_common_Prime rfl rfl (fun B S F0 w0 V0 => ?_)
  refine call_intro _ (Gcd_spec hwa hwb ha hb) ?_
  have hl : (toW (Nat.gcd (val a) (val b))).length ≤ 137438953472 := by
    rcases Nat.eq_zero_or_pos (val a) with h | h
    · rw [h, Nat.gcd_zero_left]; exact nw_val hwb hb
    · exact nw_le (Nat.le_of_dvd h (Nat.gcd_dvd_left _ _)) (nw_val hwa ha)
  refine call_intro _ (one_spec (by omega)) ?_
  exact ret_intro rfl rfl
theorem Lcm_spec {a b : List Int} (hwa : Wd a) (hwb : Wd b) (ha : a.length ≤ 137438953472) (hb : b.length ≤ 137438953472) :
    Runs Try.prog g_common_Lcm [.d (.words a), .d (.words b)] (.d (.words (toW (val a / Nat.gcd (val a) (val b) * val b)))) := by
  refine run1 [] p_common_Lcm rfl rfl (fun B S F0 w0 V0 => ?_)
  refine call_intro _ (Cancel_spec hwa hwb ha hb) ?_
  have hm := Mul_spec (a := toW (val a / Nat.gcd (val a) (val b))) (Wd.toW _) hwb (by have := nw_le (Nat.div_le_self (val a) (Nat.gcd (val a) (val b))) (nw_val hwa ha); omega) (by omega)
  rw [val_toW] at hm
  refine call_intro _ hm ?_
  exact ret_intro rfl rfl
theorem rLcm_spec {a b : List Int} (hwa : Wd a) (hwb : Wd b) (ha : a.length ≤ 68719476736) (hb : b.length ≤ 68719476736) : Runs Try.prog g_retrospectref06_Lcm [.d (.words a), .d (.words b)] (.d (.words (toW (val a / Nat.gcd (val a) (val b) * val b)))) := by
  refine run1 [] p_retrospectref06_Lcm rfl rfl (fun B S F0 w0 V0 => ?_)
  refine call_intro _ (rGcd_spec hwa hwb ha hb) ?_
  have lg := nw_gcd (nw_val hwa ha) (nw_val hwb hb)
  obtain ⟨g, hg⟩ : ∃ g, g = Nat.gcd (val a) (val b) := ⟨_, rfl⟩
  rw [← hg] at lg ⊢
  refine split_intro (fun h => ?_) (fun h => ?_)
  · have h : ((toW g).length : Int) = 0 := eq_of_beq h
    have h0 : g = 0 := toW_len_zero.1 (by omega)
    rw [h0, Nat.div_zero, Nat.zero_mul]
    exact ret_intro rfl rfl
  have h : ((toW g).length : Int) ≠ 0 := beq_eq_false_iff_ne.1 h
  have h0 : g ≠ 0 := by intro e; have := toW_len_zero.2 e; omega
  refine call_intro _ (rOver_spec hwa (by omega) (by omega) h0) ?_
  have hm := rMul_spec (a := toW (val a / g)) (b := b) (Wd.toW _) hwb (by have := nw_le (Nat.div_le_self (val a) g) (nw_val hwa ha); omega) (by omega)
  rw [val_toW] at hm
  refine call_intro _ hm ?_
  exact ret_intro rfl rfl
end Go.Proofs.Ythefflmebkcilaa.Fw

/- The law QuotDivides, walked. -/
set_option linter.unusedVariables false
namespace Go.Proofs.Ythefflmebkcilaa.Fw
open Go Pu
theorem toW_one {n : Nat} (h0 : n ≠ 0) (h : n < 4294967296) : toW n = [(n : Int)] := by
  rw [toW_pos h0, Nat.div_eq_of_lt h, toW_zero, Nat.mod_eq_of_lt h]
theorem same_true {a b : List Int} (h : a = b) (ha : a.length ≤ 1099511627776) : Runs Try.prog g_retrospectref02_Same [.d (.words a), .d (.words b)] (.d (.bool true)) := by
  have := rSame_spec (a := a) (b := b) ha
  rw [decide_eq_true h] at this
  exact this
theorem works05 : Runs Try.prog g_retrospectlaw05_works [] (.d (.bool true)) := by
  refine run1 [] p_retrospectlaw05_works rfl rfl (fun B S F0 w0 V0 => ?_)
  have o7 : toW (7 : Int).toNat = [7] := toW_one (n := 7) (by omega) (by omega)
  have o2 : toW (2 : Int).toNat = [2] := toW_one (n := 2) (by omega) (by omega)
  have o6 : toW (6 : Int).toNat = [6] := toW_one (n := 6) (by omega) (by omega)
  have o3 : toW (3 : Int).toNat = [3] := toW_one (n := 3) (by omega) (by omega)
  have w1 : ∀ x : Int, 0 ≤ x → x < 4294967296 → Wd [x] := fun x h0 h1 => Wd.cons h0 h1 Wd.nil
  have hd := Div_spec (a := [7]) (b := [2]) (w1 7 (by omega) (by omega)) (w1 2 (by omega) (by omega)) (by decide) (by decide) (by decide)
  have e1 : toW (val [7] / val [2]) = [3] := toW_one (n := 3) (by omega) (by omega)
  have e2 : toW (val [7] % val [2]) = [1] := toW_one (n := 1) (by omega) (by omega)
  have hx := Exact_spec (a := [6]) (b := [3]) (w1 6 (by omega) (by omega)) (w1 3 (by omega) (by omega)) (by decide) (by decide)
  have e3 : toW (val [6] / val [3]) = [2] := toW_one (n := 2) (by omega) (by omega)
  rw [if_pos ⟨by decide, by decide⟩, e3] at hx
  rw [e1, e2] at hd
  refine call_intro (.d (.words [7])) (by rw [← o7]; exact Of_spec (by omega) (by omega)) ?_
  refine call_intro (.d (.words [2])) (by rw [← o2]; exact Of_spec (by omega) (by omega)) ?_
  refine call_intro _ hd ?_
  refine call_intro (.d (.words [6])) (by rw [← o6]; exact Of_spec (by omega) (by omega)) ?_
  refine call_intro (.d (.words [3])) (by rw [← o3]; exact Of_spec (by omega) (by omega)) ?_
  refine call_intro _ hx ?_
  refine call_intro _ (same_true rfl (by decide)) ?_
  refine split_true rfl ?_
  refine call_intro _ (same_true rfl (by decide)) ?_
  refine split_true rfl ?_
  refine split_true rfl ?_
  refine call_intro _ (same_true rfl (by decide)) ?_
  refine split_true rfl ?_
  exact ret_intro rfl rfl
theorem QuotDivides_runs {a b : List Int} (hwa : Wd a) (hwb : Wd b) (ha : a.length ≤ 9223372036854775807) (hb : b.length ≤ 9223372036854775807) : Runs Try.prog g_retrospectlaw05_QuotDivides [.d (.words a), .d (.words b)] (.d (.bool true)) := by
  refine run1 [] p_retrospectlaw05_QuotDivides rfl rfl (fun B S F0 w0 V0 => ?_)
  refine split_intro (fun h => ?_) (fun h => ?_)
  · refine split_true rfl ?_
    refine call_intro _ works05 ?_
    exact ret_intro rfl rfl
  have h : ¬ (a.length : Int) > 40 := of_decide_eq_false h
  refine split_intro (fun h' => ?_) (fun h' => ?_)
  · refine call_intro _ works05 ?_
    exact ret_intro rfl rfl
  have h' : ¬ (b.length : Int) > 40 := of_decide_eq_false h'
  have hx := Exact_spec hwa hwb (by omega) (by omega)
  by_cases h0 : val b = 0
  · rw [if_neg (fun hh => hh.1 h0)] at hx
    refine call_intro _ (Div_zero hwb (by omega) h0) ?_
    refine call_intro _ hx ?_
    refine call_intro _ (rNorm_spec hwb (by omega)) ?_
    rw [h0, toW_zero]
    refine split_true rfl ?_
    refine split_true rfl ?_
    refine split_true rfl ?_
    refine split_true rfl ?_
    refine split_true rfl ?_
    refine split_true rfl ?_
    refine call_intro _ works05 ?_
    exact ret_intro rfl rfl
  · refine call_intro _ (Div_spec hwa hwb (by omega) (by omega) h0) ?_
    have hq : (toW (val a / val b)).length ≤ a.length := Nat.le_trans (toW_len_mono (Nat.div_le_self _ _)) (toW_len_val_le hwa)
    have hr : (toW (val a % val b)).length ≤ a.length := Nat.le_trans (toW_len_mono (Nat.mod_le _ _)) (toW_len_val_le hwa)
    by_cases hz : val a % val b = 0
    · rw [if_pos ⟨h0, hz⟩] at hx
      refine call_intro _ hx ?_
      refine call_intro _ (rNorm_spec hwb (by omega)) ?_
      refine split_false (beq_eq_false_iff_ne.2 (by have := toW_len_zero (n := val b); show ((toW (val b)).length : Int) ≠ 0; omega)) ?_
      refine call_intro _ (rDiv_spec hwa hwb (by omega) (by omega) h0) ?_
      refine call_intro _ (same_true rfl (by omega)) ?_
      refine split_false rfl ?_
      refine call_intro _ (same_true rfl (by omega)) ?_
      refine split_false rfl ?_
      refine split_false rfl ?_
      rw [hz, toW_zero]
      refine split_false rfl ?_
      refine split_true rfl ?_
      refine call_intro _ (same_true rfl (by omega)) ?_
      refine split_true rfl ?_
      refine split_true rfl ?_
      refine call_intro _ works05 ?_
      exact ret_intro rfl rfl
    · rw [if_neg (fun hh => hz hh.2)] at hx
      refine call_intro _ hx ?_
      refine call_intro _ (rNorm_spec hwb (by omega)) ?_
      refine split_false (beq_eq_false_iff_ne.2 (by have := toW_len_zero (n := val b); show ((toW (val b)).length : Int) ≠ 0; omega)) ?_
      refine call_intro _ (rDiv_spec hwa hwb (by omega) (by omega) h0) ?_
      refine call_intro _ (same_true rfl (by omega)) ?_
      refine split_false rfl ?_
      refine call_intro _ (same_true rfl (by omega)) ?_
      refine split_false rfl ?_
      refine split_false rfl ?_
      have hl0 : (((toW (val a % val b)).length : Int) == 0) = false := beq_eq_false_iff_ne.2 (by have := toW_len_zero (n := val a % val b); omega)
      refine split_false (by show (!(false == (((toW (val a % val b)).length : Int) == 0))) = false; rw [hl0]; rfl) ?_
      refine split_false rfl ?_
      refine split_false rfl ?_
      refine split_true rfl ?_
      refine split_true rfl ?_
      refine call_intro _ works05 ?_
      exact ret_intro rfl rfl
end Go.Proofs.Ythefflmebkcilaa.Fw

/- append of a made row of zeros to a row of the call's own. -/
set_option linter.unusedVariables false
set_option linter.unusedSimpArgs false
namespace Go.Proofs.Ythefflmebkcilaa.Fw
open Go
section
variable {P : Program} {w : World}
theorem zeros_run {t tn e : TypeId} (ty : TypeId) {i : TypeInfo} {z : Value} {size : Nat} (ht : P.underlying t = some (.slice e)) (htn : P.underlying tn = some (.int .i64)) (hi : P.info? e = some i) (hz : i.zero = some z) (hsize : i.size = size) (hzs : z.cells.size = size) (hsz : 0 < size)
    {v : Value} {n : Nat} {xs : List Value} (hown : w.ownsRow 0 e size v n xs) (m : Nat) (h1 : ∀ u ∈ (Builtin.zeroCells z.cells m).toList, u.oneCell' = true)
    (h63 : n + m ≤ maxLen) (hbytes : (n + m) * i.bytes ≤ 140737488355328) :
    ∃ v' w', (Builtin.append_ #[t, tn] ty #[v, .int .i64 (m : Int)]).run P w = .ok v' w' ∧ w'.ownsRow 0 e size v' (n + m) (xs ++ (Builtin.zeroCells z.cells m).toList) ∧ w.grownBy w' v.ownBlock ∧ (∀ b, blk v' = some b → w.heap.size ≤ b ∨ blk v = some b) := by
  subst hsize
  have hsmall : n + m ≤ 9223372036854775807 := by simp only [maxLen] at h63; omega
  have hl : (Builtin.zeroCells z.cells m).toList.length = m * i.size := by rw [Array.length_toList, size_zeroCells, hzs]
  have hlen : (xs ++ (Builtin.zeroCells z.cells m).toList).length = (n + m) * i.size := by rw [List.length_append, hown.1, hl, Nat.add_mul]
  have hw : IntKind.i64.wrap (m : Int) = m := by rw [IntKind.wrap_i64]; omega
  have hneg : ¬ ((m : Int) < 0) := by omega
  have h48i : ¬ (281474976710656 < (m : Int) * (i.bytes : Int)) := by
    have h2 : m * i.bytes ≤ (n + m) * i.bytes := Nat.mul_le_mul_right _ (by omega)
    have h3 : ((m * i.bytes : Nat) : Int) ≤ 281474976710656 := by omega
    rw [Int.natCast_mul] at h3
    omega
  have grown : ∀ (old : Nat), old < n + m → ∀ (row : Option Nat),
      (w.drew.alloc (.cells (xs.toArray ++ Builtin.zeroCells z.cells m ++ Builtin.zeroCells z.cells (grownCap w (n + m) old e - (n + m))) e)).ownsRow 0 e i.size
        (.slice (some ⟨w.heap.size, 0, none⟩) (n + m) (grownCap w (n + m) old e)) (n + m) (xs ++ (Builtin.zeroCells z.cells m).toList) ∧
      w.grownBy (w.drew.alloc (.cells (xs.toArray ++ Builtin.zeroCells z.cells m ++ Builtin.zeroCells z.cells (grownCap w (n + m) old e - (n + m))) e)) row := by
    intro old ho row
    have hge := grownCap_ge w (n + m) old e
    have hcm : grownCap w (n + m) old e ≤ maxLen := grownCap_le_maxLen w (n + m) old e h63
    refine ⟨⟨hlen, .inr ⟨w.heap.size, _, _, rfl, Nat.zero_le _, heap_alloc_new w.drew _, hge, hcm, ?_, ?_⟩⟩, ⟨rfl, rfl, rfl, by simp, fun k hk _ => heap_alloc_old w.drew _ k hk⟩⟩
    · simp only [Array.size_append, List.size_toArray, size_zeroCells, hzs, hown.1, ← Nat.add_mul]
      congr 1
      omega
    · simp only [Array.toList_append, List.append_assoc]
      rw [← List.append_assoc, ← hlen]
      exact List.take_left
  rcases hown.2 with ⟨rfl, rfl⟩ | ⟨g, cap, cur, rfl, hbg, hg, hnc, hcm, hcs, htake⟩
  · have hx : xs = [] := List.eq_nil_of_length_eq_zero (by simpa using hown.1)
    subst hx
    by_cases hm : m = 0
    · subst hm
      have hnil : (Builtin.zeroCells z.cells 0).toList = [] := List.eq_nil_of_length_eq_zero (by rw [hl]; omega)
      refine ⟨.slice none 0 0, w, ?_, by rw [hnil]; exact World.ownsRow_nil w 0 e i.size, ⟨rfl, rfl, rfl, Nat.le_refl _, fun _ _ _ => rfl⟩, fun b hb => .inr hb⟩
      simp [Builtin.append_, run_underlying ht, run_underlying htn, sizeOf, typeInfo, hi, asInt, asIntOf, hw, Builtin.lenOf, Builtin.firstCells, IntKind.wrap_i64]
    · have hr := Go.Lib.run_append_nil_zeros (P := P) w t tn ty e i z .i64 .i64 ht htn hi hz m (by omega) hsz (by omega) (by have hb := hbytes; simp only [Nat.zero_add] at hb; omega)
      have hgr := grown 0 (by omega) (Value.ownBlock (.slice none 0 0))
      simp only [Nat.zero_add, List.nil_append, Array.empty_append] at hgr ⊢
      refine ⟨_, _, hr, hgr.1, hgr.2, fun b hb => .inl ?_⟩
      simp only [blk, Option.some.injEq] at hb
      omega
  · by_cases hroom : n + m ≤ cap
    · have hfit : n * i.size + (Builtin.zeroCells z.cells m).toList.length ≤ cur.size := by rw [hl, hcs, ← Nat.add_mul]; exact Nat.mul_le_mul_right _ hroom
      have hst := run_storeCells_at P g (n * i.size) e (Builtin.zeroCells z.cells m).toList 0 cur w hg (by simpa using hfit) h1
      simp only [Nat.add_zero] at hst
      have hr : (Builtin.append_ #[t, tn] ty #[.slice (some ⟨g, 0, none⟩) n cap, .int .i64 (m : Int)]).run P w =
          .ok (.slice (some ⟨g, 0, none⟩) (n + m) cap) (w.setRow g (cur.toList.take (n * i.size) ++ (Builtin.zeroCells z.cells m).toList ++ cur.toList.drop (n * i.size + (Builtin.zeroCells z.cells m).toList.length)).toArray) := by
        rcases Nat.eq_zero_or_pos (m * i.size) with h0 | h0
        · have he : Builtin.zeroCells z.cells m = #[] := by
            apply Array.eq_empty_of_size_eq_zero
            rw [size_zeroCells, hzs, h0]
          rw [he] at hst ⊢
          simp at hst
          simp [Builtin.append_, run_underlying ht, run_underlying htn, sizeOf, typeInfo, hi, asInt, asIntOf, hw, hneg, h48i, hroom, Addr.add_lit, h0, hst]
        · have h0 : ¬ (m * i.size = 0) := by omega
          simp [Builtin.append_, run_underlying ht, run_underlying htn, sizeOf, typeInfo, zeroValue, hi, hz, asInt, asIntOf, hw, hneg, h48i, hroom, Addr.add_lit, h0, hst]
      refine ⟨_, _, hr, ⟨hlen, .inr ⟨g, cap, _, rfl, hbg, setRow_heap w g cur _ e _ hg, hroom, hcm, ?_, ?_⟩⟩, ⟨rfl, rfl, rfl, by simp, fun k _ hk => setRow_other w g k _ (fun e => hk (by simp [Value.ownBlock, e]))⟩, fun b hb => .inr hb⟩
      · simp only [List.size_toArray, List.length_append, List.length_take, List.length_drop, Array.length_toList] at hfit ⊢
        omega
      · rw [htake, ← hlen]
        exact List.take_left
    · have holds : ∀ (j : Nat) u, xs[j]? = some u → w.cell? ((⟨g, 0, none⟩ : Addr).add j) = some u := hown.cells (g := g) rfl
      have hn : ¬ (n + m ≤ cap) := hroom
      have h63' : ¬ (9223372036854775807 < ((n : Int) + (m : Int))) := by omega
      have h48' : ¬ (281474976710656 < Builtin.nextslicecap (n + m) cap * i.bytes) := by
        have := growslice_fits (old := cap) (need := n + m) (bytes := i.bytes) (by omega) hbytes
        omega
      have hfo := run_firstCells_some (P := P) w.drew i.size n ⟨g, 0, none⟩ n cap xs hown.1 (by simpa using holds)
      have hm0 : ¬ (m * i.size = 0) := by
        have : 0 < m * i.size := Nat.mul_pos (by omega) hsz
        omega
      have hr : (Builtin.append_ #[t, tn] ty #[.slice (some ⟨g, 0, none⟩) n cap, .int .i64 (m : Int)]).run P w =
          .ok (.slice (some ⟨w.heap.size, 0, none⟩) (n + m) (grownCap w (n + m) cap e)) (w.drew.alloc (.cells (xs.toArray ++ Builtin.zeroCells z.cells m ++ Builtin.zeroCells z.cells (grownCap w (n + m) cap e - (n + m))) e)) := by
        simp [Builtin.append_, run_underlying ht, run_underlying htn, sizeOf, typeInfo, zeroValue, hi, hz, asInt, asIntOf, hw, hneg, h48i, hn, h63', h48', hfo, hm0, Question.forced, newRow, grownCap]
      have hgr := grown cap (by omega) (Value.ownBlock (.slice (some ⟨g, 0, none⟩) n cap))
      refine ⟨_, _, hr, hgr.1, hgr.2, fun b hb => .inl ?_⟩
      simp only [blk, Option.some.injEq] at hb
      omega
end
section
variable {P : Program} {T : TT} {w : World} {c : Ctx} {s : St} {o : Oper}
theorem opp_append_zeros (hT : TAll P T) {K : St → Prop} {x y : Operand} {t tn e : TypeId} {i j len n m : Nat} {fl : List D} {obj obj2 : MO} (ho : o.op = .call ⟨.builtin .append, #[x, y], #[t, tn]⟩) (hd : dstOk c.N o = true) (ht : (T t).k = .sl e) (htn : (T tn).k = .int .i64) (he : (T e).k.ok = true)
    (hx : s.ev x = .own i 0 len) (hm : s.mem i = some obj) (hr : obj.row? = some (e, (T e).sz, n, fl)) (hlen : len = n) (hy : s.ev y = .d (.int .i64 (m : Int))) (hiN : i < c.N) (hjN : j < c.N) (hj : j = i ∨ s.mem j = none)
    (hr2 : obj2.row? = some (e, (T e).sz, n + m, fl ++ (List.replicate m (T e).zero).flatten)) (hb : (n + m) * ((T e).bytes + 1) ≤ 140737488355328)
    (hK : K (((drop1 i s).upd j obj2).put o.dst (.own j 0 (n + m)))) : OpP P c o s K := by
  unfold OpP
  rintro Q a w ⟨F, ν, h⟩
  have hxr := ev_rep h x
  have hyr := ev_rep h y
  rw [hx] at hxr
  have hv := own_zero h hm hr hlen hxr
  obtain ⟨cs, hz0, how, ha⟩ := row_inv h hm hr
  rw [hy] at hyr
  have hye : a.eval y = .int .i64 (m : Int) := RepL.int_inv hyr
  obtain ⟨d2, hu2, hf2⟩ := und_of hT htn rfl
  simp only [TK.fits] at hf2
  subst hf2
  obtain ⟨dd, hu, hf⟩ := und_of hT ht rfl
  simp only [TK.fits] at hf
  subst hf
  obtain ⟨h1, h2, h3, h4⟩ := hT e he
  obtain ⟨ti, z, hi, hisz, hib, hzz, hc⟩ := h1.all
  have hmul : (n + m) * ((T e).bytes + 1) = (n + m) * (T e).bytes + (n + m) := by rw [Nat.mul_add, Nat.mul_one]
  have hcs : (Builtin.zeroCells z.cells m).toList = (List.replicate m ((T e).zero.map zval)).flatten := by
    have h5 : Builtin.zeroCells z.cells m = madeCells z.cells (m * z.cells.size) := rfl
    rw [h5, hc, List.size_toArray, List.length_map, h3]
    exact madeCells_eq _ _ _ (by simp [h3]) hz0
  have hna : AllR (RepL w F) (List.replicate m (T e).zero).flatten (Builtin.zeroCells z.cells m).toList := by
    rw [hcs]
    have : ∀ m : Nat, AllR (RepL w F) (List.replicate m (T e).zero).flatten (List.replicate m ((T e).zero.map zval)).flatten := by
      intro m
      induction m with
      | zero => exact AllR.nil
      | succ m ih =>
        simp only [List.replicate_succ, List.flatten_cons]
        exact (zval_rep w F _ h4).app ih
    exact this _
  obtain ⟨v', w', hrun, how', hg, hblk⟩ := zeros_run (P := P) o.type hu hu2 hi hzz hisz (by rw [hc]; simp [h3]) hz0 how m (fun u hu => by
      obtain ⟨j, hj⟩ := List.getElem?_of_mem hu
      have hlt := (List.getElem?_eq_some_iff.1 hj).1
      rw [← hna.1] at hlt
      exact (hna.2 j _ u (List.getElem?_eq_getElem hlt) hj).one) (by unfold maxLen; omega) (by rw [hib]; omega)
  have hdr := h.drop1 i
  have hF : ∀ k, F k → w'.heap[k]? = w.heap[k]? := fun k hk => hg.block k (h.fin k hk).1 (fun e => by
    have : blk (ν i) = some k := by
      revert e
      cases ν i with
      | slice A _ _ => cases A <;> simp [Value.ownBlock, blk] <;> (intro e; exact e.symm)
      | _ => simp [Value.ownBlock]
    exact (h.sep i obj k hm this).1 hk)
  have hown : ∀ b, (ν i).ownBlock = some b → blk (ν i) = some b := by
    intro b
    cases ν i with
    | slice A _ _ => cases A <;> simp [Value.ownBlock, blk]
    | _ => simp [Value.ownBlock]
  have hown' : ∀ b, blk (ν i) = some b → (ν i).ownBlock = some b := by
    intro b hb
    rcases how.2 with ⟨h7, _⟩ | ⟨g, cap, cur, h7, _⟩
    · rw [h7] at hb; cases hb
    · rw [h7] at hb ⊢; exact hb
  have hrep : MRep w' F obj2 v' := MRep.ofRow hr2 hz0 how' ((ha.mono fun _ _ hh => hh.frame (fun _ hb => hb) hF).app (hna.mono fun _ _ hh => hh.frame (fun _ hb => hb) hF))
  have hnew := hdr.renew (w' := w') (i := j) (obj := obj2) hjN (by
    rw [drop1_mem]
    rcases hj with rfl | hj
    · simp
    · split
      · rfl
      · exact hj) (v := v') (old := (ν i).ownBlock) (fun b hb => by
    have hbb := hown b hb
    have hs := h.sep i obj b hm hbb
    refine ⟨hs.1, by rcases hs.2 with h5 | h5 <;> omega, MRep.lt (h.mem i obj hm) hbb, fun o ob hoo hbo => ?_⟩
    rw [drop1_mem] at hoo
    split at hoo
    · cases hoo
    · rename_i hne
      exact hne (h.inj o i ob obj b hoo hm hbo hbb)) (fun b hb => by
    rcases hblk b hb with h5 | h5
    · exact .inl h5
    · exact .inr (hown' b h5)) hg hrep
  refine wp_val (w' := w') (x := v') (exec_builtin ho (n := .value v') (fun cs => ?_)) ⟨_, hK, F, _, hnew.put ?_ (dst_lt hd)⟩
  · have : (#[x, y] : Array Operand).map a.eval = #[a.eval x, a.eval y] := by simp
    rw [this, hv, hye]
    show (do pure (.value (← Builtin.append_ #[t, tn] o.type #[ν i, .int .i64 (m : Int)])) : Sem Next).run P w = _
    simp only [Sem.run_bind, hrun, Result.andThen_ok, Sem.run_pure]
  · rcases how'.2 with ⟨h7, h8⟩ | ⟨g, cap, cur, h7, _⟩
    · subst h7
      refine ⟨obj2, e, (T e).sz, n + m, _, none, 0, 0, by rw [upd_mem]; simp, hr2, by omega, .inl rfl, by simp [nuSet], ?_⟩
      rw [h8]
      simp
    · subst h7
      refine ⟨obj2, e, (T e).sz, n + m, _, some ⟨g, 0, none⟩, n + m, cap, by rw [upd_mem]; simp, hr2, by omega, .inl rfl, by simp [nuSet], ?_⟩
      simp [Addr.add]
end
end Go.Proofs.Ythefflmebkcilaa.Fw

/- From the typed readings to data. -/
set_option linter.unusedVariables false
namespace Go.Proofs.Ythefflmebkcilaa.Fw
open Go Pu Go.RowKit
def IsRow (k : IntKind) (w : World) (a : Option Addr) (len cap : Nat) (zs : List Int) : Prop :=
  (a = none ∧ len = 0 ∧ cap = 0 ∧ zs = []) ∨
  ∃ x, a = some x ∧ len ≤ cap ∧ cap ≤ maxLen ∧ zs.length = cap ∧ (∀ i, i < zs.length → w.cell? (x.add i) = some (.int k (zs.getD i 0))) ∧ ∀ n ∈ zs, (Lit.int k n).wf = true
theorem wf_u32 {n : Int} (h : (Lit.int .u32 n).wf = true) : 0 ≤ n ∧ n < 4294967296 := by
  simp [Lit.wf, IntKind.min, IntKind.max, IntKind.signed, IntKind.bits] at h
  omega
def Fall (w : World) : Nat → Prop := fun b => b < w.heap.size
theorem row_words {w : World} {a : Option Addr} {len cap : Nat} {zs : List Int} (h : IsRow .u32 w a len cap zs) : ∃ l : List Int, Wd l ∧ l.length ≤ maxLen ∧ RepL w (Fall w) (.words l) (.slice a len cap) := by
  rcases h with ⟨rfl, rfl, rfl, rfl⟩ | ⟨x, rfl, h1, h2, h3, h4, h5⟩
  · exact ⟨[], Wd.nil, Nat.zero_le _, RepL.nilW _ _⟩
  · have hl : (zs.take len).length = len := by rw [List.length_take]; omega
    refine ⟨zs.take len, fun n hn => wf_u32 (h5 n (List.mem_of_mem_take hn)), by omega, RepL.sl (d := .words (zs.take len)) (sz := 1) (n := len) (fl := (zs.take len).map wd) (by simp only [D.sl?, hl]) (some x) cap ((zs.take len).map fun n => .int .u32 n) h1 h2 (by simp) (fun j u hu => ?_) (fun j d u hd hu => ?_)⟩
    · rw [List.getElem?_map] at hu
      cases hj : (zs.take len)[j]? with
      | none => rw [hj] at hu; cases hu
      | some n =>
        rw [hj] at hu
        simp only [Option.map_some, Option.some.injEq] at hu
        subst hu
        rw [List.getElem?_take] at hj
        split at hj
        · have hlt := (List.getElem?_eq_some_iff.1 hj).1
          have hc := h4 j hlt
          rw [List.getD_eq_getElem?_getD, hj] at hc
          have hb := World.block_lt_of_cell? w _ hc
          rw [add_block] at hb
          exact ⟨x, rfl, hb, hc⟩
        · cases hj
    · rw [List.getElem?_map] at hd hu
      cases hj : (zs.take len)[j]? with
      | none => rw [hj] at hu; cases hu
      | some n =>
        rw [hj] at hd hu
        simp only [Option.map_some, Option.some.injEq] at hd hu
        subst hd; subst hu
        exact RepL.int _ _
theorem law_calls {P : Program} {g : FuncId} {args : List V} {w : World} {vals : List Value} (h : Runs P g args (.d (.bool true))) (ha : AllR (VR1 w (Fall w) (fun _ => undef) (fun _ => none)) args vals) :
    Calls P g vals.toArray w fun e w' => e = .returned (.bool true) ∧ Below w.heap.size w w' := by
  unfold Runs at h
  refine (h.2 (Fall w) w vals (fun b hb => hb) ha).mono ?_
  rintro e w' ⟨v, F', rfl, hv, _, hk⟩
  have : v = .bool true := boolV hv
  exact ⟨by rw [this], ⟨hk.os, hk.tape, hk.output, hk.size, fun k hk' => hk.block k hk' (fun x => x)⟩⟩
end Go.Proofs.Ythefflmebkcilaa.Fw

/- From the typed readings to data, for all types. -/
set_option linter.unusedVariables false
namespace Go.Proofs.Ythefflmebkcilaa.Fw
open Go Pu Go.RowKit Go.ChangeShapes Go.WideShapes
inductive Sh where
  | bool
  | int (k : IntKind)
  | ws
  | rows (e : List Sh)
inductive OkD : Sh → D → Prop where
  | bool (b : Bool) : OkD .bool (.bool b)
  | int (k : IntKind) (n : Int) (h : (Lit.int k n).wf = true) : OkD (.int k) (.int k n)
  | ws (l : List Int) (h : Wd l) (hl : l.length ≤ maxLen) : OkD .ws (.words l)
  | rows (e : List Sh) (l : List (List D)) (h : ∀ x ∈ l, x.length = e.length) (h2 : ∀ x ∈ l, ∀ (j : Nat) s d, e[j]? = some s → x[j]? = some d → OkD s d) (hl : l.length ≤ maxLen) : OkD (.rows e) (.rows e.length l)
inductive HasSh (P : Program) : TypeId → List Sh → Prop where
  | bool {t : TypeId} (h : P.underlying t = some .bool) (hc : P.cellsOf t = 1) : HasSh P t [.bool]
  | int {t : TypeId} {k : IntKind} (h : P.underlying t = some (.int k)) (hc : P.cellsOf t = 1) : HasSh P t [.int k]
  | ws {t e : TypeId} (h : P.underlying t = some (.slice e)) (he : P.underlying e = some (.int .u32)) (hc : P.cellsOf e = 1) (hct : P.cellsOf t = 1) : HasSh P t [.ws]
  | rows {t e : TypeId} {es : List Sh} (h : P.underlying t = some (.slice e)) (he : HasSh P e es) (hz : 0 < es.length) (hct : P.cellsOf t = 1) : HasSh P t [.rows es]
  | st {t : TypeId} {fs : Array Field} (l : List (List Sh)) (h : P.underlying t = some (.struct fs)) (hl : l.length = fs.size) (hc : P.cellsOf t = l.flatten.length)
      (ho : ∀ (i : Nat) f, fs[i]? = some f → f.offset = ((l.take i).flatten).length) (hf : ∀ (i : Nat) f s, fs[i]? = some f → l[i]? = some s → HasSh P f.type s) : HasSh P t l.flatten
  | arr {t e : TypeId} {n : Nat} {es : List Sh} (h : P.underlying t = some (.array n e)) (he : HasSh P e es) (hc : P.cellsOf t = (List.replicate n es).flatten.length) : HasSh P t (List.replicate n es).flatten
theorem HasSh.cells {P : Program} {t : TypeId} {s : List Sh} (h : HasSh P t s) : P.cellsOf t = s.length := by
  cases h with
  | bool _ hc => exact hc
  | int _ hc => exact hc
  | ws _ _ _ hct => exact hct
  | rows _ _ _ hct => exact hct
  | st l _ _ hc => exact hc
  | arr _ _ hc => exact hc
theorem segs {R : D → Value → Prop} : ∀ (l : List (List Sh)) (cs : List Value), cs.length = l.flatten.length →
    (∀ (i : Nat) s, l[i]? = some s → ∃ ds, AllR R ds ((cs.drop ((l.take i).flatten.length)).take s.length) ∧ AllR OkD s ds) → ∃ ds, AllR R ds cs ∧ AllR OkD l.flatten ds := by
  intro l
  induction l with
  | nil =>
    intro cs h _
    have : cs = [] := List.eq_nil_of_length_eq_zero (by simpa using h)
    subst this
    exact ⟨[], AllR.nil, AllR.nil⟩
  | cons s l ih =>
    intro cs hl h
    have hl' : cs.length = s.length + l.flatten.length := by rw [hl, List.flatten_cons, List.length_append]
    obtain ⟨d0, h1, h2⟩ := h 0 s rfl
    obtain ⟨d1, h3, h4⟩ := ih (cs.drop s.length) (by rw [List.length_drop]; omega) (fun i x hx => by
      obtain ⟨ds, h5, h6⟩ := h (i + 1) x (by simpa using hx)
      refine ⟨ds, ?_, h6⟩
      rw [List.take_succ_cons, List.flatten_cons, List.length_append, ← List.drop_drop] at h5
      exact h5)
    refine ⟨d0 ++ d1, ?_, ?_⟩
    · have h7 : AllR R (d0 ++ d1) (cs.take s.length ++ cs.drop s.length) := AllR.app (by simpa using h1) h3
      rw [List.take_append_drop] at h7
      exact h7
    · rw [List.flatten_cons]
      exact h2.app h4
theorem pick2 {α β : Type} {Q : Nat → α → β → Prop} : ∀ n, (∀ i, i < n → ∃ a b, Q i a b) → ∃ (l : List α) (m : List β), l.length = n ∧ m.length = n ∧ ∀ (i : Nat) a b, l[i]? = some a → m[i]? = some b → Q i a b := by
  intro n
  induction n with
  | zero => intro _; exact ⟨[], [], rfl, rfl, fun i a b h => by simp at h⟩
  | succ n ih =>
    intro h
    obtain ⟨l, m, h1, h2, h3⟩ := ih (fun i hi => h i (by omega))
    obtain ⟨a, b, hq⟩ := h n (by omega)
    refine ⟨l ++ [a], m ++ [b], by simp [h1], by simp [h2], fun i x y hx hy => ?_⟩
    by_cases hi : i < n
    · rw [List.getElem?_append_left (by omega)] at hx
      rw [List.getElem?_append_left (by omega)] at hy
      exact h3 i x y hx hy
    · have hlt := (List.getElem?_eq_some_iff.1 hx).1
      simp only [List.length_append, List.length_singleton] at hlt
      have : i = n := by omega
      subst this
      rw [List.getElem?_append_right (by omega), h1, Nat.sub_self] at hx
      rw [List.getElem?_append_right (by omega), h2, Nat.sub_self] at hy
      simp at hx hy
      subst hx; subst hy
      exact hq
theorem flat_get {α : Type} {k : Nat} (hk : 0 < k) : ∀ (l : List (List α)) (j : Nat) (u : α), (∀ x ∈ l, x.length = k) → l.flatten[j]? = some u → ∃ x, l[j / k]? = some x ∧ x[j % k]? = some u := by
  intro l
  induction l with
  | nil => intro j u _ h; simp at h
  | cons x l ih =>
    intro j u hl h
    have hx : x.length = k := hl x (by simp)
    rw [List.flatten_cons] at h
    by_cases hj : j < k
    · rw [List.getElem?_append_left (by omega)] at h
      exact ⟨x, by rw [Nat.div_eq_of_lt hj]; rfl, by rw [Nat.mod_eq_of_lt hj]; exact h⟩
    · rw [List.getElem?_append_right (by omega), hx] at h
      obtain ⟨y, h1, h2⟩ := ih (j - k) u (fun y hy => hl y (by simp [hy])) h
      have e1 : j / k = (j - k) / k + 1 := by rw [Nat.div_eq_sub_div hk (by omega)]
      have e2 : j % k = (j - k) % k := by rw [Nat.mod_eq_sub_mod (by omega)]
      exact ⟨y, by rw [e1]; simpa using h1, by rw [e2]; exact h2⟩
theorem flat_allR {R : D → Value → Prop} : ∀ (l : List (List D)) (m : List (List Value)), l.length = m.length → (∀ (i : Nat) x y, l[i]? = some x → m[i]? = some y → AllR R x y) → AllR R l.flatten m.flatten := by
  intro l
  induction l with
  | nil =>
    intro m h _
    have : m = [] := List.eq_nil_of_length_eq_zero (by simpa using h.symm)
    subst this
    exact AllR.nil
  | cons x l ih =>
    intro m h hr
    cases m with
    | nil => simp at h
    | cons y m =>
      rw [List.flatten_cons, List.flatten_cons]
      exact (hr 0 x y rfl rfl).app (ih m (by simpa using h) (fun i x y hx hy => hr (i + 1) x y (by simpa using hx) (by simpa using hy)))
theorem hasSh_read {P : Program} {H : Type} {enc : TypeId × Value → H} {w : World} {sp : Nat → Bool} {t : TypeId} {shs : List Sh} (h : HasSh P t shs) :
    ∀ (fuel : Nat) (cs : List Value) (x : DataW H × List MemPlace), DataW.trod enc P w 0 sp true fuel t cs = some x → ∃ ds, AllR (RepL w (Fall w)) ds cs ∧ AllR OkD shs ds := by
  induction h with
  | bool hu hc =>
    intro fuel cs x hx
    obtain ⟨b, rfl, _⟩ := DataW.trod_bool hu hx
    exact ⟨[.bool b], AllR.cons (.bool b) AllR.nil, AllR.cons (.bool b) AllR.nil⟩
  | int hu hc =>
    intro fuel cs x hx
    obtain ⟨n, rfl, _, hw⟩ := DataW.trod_int hu hx
    exact ⟨[.int _ n], AllR.cons (.int _ n) AllR.nil, AllR.cons (.int _ n hw) AllR.nil⟩
  | ws hu he hc hct =>
    intro fuel cs x hx
    have key : ∀ {a : Option Addr} {len cap : Nat} {zs : List Int}, cs = [.slice a len cap] → IsRow .u32 w a len cap zs → ∃ ds, AllR (RepL w (Fall w)) ds cs ∧ AllR OkD [Sh.ws] ds := by
      intro a len cap zs e hr
      obtain ⟨l, h1, h2, h3⟩ := row_words hr
      exact ⟨[.words l], by rw [e]; exact AllR.cons h3 AllR.nil, AllR.cons (.ws l h1 h2) AllR.nil⟩
    rcases open_ints hu he hc hx with ⟨hcs, _⟩ | ⟨a, l, c, zs, hcs, _, hl, hm, hz, _, hcell, hwz⟩
    · exact key hcs (zs := []) (.inl ⟨rfl, rfl, rfl, rfl⟩)
    · rcases Nat.le_total l zs.length with hlz | hlz
      · -- the cells up to the length are all that is asked
        refine ⟨[.words (zs.take l)], ?_, AllR.cons (.ws _ (fun n hn => wf_u32 (hwz n (List.mem_of_mem_take hn))) (by rw [List.length_take]; omega)) AllR.nil⟩
        rw [hcs]
        have hlen : (zs.take l).length = l := by rw [List.length_take]; omega
        refine AllR.cons (RepL.sl (d := .words (zs.take l)) (sz := 1) (n := l) (fl := (zs.take l).map wd) (by simp only [D.sl?, hlen]) (some a) c ((zs.take l).map fun n => .int .u32 n) hl hm (by simp) (fun j u hu => ?_) (fun j d u hd hu => ?_)) AllR.nil
        · rw [List.getElem?_map] at hu
          cases hj : (zs.take l)[j]? with
          | none => rw [hj] at hu; cases hu
          | some n =>
            rw [hj] at hu
            simp only [Option.map_some, Option.some.injEq] at hu
            subst hu
            rw [List.getElem?_take] at hj
            split at hj
            · have hlt := (List.getElem?_eq_some_iff.1 hj).1
              have hc := hcell j hlt
              rw [List.getD_eq_getElem?_getD, hj] at hc
              have hb := World.block_lt_of_cell? w _ hc
              rw [add_block] at hb
              exact ⟨a, rfl, hb, hc⟩
            · cases hj
        · rw [List.getElem?_map] at hd hu
          cases hj : (zs.take l)[j]? with
          | none => rw [hj] at hu; cases hu
          | some n =>
            rw [hj] at hd hu
            simp only [Option.map_some, Option.some.injEq] at hd hu
            subst hd; subst hu
            exact RepL.int _ _
      · have e : zs.length = l := by
          rw [hz] at hlz ⊢
          split at hlz <;> split <;> first | omega | (exfalso; simp_all; done)
        have e2 : zs.take l = zs := List.take_of_length_le (by omega)
        refine ⟨[.words zs], ?_, AllR.cons (.ws _ (fun n hn => wf_u32 (hwz n hn)) (by omega)) AllR.nil⟩
        rw [hcs]
        refine AllR.cons (RepL.sl (d := .words zs) (sz := 1) (n := l) (fl := zs.map wd) (by simp only [D.sl?, e]) (some a) c (zs.map fun n => .int .u32 n) hl hm (by simp) (fun j u hu => ?_) (fun j d u hd hu => ?_)) AllR.nil
        · rw [List.getElem?_map] at hu
          cases hj : zs[j]? with
          | none => rw [hj] at hu; cases hu
          | some n =>
            rw [hj] at hu
            simp only [Option.map_some, Option.some.injEq] at hu
            subst hu
            have hlt := (List.getElem?_eq_some_iff.1 hj).1
            have hc := hcell j hlt
            rw [List.getD_eq_getElem?_getD, hj] at hc
            have hb := World.block_lt_of_cell? w _ hc
            rw [add_block] at hb
            exact ⟨a, rfl, hb, hc⟩
        · rw [List.getElem?_map] at hd hu
          cases hj : zs[j]? with
          | none => rw [hj] at hu; cases hu
          | some n =>
            rw [hj] at hd hu
            simp only [Option.map_some, Option.some.injEq] at hd hu
            subst hd; subst hu
            exact RepL.int _ _
  | @rows t e es hu he hz hct ih =>
    intro fuel cs x hx
    rcases DataW.trod_slice hu hx with ⟨hcs, _⟩ | ⟨a, len, cap, elems, rest, n, _, hcs, _, _, hl, hm, hlen, hel, _, _⟩
    · refine ⟨[.rows es.length []], ?_, AllR.cons (.rows es [] (by simp) (by simp) (Nat.zero_le _)) AllR.nil⟩
      rw [hcs]
      exact AllR.cons (RepL.nilR w (Fall w) es.length) AllR.nil
    · have hcl := he.cells
      have each : ∀ i, i < len → ∃ (ds : List D) (cv : List Value), (AllR (RepL w (Fall w)) ds cv ∧ AllR OkD es ds) ∧ ∀ (j : Nat) u, cv[j]? = some u → w.cell? (a.add (i * es.length + j)) = some u := by
        intro i hi
        have h1 := hel i hi
        rw [List.getElem?_eq_getElem (by omega), Option.bind_eq_some_iff] at h1
        obtain ⟨cv, h2, h3⟩ := h1
        obtain ⟨ds, h4, h5⟩ := ih n cv _ h3
        refine ⟨ds, cv, ⟨h4, h5⟩, fun j u hu => ?_⟩
        obtain ⟨_, h6, h7⟩ := World.cells?_some h2
        rw [hcl] at h6 h7
        have hj := (List.getElem?_eq_some_iff.1 hu).1
        have := h7 j (by omega)
        rw [add_add] at this
        rw [this, hu]
      obtain ⟨l, m, h1, h2, h3⟩ := pick2 len each
      have hall : ∀ x ∈ l, x.length = es.length := by
        intro y hy
        obtain ⟨i, hi⟩ := List.getElem?_of_mem hy
        have hlt := (List.getElem?_eq_some_iff.1 hi).1
        have := (h3 i y (m[i]'(by omega)) hi (List.getElem?_eq_getElem (by omega))).1.2.1
        exact this.symm
      have hallm : ∀ x ∈ m, x.length = es.length := by
        intro y hy
        obtain ⟨i, hi⟩ := List.getElem?_of_mem hy
        have hlt := (List.getElem?_eq_some_iff.1 hi).1
        have h4 := h3 i (l[i]'(by omega)) y (List.getElem?_eq_getElem (by omega)) hi
        have := h4.1.1.1
        rw [← this]
        exact h4.1.2.1.symm
      refine ⟨[.rows es.length l], ?_, AllR.cons (.rows es l hall (fun y hy j s d hs hd => ?_) (by omega)) AllR.nil⟩
      · rw [hcs]
        have hfl := flat_allR (R := RepL w (Fall w)) l m (by omega) (fun i x y hx hy => (h3 i x y hx hy).1.1)
        refine AllR.cons (RepL.sl (d := .rows es.length l) (sz := es.length) (n := len) (fl := l.flatten) ?_ (some a) cap m.flatten hl hm hfl.1.symm (fun j u hu => ?_) (fun j d u hd hu => hfl.2 j d u hd hu)) AllR.nil
        · have : l.all (fun x => x.length == es.length) = true := List.all_eq_true.2 (fun y hy => beq_iff_eq.2 (hall y hy))
          simp only [D.sl?, this, if_true, h1]
        · obtain ⟨y, h4, h5⟩ := flat_get hz m j u hallm hu
          have hlt := (List.getElem?_eq_some_iff.1 h4).1
          have h6 := (h3 (j / es.length) (l[j / es.length]'(by omega)) y (List.getElem?_eq_getElem (by omega)) h4).2 (j % es.length) u h5
          rw [Nat.div_add_mod'] at h6
          have hb := World.block_lt_of_cell? w _ h6
          rw [add_block] at hb
          exact ⟨a, rfl, hb, h6⟩
      · obtain ⟨i, hi⟩ := List.getElem?_of_mem hy
        have hlt := (List.getElem?_eq_some_iff.1 hi).1
        exact (h3 i y (m[i]'(by omega)) hi (List.getElem?_eq_getElem (by omega))).1.2.2 j s d hs hd
  | @st t fs' l hu hl hc ho hf ih =>
    intro fuel cs x hx
    obtain ⟨xs, n, _, _, hlen, hxs, hall⟩ := DataW.trod_struct hu hx
    refine segs l cs (by rw [hlen, hc]) (fun i s hs => ?_)
    have hi := (List.getElem?_eq_some_iff.1 hs).1
    have hfi : fs'[i]? = some (fs'[i]'(by omega)) := by simp [show i < fs'.size by omega]
    have h1 := hall i _ hfi
    rw [List.getElem?_eq_getElem (by omega), ho i _ hfi, (hf i _ s hfi hs).cells] at h1
    exact ih i _ s hfi hs n _ _ h1
  | @arr t e n es hu he hc ih =>
    intro fuel cs x hx
    obtain ⟨xs, m, _, _, hlen, hxs, hall⟩ := DataW.trod_array hu hx
    refine segs _ cs (by rw [hlen, hc]) (fun i s hs => ?_)
    have hi := (List.getElem?_eq_some_iff.1 hs).1
    rw [List.length_replicate] at hi
    rw [List.getElem?_replicate, if_pos hi] at hs
    injection hs with hs
    subst hs
    have h1 := hall i hi
    rw [List.getElem?_eq_getElem (show i < xs.length by omega), he.cells] at h1
    have e1 : ((List.replicate n es).take i).flatten.length = i * es.length := by
      rw [List.take_replicate, Nat.min_eq_left (Nat.le_of_lt hi)]; simp
    rw [e1]
    exact ih m _ _ h1
/-- An argument of one cell. -/
theorem read_one {P : Program} {H : Type} {enc : TypeId × Value → H} {w : World} {sp : Nat → Bool} {t : TypeId} {s : Sh} {v : Value} {d : DataW H} {p : List MemPlace} (h : HasSh P t [s]) (ht : DataW.Trod enc P w 0 sp true t v d p) (hv : v.cells = #[v]) :
    ∃ x, OkD s x ∧ VR1 w (Fall w) (fun _ => undef) (fun _ => none) (.d x) v := by
  obtain ⟨fuel, hf⟩ := ht
  obtain ⟨ds, h1, h2⟩ := hasSh_read h fuel _ _ hf
  rw [hv] at h1
  obtain ⟨u, us, e, h3, h4⟩ := h2.head
  obtain rfl := h4.nil_of
  subst e
  exact ⟨u, h3, h1.2 0 u v rfl rfl⟩
/-- An argument of many cells. -/
theorem read_agg {P : Program} {H : Type} {enc : TypeId × Value → H} {w : World} {sp : Nat → Bool} {t : TypeId} {s : List Sh} {cs : Array Value} {d : DataW H} {p : List MemPlace} (h : HasSh P t s) (ht : DataW.Trod enc P w 0 sp true t (.agg cs) d p) :
    ∃ ds, AllR OkD s ds ∧ VR1 w (Fall w) (fun _ => undef) (fun _ => none) (.agg s.length ds) (.agg cs) := by
  obtain ⟨fuel, hf⟩ := ht
  obtain ⟨ds, h1, h2⟩ := hasSh_read h fuel _ _ hf
  exact ⟨ds, h2, h2.1.symm, cs, rfl, h1⟩
theorem okWide_agg {P : Program} {W : World} {base : Nat} {r : Reach} {t : TypeId} {v : Value} {n : Nat} {e : TypeId} {fs : Array Field} (ht : P.underlying t = some (.struct fs) ∨ P.underlying t = some (.array n e)) (h : Value.okWide P W r base t v) : ∃ cs, v = .agg cs := by
  rcases ht with ht | ht <;> simp only [Value.okWide, ht] at h <;> obtain ⟨cs, h1, _⟩ := h <;> exact ⟨cs, h1⟩
theorem okWide_st {P : Program} {W : World} {base : Nat} {r : Reach} {t : TypeId} {v : Value} {fs : Array Field} (ht : P.underlying t = some (.struct fs)) (h : Value.okWide P W r base t v) : ∃ cs, v = .agg cs := okWide_agg (n := 0) (e := 0) (.inl ht) h
theorem okWide_ar {P : Program} {W : World} {base : Nat} {r : Reach} {t : TypeId} {v : Value} {n : Nat} {e : TypeId} (ht : P.underlying t = some (.array n e)) (h : Value.okWide P W r base t v) : ∃ cs, v = .agg cs := okWide_agg (fs := #[]) (.inr ht) h
theorem inv_ws {x : D} (h : OkD .ws x) : ∃ l, x = .words l ∧ Wd l ∧ l.length ≤ maxLen := by cases h; exact ⟨_, rfl, by assumption, by assumption⟩
theorem inv_bool {x : D} (h : OkD .bool x) : ∃ b, x = .bool b := by cases h; exact ⟨_, rfl⟩
theorem inv_int {k : IntKind} {x : D} (h : OkD (.int k) x) : ∃ n, x = .int k n ∧ (Lit.int k n).wf = true := by cases h; exact ⟨_, rfl, by assumption⟩
theorem inv_rows {e : List Sh} {x : D} (h : OkD (.rows e) x) : ∃ l, x = .rows e.length l ∧ (∀ y ∈ l, AllR OkD e y) ∧ l.length ≤ maxLen := by
  cases h with
  | rows _ l h1 h2 hl => exact ⟨l, rfl, fun y hy => ⟨(h1 y hy).symm, fun j s d => h2 y hy j s d⟩, hl⟩
end Go.Proofs.Ythefflmebkcilaa.Fw

/- The law QuotWords, walked. -/
set_option linter.unusedVariables false
namespace Go.Proofs.Ythefflmebkcilaa.Fw
open Go Pu
theorem Word_zero {a : List Int} : Runs Try.prog g_quot_Word [.d (.words a), .d (.int .u32 0)] (.tup [.d (.words []), .d (.int .u32 0), .d (.bool false)]) := by
  refine run1 [] p_quot_Word rfl rfl (fun B S F0 w0 V0 => ?_)
  refine split_true rfl ?_
  exact ret_intro rfl rfl
theorem QuotWords_runs {a : List Int} {x : Int} (hwa : Wd a) (hx : W32 x) : Runs Try.prog g_retrospectlaw05_QuotWords [.d (.words a), .d (.int .u32 x)] (.d (.bool true)) := by
  refine run1 [41] p_retrospectlaw05_QuotWords rfl rfl (fun B S F0 w0 V0 => ?_)
  refine split_intro (fun h => ?_) (fun h => ?_)
  · refine call_intro _ works05 ?_
    exact ret_intro rfl rfl
  have h : ¬ (a.length : Int) > 40 := of_decide_eq_false h
  by_cases h0 : x = 0
  · subst h0
    refine call_intro _ Word_zero ?_
    refine split_true rfl ?_
    refine split_true rfl ?_
    refine split_true rfl ?_
    refine split_true rfl ?_
    refine call_intro _ works05 ?_
    exact ret_intro rfl rfl
  · have hws := Word_spec hwa (by omega) hx h0
    have hwx : Wd [x] := by intro y hy; rw [List.mem_singleton.1 hy]; exact hx
    have hv : val [x] = x.toNat := by simp [val]
    have hx0 : x.toNat ≠ 0 := by have := hx.1; omega
    have hd := rDiv_specG hwa hwx (by omega) (by show 1 ≤ _; omega) (by rw [hv]; exact hx0)
    rw [hv] at hd
    have hq : (toW (val a / x.toNat)).length ≤ a.length := Nat.le_trans (toW_len_mono (Nat.div_le_self _ _)) (toW_len_val_le hwa)
    have hsm' : Runs Try.prog g_retrospectref02_Same [.d (.words (toW (val a / x.toNat))), snapM (.words tU32 (toW (val a / x.toNat))) 0 (toW (val a / x.toNat)).length] (.d (.bool true)) := by
      rw [snap_all tU32 _ rfl]; exact same_true rfl (by omega)
    have hrlt : val a % x.toNat < 4294967296 := by have := Nat.mod_lt (val a) (Nat.pos_of_ne_zero hx0); have := hx.2; omega
    have hs1 : Runs Try.prog g_retrospectref02_Same [.d (.words [((val a % x.toNat : Nat) : Int)]), snapM (.words tU32 [((val a % x.toNat : Nat) : Int)]) 0 1] (.d (.bool true)) := by
      rw [snap_all tU32 [((val a % x.toNat : Nat) : Int)] (n := 1) rfl]; exact same_true rfl (by show 1 ≤ _; omega)
    generalize val a / x.toNat = q at *
    generalize val a % x.toNat = r at *
    rcases Nat.eq_zero_or_pos r with h1 | h1
    · subst h1
      rw [toW_zero] at hd
      refine call_intro _ hws ?_
      refine split_false (beq_eq_false_iff_ne.2 h0) ?_
      refine call_G [(51, 42), (53, 43)] hd rfl rfl rfl rfl rfl trivial trivial ⟨⟨rfl, Nat.le_of_ble_eq_true rfl⟩, ⟨rfl, Nat.le_of_ble_eq_true rfl⟩, trivial⟩ rfl ?_
      refine opp_callR (T := TB) hsm' rfl rfl rfl rfl rfl rfl ?_
      refine split_true rfl ?_
      refine opp_append_zeros hT (e := tU32) (i := 43) (j := 43) (obj := .words tU32 []) (obj2 := .words tU32 [0]) (n := 0) (m := 1) (fl := []) rfl rfl rfl rfl rfl rfl rfl rfl rfl rfl (Nat.le_of_ble_eq_true rfl) (Nat.le_of_ble_eq_true rfl) (.inl rfl) rfl (by decide) ?_
      refine opp_callR (T := TB) hs1 rfl rfl rfl rfl rfl rfl ?_
      refine split_true rfl ?_
      refine split_true rfl ?_
      refine call_intro _ works05 ?_
      exact ret_intro rfl rfl
    · rw [toW_one (n := r) (by omega) hrlt] at hd
      refine call_intro _ hws ?_
      refine split_false (beq_eq_false_iff_ne.2 h0) ?_
      refine call_G [(51, 42), (53, 43)] hd rfl rfl rfl rfl rfl trivial trivial ⟨⟨rfl, Nat.le_of_ble_eq_true rfl⟩, ⟨rfl, Nat.le_of_ble_eq_true rfl⟩, trivial⟩ rfl ?_
      refine opp_callR (T := TB) hsm' rfl rfl rfl rfl rfl rfl ?_
      refine split_true rfl ?_
      refine opp_append_zeros hT (e := tU32) (i := 43) (j := 43) (obj := .words tU32 [(r : Int)]) (obj2 := .words tU32 [(r : Int)]) (n := 1) (m := 0) (fl := [wd (r : Int)]) rfl rfl rfl rfl rfl rfl rfl rfl rfl rfl (Nat.le_of_ble_eq_true rfl) (Nat.le_of_ble_eq_true rfl) (.inl rfl) rfl (by decide) ?_
      refine opp_callR (T := TB) hs1 rfl rfl rfl rfl rfl rfl ?_
      refine split_true rfl ?_
      refine split_true rfl ?_
      refine call_intro _ works05 ?_
      exact ret_intro rfl rfl
theorem QuotWords_typed {x y : D} (h0 : OkD .ws x) (h1 : OkD (.int .u32) y) : Runs Try.prog g_retrospectlaw05_QuotWords [.d x, .d y] (.d (.bool true)) := by
  obtain ⟨l, rfl, hl, _⟩ := inv_ws h0
  obtain ⟨n, rfl, hn⟩ := inv_int h1
  exact QuotWords_runs hl (by simp [Lit.wf, IntKind.min, IntKind.max, IntKind.signed, IntKind.bits] at hn; exact ⟨by omega, by omega⟩)
end Go.Proofs.Ythefflmebkcilaa.Fw

/- The shapes of the types of the arguments. -/
set_option linter.unusedVariables false
set_option linter.unusedSimpArgs false
namespace Go.Proofs.Ythefflmebkcilaa.Fw
open Go
abbrev shF : List Sh := [.bool, .ws, .ws]
abbrev shR : Sh := .rows shF
theorem sh_int : HasSh Try.prog 3 [.int .i64] := .int Try.underlying3 (by kernel_rfl)
theorem sh_bool : HasSh Try.prog 4 [.bool] := .bool Try.underlying4 (by kernel_rfl)
theorem sh_u32 : HasSh Try.prog 32 [.int .u32] := .int Try.underlying32 (by kernel_rfl)
theorem sh_ws : HasSh Try.prog 22 [.ws] := .ws Try.underlying22 Try.underlying32 (by kernel_rfl) (by kernel_rfl)
theorem sh_wss : HasSh Try.prog 41 [.rows [.ws]] := .rows Try.underlying41 sh_ws (by decide) (by kernel_rfl)
end Go.Proofs.Ythefflmebkcilaa.Fw
