/- Short ways through the walks. -/
import Derived.Test.YthefflmebkcilaaGA
import Derived.Test.YthefflmebkcilaaPA
import Derived.Laws.BitsAllLaws
import Derived.Laws.Bits64
set_option linter.unusedVariables false
namespace Go.Proofs.Ythefflmebkcilaa.Fw
open Go Pu
theorem run1 {g : FuncId} {fn : Func} {args : List V} {r : V} (keep : List Nat) (hf : Try.prog.funcs[g]? = some fn) (hname : (fn.name == "runtime.NumGoroutine") = false) (hn : Nat.ble args.length fn.ntmps = true)
    (h : ∀ B S F0 w0 V0, exF Try.prog TB keep ⟨fn.ntmps, B, S, F0, w0, V0⟩ fn args r) : Runs Try.prog g args r := by
  refine runs_of (T := TB) (keep := keep) hT hM hf hname (Nat.le_of_ble_eq_true hn) (fun c hc _ => ?_)
  obtain ⟨N, B, S, F0, w0, V0⟩ := c
  dsimp only at hc
  subst hc
  exact h B S F0 w0 V0
theorem runG {g : FuncId} {fn : Func} {args : List V} {mi mo : List (Nat × MO)} {r : V} (keep : List Nat) (hf : Try.prog.funcs[g]? = some fn) (hname : (fn.name == "runtime.NumGoroutine") = false) (hn : Nat.ble args.length fn.ntmps = true)
    (hk : keysOk fn.ntmps mi = true) (hko : moOk fn.ntmps mi mo = true) (h : ∀ B S F0 w0 V0, exG Try.prog TB keep ⟨fn.ntmps, B, S, F0, w0, V0⟩ fn args mi r mo) : RunsG Try.prog g args mi r mo := by
  refine runsG_of (T := TB) (keep := keep) hT hM hf hname (Nat.le_of_ble_eq_true hn) hk hko (fun c hc => ?_)
  obtain ⟨N, B, S, F0, w0, V0⟩ := c
  dsimp only at hc
  subst hc
  exact h B S F0 w0 V0
theorem weak_trans {c : Ctx} {s0 s1 s2 : St} (h1 : Weak c s0 s1) (h2 : Weak c s1 s2) : Weak c s0 s2 := by
  unfold Weak at *
  exact fun a w h => h1 a w (h2 a w h)
theorem weak_val {c : Ctx} {s : St} (t : Nat) (v : V) (h : ∀ w F ν x, VR w F ν s.mem (s.env t) x → VR w F ν s.mem v x) : Weak c (s.put (some t) v) s := by
  unfold Weak
  rintro a w ⟨F, ν, hs⟩
  refine ⟨F, ν, hs.sz, hs.dfr, fun t' => ?_, hs.mem, hs.sep, hs.inj, hs.fin, hs.keep, hs.base, hs.nu⟩
  rw [put_env]
  by_cases e : t' = t
  · rw [if_pos e, e]; exact h w F ν _ (hs.env t)
  · rw [if_neg e]; exact hs.env t'
/-- nil is an empty row. -/
theorem weak_nilW {c : Ctx} {s : St} (t : Nat) (h : s.env t = .nils) : Weak c (s.put (some t) (.d (.words []))) s := weak_val t _ fun w F ν x hx => by
  rw [h] at hx
  have hx : x = .slice none 0 0 := hx
  subst hx
  exact RepL.nilW w F
theorem weak_nilR {c : Ctx} {s : St} (t sz : Nat) (h : s.env t = .nils) : Weak c (s.put (some t) (.d (.rows sz []))) s := weak_val t _ fun w F ν x hx => by
  rw [h] at hx
  have hx : x = .slice none 0 0 := hx
  subst hx
  exact RepL.nilR w F sz
theorem opp_frz {c : Ctx} {s : St} {o : Oper} {K : St → Prop} (i : Nat) (m : MO) (hi : s.mem i = some m) (hiN : i < c.N) (hd : dstOk c.N o = true) (h : evalK Try.prog TB [] c [] 0 o K (freeze i m s)) : OpP Try.prog c o s K :=
  opp_weak _ (weak_freeze hiN hi) (opp_eval hT hd h)
theorem opp_frz2 {c : Ctx} {s : St} {o : Oper} {K : St → Prop} (i : Nat) (m : MO) (hi : s.mem i = some m) (hiN : i < c.N) (j : Nat) (n : MO) (hj : (freeze i m s).mem j = some n) (hjN : j < c.N) (hd : dstOk c.N o = true) (h : evalK Try.prog TB [] c [] 0 o K (freeze j n (freeze i m s))) : OpP Try.prog c o s K :=
  opp_weak _ (weak_freeze hiN hi) (opp_weak _ (weak_freeze hjN hj) (opp_eval hT hd h))
theorem opp_ev {c : Ctx} {s : St} {o : Oper} {K : St → Prop} (hd : dstOk c.N o = true) (h : evalK Try.prog TB [] c [] 0 o K s) : OpP Try.prog c o s K := opp_eval hT hd h
theorem call_G {c : Ctx} {s : St} {o : Oper} {K : St → Prop} {cl : Call} {g : FuncId} {args : List V} {mi mo : List (Nat × MO)} {r : V} (σ : List (Nat × Nat)) (hr : RunsG Try.prog g args mi r mo) (ho : o.op = .call cl) (hc : cl.callee = .value (.func g)) (hd : dstOk c.N o = true)
    (has : coeL TB (cl.args.toList.map s.ev) cl.argTypes.toList = args.map (renV (lk σ))) (hlive : liveA (memL mi) args = true) (hmi : AllMr s (lk σ) mi) (hsh : ShL mo mi) (hnew : NewL s c.N (lk σ) mi mo) (hinj : injB (lk σ) mo = true)
    (hK : K ((s.updL (lk σ) mo).put o.dst (renV (lk σ) r))) : OpP Try.prog c o s K := opp_callG (T := TB) (lk σ) hr ho hc hd has hlive hmi hsh hnew hinj hK
/-- The case of a call that is handed no objects and hands back one. -/
theorem call_new {c : Ctx} {s : St} {o : Oper} {K : St → Prop} {cl : Call} {g : FuncId} {args : List V} {i len : Nat} {m : MO} (d : Nat) (hr : RunsG Try.prog g args [] (.own i 0 len) [(i, m)]) (ho : o.op = .call cl) (hc : cl.callee = .value (.func g)) (hd : o.dst = some d) (hdN : Nat.blt d c.N = true)
    (hp : args.all plainV = true) (has : coeL TB (cl.args.toList.map s.ev) cl.argTypes.toList = args) (hm : s.mem d = none)
    (hK : K ((s.upd d m).put (some d) (.own d 0 len))) : OpP Try.prog c o s K := by
  have hlt : d < c.N := Nat.le_of_ble_eq_true hdN
  have e : lk [(i, d)] i = d := by simp [lk]
  refine call_G [(i, d)] hr ho hc ?_ ?_ ?_ trivial trivial ⟨?_, trivial⟩ ?_ ?_
  · unfold dstOk; rw [hd]; exact hdN
  · rw [has]
    have : ∀ (l : List V), l.all plainV = true → l = l.map (renV (lk [(i, d)])) := by
      intro l
      induction l with
      | nil => intro _; rfl
      | cons v l ih =>
        intro h
        simp only [List.all_cons, Bool.and_eq_true] at h
        rw [List.map_cons, ← ih h.2]
        cases v <;> first | rfl | (simp [plainV] at h)
    exact this args hp
  · have : ∀ (l : List V), l.all plainV = true → liveA (memL []) l = true := by
      intro l
      induction l with
      | nil => intro _; rfl
      | cons v l ih =>
        intro h
        simp only [List.all_cons, Bool.and_eq_true] at h
        simp only [liveA, ih h.2, Bool.and_true]
        cases v <;> first | rfl | (simp [plainV] at h)
    exact this args hp
  · show newOf s c.N (lk [(i, d)] i) none
    rw [e]
    exact ⟨hm, hlt⟩
  · simp [injB]
  · rw [hd]
    show K ((s.upd (lk [(i, d)] i) m).put (some d) (.own (lk [(i, d)] i) 0 len))
    rw [e]
    exact hK
theorem wr {x : Int} (h0 : -9223372036854775808 ≤ x) (h1 : x < 9223372036854775808) : IntKind.i64.wrap x = x := by rw [IntKind.wrap_i64]; omega
theorem w32 (x : Int) : IntKind.u32.wrap x = x % 4294967296 := IntKind.wrap_u32 x
theorem w64 (x : Int) : IntKind.u64.wrap x = x % 18446744073709551616 := IntKind.wrap_u64 x
theorem i64_inj {x y : Int} (h : x = y) : V.d (.int .i64 x) = V.d (.int .i64 y) := by rw [h]
theorem u32_inj {x y : Int} (h : x = y) : V.d (.int .u32 x) = V.d (.int .u32 y) := by rw [h]
theorem u64_inj {x y : Int} (h : x = y) : V.d (.int .u64 x) = V.d (.int .u64 y) := by rw [h]
theorem ws_inj {x y : List Int} (h : x = y) : V.d (.words x) = V.d (.words y) := by rw [h]
theorem b_inj {x y : Bool} (h : x = y) : V.d (.bool x) = V.d (.bool y) := by rw [h]
/-- An element that is there. -/
theorem el (a : List Int) {i : Nat} (h : i < a.length) : a[i]? = some (a.getD i 0) := by rw [List.getD_eq_getElem?_getD, List.getElem?_eq_getElem h]; rfl
theorem el' (a : List Int) {x : Int} {i : Nat} (hx : x = (i : Int)) (h : i < a.length) : a[x.toNat]? = some (a.getD i 0) := by subst hx; exact el a h
theorem idx_w {l : List Int} {x : Int} {k : Int → Prop} (i : Nat) (hx : x = (i : Int)) (h : i < l.length) (hk : k (l.getD i 0)) : IdxP l x k := idx_intro (l.getD i 0) (by omega) (el' l hx h) hk
theorem take_trim {a : List Int} {i : Nat} (h : Wd a) (hi : i ≤ a.length) (hz : ∀ j, i ≤ j → j < a.length → a[j]? = some 0) (hl : i = 0 ∨ a.getD (i - 1) 0 ≠ 0) : a.take i = toW (val a) := by
  have e1 : a.drop i = List.replicate (a.length - i) 0 := by
    apply List.ext_getElem?
    intro j
    rw [List.getElem?_drop]
    by_cases hj : i + j < a.length
    · rw [hz (i + j) (by omega) hj, List.getElem?_replicate, if_pos (by omega)]
    · rw [List.getElem?_eq_none (by omega), List.getElem?_replicate, if_neg (by omega)]
  have e2 : val a = val (a.take i) := by
    conv => lhs; rw [← List.take_append_drop i a, e1, val_app_zeros]
  rw [e2]
  refine (toW_val (h.take i) (fun x hx => ?_)).symm
  rcases hl with rfl | hl
  · simp at hx
  · rw [List.getLast?_eq_getElem?, List.length_take, List.getElem?_take] at hx
    have e3 : min i a.length - 1 = i - 1 := by omega
    rw [e3] at hx
    split at hx
    · rw [List.getD_eq_getElem?_getD, hx] at hl
      exact hl
    · cases hx
end Go.Proofs.Ythefflmebkcilaa.Fw
