/- Texts of the proof, one after the other: GA PA GB SA PB SB PC SC SD PK PD SE PE SF PF SG SH SI PG SJ PH. -/
import Derived.Test.YtolkecnhncbkhaaGreatProg
import Derived.Laws.BitsAllLaws
import Derived.Laws.Bits64
import Derived.Test.YtolkecnhncbkhaaGreatM2
set_option linter.unusedSimpArgs false
set_option linter.unusedVariables false
/- The numbers of the functions and types, and what is known of the types. -/
set_option linter.unusedVariables false
namespace Go.Proofs.YtolkecnhncbkhaaGreat.Fw
open Go
abbrev tInt : TypeId := 3
abbrev tBool : TypeId := 4
abbrev tWs : TypeId := 35
abbrev tU32 : TypeId := 85
abbrev tU64 : TypeId := 84
abbrev tFrac : TypeId := 54
abbrev tFs : TypeId := 28
abbrev tR9 : TypeId := 37
abbrev tR9s : TypeId := 22
abbrev tWhole : TypeId := 52
abbrev tRW : TypeId := 130
abbrev tFun : TypeId := 30
abbrev tRfun : TypeId := 24
abbrev tWss : TypeId := 149
abbrev tFss : TypeId := 132
def TB : TT := fun t =>
  bif Nat.beq t 3 then ⟨1, 8, [.int .i64 0], .int .i64⟩ else
  bif Nat.beq t 4 then ⟨1, 1, [.bool false], .bool⟩ else
  bif Nat.beq t 35 then ⟨1, 24, [.words []], .sl 85⟩ else
  bif Nat.beq t 85 then ⟨1, 4, [.int .u32 0], .int .u32⟩ else
  bif Nat.beq t 84 then ⟨1, 8, [.int .u64 0], .int .u64⟩ else
  bif Nat.beq t 54 then ⟨3, 56, [.bool false, .words [], .words []], .st [(0, 52), (2, 35)]⟩ else
  bif Nat.beq t 28 then ⟨1, 24, [.rows 3 []], .sl 54⟩ else
  bif Nat.beq t 37 then ⟨3, 56, [.bool false, .words [], .words []], .st [(0, 4), (1, 35), (2, 35)]⟩ else
  bif Nat.beq t 22 then ⟨1, 24, [.rows 3 []], .sl 37⟩ else
  bif Nat.beq t 52 then ⟨2, 32, [.bool false, .words []], .st [(0, 4), (1, 35)]⟩ else
  bif Nat.beq t 130 then ⟨2, 32, [.bool false, .words []], .st [(0, 4), (1, 35)]⟩ else
  bif Nat.beq t 30 then ⟨2, 48, [.rows 3 [], .rows 3 []], .st [(0, 28), (1, 28)]⟩ else
  bif Nat.beq t 24 then ⟨2, 48, [.rows 3 [], .rows 3 []], .st [(0, 22), (1, 22)]⟩ else
  bif Nat.beq t 149 then ⟨1, 24, [.rows 1 []], .sl 35⟩ else
  bif Nat.beq t 132 then ⟨1, 24, [.rows 1 []], .sl 28⟩ else
  ⟨0, 0, [], .none⟩
theorem ok_tInt : TOK Tryz.prog TB 3 ∧ ((TB 3).k.agg = false → (TB 3).sz = 1) ∧ (TB 3).zero.length = (TB 3).sz ∧ (TB 3).zero.all zok = true := ⟨⟨by kernel_rfl, ⟨_, Tryz.underlying3, rfl⟩⟩, fun h => (by first | rfl | cases h), rfl, rfl⟩
theorem ok_tBool : TOK Tryz.prog TB 4 ∧ ((TB 4).k.agg = false → (TB 4).sz = 1) ∧ (TB 4).zero.length = (TB 4).sz ∧ (TB 4).zero.all zok = true := ⟨⟨by kernel_rfl, ⟨_, Tryz.underlying4, rfl⟩⟩, fun h => (by first | rfl | cases h), rfl, rfl⟩
theorem ok_tWs : TOK Tryz.prog TB 35 ∧ ((TB 35).k.agg = false → (TB 35).sz = 1) ∧ (TB 35).zero.length = (TB 35).sz ∧ (TB 35).zero.all zok = true := ⟨⟨by kernel_rfl, ⟨_, Tryz.underlying35, rfl⟩⟩, fun h => (by first | rfl | cases h), rfl, rfl⟩
theorem ok_tU32 : TOK Tryz.prog TB 85 ∧ ((TB 85).k.agg = false → (TB 85).sz = 1) ∧ (TB 85).zero.length = (TB 85).sz ∧ (TB 85).zero.all zok = true := ⟨⟨by kernel_rfl, ⟨_, Tryz.underlying85, rfl⟩⟩, fun h => (by first | rfl | cases h), rfl, rfl⟩
theorem ok_tU64 : TOK Tryz.prog TB 84 ∧ ((TB 84).k.agg = false → (TB 84).sz = 1) ∧ (TB 84).zero.length = (TB 84).sz ∧ (TB 84).zero.all zok = true := ⟨⟨by kernel_rfl, ⟨_, Tryz.underlying84, rfl⟩⟩, fun h => (by first | rfl | cases h), rfl, rfl⟩
theorem ok_tFrac : TOK Tryz.prog TB 54 ∧ ((TB 54).k.agg = false → (TB 54).sz = 1) ∧ (TB 54).zero.length = (TB 54).sz ∧ (TB 54).zero.all zok = true := ⟨⟨by kernel_rfl, ⟨_, Tryz.underlying54, ⟨_, rfl, rfl⟩⟩⟩, fun h => (by first | rfl | cases h), rfl, rfl⟩
theorem ok_tFs : TOK Tryz.prog TB 28 ∧ ((TB 28).k.agg = false → (TB 28).sz = 1) ∧ (TB 28).zero.length = (TB 28).sz ∧ (TB 28).zero.all zok = true := ⟨⟨by kernel_rfl, ⟨_, Tryz.underlying28, rfl⟩⟩, fun h => (by first | rfl | cases h), rfl, rfl⟩
theorem ok_tR9 : TOK Tryz.prog TB 37 ∧ ((TB 37).k.agg = false → (TB 37).sz = 1) ∧ (TB 37).zero.length = (TB 37).sz ∧ (TB 37).zero.all zok = true := ⟨⟨by kernel_rfl, ⟨_, Tryz.underlying37, ⟨_, rfl, rfl⟩⟩⟩, fun h => (by first | rfl | cases h), rfl, rfl⟩
theorem ok_tR9s : TOK Tryz.prog TB 22 ∧ ((TB 22).k.agg = false → (TB 22).sz = 1) ∧ (TB 22).zero.length = (TB 22).sz ∧ (TB 22).zero.all zok = true := ⟨⟨by kernel_rfl, ⟨_, Tryz.underlying22, rfl⟩⟩, fun h => (by first | rfl | cases h), rfl, rfl⟩
theorem ok_tWhole : TOK Tryz.prog TB 52 ∧ ((TB 52).k.agg = false → (TB 52).sz = 1) ∧ (TB 52).zero.length = (TB 52).sz ∧ (TB 52).zero.all zok = true := ⟨⟨by kernel_rfl, ⟨_, Tryz.underlying52, ⟨_, rfl, rfl⟩⟩⟩, fun h => (by first | rfl | cases h), rfl, rfl⟩
theorem ok_tRW : TOK Tryz.prog TB 130 ∧ ((TB 130).k.agg = false → (TB 130).sz = 1) ∧ (TB 130).zero.length = (TB 130).sz ∧ (TB 130).zero.all zok = true := ⟨⟨by kernel_rfl, ⟨_, Tryz.underlying130, ⟨_, rfl, rfl⟩⟩⟩, fun h => (by first | rfl | cases h), rfl, rfl⟩
theorem ok_tFun : TOK Tryz.prog TB 30 ∧ ((TB 30).k.agg = false → (TB 30).sz = 1) ∧ (TB 30).zero.length = (TB 30).sz ∧ (TB 30).zero.all zok = true := ⟨⟨by kernel_rfl, ⟨_, Tryz.underlying30, ⟨_, rfl, rfl⟩⟩⟩, fun h => (by first | rfl | cases h), rfl, rfl⟩
theorem ok_tRfun : TOK Tryz.prog TB 24 ∧ ((TB 24).k.agg = false → (TB 24).sz = 1) ∧ (TB 24).zero.length = (TB 24).sz ∧ (TB 24).zero.all zok = true := ⟨⟨by kernel_rfl, ⟨_, Tryz.underlying24, ⟨_, rfl, rfl⟩⟩⟩, fun h => (by first | rfl | cases h), rfl, rfl⟩
theorem ok_tWss : TOK Tryz.prog TB 149 ∧ ((TB 149).k.agg = false → (TB 149).sz = 1) ∧ (TB 149).zero.length = (TB 149).sz ∧ (TB 149).zero.all zok = true := ⟨⟨by kernel_rfl, ⟨_, Tryz.underlying149, rfl⟩⟩, fun h => (by first | rfl | cases h), rfl, rfl⟩
theorem ok_tFss : TOK Tryz.prog TB 132 ∧ ((TB 132).k.agg = false → (TB 132).sz = 1) ∧ (TB 132).zero.length = (TB 132).sz ∧ (TB 132).zero.all zok = true := ⟨⟨by kernel_rfl, ⟨_, Tryz.underlying132, rfl⟩⟩, fun h => (by first | rfl | cases h), rfl, rfl⟩
theorem hT : TAll Tryz.prog TB := by
  intro t h
  unfold TB at h
  by_cases e : t = 3
  · subst e; exact ok_tInt
  rw [beq_no e, cond_false] at h
  by_cases e : t = 4
  · subst e; exact ok_tBool
  rw [beq_no e, cond_false] at h
  by_cases e : t = 35
  · subst e; exact ok_tWs
  rw [beq_no e, cond_false] at h
  by_cases e : t = 85
  · subst e; exact ok_tU32
  rw [beq_no e, cond_false] at h
  by_cases e : t = 84
  · subst e; exact ok_tU64
  rw [beq_no e, cond_false] at h
  by_cases e : t = 54
  · subst e; exact ok_tFrac
  rw [beq_no e, cond_false] at h
  by_cases e : t = 28
  · subst e; exact ok_tFs
  rw [beq_no e, cond_false] at h
  by_cases e : t = 37
  · subst e; exact ok_tR9
  rw [beq_no e, cond_false] at h
  by_cases e : t = 22
  · subst e; exact ok_tR9s
  rw [beq_no e, cond_false] at h
  by_cases e : t = 52
  · subst e; exact ok_tWhole
  rw [beq_no e, cond_false] at h
  by_cases e : t = 130
  · subst e; exact ok_tRW
  rw [beq_no e, cond_false] at h
  by_cases e : t = 30
  · subst e; exact ok_tFun
  rw [beq_no e, cond_false] at h
  by_cases e : t = 24
  · subst e; exact ok_tRfun
  rw [beq_no e, cond_false] at h
  by_cases e : t = 149
  · subst e; exact ok_tWss
  rw [beq_no e, cond_false] at h
  by_cases e : t = 132
  · subst e; exact ok_tFss
  rw [beq_no e, cond_false] at h
  cases h
theorem hM : Tryz.prog.follows .mixedOrders = true := by kernel_rfl
abbrev g_retrospectlaw15_RatfSums : FuncId := 3
noncomputable abbrev f_retrospectlaw15_RatfSums : Func := Tryz.f3
theorem p_retrospectlaw15_RatfSums : Tryz.prog.funcs[g_retrospectlaw15_RatfSums]? = some f_retrospectlaw15_RatfSums := Tryz.func3
abbrev g_retrospectlaw15_RatfTells : FuncId := 4
noncomputable abbrev f_retrospectlaw15_RatfTells : Func := Tryz.f4
theorem p_retrospectlaw15_RatfTells : Tryz.prog.funcs[g_retrospectlaw15_RatfTells]? = some f_retrospectlaw15_RatfTells := Tryz.func4
abbrev g_retrospectref15_Long : FuncId := 5
noncomputable abbrev f_retrospectref15_Long : Func := Tryz.f5
theorem p_retrospectref15_Long : Tryz.prog.funcs[g_retrospectref15_Long]? = some f_retrospectref15_Long := Tryz.func5
abbrev g_retrospectlaw15_works : FuncId := 6
noncomputable abbrev f_retrospectlaw15_works : Func := Tryz.f6
theorem p_retrospectlaw15_works : Tryz.prog.funcs[g_retrospectlaw15_works]? = some f_retrospectlaw15_works := Tryz.func6
abbrev g_retrospectref15_Norm : FuncId := 7
noncomputable abbrev f_retrospectref15_Norm : Func := Tryz.f7
theorem p_retrospectref15_Norm : Tryz.prog.funcs[g_retrospectref15_Norm]? = some f_retrospectref15_Norm := Tryz.func7
abbrev g_retrospectlaw15_To : FuncId := 8
noncomputable abbrev f_retrospectlaw15_To : Func := Tryz.f8
theorem p_retrospectlaw15_To : Tryz.prog.funcs[g_retrospectlaw15_To]? = some f_retrospectlaw15_To := Tryz.func8
abbrev g_ratf_Quo : FuncId := 9
noncomputable abbrev f_ratf_Quo : Func := Tryz.f9
theorem p_ratf_Quo : Tryz.prog.funcs[g_ratf_Quo]? = some f_ratf_Quo := Tryz.func9
abbrev g_retrospectref15_Of : FuncId := 10
noncomputable abbrev f_retrospectref15_Of : Func := Tryz.f10
theorem p_retrospectref15_Of : Tryz.prog.funcs[g_retrospectref15_Of]? = some f_retrospectref15_Of := Tryz.func10
abbrev g_retrospectref09_Int : FuncId := 11
noncomputable abbrev f_retrospectref09_Int : Func := Tryz.f11
theorem p_retrospectref09_Int : Tryz.prog.funcs[g_retrospectref09_Int]? = some f_retrospectref09_Int := Tryz.func11
abbrev g_retrospectref15_Zero : FuncId := 12
noncomputable abbrev f_retrospectref15_Zero : Func := Tryz.f12
theorem p_retrospectref15_Zero : Tryz.prog.funcs[g_retrospectref15_Zero]? = some f_retrospectref15_Zero := Tryz.func12
abbrev g_retrospectref15_Quo : FuncId := 13
noncomputable abbrev f_retrospectref15_Quo : Func := Tryz.f13
theorem p_retrospectref15_Quo : Tryz.prog.funcs[g_retrospectref15_Quo]? = some f_retrospectref15_Quo := Tryz.func13
abbrev g_ratf_Pow : FuncId := 14
noncomputable abbrev f_ratf_Pow : Func := Tryz.f14
theorem p_ratf_Pow : Tryz.prog.funcs[g_ratf_Pow]? = some f_ratf_Pow := Tryz.func14
abbrev g_retrospectref15_Pow : FuncId := 15
noncomputable abbrev f_retrospectref15_Pow : Func := Tryz.f15
theorem p_retrospectref15_Pow : Tryz.prog.funcs[g_retrospectref15_Pow]? = some f_retrospectref15_Pow := Tryz.func15
abbrev g_retrospectlaw15_Is : FuncId := 16
noncomputable abbrev f_retrospectlaw15_Is : Func := Tryz.f16
theorem p_retrospectlaw15_Is : Tryz.prog.funcs[g_retrospectlaw15_Is]? = some f_retrospectlaw15_Is := Tryz.func16
abbrev g_ratf_Neg : FuncId := 17
noncomputable abbrev f_ratf_Neg : Func := Tryz.f17
theorem p_ratf_Neg : Tryz.prog.funcs[g_ratf_Neg]? = some f_ratf_Neg := Tryz.func17
abbrev g_retrospectref15_Neg : FuncId := 18
noncomputable abbrev f_retrospectref15_Neg : Func := Tryz.f18
theorem p_retrospectref15_Neg : Tryz.prog.funcs[g_retrospectref15_Neg]? = some f_retrospectref15_Neg := Tryz.func18
abbrev g_ratf_Add : FuncId := 19
noncomputable abbrev f_ratf_Add : Func := Tryz.f19
theorem p_ratf_Add : Tryz.prog.funcs[g_ratf_Add]? = some f_ratf_Add := Tryz.func19
abbrev g_retrospectref15_Add : FuncId := 20
noncomputable abbrev f_retrospectref15_Add : Func := Tryz.f20
theorem p_retrospectref15_Add : Tryz.prog.funcs[g_retrospectref15_Add]? = some f_retrospectref15_Add := Tryz.func20
abbrev g_ratf_Sub : FuncId := 21
noncomputable abbrev f_ratf_Sub : Func := Tryz.f21
theorem p_ratf_Sub : Tryz.prog.funcs[g_ratf_Sub]? = some f_ratf_Sub := Tryz.func21
abbrev g_ratf_Mul : FuncId := 22
noncomputable abbrev f_ratf_Mul : Func := Tryz.f22
theorem p_ratf_Mul : Tryz.prog.funcs[g_ratf_Mul]? = some f_ratf_Mul := Tryz.func22
abbrev g_retrospectref15_Mul : FuncId := 23
noncomputable abbrev f_retrospectref15_Mul : Func := Tryz.f23
theorem p_retrospectref15_Mul : Tryz.prog.funcs[g_retrospectref15_Mul]? = some f_retrospectref15_Mul := Tryz.func23
abbrev g_retrospectref09_Long : FuncId := 24
noncomputable abbrev f_retrospectref09_Long : Func := Tryz.f24
theorem p_retrospectref09_Long : Tryz.prog.funcs[g_retrospectref09_Long]? = some f_retrospectref09_Long := Tryz.func24
abbrev g_retrospectref09_Norm : FuncId := 25
noncomputable abbrev f_retrospectref09_Norm : Func := Tryz.f25
theorem p_retrospectref09_Norm : Tryz.prog.funcs[g_retrospectref09_Norm]? = some f_retrospectref09_Norm := Tryz.func25
abbrev g_ratf_New : FuncId := 26
noncomputable abbrev f_ratf_New : Func := Tryz.f26
theorem p_ratf_New : Tryz.prog.funcs[g_ratf_New]? = some f_ratf_New := Tryz.func26
abbrev g_ratf_Eval : FuncId := 27
noncomputable abbrev f_ratf_Eval : Func := Tryz.f27
theorem p_ratf_Eval : Tryz.prog.funcs[g_ratf_Eval]? = some f_ratf_Eval := Tryz.func27
abbrev g_retrospectlaw09_To : FuncId := 28
noncomputable abbrev f_retrospectlaw09_To : Func := Tryz.f28
theorem p_retrospectlaw09_To : Tryz.prog.funcs[g_retrospectlaw09_To]? = some f_retrospectlaw09_To := Tryz.func28
abbrev g_retrospectref15_Eval : FuncId := 29
noncomputable abbrev f_retrospectref15_Eval : Func := Tryz.f29
theorem p_retrospectref15_Eval : Tryz.prog.funcs[g_retrospectref15_Eval]? = some f_retrospectref15_Eval := Tryz.func29
abbrev g_ratf_Norm : FuncId := 30
noncomputable abbrev f_ratf_Norm : Func := Tryz.f30
theorem p_ratf_Norm : Tryz.prog.funcs[g_ratf_Norm]? = some f_ratf_Norm := Tryz.func30
abbrev g_retrospectlaw09_Is : FuncId := 31
noncomputable abbrev f_retrospectlaw09_Is : Func := Tryz.f31
theorem p_retrospectlaw09_Is : Tryz.prog.funcs[g_retrospectlaw09_Is]? = some f_retrospectlaw09_Is := Tryz.func31
abbrev g_ratf_Zero : FuncId := 32
noncomputable abbrev f_ratf_Zero : Func := Tryz.f32
theorem p_ratf_Zero : Tryz.prog.funcs[g_ratf_Zero]? = some f_ratf_Zero := Tryz.func32
abbrev g_ratf_Same : FuncId := 33
noncomputable abbrev f_ratf_Same : Func := Tryz.f33
theorem p_ratf_Same : Tryz.prog.funcs[g_ratf_Same]? = some f_ratf_Same := Tryz.func33
abbrev g_retrospectref15_Same : FuncId := 34
noncomputable abbrev f_retrospectref15_Same : Func := Tryz.f34
theorem p_retrospectref15_Same : Tryz.prog.funcs[g_retrospectref15_Same]? = some f_retrospectref15_Same := Tryz.func34
abbrev g_ratf_Diff : FuncId := 35
noncomputable abbrev f_ratf_Diff : Func := Tryz.f35
theorem p_ratf_Diff : Tryz.prog.funcs[g_ratf_Diff]? = some f_ratf_Diff := Tryz.func35
abbrev g_retrospectref15_Diff : FuncId := 36
noncomputable abbrev f_retrospectref15_Diff : Func := Tryz.f36
theorem p_retrospectref15_Diff : Tryz.prog.funcs[g_retrospectref15_Diff]? = some f_retrospectref15_Diff := Tryz.func36
abbrev g_ratf_Of : FuncId := 37
noncomputable abbrev f_ratf_Of : Func := Tryz.f37
theorem p_ratf_Of : Tryz.prog.funcs[g_ratf_Of]? = some f_ratf_Of := Tryz.func37
abbrev g_retrospectref11_Long : FuncId := 38
noncomputable abbrev f_retrospectref11_Long : Func := Tryz.f38
theorem p_retrospectref11_Long : Tryz.prog.funcs[g_retrospectref11_Long]? = some f_retrospectref11_Long := Tryz.func38
abbrev g_ratf_Line : FuncId := 39
noncomputable abbrev f_ratf_Line : Func := Tryz.f39
theorem p_ratf_Line : Tryz.prog.funcs[g_ratf_Line]? = some f_ratf_Line := Tryz.func39
abbrev g_frac_Of : FuncId := 40
noncomputable abbrev f_frac_Of : Func := Tryz.f40
theorem p_frac_Of : Tryz.prog.funcs[g_frac_Of]? = some f_frac_Of := Tryz.func40
abbrev g_frac_Ratio : FuncId := 41
noncomputable abbrev f_frac_Ratio : Func := Tryz.f41
theorem p_frac_Ratio : Tryz.prog.funcs[g_frac_Ratio]? = some f_frac_Ratio := Tryz.func41
abbrev g_retrospectref14_Norm : FuncId := 42
noncomputable abbrev f_retrospectref14_Norm : Func := Tryz.f42
theorem p_retrospectref14_Norm : Tryz.prog.funcs[g_retrospectref14_Norm]? = some f_retrospectref14_Norm := Tryz.func42
abbrev g_retrospectref11_Norms : FuncId := 43
noncomputable abbrev f_retrospectref11_Norms : Func := Tryz.f43
theorem p_retrospectref11_Norms : Tryz.prog.funcs[g_retrospectref11_Norms]? = some f_retrospectref11_Norms := Tryz.func43
abbrev g_retrospectref15_one : FuncId := 44
noncomputable abbrev f_retrospectref15_one : Func := Tryz.f44
theorem p_retrospectref15_one : Tryz.prog.funcs[g_retrospectref15_one]? = some f_retrospectref15_one := Tryz.func44
abbrev g_retrospectref14_Gcd : FuncId := 45
noncomputable abbrev f_retrospectref14_Gcd : Func := Tryz.f45
theorem p_retrospectref14_Gcd : Tryz.prog.funcs[g_retrospectref14_Gcd]? = some f_retrospectref14_Gcd := Tryz.func45
abbrev g_retrospectref14_Div : FuncId := 46
noncomputable abbrev f_retrospectref14_Div : Func := Tryz.f46
theorem p_retrospectref14_Div : Tryz.prog.funcs[g_retrospectref14_Div]? = some f_retrospectref14_Div := Tryz.func46
abbrev g_retrospectref09_Quo : FuncId := 47
noncomputable abbrev f_retrospectref09_Quo : Func := Tryz.f47
theorem p_retrospectref09_Quo : Tryz.prog.funcs[g_retrospectref09_Quo]? = some f_retrospectref09_Quo := Tryz.func47
abbrev g_retrospectref14_Scale : FuncId := 48
noncomputable abbrev f_retrospectref14_Scale : Func := Tryz.f48
theorem p_retrospectref14_Scale : Tryz.prog.funcs[g_retrospectref14_Scale]? = some f_retrospectref14_Scale := Tryz.func48
abbrev g_retrospectlaw11_To : FuncId := 49
noncomputable abbrev f_retrospectlaw11_To : Func := Tryz.f49
theorem p_retrospectlaw11_To : Tryz.prog.funcs[g_retrospectlaw11_To]? = some f_retrospectlaw11_To := Tryz.func49
abbrev g_ratf_parts : FuncId := 50
noncomputable abbrev f_ratf_parts : Func := Tryz.f50
theorem p_ratf_parts : Tryz.prog.funcs[g_ratf_parts]? = some f_ratf_parts := Tryz.func50
abbrev g_poly_Mul : FuncId := 51
noncomputable abbrev f_poly_Mul : Func := Tryz.f51
theorem p_poly_Mul : Tryz.prog.funcs[g_poly_Mul]? = some f_poly_Mul := Tryz.func51
abbrev g_retrospectref15_Line : FuncId := 52
noncomputable abbrev f_retrospectref15_Line : Func := Tryz.f52
theorem p_retrospectref15_Line : Tryz.prog.funcs[g_retrospectref15_Line]? = some f_retrospectref15_Line := Tryz.func52
abbrev g_retrospectref02_Add : FuncId := 53
noncomputable abbrev f_retrospectref02_Add : Func := Tryz.f53
theorem p_retrospectref02_Add : Tryz.prog.funcs[g_retrospectref02_Add]? = some f_retrospectref02_Add := Tryz.func53
abbrev g_retrospectref02_Of : FuncId := 54
noncomputable abbrev f_retrospectref02_Of : Func := Tryz.f54
theorem p_retrospectref02_Of : Tryz.prog.funcs[g_retrospectref02_Of]? = some f_retrospectref02_Of := Tryz.func54
abbrev g_retrospectref14_Mul : FuncId := 55
noncomputable abbrev f_retrospectref14_Mul : Func := Tryz.f55
theorem p_retrospectref14_Mul : Tryz.prog.funcs[g_retrospectref14_Mul]? = some f_retrospectref14_Mul := Tryz.func55
abbrev g_ratf_one : FuncId := 56
noncomputable abbrev f_ratf_one : Func := Tryz.f56
theorem p_ratf_one : Tryz.prog.funcs[g_ratf_one]? = some f_ratf_one := Tryz.func56
abbrev g_retrospectlaw11_Is : FuncId := 57
noncomputable abbrev f_retrospectlaw11_Is : Func := Tryz.f57
theorem p_retrospectlaw11_Is : Tryz.prog.funcs[g_retrospectlaw11_Is]? = some f_retrospectlaw11_Is := Tryz.func57
abbrev g_row_Scale : FuncId := 58
noncomputable abbrev f_row_Scale : Func := Tryz.f58
theorem p_row_Scale : Tryz.prog.funcs[g_row_Scale]? = some f_row_Scale := Tryz.func58
abbrev g_ratf_cancel : FuncId := 59
noncomputable abbrev f_ratf_cancel : Func := Tryz.f59
theorem p_ratf_cancel : Tryz.prog.funcs[g_ratf_cancel]? = some f_ratf_cancel := Tryz.func59
abbrev g_poly_Add : FuncId := 60
noncomputable abbrev f_poly_Add : Func := Tryz.f60
theorem p_poly_Add : Tryz.prog.funcs[g_poly_Add]? = some f_poly_Add := Tryz.func60
abbrev g_retrospectref14_Add : FuncId := 61
noncomputable abbrev f_retrospectref14_Add : Func := Tryz.f61
theorem p_retrospectref14_Add : Tryz.prog.funcs[g_retrospectref14_Add]? = some f_retrospectref14_Add := Tryz.func61
abbrev g_retrospectref02_Norm : FuncId := 62
noncomputable abbrev f_retrospectref02_Norm : Func := Tryz.f62
theorem p_retrospectref02_Norm : Tryz.prog.funcs[g_retrospectref02_Norm]? = some f_retrospectref02_Norm := Tryz.func62
abbrev g_retrospectref06_One : FuncId := 63
noncomputable abbrev f_retrospectref06_One : Func := Tryz.f63
theorem p_retrospectref06_One : Tryz.prog.funcs[g_retrospectref06_One]? = some f_retrospectref06_One := Tryz.func63
abbrev g_retrospectref06_Gcd : FuncId := 64
noncomputable abbrev f_retrospectref06_Gcd : Func := Tryz.f64
theorem p_retrospectref06_Gcd : Tryz.prog.funcs[g_retrospectref06_Gcd]? = some f_retrospectref06_Gcd := Tryz.func64
abbrev g_retrospectref06_Over : FuncId := 65
noncomputable abbrev f_retrospectref06_Over : Func := Tryz.f65
theorem p_retrospectref06_Over : Tryz.prog.funcs[g_retrospectref06_Over]? = some f_retrospectref06_Over := Tryz.func65
abbrev g_poly_Degree : FuncId := 66
noncomputable abbrev f_poly_Degree : Func := Tryz.f66
theorem p_poly_Degree : Tryz.prog.funcs[g_poly_Degree]? = some f_poly_Degree := Tryz.func66
abbrev g_frac_Quo : FuncId := 67
noncomputable abbrev f_frac_Quo : Func := Tryz.f67
theorem p_frac_Quo : Tryz.prog.funcs[g_frac_Quo]? = some f_frac_Quo := Tryz.func67
abbrev g_poly_Eval : FuncId := 68
noncomputable abbrev f_poly_Eval : Func := Tryz.f68
theorem p_poly_Eval : Tryz.prog.funcs[g_poly_Eval]? = some f_poly_Eval := Tryz.func68
abbrev g_retrospectref14_Eval : FuncId := 69
noncomputable abbrev f_retrospectref14_Eval : Func := Tryz.f69
theorem p_retrospectref14_Eval : Tryz.prog.funcs[g_retrospectref14_Eval]? = some f_retrospectref14_Eval := Tryz.func69
abbrev g_retrospectref09_Zero : FuncId := 70
noncomputable abbrev f_retrospectref09_Zero : Func := Tryz.f70
theorem p_retrospectref09_Zero : Tryz.prog.funcs[g_retrospectref09_Zero]? = some f_retrospectref09_Zero := Tryz.func70
abbrev g_retrospectref09_Same : FuncId := 71
noncomputable abbrev f_retrospectref09_Same : Func := Tryz.f71
theorem p_retrospectref09_Same : Tryz.prog.funcs[g_retrospectref09_Same]? = some f_retrospectref09_Same := Tryz.func71
abbrev g_retrospectlaw09_Of : FuncId := 72
noncomputable abbrev f_retrospectlaw09_Of : Func := Tryz.f72
theorem p_retrospectlaw09_Of : Tryz.prog.funcs[g_retrospectlaw09_Of]? = some f_retrospectlaw09_Of := Tryz.func72
abbrev g_poly_Same : FuncId := 73
noncomputable abbrev f_poly_Same : Func := Tryz.f73
theorem p_poly_Same : Tryz.prog.funcs[g_poly_Same]? = some f_poly_Same := Tryz.func73
abbrev g_retrospectref11_Same : FuncId := 74
noncomputable abbrev f_retrospectref11_Same : Func := Tryz.f74
theorem p_retrospectref11_Same : Tryz.prog.funcs[g_retrospectref11_Same]? = some f_retrospectref11_Same := Tryz.func74
abbrev g_poly_Sub : FuncId := 75
noncomputable abbrev f_poly_Sub : Func := Tryz.f75
theorem p_poly_Sub : Tryz.prog.funcs[g_poly_Sub]? = some f_poly_Sub := Tryz.func75
abbrev g_poly_Diff : FuncId := 76
noncomputable abbrev f_poly_Diff : Func := Tryz.f76
theorem p_poly_Diff : Tryz.prog.funcs[g_poly_Diff]? = some f_poly_Diff := Tryz.func76
abbrev g_retrospectref14_Sub : FuncId := 77
noncomputable abbrev f_retrospectref14_Sub : Func := Tryz.f77
theorem p_retrospectref14_Sub : Tryz.prog.funcs[g_retrospectref14_Sub]? = some f_retrospectref14_Sub := Tryz.func77
abbrev g_retrospectref14_Diff : FuncId := 78
noncomputable abbrev f_retrospectref14_Diff : Func := Tryz.f78
theorem p_retrospectref14_Diff : Tryz.prog.funcs[g_retrospectref14_Diff]? = some f_retrospectref14_Diff := Tryz.func78
abbrev g_poly_Norm : FuncId := 79
noncomputable abbrev f_poly_Norm : Func := Tryz.f79
theorem p_poly_Norm : Tryz.prog.funcs[g_poly_Norm]? = some f_poly_Norm := Tryz.func79
abbrev g_whole_Of : FuncId := 80
noncomputable abbrev f_whole_Of : Func := Tryz.f80
theorem p_whole_Of : Tryz.prog.funcs[g_whole_Of]? = some f_whole_Of := Tryz.func80
abbrev g_nat_Of : FuncId := 81
noncomputable abbrev f_nat_Of : Func := Tryz.f81
theorem p_nat_Of : Tryz.prog.funcs[g_nat_Of]? = some f_nat_Of := Tryz.func81
abbrev g_retrospectref11_Zero : FuncId := 82
noncomputable abbrev f_retrospectref11_Zero : Func := Tryz.f82
theorem p_retrospectref11_Zero : Tryz.prog.funcs[g_retrospectref11_Zero]? = some f_retrospectref11_Zero := Tryz.func82
abbrev g_retrospectref04_Mul : FuncId := 83
noncomputable abbrev f_retrospectref04_Mul : Func := Tryz.f83
theorem p_retrospectref04_Mul : Tryz.prog.funcs[g_retrospectref04_Mul]? = some f_retrospectref04_Mul := Tryz.func83
abbrev g_retrospectref11_Scale : FuncId := 84
noncomputable abbrev f_retrospectref11_Scale : Func := Tryz.f84
theorem p_retrospectref11_Scale : Tryz.prog.funcs[g_retrospectref11_Scale]? = some f_retrospectref11_Scale := Tryz.func84
abbrev g_poly_long : FuncId := 85
noncomputable abbrev f_poly_long : Func := Tryz.f85
theorem p_poly_long : Tryz.prog.funcs[g_poly_long]? = some f_poly_long := Tryz.func85
abbrev g_frac_Sign : FuncId := 86
noncomputable abbrev f_frac_Sign : Func := Tryz.f86
theorem p_frac_Sign : Tryz.prog.funcs[g_frac_Sign]? = some f_frac_Sign := Tryz.func86
abbrev g_frac_Add : FuncId := 87
noncomputable abbrev f_frac_Add : Func := Tryz.f87
theorem p_frac_Add : Tryz.prog.funcs[g_frac_Add]? = some f_frac_Add := Tryz.func87
abbrev g_frac_Mul : FuncId := 88
noncomputable abbrev f_frac_Mul : Func := Tryz.f88
theorem p_frac_Mul : Tryz.prog.funcs[g_frac_Mul]? = some f_frac_Mul := Tryz.func88
abbrev g_retrospectref02_At : FuncId := 89
noncomputable abbrev f_retrospectref02_At : Func := Tryz.f89
theorem p_retrospectref02_At : Tryz.prog.funcs[g_retrospectref02_At]? = some f_retrospectref02_At := Tryz.func89
abbrev g_retrospectref09_Add : FuncId := 90
noncomputable abbrev f_retrospectref09_Add : Func := Tryz.f90
theorem p_retrospectref09_Add : Tryz.prog.funcs[g_retrospectref09_Add]? = some f_retrospectref09_Add := Tryz.func90
abbrev g_retrospectref09_Mul : FuncId := 91
noncomputable abbrev f_retrospectref09_Mul : Func := Tryz.f91
theorem p_retrospectref09_Mul : Tryz.prog.funcs[g_retrospectref09_Mul]? = some f_retrospectref09_Mul := Tryz.func91
abbrev g_retrospectlaw11_Of : FuncId := 92
noncomputable abbrev f_retrospectlaw11_Of : Func := Tryz.f92
theorem p_retrospectlaw11_Of : Tryz.prog.funcs[g_retrospectlaw11_Of]? = some f_retrospectlaw11_Of := Tryz.func92
abbrev g_poly_Gcd : FuncId := 93
noncomputable abbrev f_poly_Gcd : Func := Tryz.f93
theorem p_poly_Gcd : Tryz.prog.funcs[g_poly_Gcd]? = some f_poly_Gcd := Tryz.func93
abbrev g_poly_Div : FuncId := 94
noncomputable abbrev f_poly_Div : Func := Tryz.f94
theorem p_poly_Div : Tryz.prog.funcs[g_poly_Div]? = some f_poly_Div := Tryz.func94
abbrev g_poly_Scale : FuncId := 95
noncomputable abbrev f_poly_Scale : Func := Tryz.f95
theorem p_poly_Scale : Tryz.prog.funcs[g_poly_Scale]? = some f_poly_Scale := Tryz.func95
abbrev g_row_Add : FuncId := 96
noncomputable abbrev f_row_Add : Func := Tryz.f96
theorem p_row_Add : Tryz.prog.funcs[g_row_Add]? = some f_row_Add := Tryz.func96
abbrev g_retrospectref14_At : FuncId := 97
noncomputable abbrev f_retrospectref14_At : Func := Tryz.f97
theorem p_retrospectref14_At : Tryz.prog.funcs[g_retrospectref14_At]? = some f_retrospectref14_At := Tryz.func97
abbrev g_retrospectref06_odd : FuncId := 98
noncomputable abbrev f_retrospectref06_odd : Func := Tryz.f98
theorem p_retrospectref06_odd : Tryz.prog.funcs[g_retrospectref06_odd]? = some f_retrospectref06_odd := Tryz.func98
abbrev g_retrospectref02_Cmp : FuncId := 99
noncomputable abbrev f_retrospectref02_Cmp : Func := Tryz.f99
theorem p_retrospectref02_Cmp : Tryz.prog.funcs[g_retrospectref02_Cmp]? = some f_retrospectref02_Cmp := Tryz.func99
abbrev g_retrospectref05_Less : FuncId := 100
noncomputable abbrev f_retrospectref05_Less : Func := Tryz.f100
theorem p_retrospectref05_Less : Tryz.prog.funcs[g_retrospectref05_Less]? = some f_retrospectref05_Less := Tryz.func100
abbrev g_retrospectref06_double : FuncId := 101
noncomputable abbrev f_retrospectref06_double : Func := Tryz.f101
theorem p_retrospectref06_double : Tryz.prog.funcs[g_retrospectref06_double]? = some f_retrospectref06_double := Tryz.func101
abbrev g_retrospectref05_Div : FuncId := 102
noncomputable abbrev f_retrospectref05_Div : Func := Tryz.f102
theorem p_retrospectref05_Div : Tryz.prog.funcs[g_retrospectref05_Div]? = some f_retrospectref05_Div := Tryz.func102
abbrev g_frac_parts : FuncId := 103
noncomputable abbrev f_frac_parts : Func := Tryz.f103
theorem p_frac_parts : Tryz.prog.funcs[g_frac_parts]? = some f_frac_parts := Tryz.func103
abbrev g_whole_Sign : FuncId := 104
noncomputable abbrev f_whole_Sign : Func := Tryz.f104
theorem p_whole_Sign : Tryz.prog.funcs[g_whole_Sign]? = some f_whole_Sign := Tryz.func104
abbrev g_frac_cross : FuncId := 105
noncomputable abbrev f_frac_cross : Func := Tryz.f105
theorem p_frac_cross : Tryz.prog.funcs[g_frac_cross]? = some f_frac_cross := Tryz.func105
abbrev g_frac_cancel : FuncId := 106
noncomputable abbrev f_frac_cancel : Func := Tryz.f106
theorem p_frac_cancel : Tryz.prog.funcs[g_frac_cancel]? = some f_frac_cancel := Tryz.func106
abbrev g_prod_Mul : FuncId := 107
noncomputable abbrev f_prod_Mul : Func := Tryz.f107
theorem p_prod_Mul : Tryz.prog.funcs[g_prod_Mul]? = some f_prod_Mul := Tryz.func107
abbrev g_retrospectref02_Same : FuncId := 108
noncomputable abbrev f_retrospectref02_Same : Func := Tryz.f108
theorem p_retrospectref02_Same : Tryz.prog.funcs[g_retrospectref02_Same]? = some f_retrospectref02_Same := Tryz.func108
abbrev g_row_Same : FuncId := 109
noncomputable abbrev f_row_Same : Func := Tryz.f109
theorem p_row_Same : Tryz.prog.funcs[g_row_Same]? = some f_row_Same := Tryz.func109
abbrev g_whole_signed : FuncId := 110
noncomputable abbrev f_whole_signed : Func := Tryz.f110
theorem p_whole_signed : Tryz.prog.funcs[g_whole_signed]? = some f_whole_signed := Tryz.func110
abbrev g_nat_trim : FuncId := 111
noncomputable abbrev f_nat_trim : Func := Tryz.f111
theorem p_nat_trim : Tryz.prog.funcs[g_nat_trim]? = some f_nat_trim := Tryz.func111
abbrev g_whole_Add : FuncId := 112
noncomputable abbrev f_whole_Add : Func := Tryz.f112
theorem p_whole_Add : Tryz.prog.funcs[g_whole_Add]? = some f_whole_Add := Tryz.func112
abbrev g_whole_Mul : FuncId := 113
noncomputable abbrev f_whole_Mul : Func := Tryz.f113
theorem p_whole_Mul : Tryz.prog.funcs[g_whole_Mul]? = some f_whole_Mul := Tryz.func113
abbrev g_retrospectref08_Add : FuncId := 114
noncomputable abbrev f_retrospectref08_Add : Func := Tryz.f114
theorem p_retrospectref08_Add : Tryz.prog.funcs[g_retrospectref08_Add]? = some f_retrospectref08_Add := Tryz.func114
abbrev g_poly_monic : FuncId := 115
noncomputable abbrev f_poly_monic : Func := Tryz.f115
theorem p_poly_monic : Tryz.prog.funcs[g_poly_monic]? = some f_poly_monic := Tryz.func115
abbrev g_frac_Sub : FuncId := 116
noncomputable abbrev f_frac_Sub : Func := Tryz.f116
theorem p_frac_Sub : Tryz.prog.funcs[g_frac_Sub]? = some f_frac_Sub := Tryz.func116
abbrev g_row_norm : FuncId := 117
noncomputable abbrev f_row_norm : Func := Tryz.f117
theorem p_row_norm : Tryz.prog.funcs[g_row_norm]? = some f_row_norm := Tryz.func117
abbrev g_retrospectref01_Zeros : FuncId := 118
noncomputable abbrev f_retrospectref01_Zeros : Func := Tryz.f118
theorem p_retrospectref01_Zeros : Tryz.prog.funcs[g_retrospectref01_Zeros]? = some f_retrospectref01_Zeros := Tryz.func118
abbrev g_retrospectref06_down : FuncId := 119
noncomputable abbrev f_retrospectref06_down : Func := Tryz.f119
theorem p_retrospectref06_down : Tryz.prog.funcs[g_retrospectref06_down]? = some f_retrospectref06_down := Tryz.func119
abbrev g_retrospectref03_Len : FuncId := 120
noncomputable abbrev f_retrospectref03_Len : Func := Tryz.f120
theorem p_retrospectref03_Len : Tryz.prog.funcs[g_retrospectref03_Len]? = some f_retrospectref03_Len := Tryz.func120
abbrev g_retrospectref05_Double : FuncId := 121
noncomputable abbrev f_retrospectref05_Double : Func := Tryz.f121
theorem p_retrospectref05_Double : Tryz.prog.funcs[g_retrospectref05_Double]? = some f_retrospectref05_Double := Tryz.func121
abbrev g_nat_Zero : FuncId := 122
noncomputable abbrev f_nat_Zero : Func := Tryz.f122
theorem p_nat_Zero : Tryz.prog.funcs[g_nat_Zero]? = some f_nat_Zero := Tryz.func122
abbrev g_common_Cancel : FuncId := 123
noncomputable abbrev f_common_Cancel : Func := Tryz.f123
theorem p_common_Cancel : Tryz.prog.funcs[g_common_Cancel]? = some f_common_Cancel := Tryz.func123
abbrev g_whole_Norm : FuncId := 124
noncomputable abbrev f_whole_Norm : Func := Tryz.f124
theorem p_whole_Norm : Tryz.prog.funcs[g_whole_Norm]? = some f_whole_Norm := Tryz.func124
abbrev g_prod_row : FuncId := 125
noncomputable abbrev f_prod_row : Func := Tryz.f125
theorem p_prod_row : Tryz.prog.funcs[g_prod_row]? = some f_prod_row := Tryz.func125
abbrev g_nat_Norm : FuncId := 126
noncomputable abbrev f_nat_Norm : Func := Tryz.f126
theorem p_nat_Norm : Tryz.prog.funcs[g_nat_Norm]? = some f_nat_Norm := Tryz.func126
abbrev g_frac_Same : FuncId := 127
noncomputable abbrev f_frac_Same : Func := Tryz.f127
theorem p_frac_Same : Tryz.prog.funcs[g_frac_Same]? = some f_frac_Same := Tryz.func127
abbrev g_nat_Add : FuncId := 128
noncomputable abbrev f_nat_Add : Func := Tryz.f128
theorem p_nat_Add : Tryz.prog.funcs[g_nat_Add]? = some f_nat_Add := Tryz.func128
abbrev g_nat_Gap : FuncId := 129
noncomputable abbrev f_nat_Gap : Func := Tryz.f129
theorem p_nat_Gap : Tryz.prog.funcs[g_nat_Gap]? = some f_nat_Gap := Tryz.func129
abbrev g_retrospectref08_Norm : FuncId := 130
noncomputable abbrev f_retrospectref08_Norm : Func := Tryz.f130
theorem p_retrospectref08_Norm : Tryz.prog.funcs[g_retrospectref08_Norm]? = some f_retrospectref08_Norm := Tryz.func130
abbrev g_retrospectref02_Sub : FuncId := 131
noncomputable abbrev f_retrospectref02_Sub : Func := Tryz.f131
theorem p_retrospectref02_Sub : Tryz.prog.funcs[g_retrospectref02_Sub]? = some f_retrospectref02_Sub := Tryz.func131
abbrev g_whole_Sub : FuncId := 132
noncomputable abbrev f_whole_Sub : Func := Tryz.f132
theorem p_whole_Sub : Tryz.prog.funcs[g_whole_Sub]? = some f_whole_Sub := Tryz.func132
abbrev g_frac_Norm : FuncId := 133
noncomputable abbrev f_frac_Norm : Func := Tryz.f133
theorem p_frac_Norm : Tryz.prog.funcs[g_frac_Norm]? = some f_frac_Norm := Tryz.func133
abbrev g_retrospectref03_Has : FuncId := 134
noncomputable abbrev f_retrospectref03_Has : Func := Tryz.f134
theorem p_retrospectref03_Has : Tryz.prog.funcs[g_retrospectref03_Has]? = some f_retrospectref03_Has := Tryz.func134
abbrev g_common_Gcd : FuncId := 135
noncomputable abbrev f_common_Gcd : Func := Tryz.f135
theorem p_common_Gcd : Tryz.prog.funcs[g_common_Gcd]? = some f_common_Gcd := Tryz.func135
abbrev g_common_one : FuncId := 136
noncomputable abbrev f_common_one : Func := Tryz.f136
theorem p_common_one : Tryz.prog.funcs[g_common_one]? = some f_common_one := Tryz.func136
abbrev g_quot_Div : FuncId := 137
noncomputable abbrev f_quot_Div : Func := Tryz.f137
theorem p_quot_Div : Tryz.prog.funcs[g_quot_Div]? = some f_quot_Div := Tryz.func137
abbrev g_limb_Mul : FuncId := 138
noncomputable abbrev f_limb_Mul : Func := Tryz.f138
theorem p_limb_Mul : Tryz.prog.funcs[g_limb_Mul]? = some f_limb_Mul := Tryz.func138
abbrev g_nat_fresh : FuncId := 139
noncomputable abbrev f_nat_fresh : Func := Tryz.f139
theorem p_nat_fresh : Tryz.prog.funcs[g_nat_fresh]? = some f_nat_fresh := Tryz.func139
abbrev g_frac_Cmp : FuncId := 140
noncomputable abbrev f_frac_Cmp : Func := Tryz.f140
theorem p_frac_Cmp : Tryz.prog.funcs[g_frac_Cmp]? = some f_frac_Cmp := Tryz.func140
abbrev g_nat_plus : FuncId := 141
noncomputable abbrev f_nat_plus : Func := Tryz.f141
theorem p_nat_plus : Tryz.prog.funcs[g_nat_plus]? = some f_nat_plus := Tryz.func141
abbrev g_nat_Cmp : FuncId := 142
noncomputable abbrev f_nat_Cmp : Func := Tryz.f142
theorem p_nat_Cmp : Tryz.prog.funcs[g_nat_Cmp]? = some f_nat_Cmp := Tryz.func142
abbrev g_nat_Sub : FuncId := 143
noncomputable abbrev f_nat_Sub : Func := Tryz.f143
theorem p_nat_Sub : Tryz.prog.funcs[g_nat_Sub]? = some f_nat_Sub := Tryz.func143
abbrev g_whole_Neg : FuncId := 144
noncomputable abbrev f_whole_Neg : Func := Tryz.f144
theorem p_whole_Neg : Tryz.prog.funcs[g_whole_Neg]? = some f_whole_Neg := Tryz.func144
abbrev g_nat_Small : FuncId := 145
noncomputable abbrev f_nat_Small : Func := Tryz.f145
theorem p_nat_Small : Tryz.prog.funcs[g_nat_Small]? = some f_nat_Small := Tryz.func145
abbrev g_common_small : FuncId := 146
noncomputable abbrev f_common_small : Func := Tryz.f146
theorem p_common_small : Tryz.prog.funcs[g_common_small]? = some f_common_small := Tryz.func146
abbrev g_quot_Word : FuncId := 147
noncomputable abbrev f_quot_Word : Func := Tryz.f147
theorem p_quot_Word : Tryz.prog.funcs[g_quot_Word]? = some f_quot_Word := Tryz.func147
abbrev g_limb_Len : FuncId := 148
noncomputable abbrev f_limb_Len : Func := Tryz.f148
theorem p_limb_Len : Tryz.prog.funcs[g_limb_Len]? = some f_limb_Len := Tryz.func148
abbrev g_twos_Up : FuncId := 149
noncomputable abbrev f_twos_Up : Func := Tryz.f149
theorem p_twos_Up : Tryz.prog.funcs[g_twos_Up]? = some f_twos_Up := Tryz.func149
abbrev g_quot_long : FuncId := 150
noncomputable abbrev f_quot_long : Func := Tryz.f150
theorem p_quot_long : Tryz.prog.funcs[g_quot_long]? = some f_quot_long := Tryz.func150
abbrev g_twos_Down : FuncId := 151
noncomputable abbrev f_twos_Down : Func := Tryz.f151
theorem p_twos_Down : Tryz.prog.funcs[g_twos_Down]? = some f_twos_Down := Tryz.func151
abbrev g_whole_Cmp : FuncId := 152
noncomputable abbrev f_whole_Cmp : Func := Tryz.f152
theorem p_whole_Cmp : Tryz.prog.funcs[g_whole_Cmp]? = some f_whole_Cmp := Tryz.func152
abbrev g_limb_Add : FuncId := 153
noncomputable abbrev f_limb_Add : Func := Tryz.f153
theorem p_limb_Add : Tryz.prog.funcs[g_limb_Add]? = some f_limb_Add := Tryz.func153
abbrev g_limb_Sub : FuncId := 154
noncomputable abbrev f_limb_Sub : Func := Tryz.f154
theorem p_limb_Sub : Tryz.prog.funcs[g_limb_Sub]? = some f_limb_Sub := Tryz.func154
abbrev g_limb_Div : FuncId := 155
noncomputable abbrev f_limb_Div : Func := Tryz.f155
theorem p_limb_Div : Tryz.prog.funcs[g_limb_Div]? = some f_limb_Div := Tryz.func155
abbrev g_quot_guess : FuncId := 156
noncomputable abbrev f_quot_guess : Func := Tryz.f156
theorem p_quot_guess : Tryz.prog.funcs[g_quot_guess]? = some f_quot_guess := Tryz.func156
abbrev g_quot_take : FuncId := 157
noncomputable abbrev f_quot_take : Func := Tryz.f157
theorem p_quot_take : Tryz.prog.funcs[g_quot_take]? = some f_quot_take := Tryz.func157
abbrev g_quot_give : FuncId := 158
noncomputable abbrev f_quot_give : Func := Tryz.f158
theorem p_quot_give : Tryz.prog.funcs[g_quot_give]? = some f_quot_give := Tryz.func158
end Go.Proofs.YtolkecnhncbkhaaGreat.Fw

/- Words of 32 bits and numbers. -/
namespace Go.Proofs.YtolkecnhncbkhaaGreat.Pu
/-- words of 32 bits, the lowest first -/
def Wd (a : List Int) : Prop := ∀ x ∈ a, 0 ≤ x ∧ x < 4294967296
def val : List Int → Nat
  | [] => 0
  | x :: xs => x.toNat + 4294967296 * val xs
def toW (n : Nat) : List Int := if h : n = 0 then [] else ((n % 4294967296 : Nat) : Int) :: toW (n / 4294967296)
termination_by n
decreasing_by omega

theorem toW_zero : toW 0 = [] := by rw [toW]; simp
theorem toW_pos {n : Nat} (h : n ≠ 0) : toW n = ((n % 4294967296 : Nat) : Int) :: toW (n / 4294967296) := by
  rw [toW]; simp [h]
theorem Wd.nil : Wd [] := by intro x hx; cases hx
theorem Wd.cons {x : Int} {a : List Int} (h0 : 0 ≤ x) (h1 : x < 4294967296) (h : Wd a) : Wd (x :: a) := by
  intro y hy
  rcases List.mem_cons.1 hy with rfl | hy
  · exact ⟨h0, h1⟩
  · exact h y hy
theorem Wd.head {x : Int} {a : List Int} (h : Wd (x :: a)) : 0 ≤ x ∧ x < 4294967296 := h x (by simp)
theorem Wd.tail {x : Int} {a : List Int} (h : Wd (x :: a)) : Wd a := fun y hy => h y (by simp [hy])
theorem Wd.app {a b : List Int} (ha : Wd a) (hb : Wd b) : Wd (a ++ b) := by
  intro y hy
  rcases List.mem_append.1 hy with hy | hy
  · exact ha y hy
  · exact hb y hy
theorem Wd.left {a b : List Int} (h : Wd (a ++ b)) : Wd a := fun y hy => h y (by simp [hy])
theorem Wd.right {a b : List Int} (h : Wd (a ++ b)) : Wd b := fun y hy => h y (by simp [hy])
theorem Wd.take {a : List Int} (h : Wd a) (n : Nat) : Wd (a.take n) := fun y hy => h y (List.mem_of_mem_take hy)
theorem Wd.drop {a : List Int} (h : Wd a) (n : Nat) : Wd (a.drop n) := fun y hy => h y (List.mem_of_mem_drop hy)
theorem Wd.zeros (n : Nat) : Wd (List.replicate n 0) := by
  intro y hy
  have := List.eq_of_mem_replicate hy
  omega
theorem Wd.set {a : List Int} (h : Wd a) (i : Nat) {x : Int} (h0 : 0 ≤ x) (h1 : x < 4294967296) : Wd (a.set i x) := by
  intro y hy
  rcases List.mem_or_eq_of_mem_set hy with hy | rfl
  · exact h y hy
  · exact ⟨h0, h1⟩
theorem Wd.getD {a : List Int} (h : Wd a) (i : Nat) : 0 ≤ a.getD i 0 ∧ a.getD i 0 < 4294967296 := by
  by_cases hi : i < a.length
  · rw [List.getD_eq_getElem?_getD, List.getElem?_eq_getElem hi]
    exact h _ (List.getElem_mem hi)
  · rw [List.getD_eq_getElem?_getD, List.getElem?_eq_none (by omega)]
    simp
theorem Wd.toW (n : Nat) : Wd (toW n) := by
  induction n using Nat.strongRecOn with
  | _ n ih =>
    by_cases h : n = 0
    · subst h; rw [toW_zero]; exact Wd.nil
    · rw [toW_pos h]
      exact Wd.cons (by omega) (by omega) (ih _ (by omega))
theorem val_toW (n : Nat) : val (toW n) = n := by
  induction n using Nat.strongRecOn with
  | _ n ih =>
    by_cases h : n = 0
    · subst h; rw [toW_zero]; rfl
    · rw [toW_pos h, val, ih _ (by omega)]
      omega
theorem toW_inj {m n : Nat} (h : toW m = toW n) : m = n := by rw [← val_toW m, h, val_toW]
theorem val_app (a b : List Int) : val (a ++ b) = val a + 4294967296 ^ a.length * val b := by
  induction a with
  | nil => simp [val]
  | cons x a ih => simp only [List.cons_append, val, ih, List.length_cons, Nat.pow_succ]; grind
theorem val_lt {a : List Int} (h : Wd a) : val a < 4294967296 ^ a.length := by
  induction a with
  | nil => simp [val]
  | cons x a ih =>
    have := ih h.tail
    have hx := h.head
    simp only [val, List.length_cons, Nat.pow_succ]
    omega
theorem val_zeros (n : Nat) : val (List.replicate n 0) = 0 := by
  induction n with
  | zero => rfl
  | succ n ih => simp [List.replicate_succ, val, ih]
theorem val_app_zeros (a : List Int) (n : Nat) : val (a ++ List.replicate n 0) = val a := by rw [val_app, val_zeros]; simp
/-- what is normed is told by its value -/
theorem toW_val {a : List Int} (h : Wd a) (hl : ∀ x, a.getLast? = some x → x ≠ 0) : toW (val a) = a := by
  induction a with
  | nil => exact toW_zero
  | cons x a ih =>
    have hx := h.head
    have ht : toW (val a) = a := by
      apply ih h.tail
      intro y hy
      apply hl
      cases a with
      | nil => simp at hy
      | cons z a => simpa [List.getLast?_cons_cons] using hy
    have hne : val (x :: a) ≠ 0 := by
      intro h0
      simp only [val] at h0
      have ha : val a = 0 := by omega
      have hx0 : x = 0 := by omega
      rw [ha, toW_zero] at ht
      subst ht
      exact hl x (by simp) hx0
    rw [toW_pos hne]
    have e1 : ((val (x :: a) % 4294967296 : Nat) : Int) = x := by simp only [val]; omega
    have e2 : val (x :: a) / 4294967296 = val a := by simp only [val]; omega
    rw [e1, e2, ht]
theorem toW_last {n : Nat} {x : Int} (h : (toW n).getLast? = some x) : x ≠ 0 := by
  induction n using Nat.strongRecOn generalizing x with
  | _ n ih =>
    by_cases h0 : n = 0
    · subst h0; rw [toW_zero] at h; simp at h
    · rw [toW_pos h0] at h
      by_cases h1 : n / 4294967296 = 0
      · rw [h1, toW_zero] at h
        simp at h
        omega
      · refine ih (n / 4294967296) (by omega) (x := x) ?_
        rw [toW_pos h1] at h ⊢
        rwa [List.getLast?_cons_cons] at h
theorem toW_len_le {n L : Nat} (h : n < 4294967296 ^ L) : (toW n).length ≤ L := by
  induction L generalizing n with
  | zero =>
    have : n = 0 := by simpa using h
    subst this; rw [toW_zero]; simp
  | succ L ih =>
    by_cases h0 : n = 0
    · subst h0; rw [toW_zero]; simp
    · rw [toW_pos h0]
      have := ih (n := n / 4294967296) (by rw [Nat.pow_succ] at h; omega)
      simp; omega
theorem toW_len_iff {n L : Nat} : (toW n).length ≤ L ↔ n < 4294967296 ^ L := by
  refine ⟨fun h => ?_, toW_len_le⟩
  have := val_lt (Wd.toW n)
  rw [val_toW] at this
  exact Nat.lt_of_lt_of_le this (Nat.pow_le_pow_right (by omega) h)
theorem toW_nil_iff {n : Nat} : toW n = [] ↔ n = 0 := by
  refine ⟨fun h => ?_, fun h => by rw [h, toW_zero]⟩
  have := val_toW n
  rw [h] at this
  exact this.symm
theorem toW_len_zero {n : Nat} : (toW n).length = 0 ↔ n = 0 := by rw [List.length_eq_zero_iff, toW_nil_iff]
theorem toW_len_val_le {a : List Int} (h : Wd a) : (toW (val a)).length ≤ a.length := toW_len_le (val_lt h)
theorem toW_len_mono {m n : Nat} (h : m ≤ n) : (toW m).length ≤ (toW n).length := by
  rw [toW_len_iff]
  have := val_lt (Wd.toW n)
  rw [val_toW] at this
  omega
theorem val_eq_zero {a : List Int} (h : Wd a) : val a = 0 ↔ a = List.replicate a.length 0 := by
  constructor
  · intro h0
    induction a with
    | nil => rfl
    | cons x a ih =>
      have hx := h.head
      simp only [val] at h0
      rw [List.length_cons, List.replicate_succ, ← ih h.tail (by omega)]
      have : x = 0 := by omega
      rw [this]
  · intro h0; rw [h0, val_zeros]
end Go.Proofs.YtolkecnhncbkhaaGreat.Pu

/- Short ways through the walks. -/
set_option linter.unusedVariables false
namespace Go.Proofs.YtolkecnhncbkhaaGreat.Fw
open Go Pu
theorem run1 {g : FuncId} {fn : Func} {args : List V} {r : V} (keep : List Nat) (hf : Tryz.prog.funcs[g]? = some fn) (hname : (fn.name == "runtime.NumGoroutine") = false) (hn : Nat.ble args.length fn.ntmps = true)
    (h : ∀ B S F0 w0 V0, exF Tryz.prog TB keep ⟨fn.ntmps, B, S, F0, w0, V0⟩ fn args r) : Runs Tryz.prog g args r := by
  refine runs_of (T := TB) (keep := keep) hT hM hf hname (Nat.le_of_ble_eq_true hn) (fun c hc _ => ?_)
  obtain ⟨N, B, S, F0, w0, V0⟩ := c
  dsimp only at hc
  subst hc
  exact h B S F0 w0 V0
theorem runG {g : FuncId} {fn : Func} {args : List V} {mi mo : List (Nat × MO)} {r : V} (keep : List Nat) (hf : Tryz.prog.funcs[g]? = some fn) (hname : (fn.name == "runtime.NumGoroutine") = false) (hn : Nat.ble args.length fn.ntmps = true)
    (hk : keysOk fn.ntmps mi = true) (hko : moOk fn.ntmps mi mo = true) (h : ∀ B S F0 w0 V0, exG Tryz.prog TB keep ⟨fn.ntmps, B, S, F0, w0, V0⟩ fn args mi r mo) : RunsG Tryz.prog g args mi r mo := by
  refine runsG_of (T := TB) (keep := keep) hT hM hf hname (Nat.le_of_ble_eq_true hn) hk hko (fun c hc => ?_)
  obtain ⟨N, B, S, F0, w0, V0⟩ := c
  dsimp only at hc
  subst hc
  exact h B S F0 w0 V0
theorem weak_trans {c : Ctx} {s0 s1 s2 : St} (h1 : Weak c s0 s1) (h2 : Weak c s1 s2) : Weak c s0 s2 := by
  unfold Weak at *
  exact fun a w h => h1 a w (h2 a w h)
theorem weak_val {c : Ctx} {s : St} (t : Nat) (v : V) (h : ∀ w F ν x, VR w F ν s.mem (s.env t) x → VR w F ν s.mem v x) : Weak c (s.put (some t) v) s := by
  unfold Weak
  rintro a w ⟨F, ν, hs⟩
  refine ⟨F, ν, hs.sz, hs.dfr, fun t' => ?_, hs.mem, hs.sep, hs.inj, hs.fin, hs.keep, hs.base, hs.nu⟩
  rw [put_env]
  by_cases e : t' = t
  · rw [if_pos e, e]; exact h w F ν _ (hs.env t)
  · rw [if_neg e]; exact hs.env t'
/-- nil is an empty row. -/
theorem weak_nilW {c : Ctx} {s : St} (t : Nat) (h : s.env t = .nils) : Weak c (s.put (some t) (.d (.words []))) s := weak_val t _ fun w F ν x hx => by
  rw [h] at hx
  have hx : x = .slice none 0 0 := hx
  subst hx
  exact RepL.nilW w F
theorem weak_nilR {c : Ctx} {s : St} (t sz : Nat) (h : s.env t = .nils) : Weak c (s.put (some t) (.d (.rows sz []))) s := weak_val t _ fun w F ν x hx => by
  rw [h] at hx
  have hx : x = .slice none 0 0 := hx
  subst hx
  exact RepL.nilR w F sz
theorem opp_frz {c : Ctx} {s : St} {o : Oper} {K : St → Prop} (i : Nat) (m : MO) (hi : s.mem i = some m) (hiN : i < c.N) (hd : dstOk c.N o = true) (h : evalK Tryz.prog TB [] c [] 0 o K (freeze i m s)) : OpP Tryz.prog c o s K :=
  opp_weak _ (weak_freeze hiN hi) (opp_eval hT hd h)
theorem opp_frz2 {c : Ctx} {s : St} {o : Oper} {K : St → Prop} (i : Nat) (m : MO) (hi : s.mem i = some m) (hiN : i < c.N) (j : Nat) (n : MO) (hj : (freeze i m s).mem j = some n) (hjN : j < c.N) (hd : dstOk c.N o = true) (h : evalK Tryz.prog TB [] c [] 0 o K (freeze j n (freeze i m s))) : OpP Tryz.prog c o s K :=
  opp_weak _ (weak_freeze hiN hi) (opp_weak _ (weak_freeze hjN hj) (opp_eval hT hd h))
theorem opp_ev {c : Ctx} {s : St} {o : Oper} {K : St → Prop} (hd : dstOk c.N o = true) (h : evalK Tryz.prog TB [] c [] 0 o K s) : OpP Tryz.prog c o s K := opp_eval hT hd h
theorem call_G {c : Ctx} {s : St} {o : Oper} {K : St → Prop} {cl : Call} {g : FuncId} {args : List V} {mi mo : List (Nat × MO)} {r : V} (σ : List (Nat × Nat)) (hr : RunsG Tryz.prog g args mi r mo) (ho : o.op = .call cl) (hc : cl.callee = .value (.func g)) (hd : dstOk c.N o = true)
    (has : coeL TB (cl.args.toList.map s.ev) cl.argTypes.toList = args.map (renV (lk σ))) (hlive : liveA (memL mi) args = true) (hmi : AllMr s (lk σ) mi) (hsh : ShL mo mi) (hnew : NewL s c.N (lk σ) mi mo) (hinj : injB (lk σ) mo = true)
    (hK : K ((s.updL (lk σ) mo).put o.dst (renV (lk σ) r))) : OpP Tryz.prog c o s K := opp_callG (T := TB) (lk σ) hr ho hc hd has hlive hmi hsh hnew hinj hK
/-- The case of a call that is handed no objects and hands back one. -/
theorem call_new {c : Ctx} {s : St} {o : Oper} {K : St → Prop} {cl : Call} {g : FuncId} {args : List V} {i len : Nat} {m : MO} (d : Nat) (hr : RunsG Tryz.prog g args [] (.own i 0 len) [(i, m)]) (ho : o.op = .call cl) (hc : cl.callee = .value (.func g)) (hd : o.dst = some d) (hdN : Nat.blt d c.N = true)
    (hp : args.all plainV = true) (has : coeL TB (cl.args.toList.map s.ev) cl.argTypes.toList = args) (hm : s.mem d = none)
    (hK : K ((s.upd d m).put (some d) (.own d 0 len))) : OpP Tryz.prog c o s K := by
  have hlt : d < c.N := Nat.le_of_ble_eq_true hdN
  have e : lk [(i, d)] i = d := by simp [lk]
  refine call_G [(i, d)] hr ho hc ?_ ?_ ?_ trivial trivial ⟨?_, trivial⟩ ?_ ?_
  · unfold dstOk; rw [hd]; exact hdN
  · rw [has]
    have : ∀ (l : List V), l.all plainV = true → l = l.map (renV (lk [(i, d)])) := by
      intro l
      induction l with
      | nil => intro _; rfl
      | cons v l ih =>
        intro h
        simp only [List.all_cons, Bool.and_eq_true] at h
        rw [List.map_cons, ← ih h.2]
        cases v <;> first | rfl | (simp [plainV] at h)
    exact this args hp
  · have : ∀ (l : List V), l.all plainV = true → liveA (memL []) l = true := by
      intro l
      induction l with
      | nil => intro _; rfl
      | cons v l ih =>
        intro h
        simp only [List.all_cons, Bool.and_eq_true] at h
        simp only [liveA, ih h.2, Bool.and_true]
        cases v <;> first | rfl | (simp [plainV] at h)
    exact this args hp
  · show newOf s c.N (lk [(i, d)] i) none
    rw [e]
    exact ⟨hm, hlt⟩
  · simp [injB]
  · rw [hd]
    show K ((s.upd (lk [(i, d)] i) m).put (some d) (.own (lk [(i, d)] i) 0 len))
    rw [e]
    exact hK
theorem wr {x : Int} (h0 : -9223372036854775808 ≤ x) (h1 : x < 9223372036854775808) : IntKind.i64.wrap x = x := by rw [IntKind.wrap_i64]; omega
theorem w32 (x : Int) : IntKind.u32.wrap x = x % 4294967296 := IntKind.wrap_u32 x
theorem w64 (x : Int) : IntKind.u64.wrap x = x % 18446744073709551616 := IntKind.wrap_u64 x
theorem i64_inj {x y : Int} (h : x = y) : V.d (.int .i64 x) = V.d (.int .i64 y) := by rw [h]
theorem u32_inj {x y : Int} (h : x = y) : V.d (.int .u32 x) = V.d (.int .u32 y) := by rw [h]
theorem u64_inj {x y : Int} (h : x = y) : V.d (.int .u64 x) = V.d (.int .u64 y) := by rw [h]
theorem ws_inj {x y : List Int} (h : x = y) : V.d (.words x) = V.d (.words y) := by rw [h]
theorem b_inj {x y : Bool} (h : x = y) : V.d (.bool x) = V.d (.bool y) := by rw [h]
/-- An element that is there. -/
theorem el (a : List Int) {i : Nat} (h : i < a.length) : a[i]? = some (a.getD i 0) := by rw [List.getD_eq_getElem?_getD, List.getElem?_eq_getElem h]; rfl
theorem el' (a : List Int) {x : Int} {i : Nat} (hx : x = (i : Int)) (h : i < a.length) : a[x.toNat]? = some (a.getD i 0) := by subst hx; exact el a h
theorem idx_w {l : List Int} {x : Int} {k : Int → Prop} (i : Nat) (hx : x = (i : Int)) (h : i < l.length) (hk : k (l.getD i 0)) : IdxP l x k := idx_intro (l.getD i 0) (by omega) (el' l hx h) hk
theorem take_trim {a : List Int} {i : Nat} (h : Wd a) (hi : i ≤ a.length) (hz : ∀ j, i ≤ j → j < a.length → a[j]? = some 0) (hl : i = 0 ∨ a.getD (i - 1) 0 ≠ 0) : a.take i = toW (val a) := by
  have e1 : a.drop i = List.replicate (a.length - i) 0 := by
    apply List.ext_getElem?
    intro j
    rw [List.getElem?_drop]
    by_cases hj : i + j < a.length
    · rw [hz (i + j) (by omega) hj, List.getElem?_replicate, if_pos (by omega)]
    · rw [List.getElem?_eq_none (by omega), List.getElem?_replicate, if_neg (by omega)]
  have e2 : val a = val (a.take i) := by
    conv => lhs; rw [← List.take_append_drop i a, e1, val_app_zeros]
  rw [e2]
  refine (toW_val (h.take i) (fun x hx => ?_)).symm
  rcases hl with rfl | hl
  · simp at hx
  · rw [List.getLast?_eq_getElem?, List.length_take, List.getElem?_take] at hx
    have e3 : min i a.length - 1 = i - 1 := by omega
    rw [e3] at hx
    split at hx
    · rw [List.getD_eq_getElem?_getD, hx] at hl
      exact hl
    · cases hx
end Go.Proofs.YtolkecnhncbkhaaGreat.Fw

/- The words of 32 bits: sum, difference, product, quotient. -/
set_option linter.unusedVariables false
namespace Go.Proofs.YtolkecnhncbkhaaGreat.Fw
open Go Pu
theorem tup2 {a b c d : V} (h1 : a = b) (h2 : c = d) : V.tup [a, c] = V.tup [b, d] := by rw [h1, h2]
theorem tup3 {a b c d e f : V} (h1 : a = b) (h2 : c = d) (h3 : e = f) : V.tup [a, c, e] = V.tup [b, d, f] := by rw [h1, h2, h3]
def W32 (x : Int) : Prop := 0 ≤ x ∧ x < 4294967296

theorem limb_Add_spec {x y k : Int} (hx : W32 x) (hy : W32 y) (hk : W32 k) : Runs Tryz.prog g_limb_Add [.d (.int .u32 x), .d (.int .u32 y), .d (.int .u32 k)] (.tup [.d (.int .u32 ((x + y + k) % 4294967296)), .d (.int .u32 ((x + y + k) / 4294967296))]) := by
  refine run1 [] p_limb_Add rfl rfl (fun B S F0 w0 V0 => ?_)
  obtain ⟨hx0, hx1⟩ := hx
  obtain ⟨hy0, hy1⟩ := hy
  obtain ⟨hk0, hk1⟩ := hk
  refine split_intro (fun h => ?_) (fun h => ?_) <;> refine split_intro (fun h' => ?_) (fun h' => ?_) <;> refine ret_intro (tup2 (u32_inj ?_) (u32_inj ?_)) rfl <;>
    simp only [w32, decide_eq_true_eq, decide_eq_false_iff_not] at h h' ⊢ <;> omega
theorem limb_Sub_spec {x y k : Int} (hx : W32 x) (hy : W32 y) (hk : W32 k) : Runs Tryz.prog g_limb_Sub [.d (.int .u32 x), .d (.int .u32 y), .d (.int .u32 k)] (.tup [.d (.int .u32 ((x - y - k) % 4294967296)), .d (.int .u32 (-((x - y - k) / 4294967296)))]) := by
  refine run1 [] p_limb_Sub rfl rfl (fun B S F0 w0 V0 => ?_)
  obtain ⟨hx0, hx1⟩ := hx
  obtain ⟨hy0, hy1⟩ := hy
  obtain ⟨hk0, hk1⟩ := hk
  refine split_intro (fun h => ?_) (fun h => ?_) <;> refine split_intro (fun h' => ?_) (fun h' => ?_) <;> refine ret_intro (tup2 (u32_inj ?_) (u32_inj ?_)) rfl <;>
    simp only [w32, decide_eq_true_eq, decide_eq_false_iff_not] at h h' ⊢ <;> omega
theorem mul_bd {x y c d : Int} (hx : W32 x) (hy : W32 y) (hc : W32 c) (hd : W32 d) : 0 ≤ x * y ∧ x * y + c + d < 18446744073709551616 := by
  have h1 := Int.mul_nonneg hx.1 hy.1
  have h2 : x * y ≤ 4294967295 * 4294967295 := Int.mul_le_mul (by have := hx.2; omega) (by have := hy.2; omega) hy.1 (by omega)
  have := hc.2
  have := hd.2
  exact ⟨h1, by omega⟩
theorem limb_Mul_spec {x y c d : Int} (hx : W32 x) (hy : W32 y) (hc : W32 c) (hd : W32 d) : Runs Tryz.prog g_limb_Mul [.d (.int .u32 x), .d (.int .u32 y), .d (.int .u32 c), .d (.int .u32 d)] (.tup [.d (.int .u32 ((x * y + c + d) / 4294967296)), .d (.int .u32 ((x * y + c + d) % 4294967296))]) := by
  refine run1 [] p_limb_Mul rfl rfl (fun B S F0 w0 V0 => ?_)
  have hb := mul_bd hx hy hc hd
  obtain ⟨hx0, hx1⟩ := hx
  obtain ⟨hy0, hy1⟩ := hy
  obtain ⟨hc0, hc1⟩ := hc
  obtain ⟨hd0, hd1⟩ := hd
  refine side_intro (by show (0 : Int) ≤ 32; omega) ?_
  have e : IntKind.u64.wrap (IntKind.u64.wrap (IntKind.u64.wrap (IntKind.u64.wrap x * IntKind.u64.wrap y) + IntKind.u64.wrap c) + IntKind.u64.wrap d) = x * y + c + d := by
    simp only [w64]
    rw [Int.emod_eq_of_lt hx0 (by omega), Int.emod_eq_of_lt hy0 (by omega), Int.emod_eq_of_lt hc0 (by omega), Int.emod_eq_of_lt hd0 (by omega)]
    generalize x * y = p at hb ⊢
    omega
  refine ret_intro (tup2 (u32_inj ?_) (u32_inj ?_)) rfl
  · show IntKind.u32.wrap ((IntKind.u64.wrap (IntKind.u64.wrap (IntKind.u64.wrap (IntKind.u64.wrap x * IntKind.u64.wrap y) + IntKind.u64.wrap c) + IntKind.u64.wrap d)).fdiv 4294967296) = _
    rw [e, w32, Int.fdiv_eq_ediv_of_nonneg _ (by omega)]
    generalize x * y = p at hb ⊢
    omega
  · show IntKind.u32.wrap (IntKind.u64.wrap (IntKind.u64.wrap (IntKind.u64.wrap (IntKind.u64.wrap x * IntKind.u64.wrap y) + IntKind.u64.wrap c) + IntKind.u64.wrap d)) = _
    rw [e, w32]
theorem or_add (h l : Int) (h0 : 0 ≤ h) (h1 : h < 4294967296) (l0 : 0 ≤ l) (l1 : l < 4294967296) :
    IntKind.u64.wrap (BitVec.ofInt 64 (h * 4294967296) ||| BitVec.ofInt 64 l).toNat = h * 4294967296 + l := by
  obtain ⟨m, rfl⟩ := Int.eq_ofNat_of_zero_le h0
  obtain ⟨n, rfl⟩ := Int.eq_ofNat_of_zero_le l0
  have e1 : BitVec.ofInt 64 ((m : Int) * 4294967296) = BitVec.ofNat 64 (m * 4294967296) := by
    rw [show (m : Int) * 4294967296 = ((m * 4294967296 : Nat) : Int) by omega]
    exact BitVec.ofInt_natCast ..
  have e2 : BitVec.ofInt 64 (n : Int) = BitVec.ofNat 64 n := BitVec.ofInt_natCast ..
  rw [e1, e2, BitVec.toNat_or, BitVec.toNat_ofNat, BitVec.toNat_ofNat, Nat.mod_eq_of_lt (by omega), Nat.mod_eq_of_lt (by omega)]
  have e3 := Nat.two_pow_add_eq_or_of_lt (i := 32) (b := n) (by omega) m
  rw [show m * 4294967296 = 2 ^ 32 * m by omega, ← e3, w64]
  omega
theorem limb_Div_no {h l y : Int} (hh : y ≤ h) : Runs Tryz.prog g_limb_Div [.d (.int .u32 h), .d (.int .u32 l), .d (.int .u32 y)] (.tup [.d (.int .u32 0), .d (.int .u32 0), .d (.bool false)]) := by
  refine run1 [] p_limb_Div rfl rfl (fun B S F0 w0 V0 => ?_)
  refine split_true (decide_eq_true hh) ?_
  exact ret_intro rfl rfl
theorem limb_Div_spec {h l y : Int} (hh : W32 h) (hl : W32 l) (hy : W32 y) (hlt : h < y) : Runs Tryz.prog g_limb_Div [.d (.int .u32 h), .d (.int .u32 l), .d (.int .u32 y)] (.tup [.d (.int .u32 ((h * 4294967296 + l) / y)), .d (.int .u32 ((h * 4294967296 + l) % y)), .d (.bool true)]) := by
  refine run1 [] p_limb_Div rfl rfl (fun B S F0 w0 V0 => ?_)
  obtain ⟨hh0, hh1⟩ := hh
  obtain ⟨hl0, hl1⟩ := hl
  obtain ⟨hy0, hy1⟩ := hy
  refine split_false (decide_eq_false (by omega)) ?_
  refine side_intro (by show (0 : Int) ≤ 32; omega) ?_
  refine side_intro rfl ?_
  have eh : IntKind.u64.wrap h = h := by rw [w64]; omega
  have el : IntKind.u64.wrap l = l := by rw [w64]; omega
  have ey : IntKind.u64.wrap y = y := by rw [w64]; omega
  have e : IntKind.u64.wrap (BitVec.ofInt 64 (IntKind.u64.wrap (IntKind.u64.wrap h * 4294967296)) ||| BitVec.ofInt 64 (IntKind.u64.wrap l)).toNat = h * 4294967296 + l := by
    rw [eh, el, show IntKind.u64.wrap (h * 4294967296) = h * 4294967296 by rw [w64]; omega]
    exact or_add h l hh0 hh1 hl0 hl1
  have ql : (h * 4294967296 + l) / y < 4294967296 := by
    apply Int.ediv_lt_of_lt_mul (by omega)
    have : (h + 1) * 4294967296 ≤ y * 4294967296 := Int.mul_le_mul_of_nonneg_right (by omega) (by omega)
    omega
  have q0 : 0 ≤ (h * 4294967296 + l) / y := Int.ediv_nonneg (by omega) (by omega)
  have r0 : 0 ≤ (h * 4294967296 + l) % y := Int.emod_nonneg _ (by omega)
  have r1 : (h * 4294967296 + l) % y < y := Int.emod_lt_of_pos _ (by omega)
  refine side_intro (by show IntKind.u64.wrap y ≠ 0; omega) ?_
  refine side_intro (by show IntKind.u64.wrap y ≠ 0; omega) ?_
  refine ret_intro (tup3 (u32_inj ?_) (u32_inj ?_) rfl) rfl
  · show IntKind.u32.wrap (IntKind.u64.wrap ((IntKind.u64.wrap (BitVec.ofInt 64 (IntKind.u64.wrap (IntKind.u64.wrap h * 4294967296)) ||| BitVec.ofInt 64 (IntKind.u64.wrap l)).toNat).tdiv (IntKind.u64.wrap y))) = _
    rw [e, ey, Int.tdiv_eq_ediv_of_nonneg (by omega), w32, w64]
    omega
  · show IntKind.u32.wrap ((IntKind.u64.wrap (BitVec.ofInt 64 (IntKind.u64.wrap (IntKind.u64.wrap h * 4294967296)) ||| BitVec.ofInt 64 (IntKind.u64.wrap l)).toNat).tmod (IntKind.u64.wrap y)) = _
    rw [e, ey, Int.tmod_eq_emod_of_nonneg (by omega), w32]
    omega
/-- how many bits a number has -/
def bits (n : Nat) : Nat := if n = 0 then 0 else Nat.log2 n + 1
theorem bits_shift {x k : Nat} (h : x / 2 ^ k ≠ 0) : bits x = bits (x / 2 ^ k) + k := by
  have hx : x ≠ 0 := fun e => h (by rw [e]; simp)
  unfold bits
  rw [if_neg hx, if_neg h]
  have h1 : 2 ^ k ≤ x := by
    rcases Nat.lt_or_ge x (2 ^ k) with h2 | h2
    · exact absurd (Nat.div_eq_of_lt h2) h
    · exact h2
  have hp : 0 < 2 ^ k := Nat.two_pow_pos k
  have : (x / 2 ^ k).log2 + k = x.log2 := by
    have a1 := Nat.log2_self_le h
    have a2 : x / 2 ^ k < 2 ^ ((x / 2 ^ k).log2 + 1) := Nat.lt_log2_self
    symm
    rw [Nat.log2_eq_iff hx]
    constructor
    · rw [Nat.pow_add]
      calc 2 ^ (x / 2 ^ k).log2 * 2 ^ k ≤ x / 2 ^ k * 2 ^ k := Nat.mul_le_mul_right _ a1
        _ ≤ x := Nat.div_mul_le_self _ _
    · rw [show (x / 2 ^ k).log2 + k + 1 = ((x / 2 ^ k).log2 + 1) + k by omega, Nat.pow_add]
      exact (Nat.div_lt_iff_lt_mul hp).1 a2
  omega
theorem limb_Len_spec {x : Int} (hx : W32 x) : Runs Tryz.prog g_limb_Len [.d (.int .u32 x)] (.d (.int .i64 (bits x.toNat))) := by
  obtain ⟨n, rfl⟩ := Int.eq_ofNat_of_zero_le hx.1
  refine run1 [] p_limb_Len rfl rfl (fun B S F0 w0 V0 => ?_)
  refine loop_intro (fun p : Nat × Nat × Nat => st [(0, .d (.int .u32 (p.1 : Int))), (3, .d (.int .i64 (p.2.1 : Int))), (4, .d (.int .i64 (p.2.2 : Int)))] []) (fun p => p.2.2)
    (fun p => bits n = bits p.1 + p.2.1 ∧ p.2.1 + p.2.2 ≤ 64 ∧ ((p.2.2 = 16 ∧ p.1 < 4294967296 ∧ p.2.1 = 0) ∨ (p.2.2 = 8 ∧ p.1 < 65536 ∧ p.2.1 ≤ 16) ∨ (p.2.2 = 4 ∧ p.1 < 256 ∧ p.2.1 ≤ 24) ∨ (p.2.2 = 2 ∧ p.1 < 16 ∧ p.2.1 ≤ 28) ∨ (p.2.2 = 1 ∧ p.1 < 4 ∧ p.2.1 ≤ 30) ∨ (p.2.2 = 0 ∧ p.1 < 2 ∧ p.2.1 ≤ 31))) (n, 0, 16)
    ⟨rfl, by show (0:Nat) + 16 ≤ 64; omega, .inl ⟨rfl, by have := hx.2; show n < 4294967296; omega, rfl⟩⟩ ?_ ?_
  · exact weak_st _ _ ⟨rfl, rfl, rfl, trivial⟩ trivial rfl
  · rintro ⟨x, k, e⟩ ⟨h1, h2, h3⟩
    dsimp only at h1 h2 h3
    refine split_intro (fun h => ?_) (fun h => ?_)
    · have h := of_decide_eq_true h
      have he : 0 < e := by have h : (e : Int) > 0 := h; omega
      have hp : 0 < 2 ^ e := Nat.two_pow_pos e
      have sh : ((x : Int)).fdiv (2 ^ (min (e : Int).toNat IntKind.u32.bits)) = ((x / 2 ^ e : Nat) : Int) := by
        rw [Int.fdiv_eq_ediv_of_nonneg _ (Int.pow_nonneg (by omega)), show min (e : Int).toNat IntKind.u32.bits = e by show min e 32 = e; omega]
        norm_cast
      have hb : x / 2 ^ e ≠ 0 → bits x = bits (x / 2 ^ e) + e := bits_shift
      have e2 : IntKind.i64.wrap (((e : Int)).tdiv 2) = ((e / 2 : Nat) : Int) := by
        rw [Int.tdiv_eq_ediv_of_nonneg (by omega), wr (by omega) (by omega)]
        omega
      refine side_intro (by show (0 : Int) ≤ e; omega) ?_
      refine split_intro (fun h' => ?_) (fun h' => ?_)
      · have h' : (((x : Int)).fdiv (2 ^ (min (e : Int).toNat IntKind.u32.bits)) != 0) = true := h'
        rw [sh] at h'
        have h' : x / 2 ^ e ≠ 0 := by intro h0; rw [h0] at h'; cases h'
        refine side_intro (by show (0 : Int) ≤ e; omega) ?_
        refine side_intro (by show (2 : Int) ≠ 0; omega) ?_
        refine ⟨(x / 2 ^ e, k + e, e / 2), ⟨by have := hb h'; dsimp only; omega, by dsimp only; omega, ?_⟩, by dsimp only; omega, weak_st _ _ ⟨u32_inj sh, i64_inj ?_, i64_inj e2, trivial⟩ trivial rfl⟩
        · have : x / 2 ^ e < 4294967296 := Nat.lt_of_le_of_lt (Nat.div_le_self _ _) (by omega)
          dsimp only
          rcases h3 with ⟨rfl, h4, h5⟩ | ⟨rfl, h4, h5⟩ | ⟨rfl, h4, h5⟩ | ⟨rfl, h4, h5⟩ | ⟨rfl, h4, h5⟩ | ⟨rfl, h4, h5⟩
          · exact .inr (.inl ⟨rfl, by omega, by omega⟩)
          · exact .inr (.inr (.inl ⟨rfl, by omega, by omega⟩))
          · exact .inr (.inr (.inr (.inl ⟨rfl, by omega, by omega⟩)))
          · exact .inr (.inr (.inr (.inr (.inl ⟨rfl, by omega, by omega⟩))))
          · exact .inr (.inr (.inr (.inr (.inr ⟨rfl, by omega, by omega⟩))))
          · omega
        · show IntKind.i64.wrap ((k : Int) + (e : Int)) = ((k + e : Nat) : Int)
          rw [wr (by omega) (by omega)]
          omega
      · have h' : (((x : Int)).fdiv (2 ^ (min (e : Int).toNat IntKind.u32.bits)) != 0) = false := h'
        rw [sh] at h'
        have h' : x / 2 ^ e = 0 := by
          have h7 : ((x / 2 ^ e : Nat) : Int) = 0 := bne_eq_false_iff_eq.1 h'
          exact Int.ofNat_eq_zero.1 h7
        refine side_intro (by show (2 : Int) ≠ 0; omega) ?_
        have hxe : x < 2 ^ e := by
          rcases Nat.lt_or_ge x (2 ^ e) with h6 | h6
          · exact h6
          · have := Nat.div_pos h6 hp; omega
        refine ⟨(x, k, e / 2), ⟨h1, by dsimp only; omega, ?_⟩, by dsimp only; omega, weak_st _ _ ⟨rfl, rfl, i64_inj e2, trivial⟩ trivial rfl⟩
        dsimp only
        rcases h3 with ⟨rfl, h4, h5⟩ | ⟨rfl, h4, h5⟩ | ⟨rfl, h4, h5⟩ | ⟨rfl, h4, h5⟩ | ⟨rfl, h4, h5⟩ | ⟨rfl, h4, h5⟩
          <;> simp only [Nat.reducePow] at hxe
        · exact .inr (.inl ⟨rfl, by omega, by omega⟩)
        · exact .inr (.inr (.inl ⟨rfl, by omega, by omega⟩))
        · exact .inr (.inr (.inr (.inl ⟨rfl, by omega, by omega⟩)))
        · exact .inr (.inr (.inr (.inr (.inl ⟨rfl, by omega, by omega⟩))))
        · exact .inr (.inr (.inr (.inr (.inr ⟨rfl, by omega, by omega⟩))))
        · omega
    · have h := of_decide_eq_false h
      have he : e = 0 := by have h : ¬ ((e : Int) > 0) := h; omega
      refine ret_intro (i64_inj ?_) rfl
      show IntKind.i64.wrap ((k : Int) + IntKind.i64.wrap (x : Int)) = (bits n : Int)
      have hx2 : x < 2 := by omega
      rw [wr (x := (x : Int)) (by omega) (by omega), wr (by omega) (by omega), h1]
      have : bits x = x := by
        have : x = 0 ∨ x = 1 := by omega
        rcases this with rfl | rfl <;> rfl
      omega
end Go.Proofs.YtolkecnhncbkhaaGreat.Fw

/- More of words and numbers. -/
namespace Go.Proofs.YtolkecnhncbkhaaGreat.Pu
theorem Wd.g {a : List Int} (h : Wd a) (i : Nat) : 0 ≤ a.getD i 0 ∧ a.getD i 0 < 4294967296 := h.getD i
theorem split_at {a : List Int} {i : Nat} (h : i < a.length) : a = a.take i ++ (a.getD i 0 :: a.drop (i + 1)) := by
  conv => lhs; rw [← List.take_append_drop i a, List.drop_eq_getElem_cons h]
  rw [List.getD_eq_getElem?_getD, List.getElem?_eq_getElem h]
  rfl
theorem val_split {a : List Int} {i : Nat} (h : i < a.length) : val a = val (a.take i) + 4294967296 ^ i * ((a.getD i 0).toNat + 4294967296 * val (a.drop (i + 1))) := by
  conv => lhs; rw [split_at h, val_app]
  rw [List.length_take, Nat.min_eq_left (by omega)]
  rfl
theorem val_take_lt {a : List Int} (hw : Wd a) (i : Nat) : val (a.take i) < 4294967296 ^ i := by
  have := val_lt (hw.take i)
  refine Nat.lt_of_lt_of_le this (Nat.pow_le_pow_right (by omega) ?_)
  rw [List.length_take]; omega
theorem val_take_drop (a : List Int) (i : Nat) (h : i ≤ a.length) : val a = val (a.take i) + 4294967296 ^ i * val (a.drop i) := by
  conv => lhs; rw [← List.take_append_drop i a, val_app]
  rw [List.length_take, Nat.min_eq_left h]
theorem lt_top {a b : List Int} {i : Nat} (ha : Wd a) (hb : Wd b) (h1 : i < a.length) (h2 : i < b.length) (hd : val (a.drop (i + 1)) = val (b.drop (i + 1))) (hlt : a.getD i 0 < b.getD i 0) : val a < val b := by
  rw [val_split h1, val_split h2, hd]
  have e1 := val_take_lt ha i
  have x0 := (ha.g i).1
  have y0 := (hb.g i).1
  obtain ⟨x, hx⟩ : ∃ x, x = (a.getD i 0).toNat := ⟨_, rfl⟩
  obtain ⟨y, hy⟩ : ∃ y, y = (b.getD i 0).toNat := ⟨_, rfl⟩
  rw [← hx, ← hy]
  have hxy : x + 1 ≤ y := by omega
  generalize val (b.drop (i + 1)) = D
  generalize 4294967296 ^ i = p at e1 ⊢
  have : p * (x + 4294967296 * D) + p ≤ p * (y + 4294967296 * D) := by
    rw [← Nat.mul_succ]
    exact Nat.mul_le_mul_left _ (by omega)
  omega
/-- Adding one word to a value that is written at its end. -/
theorem val_snoc (a : List Int) (x : Int) : val (a ++ [x]) = val a + 4294967296 ^ a.length * x.toNat := by
  rw [val_app]; simp [val]
theorem take_succ_snoc {a : List Int} {i : Nat} (h : i < a.length) : a.take (i + 1) = a.take i ++ [a.getD i 0] := by
  rw [List.take_add_one, List.getElem?_eq_getElem h, List.getD_eq_getElem?_getD, List.getElem?_eq_getElem h]
  rfl
theorem val_take_succ {a : List Int} {i : Nat} (h : i < a.length) : val (a.take (i + 1)) = val (a.take i) + 4294967296 ^ i * (a.getD i 0).toNat := by
  rw [take_succ_snoc h, val_snoc, List.length_take, Nat.min_eq_left (by omega)]
theorem set_len_app (l r : List Int) (x y : Int) : (l ++ x :: r).set l.length y = l ++ y :: r := by
  induction l with
  | nil => rfl
  | cons a l ih => simp
/-- what lies behind the end is 0 -/
theorem val_take_ge {a : List Int} {i : Nat} (h : a.length ≤ i) : val (a.take i) = val a := by rw [List.take_of_length_le h]
theorem getD_ge {a : List Int} {i : Nat} (h : a.length ≤ i) : a.getD i 0 = 0 := by rw [List.getD_eq_getElem?_getD, List.getElem?_eq_none h]; rfl
/-- with 0 behind the end, for every i -/
theorem val_take_succ' {a : List Int} (i : Nat) : val (a.take (i + 1)) = val (a.take i) + 4294967296 ^ i * (a.getD i 0).toNat := by
  by_cases h : i < a.length
  · exact val_take_succ h
  · rw [val_take_ge (by omega), val_take_ge (by omega), getD_ge (by omega)]; simp
theorem take_set_ge {a : List Int} {i k : Nat} {x : Int} (h : k ≤ i) : (a.set i x).take k = a.take k := by
  rw [List.take_set_of_le h]
theorem val_take_set {a : List Int} {i : Nat} {x : Int} (h : i < a.length) : val ((a.set i x).take (i + 1)) = val (a.take i) + 4294967296 ^ i * x.toNat := by
  rw [val_take_succ (by simpa using h), take_set_ge (Nat.le_refl _)]
  congr 3
  rw [List.getD_eq_getElem?_getD, List.getElem?_set_self h]; rfl
theorem val_set_last {a : List Int} {i : Nat} {x : Int} (h : i + 1 = a.length) : val (a.set i x) = val (a.take i) + 4294967296 ^ i * x.toNat := by
  rw [← val_take_set (by omega), List.take_of_length_le (by simp; omega)]
def cmpI (m n : Nat) : Int := if m < n then -1 else if n < m then 1 else 0
theorem cmpI_lt {m n : Nat} : cmpI m n < 0 ↔ m < n := by unfold cmpI; split; omega; split <;> omega
theorem cmpI_eq {m n : Nat} : cmpI m n = 0 ↔ m = n := by unfold cmpI; split; omega; split <;> omega
theorem cmpI_gt {m n : Nat} : 0 < cmpI m n ↔ n < m := by unfold cmpI; split; omega; split <;> omega
end Go.Proofs.YtolkecnhncbkhaaGreat.Pu

/- Numbers: what is normed, copied, compared, added. -/
set_option linter.unusedVariables false
namespace Go.Proofs.YtolkecnhncbkhaaGreat.Fw
open Go Pu
theorem trim_spec {a : List Int} (hw : Wd a) (ha : a.length ≤ 1099511627776) : Runs Tryz.prog g_nat_trim [.d (.words a)] (.d (.words (toW (val a)))) := by
  refine run1 [] p_nat_trim rfl rfl (fun B S F0 w0 V0 => ?_)
  refine loop_intro (fun i : Nat => st [(0, .d (.words a)), (3, .d (.int .i64 (i : Int)))] []) (fun i => i) (fun i => i ≤ a.length ∧ ∀ j, i ≤ j → j < a.length → a[j]? = some 0) a.length ⟨Nat.le_refl _, by intro j h1 h2; omega⟩ ?_ ?_
  · exact weak_st _ _ ⟨rfl, rfl, trivial⟩ trivial rfl
  · rintro i ⟨hi, hz⟩
    refine split_intro (fun h => ?_) (fun h => ?_)
    · have h := of_decide_eq_true h
      have h : (i : Int) > 0 := h
      have e1 : IntKind.i64.wrap ((i : Int) - 1) = ((i - 1 : Nat) : Int) := by rw [wr (by omega) (by omega)]; omega
      refine idx_w (i - 1) e1 (by omega) ?_
      refine split_intro (fun h => ?_) (fun h => ?_)
      · have h : (a.getD (i - 1) 0 == 0) = true := h
        have h := eq_of_beq h
        refine ⟨i - 1, ⟨by omega, fun j h1 h2 => ?_⟩, by show i - 1 < i; omega, weak_st _ _ ⟨rfl, i64_inj e1, trivial⟩ trivial rfl⟩
        by_cases hj : j = i - 1
        · subst hj; rw [el a (by omega), h]
        · exact hz j (by omega) h2
      · refine side_intro ?_ ?_
        · show 0 ≤ (i : Int) ∧ (i : Int) ≤ a.length
          omega
        · refine ret_intro (ws_inj ?_) rfl
          refine take_trim hw hi hz (.inr ?_)
          have h : (a.getD (i - 1) 0 == 0) = false := h
          exact beq_eq_false_iff_ne.1 h
    · have h := of_decide_eq_false h
      have h : ¬ (i : Int) > 0 := h
      refine split_false rfl ?_
      refine side_intro ?_ ?_
      · show 0 ≤ (i : Int) ∧ (i : Int) ≤ a.length
        omega
      · refine ret_intro (ws_inj ?_) rfl
        exact take_trim hw hi hz (.inl (by omega))
theorem fresh_spec {a : List Int} {k : Nat} (ha : a.length ≤ 1099511627776) (hk : k ≤ 1099511627776) : RunsG Tryz.prog g_nat_fresh [.d (.words a), .d (.int .i64 k)] [] (.own 10 0 (a.length + k)) [(10, .words tU32 (a ++ List.replicate k 0))] := by
  refine runG [] p_nat_fresh rfl rfl rfl rfl (fun B S F0 w0 V0 => ?_)
  have e1 : IntKind.i64.wrap ((a.length : Int) + (k : Int)) = ((a.length + k : Nat) : Int) := by rw [wr (by omega) (by omega)]; omega
  refine opp_make hT rfl rfl (Nat.le_of_ble_eq_true rfl) (e := tU32) rfl rfl (Nat.le_of_ble_eq_true rfl) (fun _ => rfl) (k := .i64) (k' := .i64) (n := ((a.length + k : Nat) : Int)) (i64_inj e1) (i64_inj e1) rfl (by omega) ?_ ?_ ?_
  · show 4 * ((a.length + k : Nat) : Int).toNat ≤ _
    omega
  · unfold maxLen; omega
  rw [Int.toNat_natCast]
  refine opp_copy hT rfl rfl (e := tU32) rfl rfl rfl (i := 10) (len := a.length + k) (l := List.replicate (a.length + k) 0) (m := a) rfl rfl (by simp) rfl (by simp) ?_
  refine retG_intro rfl rfl ⟨?_, trivial⟩ rfl
  show some (MO.words tU32 (a ++ (List.replicate (a.length + k) 0).drop a.length)) = _
  rw [List.drop_replicate, Nat.add_sub_cancel_left]
theorem norm_specG {a : List Int} (hw : Wd a) (ha : a.length ≤ 1099511627776) : RunsG Tryz.prog g_nat_Norm [.d (.words a)] [] (.own 5 0 (toW (val a)).length) [(5, .words tU32 (toW (val a)))] := by
  refine runG [5] p_nat_Norm rfl rfl rfl rfl (fun B S F0 w0 V0 => ?_)
  refine call_intro _ (trim_spec hw ha) ?_
  have hr := fresh_spec (a := toW (val a)) (k := 0) (Nat.le_trans (toW_len_val_le hw) ha) (by omega)
  rw [List.replicate_zero, List.append_nil] at hr
  refine call_new 5 hr rfl rfl rfl rfl rfl rfl rfl ?_
  exact retG_intro rfl rfl ⟨rfl, trivial⟩ rfl
theorem norm_spec {a : List Int} (hw : Wd a) (ha : a.length ≤ 1099511627776) : Runs Tryz.prog g_nat_Norm [.d (.words a)] (.d (.words (toW (val a)))) := by
  have := runs_of_G (norm_specG hw ha) rfl rfl
  have e : snapR [(5, MO.words tU32 (toW (val a)))] (.own 5 0 (toW (val a)).length) = .d (.words (toW (val a))) := by
    show V.d (.words (((toW (val a)).drop 0).take (toW (val a)).length)) = _
    rw [List.drop_zero, List.take_length]
  rw [e] at this
  exact this
theorem Zero_spec {a : List Int} (hw : Wd a) (ha : a.length ≤ 1099511627776) : Runs Tryz.prog g_nat_Zero [.d (.words a)] (.d (.bool (decide (val a = 0)))) := by
  refine run1 [] p_nat_Zero rfl rfl (fun B S F0 w0 V0 => ?_)
  refine call_intro _ (trim_spec hw ha) ?_
  refine ret_intro (b_inj ?_) rfl
  have := toW_len_zero (n := val a)
  by_cases h : val a = 0
  · rw [decide_eq_true h, toW_nil_iff.2 h]; rfl
  · rw [decide_eq_false h]
    refine beq_eq_false_iff_ne.2 ?_
    show ((toW (val a)).length : Int) ≠ 0
    omega
theorem Of_spec {n : Int} (h0 : 0 ≤ n) (h1 : n < 18446744073709551616) : Runs Tryz.prog g_nat_Of [.d (.int .u64 n)] (.d (.words (toW n.toNat))) := by
  refine run1 [] p_nat_Of rfl rfl (fun B S F0 w0 V0 => ?_)
  refine side_intro (by show (0 : Int) ≤ 32; omega) ?_
  have e1 : IntKind.u32.wrap n = n % 4294967296 := w32 n
  have e2 : IntKind.u32.wrap (n.fdiv (2 ^ min (Int.toNat 32) IntKind.u64.bits)) = n / 4294967296 := by
    rw [w32, show (2 : Int) ^ min (Int.toNat 32) IntKind.u64.bits = 4294967296 from rfl, Int.fdiv_eq_ediv_of_nonneg _ (by omega)]
    omega
  have hw : Wd [IntKind.u32.wrap n, IntKind.u32.wrap (n.fdiv (2 ^ min (Int.toNat 32) IntKind.u64.bits))] := by
    rw [e1, e2]
    exact Wd.cons (by omega) (by omega) (Wd.cons (by omega) (by omega) Wd.nil)
  refine call_intro _ (trim_spec hw (by simp)) ?_
  refine ret_intro (ws_inj ?_) rfl
  rw [e1, e2]
  simp only [val]
  congr 1
  omega
theorem Cmp_spec {a b : List Int} (hwa : Wd a) (hwb : Wd b) (ha : a.length ≤ 1099511627776) (hb : b.length ≤ 1099511627776) : Runs Tryz.prog g_nat_Cmp [.d (.words a), .d (.words b)] (.d (.int .i64 (cmpI (val a) (val b)))) := by
  refine run1 [] p_nat_Cmp rfl rfl (fun B S F0 w0 V0 => ?_)
  refine call_intro _ (trim_spec hwa ha) ?_
  refine call_intro _ (trim_spec hwb hb) ?_
  have la := toW_len_val_le hwa
  have lb := toW_len_val_le hwb
  generalize val a = m at la ⊢
  generalize val b = n at lb ⊢
  have lt_len : (toW m).length < (toW n).length → m < n := fun h => by
    rcases Nat.lt_or_ge m n with h1 | h1
    · exact h1
    · have := toW_len_mono h1; omega
  have gt_len : (toW n).length < (toW m).length → n < m := fun h => by
    rcases Nat.lt_or_ge n m with h1 | h1
    · exact h1
    · have := toW_len_mono h1; omega
  refine split_intro (fun h => ?_) (fun h => ?_)
  · have h := of_decide_eq_true h
    refine ret_intro (i64_inj ?_) rfl
    have := lt_len (by have h : ((toW m).length : Int) < (toW n).length := h; omega)
    unfold cmpI
    rw [if_pos this]
  refine split_intro (fun h' => ?_) (fun h' => ?_)
  · have h' := of_decide_eq_true h'
    refine ret_intro (i64_inj ?_) rfl
    have := gt_len (by have h : ((toW m).length : Int) > (toW n).length := h'; omega)
    unfold cmpI
    rw [if_neg (by omega), if_pos this]
  have hl : (toW m).length = (toW n).length := by
    have h := of_decide_eq_false h
    have h' := of_decide_eq_false h'
    have h : ¬ ((toW m).length : Int) < (toW n).length := h
    have h' : ¬ ((toW m).length : Int) > (toW n).length := h'
    omega
  have e0 : IntKind.i64.wrap (((toW m).length : Int) - 1) = ((toW m).length : Int) - 1 := wr (by omega) (by omega)
  refine loop_intro (fun k : Nat => st [(0, .d (.words (toW m))), (1, .d (.words (toW n))), (5, .d (.int .i64 ((k : Int) - 1)))] []) (fun k => k) (fun k => k ≤ (toW m).length ∧ val ((toW m).drop k) = val ((toW n).drop k)) (toW m).length
    ⟨Nat.le_refl _, by rw [List.drop_length, hl, List.drop_length]⟩ (weak_st _ _ ⟨rfl, rfl, i64_inj e0, trivial⟩ trivial rfl) ?_
  rintro k ⟨hk, hd⟩
  refine split_intro (fun h => ?_) (fun h => ?_)
  · have h := of_decide_eq_true h
    have h : (k : Int) - 1 ≥ 0 := h
    have e1 : (k : Int) - 1 = ((k - 1 : Nat) : Int) := by omega
    have e2 : IntKind.i64.wrap ((k : Int) - 1 - 1) = ((k - 1 : Nat) : Int) - 1 := by rw [wr (by omega) (by omega)]; omega
    have hd' : val ((toW m).drop (k - 1 + 1)) = val ((toW n).drop (k - 1 + 1)) := by rw [show k - 1 + 1 = k by omega]; exact hd
    have key := lt_top (i := k - 1) (Wd.toW m) (Wd.toW n) (by omega) (by omega) hd'
    have key' := lt_top (i := k - 1) (Wd.toW n) (Wd.toW m) (by omega) (by omega) hd'.symm
    simp only [val_toW] at key key'
    refine side_intro rfl ?_
    refine idx_w (k - 1) e1 (by omega) ?_
    refine idx_w (k - 1) e1 (by omega) ?_
    refine split_intro (fun h1 => ?_) (fun h1 => ?_)
    · have h1 := of_decide_eq_true h1
      refine ret_intro (i64_inj ?_) rfl
      unfold cmpI
      rw [if_pos (key h1)]
    refine side_intro rfl ?_
    refine idx_w (k - 1) e1 (by omega) ?_
    refine idx_w (k - 1) e1 (by omega) ?_
    refine split_intro (fun h2 => ?_) (fun h2 => ?_)
    · have h2 := of_decide_eq_true h2
      refine ret_intro (i64_inj ?_) rfl
      have := key' h2
      unfold cmpI
      rw [if_neg (by omega), if_pos this]
    have h1 := of_decide_eq_false h1
    have h2 := of_decide_eq_false h2
    refine ⟨k - 1, ⟨by omega, ?_⟩, by show k - 1 < k; omega, weak_st _ _ ⟨rfl, rfl, i64_inj e2, trivial⟩ trivial rfl⟩
    have heq : (toW m).getD (k - 1) 0 = (toW n).getD (k - 1) 0 := by omega
    have x1 : (toW m).drop (k - 1) = (toW m).getD (k - 1) 0 :: (toW m).drop (k - 1 + 1) := by
      rw [List.drop_eq_getElem_cons (by omega), List.getD_eq_getElem?_getD, List.getElem?_eq_getElem (by omega)]; rfl
    have x2 : (toW n).drop (k - 1) = (toW n).getD (k - 1) 0 :: (toW n).drop (k - 1 + 1) := by
      rw [List.drop_eq_getElem_cons (by omega), List.getD_eq_getElem?_getD, List.getElem?_eq_getElem (by omega)]; rfl
    rw [x1, x2, heq]
    simp only [val, hd']
  · have h := of_decide_eq_false h
    have h : ¬ (k : Int) - 1 ≥ 0 := h
    have : k = 0 := by omega
    subst this
    simp only [List.drop_zero, val_toW] at hd
    refine ret_intro (i64_inj ?_) rfl
    exact (cmpI_eq.2 hd).symm
theorem plus_spec {a b : List Int} (hwa : Wd a) (hwb : Wd b) (ha : a.length ≤ 549755813888) (hb : b.length ≤ 549755813888) : Runs Tryz.prog g_nat_plus [.d (.words a), .d (.words b)] (.d (.words (toW (val a + val b)))) := by
  refine run1 [17] p_nat_plus rfl rfl (fun B S F0 w0 V0 => ?_)
  refine split_intro (fun h => ?_) (fun h => ?_)
  case' refine_1 =>
    have hle : a.length ≤ b.length := by have h1 : (a.length : Int) < b.length := of_decide_eq_true h; omega
    generalize hr : val a + val b = r
    have hsum : val b + val a = r := by omega
    clear hr h ha
    revert a b
    intro y x hwy hwx hx hle hsum
  case' refine_2 =>
    have hle : b.length ≤ a.length := by have h1 : ¬ (a.length : Int) < b.length := of_decide_eq_false h; omega
    generalize hsum : val a + val b = r
    clear h hb
    revert a b
    intro x y hwx hwy hx hle hsum
  all_goals
    have hf := fresh_spec (a := x) (k := 1) (by omega) (by omega)
    refine call_new 17 hf rfl rfl rfl rfl rfl rfl rfl ?_
    refine loop_intro (fun p : Nat × List Int × Int => st [(0, .d (.words x)), (1, .d (.words y)), (5, .own 17 0 (x.length + 1)), (6, .d (.int .u32 p.2.2)), (19, .d (.int .i64 (x.length : Int))), (20, .d (.int .i64 (p.1 : Int)))] [(17, .words tU32 p.2.1)]) (fun p => x.length - p.1)
      (fun p => p.1 ≤ x.length ∧ p.2.1.length = x.length + 1 ∧ Wd p.2.1 ∧ W32 p.2.2 ∧ (p.2.2 : Int) ≤ 1 ∧ val (p.2.1.take p.1) + 4294967296 ^ p.1 * p.2.2.toNat = val (x.take p.1) + val (y.take p.1)) (0, x ++ List.replicate 1 0, 0)
      ⟨Nat.zero_le _, by simp, hwx.app (Wd.zeros 1), ⟨Int.le_refl 0, by show (0 : Int) < 4294967296; omega⟩, by show (0 : Int) ≤ 1; omega, by simp [val]⟩ (weak_st _ _ ⟨rfl, rfl, rfl, rfl, rfl, rfl, trivial⟩ ⟨rfl, trivial⟩ rfl) ?_
    rintro ⟨i, out, k⟩ ⟨hi, hl, hwo, hk, hk1, hv⟩
    dsimp only at hi hl hwo hk hk1 hv
    refine split_intro (fun h => ?_) (fun h => ?_)
    · have hlt : i < x.length := by have h : (i : Int) < x.length := of_decide_eq_true h; omega
      have ei : IntKind.i64.wrap ((i : Int) + 1) = ((i + 1 : Nat) : Int) := by rw [wr (by omega) (by omega)]; omega
      have step : ∀ (u : Int), W32 u → u = y.getD i 0 → val ((out.set i ((x.getD i 0 + u + k) % 4294967296)).take (i + 1)) + 4294967296 ^ (i + 1) * ((x.getD i 0 + u + k) / 4294967296).toNat = val (x.take (i + 1)) + val (y.take (i + 1)) := by
        intro u hu heu
        rw [val_take_set (by omega), val_take_succ' (a := x), val_take_succ' (a := y), ← heu, Nat.pow_succ]
        have h1 := (hwx.g i)
        obtain ⟨h2, h3⟩ := hu
        obtain ⟨h4, h5⟩ := hk
        have e : x.getD i 0 + u + k = ((x.getD i 0).toNat + u.toNat + k.toNat : Nat) := by omega
        have e1 : ((x.getD i 0 + u + k) % 4294967296).toNat + 4294967296 * ((x.getD i 0 + u + k) / 4294967296).toNat = (x.getD i 0).toNat + u.toNat + k.toNat := by omega
        generalize ((x.getD i 0 + u + k) % 4294967296).toNat = p1 at e1 ⊢
        generalize ((x.getD i 0 + u + k) / 4294967296).toNat = p2 at e1 ⊢
        generalize 4294967296 ^ i = q at hv ⊢
        have : q * p1 + q * 4294967296 * p2 = q * (x.getD i 0).toNat + q * u.toNat + q * k.toNat := by
          rw [Nat.mul_assoc, ← Nat.mul_add, e1, Nat.mul_add, Nat.mul_add]
        omega
      refine split_intro (fun h' => ?_) (fun h' => ?_)
      · have hlt' : i < y.length := by have h' : (i : Int) < y.length := of_decide_eq_true h'; omega
        refine idx_w i rfl hlt' ?_
        refine idx_w i rfl hlt ?_
        refine call_intro _ (limb_Add_spec (hwx.g i) (hwy.g i) hk) ?_
        refine side_intro (by show (0 : Int) ≤ i ∧ (i : Int) < ((x.length + 1 : Nat) : Int); omega) ?_
        have hs := step _ (hwy.g i) rfl
        have g1 := hwx.g i
        have g2 := hwy.g i
        have g3 := hk.1
        refine ⟨(i + 1, out.set i ((x.getD i 0 + y.getD i 0 + k) % 4294967296), (x.getD i 0 + y.getD i 0 + k) / 4294967296), ⟨hlt, by show (out.set i _).length = _; rw [List.length_set]; exact hl, hwo.set i (by omega) (by omega), ⟨by dsimp only; omega, by dsimp only; omega⟩, by dsimp only; omega, hs⟩, by show x.length - (i + 1) < x.length - i; omega, ?_⟩
        exact weak_st _ _ ⟨rfl, rfl, rfl, rfl, rfl, i64_inj ei, trivial⟩ ⟨by show some (MO.words tU32 (out.set (0 + ((i : Int)).toNat) _)) = _; rw [Nat.zero_add]; rfl, trivial⟩ rfl
      · have hge : y.length ≤ i := by have h' : ¬ (i : Int) < y.length := of_decide_eq_false h'; omega
        refine idx_w i rfl hlt ?_
        refine call_intro _ (limb_Add_spec (hwx.g i) (y := 0) ⟨by omega, by omega⟩ hk) ?_
        refine side_intro (by show (0 : Int) ≤ i ∧ (i : Int) < ((x.length + 1 : Nat) : Int); omega) ?_
        have hs := step 0 ⟨by omega, by omega⟩ (getD_ge hge).symm
        have g1 := hwx.g i
        have g3 := hk.1
        refine ⟨(i + 1, out.set i ((x.getD i 0 + 0 + k) % 4294967296), (x.getD i 0 + 0 + k) / 4294967296), ⟨hlt, by show (out.set i _).length = _; rw [List.length_set]; exact hl, hwo.set i (by omega) (by omega), ⟨by dsimp only; omega, by dsimp only; omega⟩, by dsimp only; omega, hs⟩, by show x.length - (i + 1) < x.length - i; omega, ?_⟩
        exact weak_st _ _ ⟨rfl, rfl, rfl, rfl, rfl, i64_inj ei, trivial⟩ ⟨by show some (MO.words tU32 (out.set (0 + ((i : Int)).toNat) _)) = _; rw [Nat.zero_add]; rfl, trivial⟩ rfl
    · have hend : i = x.length := by have h : ¬ (i : Int) < x.length := of_decide_eq_false h; omega
      subst hend
      refine side_intro (by show (0 : Int) ≤ x.length ∧ (x.length : Int) < ((x.length + 1 : Nat) : Int); omega) ?_
      refine opp_frz 17 (.words tU32 (out.set (0 + ((x.length : Int)).toNat) k)) rfl (Nat.le_of_ble_eq_true rfl) rfl ?_
      have hw2 : Wd (out.set x.length k) := hwo.set _ hk.1 hk.2
      have hl2 : (out.set x.length k).length = x.length + 1 := by rw [List.length_set]; exact hl
      refine call_intro (.d (.words (toW (val (out.set x.length k))))) ?_ ?_
      · have := trim_spec hw2 (by omega)
        have e : snapM (.words tU32 (out.set (0 + ((x.length : Int)).toNat) k)) 0 (x.length + 1) = .d (.words (out.set x.length k)) := by
          show V.d (.words (((out.set (0 + ((x.length : Int)).toNat) k).drop 0).take (x.length + 1))) = _
          rw [Nat.zero_add, Int.toNat_natCast, List.drop_zero, List.take_of_length_le (by omega)]
        rw [← e] at this
        exact this
      · refine ret_intro (ws_inj ?_) rfl
        rw [val_set_last (by omega), hv, List.take_length, List.take_of_length_le hle, hsum]
end Go.Proofs.YtolkecnhncbkhaaGreat.Fw

/- The n lowest words of a number; rows in three parts. -/
namespace Go.Proofs.YtolkecnhncbkhaaGreat.Pu
def dig : Nat → Nat → List Int
  | 0, _ => []
  | n + 1, v => ((v % 4294967296 : Nat) : Int) :: dig n (v / 4294967296)
theorem dig_len (n v : Nat) : (dig n v).length = n := by
  induction n generalizing v with
  | zero => rfl
  | succ n ih => simp [dig, ih]
theorem Wd.dig (n v : Nat) : Wd (dig n v) := by
  induction n generalizing v with
  | zero => exact Wd.nil
  | succ n ih => exact Wd.cons (by omega) (by omega) (ih _)
theorem val_dig (n v : Nat) : val (dig n v) = v % 4294967296 ^ n := by
  induction n generalizing v with
  | zero => simp [Pu.dig, val, Nat.mod_one]
  | succ n ih =>
    simp only [Pu.dig, val, ih]
    rw [Nat.pow_succ, Nat.mul_comm (4294967296 ^ n) 4294967296, Nat.mod_mul, Int.toNat_natCast]
theorem val_dig_lt {n v : Nat} (h : v < 4294967296 ^ n) : val (dig n v) = v := by rw [val_dig, Nat.mod_eq_of_lt h]
theorem dig_val {l : List Int} (hw : Wd l) : dig l.length (val l) = l := by
  induction l with
  | nil => rfl
  | cons x l ih =>
    have h0 := hw.head
    have e1 : ((val (x :: l) % 4294967296 : Nat) : Int) = x := by simp only [val]; omega
    have e2 : val (x :: l) / 4294967296 = val l := by simp only [val]; omega
    simp only [List.length_cons, Pu.dig, e1, e2, ih hw.tail]
theorem dig_eq {l : List Int} {n v : Nat} (hw : Wd l) (hl : l.length = n) (hv : val l = v) : l = dig n v := by
  subst hl; subst hv; exact (dig_val hw).symm
/-- the value tells a row of a given length -/
theorem val_inj {l m : List Int} (hl : Wd l) (hm : Wd m) (h : l.length = m.length) (hv : val l = val m) : l = m := by
  rw [← dig_val hl, ← dig_val hm, h, hv]
theorem mid_set {L m R : List Int} {i j : Nat} {x : Int} (hi : i = L.length + j) (hj : j < m.length) : (L ++ (m ++ R)).set i x = L ++ (m.set j x ++ R) := by
  subst hi
  rw [List.set_append_right _ _ (by omega), Nat.add_sub_cancel_left, List.set_append_left _ _ hj]
theorem mid_get {L m R : List Int} {i j : Nat} (hi : i = L.length + j) (hj : j < m.length) : (L ++ (m ++ R)).getD i 0 = m.getD j 0 := by
  subst hi
  simp only [List.getD_eq_getElem?_getD]
  rw [List.getElem?_append_right (by omega), Nat.add_sub_cancel_left, List.getElem?_append_left hj]
theorem mid_elem {L m R : List Int} {i j : Nat} (hi : i = L.length + j) (hj : j < m.length) : (L ++ (m ++ R))[i]? = some (m.getD j 0) := by
  subst hi
  rw [List.getElem?_append_right (by omega), Nat.add_sub_cancel_left, List.getElem?_append_left hj, List.getD_eq_getElem?_getD, List.getElem?_eq_getElem hj]
  rfl
theorem getD_setne {a : List Int} {i j : Nat} {x : Int} (h : i ≠ j) : (a.set i x).getD j 0 = a.getD j 0 := by
  simp only [List.getD_eq_getElem?_getD]
  rw [List.getElem?_set_ne h]
theorem three (a : List Int) (i k : Nat) : a = a.take i ++ ((a.drop i).take k ++ a.drop (i + k)) := by
  rw [← List.drop_drop, List.take_append_drop, List.take_append_drop]
theorem row_step {A q C D K : Nat} {x y m c : Int} (hx : 0 ≤ x) (hy : 0 ≤ y) (hm : 0 ≤ m) (hc : 0 ≤ c) (h : A + q * c.toNat = x.toNat * C + D + K) :
    A + q * ((x * y + m + c) % 4294967296).toNat + q * 4294967296 * ((x * y + m + c) / 4294967296).toNat = x.toNat * (C + q * y.toNat) + (D + q * m.toNat) + K := by
  obtain ⟨x, rfl⟩ := Int.eq_ofNat_of_zero_le hx
  obtain ⟨y, rfl⟩ := Int.eq_ofNat_of_zero_le hy
  obtain ⟨m, rfl⟩ := Int.eq_ofNat_of_zero_le hm
  obtain ⟨c, rfl⟩ := Int.eq_ofNat_of_zero_le hc
  simp only [Int.toNat_natCast] at h ⊢
  have e : ((x : Int) * y + m + c) = ((x * y + m + c : Nat) : Int) := by simp
  rw [e]
  generalize ht : x * y + m + c = t
  have e1 : (((t : Nat) : Int) % 4294967296).toNat = t % 4294967296 := by omega
  have e2 : (((t : Nat) : Int) / 4294967296).toNat = t / 4294967296 := by omega
  rw [e1, e2]
  have e3 : q * (t % 4294967296) + q * 4294967296 * (t / 4294967296) = q * t := by
    rw [Nat.mul_assoc, ← Nat.mul_add, Nat.mod_add_div]
  have e4 : q * t = q * (x * y) + q * m + q * c := by rw [← ht, Nat.mul_add, Nat.mul_add]
  have e5 : x * (C + q * y) = x * C + q * (x * y) := by rw [Nat.mul_add]; congr 1; rw [Nat.mul_left_comm]
  rw [e5]
  omega
theorem val_three (a : List Int) (i : Nat) (h : i ≤ a.length) : val a = val (a.take i) + 4294967296 ^ i * val (a.drop i) := val_take_drop a i h
theorem val_parts (L m R : List Int) : val (L ++ (m ++ R)) = val L + 4294967296 ^ L.length * (val m + 4294967296 ^ m.length * val R) := by rw [val_app, val_app]
theorem mul_lt_pow {x A n : Nat} (hx : x < 4294967296) (hA : A < 4294967296 ^ n) : x * A + (4294967296 ^ n - 1) < 4294967296 ^ (n + 1) := by
  rw [Nat.pow_succ]
  generalize 4294967296 ^ n = p at hA ⊢
  have : x * A ≤ 4294967295 * (p - 1) := Nat.mul_le_mul (by omega) (by omega)
  omega
theorem mul_step {x A D n : Nat} (hx : x < 4294967296) (hA : A < 4294967296 ^ n) (hD : D < 4294967296 ^ n) : x * A + D < 4294967296 ^ (n + 1) := by
  have := mul_lt_pow hx hA
  omega
/-- what lies high in a small number is 0 -/
theorem val_drop_zero {a : List Int} {i : Nat} (hi : i ≤ a.length) (h : val a < 4294967296 ^ i) : val (a.drop i) = 0 := by
  rw [val_take_drop a i hi] at h
  rcases Nat.eq_zero_or_pos (val (a.drop i)) with h0 | h0
  · exact h0
  · have : 4294967296 ^ i * 1 ≤ 4294967296 ^ i * val (a.drop i) := Nat.mul_le_mul_left _ h0
    omega
theorem val_set {a : List Int} {i : Nat} {x : Int} (h : i < a.length) : val (a.set i x) + 4294967296 ^ i * (a.getD i 0).toNat = val a + 4294967296 ^ i * x.toNat := by
  have e1 := val_split (a := a.set i x) (i := i) (by simpa using h)
  have e2 := val_split (a := a) (i := i) h
  have e3 : (a.set i x).getD i 0 = x := by rw [List.getD_eq_getElem?_getD, List.getElem?_set_self h]; rfl
  have e4 : (a.set i x).drop (i + 1) = a.drop (i + 1) := by rw [List.drop_set_of_lt (by omega)]
  rw [take_set_ge (Nat.le_refl _), e3, e4, Nat.mul_add] at e1
  rw [Nat.mul_add] at e2
  omega
theorem getD_setself {a : List Int} {i : Nat} {x : Int} (h : i < a.length) : (a.set i x).getD i 0 = x := by rw [List.getD_eq_getElem?_getD, List.getElem?_set_self h]; rfl
theorem val_drop_cons {a : List Int} {i : Nat} (h : i < a.length) : val (a.drop i) = (a.getD i 0).toNat + 4294967296 * val (a.drop (i + 1)) := by
  rw [List.drop_eq_getElem_cons h, List.getD_eq_getElem?_getD, List.getElem?_eq_getElem h]; rfl
theorem val_drop_cons' (a : List Int) (i : Nat) : val (a.drop i) = (a.getD i 0).toNat + 4294967296 * val (a.drop (i + 1)) := by
  by_cases h : i < a.length
  · exact val_drop_cons h
  · rw [List.drop_eq_nil_of_le (by omega), List.drop_eq_nil_of_le (by omega), getD_ge (by omega)]; rfl
theorem pow32 {n : Nat} (h : n ≤ 32) : 2 ^ n * 2 ^ (32 - n) = 4294967296 := by rw [← Nat.pow_add, show n + (32 - n) = 32 by omega]
/-- one word of a number that is shifted down -/
theorem down_step {n x y V : Nat} (hn : n ≤ 32) (hx : x < 4294967296) (hV : V % 2 ^ n = y % 2 ^ n) :
    ((x + 4294967296 * y) / 2 ^ n) % 4294967296 + 4294967296 * (V / 2 ^ n) = (x + 4294967296 * V) / 2 ^ n := by
  have hc := pow32 hn
  have hp : 0 < 2 ^ n := Nat.two_pow_pos n
  generalize 2 ^ (32 - n) = c at hc
  generalize 2 ^ n = p at hc hV hp ⊢
  have e : ∀ z, (x + 4294967296 * z) / p = x / p + c * z := by
    intro z
    rw [← hc, Nat.mul_assoc, Nat.add_mul_div_left _ _ hp]
  rw [e, e]
  have h1 : x / p < c := (Nat.div_lt_iff_lt_mul hp).2 (by rw [Nat.mul_comm c p, hc]; exact hx)
  have hy := Nat.div_add_mod y p
  have hv := Nat.div_add_mod V p
  rw [hV] at hv
  have hr : y % p < p := Nat.mod_lt _ hp
  have h2 : c * y = 4294967296 * (y / p) + c * (y % p) := by
    conv => lhs; rw [← hy, Nat.mul_add, ← Nat.mul_assoc, Nat.mul_comm c p, hc]
  have h3 : c * V = 4294967296 * (V / p) + c * (y % p) := by
    conv => lhs; rw [← hv, Nat.mul_add, ← Nat.mul_assoc, Nat.mul_comm c p, hc]
  have h4 : c * (y % p) + c ≤ 4294967296 := by
    rw [← hc, ← Nat.mul_succ, Nat.mul_comm p c]
    exact Nat.mul_le_mul_left _ hr
  rw [h2, h3]
  clear e hV hy hv hr h2 h3
  generalize x / p = u at h1 ⊢
  generalize c * (y % p) = z at h4 ⊢
  generalize y / p = q
  generalize V / p = r
  have : (u + (4294967296 * q + z)) % 4294967296 = u + z := by omega
  rw [this]
  omega
theorem val_mod (a : List Int) (i : Nat) {n : Nat} (hn : n ≤ 32) : val (a.drop i) % 2 ^ n = (a.getD i 0).toNat % 2 ^ n := by
  rw [val_drop_cons', ← pow32 hn, Nat.mul_assoc, Nat.add_mul_mod_self_left]
theorem up_step {out : List Int} {i : Nat} {w v : Int} {u r d : Nat} (h : i + 1 < out.length) (hu : (out.getD i 0).toNat = u) (hz : (out.getD (i + 1) 0).toNat = 0) (hw : w.toNat = u + r) (hv : v.toNat = d) :
    val ((out.set i w).set (i + 1) v) = val out + 4294967296 ^ i * r + 4294967296 ^ (i + 1) * d := by
  have v1 := val_set (a := out) (i := i) (x := w) (by omega)
  have v2 := val_set (a := out.set i w) (i := i + 1) (x := v) (by rw [List.length_set]; omega)
  rw [getD_setne (by omega), hz, hv, Nat.mul_zero, Nat.add_zero] at v2
  rw [hu, hw, Nat.mul_add] at v1
  rw [v2]
  generalize 4294967296 ^ (i + 1) * d = z
  generalize 4294967296 ^ i * u = y at v1
  generalize 4294967296 ^ i * r = t at v1 ⊢
  omega
theorem up_sum {q X d r : Nat} (h : 4294967296 * d + r = X) : q * r + q * 4294967296 * d = q * X := by
  rw [← h, Nat.mul_add, Nat.mul_assoc, Nat.add_comm]
end Go.Proofs.YtolkecnhncbkhaaGreat.Pu

/- Products, shifts. -/
set_option linter.unusedVariables false
namespace Go.Proofs.YtolkecnhncbkhaaGreat.Fw
open Go Pu
theorem row_spec {L M R a : List Int} {x k : Int} (hwa : Wd a) (hwM : Wd M) (hx : W32 x) (hk : W32 k) (hM : M.length = a.length + 1) (hlen : (L ++ (M ++ R)).length ≤ 8796093022208) :
    RunsG Tryz.prog g_prod_row [.own 1000 0 (L ++ (M ++ R)).length, .d (.int .i64 (L.length : Int)), .d (.words a), .d (.int .u32 x), .d (.int .u32 k)] [(1000, .words tU32 (L ++ (M ++ R)))] (.tup [])
      [(1000, .words tU32 (L ++ (dig (a.length + 1) (x.toNat * val a + val (M.take a.length) + k.toNat) ++ R)))] := by
  refine runG [] p_prod_row rfl rfl rfl rfl (fun B S F0 w0 V0 => ?_)
  have hN : (L ++ (M ++ R)).length = L.length + a.length + 1 + R.length := by simp [hM]; omega
  rw [hN] at hlen ⊢
  refine loop_intro (fun p : Nat × List Int × Int => st [(0, .own 1000 0 (L.length + a.length + 1 + R.length)), (1, .d (.int .i64 (L.length : Int))), (2, .d (.words a)), (3, .d (.int .u32 x)), (4, .d (.int .u32 p.2.2)), (12, .d (.words a)), (13, .d (.int .i64 (a.length : Int))), (14, .d (.int .i64 (p.1 : Int)))] [(1000, .words tU32 (L ++ (p.2.1 ++ R)))]) (fun p => a.length - p.1)
    (fun p => p.1 ≤ a.length ∧ p.2.1.length = a.length + 1 ∧ Wd p.2.1 ∧ W32 p.2.2 ∧ (∀ j, p.1 ≤ j → p.2.1.getD j 0 = M.getD j 0) ∧ val (p.2.1.take p.1) + 4294967296 ^ p.1 * p.2.2.toNat = x.toNat * val (a.take p.1) + val (M.take p.1) + k.toNat) (0, M, k)
    ⟨Nat.zero_le _, hM, hwM, hk, fun _ _ => rfl, by simp [val]⟩ (weak_st _ _ ⟨rfl, rfl, rfl, rfl, rfl, rfl, rfl, rfl, trivial⟩ ⟨rfl, trivial⟩ rfl) ?_
  rintro ⟨i, m, c⟩ ⟨hi, hl, hwm, hc, hsame, hv⟩
  dsimp only at hi hl hwm hc hsame hv
  refine split_intro (fun h => ?_) (fun h => ?_)
  · have hlt : i < a.length := by have h : (i : Int) < a.length := of_decide_eq_true h; omega
    have ei : IntKind.i64.wrap ((i : Int) + 1) = ((i + 1 : Nat) : Int) := by rw [wr (by omega) (by omega)]; omega
    have ea : IntKind.i64.wrap ((L.length : Int) + (i : Int)) = ((L.length + i : Nat) : Int) := by rw [wr (by omega) (by omega)]; omega
    have g1 := hwa.g i
    have g2 := hwm.g i
    have hmb := mul_bd hx g1 g2 hc
    refine idx_w i rfl hlt ?_
    refine side_intro (by show (0 : Int) ≤ IntKind.i64.wrap ((L.length : Int) + (i : Int)) ∧ IntKind.i64.wrap ((L.length : Int) + (i : Int)) < ((L.length + a.length + 1 + R.length : Nat) : Int); omega) ?_
    refine idx_intro (m.getD i 0) (Int.natCast_nonneg _) (by
      show (L ++ (m ++ R))[((0 + (IntKind.i64.wrap ((L.length : Int) + (i : Int))).toNat : Nat) : Int).toNat]? = _
      rw [ea, Int.toNat_natCast, Int.toNat_natCast]
      exact mid_elem (by omega) (by omega)) ?_
    refine call_intro _ (limb_Mul_spec hx g1 g2 hc) ?_
    refine side_intro (by show (0 : Int) ≤ IntKind.i64.wrap ((L.length : Int) + (i : Int)) ∧ IntKind.i64.wrap ((L.length : Int) + (i : Int)) < ((L.length + a.length + 1 + R.length : Nat) : Int); omega) ?_
    have q0 : 0 ≤ (x * a.getD i 0 + m.getD i 0 + c) / 4294967296 := by
      have := g2.1; have := hc.1; generalize x * a.getD i 0 = xx at hmb ⊢; omega
    have q1 : (x * a.getD i 0 + m.getD i 0 + c) / 4294967296 < 4294967296 := by
      generalize x * a.getD i 0 = xx at hmb ⊢; omega
    refine ⟨(i + 1, m.set i ((x * a.getD i 0 + m.getD i 0 + c) % 4294967296), (x * a.getD i 0 + m.getD i 0 + c) / 4294967296), ⟨hlt, by show (m.set i _).length = _; rw [List.length_set]; exact hl, hwm.set i (by omega) (by omega), ⟨q0, q1⟩, fun j hj => ?_, ?_⟩, by show a.length - (i + 1) < a.length - i; omega, ?_⟩
    · show (m.set i _).getD j 0 = _
      have hj : i + 1 ≤ j := hj
      rw [getD_setne (by omega)]
      exact hsame j (by omega)
    · show val ((m.set i _).take (i + 1)) + 4294967296 ^ (i + 1) * _ = _
      rw [val_take_set (by omega), val_take_succ' (a := a), val_take_succ' (a := M), ← hsame i (Nat.le_refl _), Nat.pow_succ]
      exact row_step hx.1 g1.1 g2.1 hc.1 hv
    · refine weak_st _ _ ⟨rfl, rfl, rfl, rfl, rfl, rfl, rfl, i64_inj ei, trivial⟩ ⟨?_, trivial⟩ rfl
      show some (MO.words tU32 ((L ++ (m ++ R)).set (0 + (IntKind.i64.wrap ((L.length : Int) + (i : Int))).toNat) _)) = _
      rw [mid_set (j := i) (by rw [ea]; omega) (by omega)]
  · have hend : i = a.length := by have h : ¬ (i : Int) < a.length := of_decide_eq_false h; omega
    subst hend
    have ea : IntKind.i64.wrap ((L.length : Int) + (a.length : Int)) = ((L.length + a.length : Nat) : Int) := by rw [wr (by omega) (by omega)]; omega
    refine side_intro (by show (0 : Int) ≤ IntKind.i64.wrap ((L.length : Int) + (a.length : Int)) ∧ IntKind.i64.wrap ((L.length : Int) + (a.length : Int)) < ((L.length + a.length + 1 + R.length : Nat) : Int); omega) ?_
    refine retG_intro rfl rfl ⟨?_, trivial⟩ rfl
    show some (MO.words tU32 ((L ++ (m ++ R)).set (0 + (IntKind.i64.wrap ((L.length : Int) + (a.length : Int))).toNat) c)) = _
    rw [mid_set (j := a.length) (by rw [ea]; omega) (by omega)]
    rw [dig_eq (l := m.set a.length c) (n := a.length + 1) (v := x.toNat * val a + val (List.take a.length M) + k.toNat) (hwm.set _ hc.1 hc.2) (by rw [List.length_set]; exact hl) (by rw [val_set_last (by omega), hv, List.take_length])]
theorem call_row {c : Ctx} {s : St} {o : Oper} {K : St → Prop} {cl : Call} {g : FuncId} {args : List V} {m m' : MO} {r : V} (i : Nat) (hr : RunsG Tryz.prog g args [(1000, m)] r [(1000, m')]) (ho : o.op = .call cl) (hc : cl.callee = .value (.func g)) (hd : dstOk c.N o = true)
    (has : coeL TB (cl.args.toList.map s.ev) cl.argTypes.toList = args.map (renV (lk [(1000, i)]))) (hlive : liveA (memL [(1000, m)]) args = true) (hm : s.mem i = some m) (hsh : SameSh m m')
    (hK : K ((s.upd i m').put o.dst (renV (lk [(1000, i)]) r))) : OpP Tryz.prog c o s K :=
  call_G [(1000, i)] hr ho hc hd has hlive ⟨hm, trivial⟩ ⟨hsh, trivial⟩ ⟨trivial, trivial⟩ (by simp [injB]) hK
theorem same_words {e : TypeId} {l m : List Int} (h : l.length = m.length) : SameSh (.words e l) (.words e m) := .inr ⟨e, 1, l.length, l.map wd, m.map wd, rfl, by simp only [MO.row?, h]⟩
theorem Mul_spec {a b : List Int} (hwa : Wd a) (hwb : Wd b) (ha : a.length ≤ 274877906944) (hb : b.length ≤ 274877906944) : Runs Tryz.prog g_prod_Mul [.d (.words a), .d (.words b)] (.d (.words (toW (val a * val b)))) := by
  refine run1 [] p_prod_Mul rfl rfl (fun B S F0 w0 V0 => ?_)
  have e1 : IntKind.i64.wrap (IntKind.i64.wrap ((a.length : Int) + (b.length : Int)) + 1) = ((a.length + b.length + 1 : Nat) : Int) := by rw [wr (x := (a.length : Int) + b.length) (by omega) (by omega), wr (by omega) (by omega)]; omega
  refine opp_make hT rfl rfl (Nat.le_of_ble_eq_true rfl) (e := tU32) rfl rfl (Nat.le_of_ble_eq_true rfl) (fun _ => rfl) (k := .i64) (k' := .i64) (n := ((a.length + b.length + 1 : Nat) : Int)) (i64_inj e1) (i64_inj e1) rfl (by omega) ?_ ?_ ?_
  · show 4 * ((a.length + b.length + 1 : Nat) : Int).toNat ≤ _
    omega
  · unfold maxLen; omega
  rw [Int.toNat_natCast]
  refine loop_intro (fun p : Nat × List Int => st [(0, .d (.words a)), (5, .own 14 0 (a.length + b.length + 1)), (15, .d (.words b)), (16, .d (.int .i64 (b.length : Int))), (17, .d (.int .i64 (p.1 : Int)))] [(14, .words tU32 p.2)]) (fun p => b.length - p.1)
    (fun p => p.1 ≤ b.length ∧ p.2.length = a.length + b.length + 1 ∧ Wd p.2 ∧ val p.2 = val a * val (b.take p.1)) (0, List.replicate (a.length + b.length + 1) 0)
    ⟨Nat.zero_le _, by simp, Wd.zeros _, by simp only [val_zeros]; simp [val]⟩ (weak_st _ _ ⟨rfl, rfl, rfl, rfl, rfl, trivial⟩ ⟨rfl, trivial⟩ rfl) ?_
  rintro ⟨i, out⟩ ⟨hi, hl, hwo, hv⟩
  dsimp only at hi hl hwo hv
  refine split_intro (fun h => ?_) (fun h => ?_)
  · have hlt : i < b.length := by have h : (i : Int) < b.length := of_decide_eq_true h; omega
    have ei : IntKind.i64.wrap ((i : Int) + 1) = ((i + 1 : Nat) : Int) := by rw [wr (by omega) (by omega)]; omega
    have g1 := hwb.g i
    refine idx_w i rfl hlt ?_
    have hsp := three out i (a.length + 1)
    have hL : (out.take i).length = i := by rw [List.length_take]; omega
    have hMl : ((out.drop i).take (a.length + 1)).length = a.length + 1 := by rw [List.length_take, List.length_drop]; omega
    have hr := row_spec (L := out.take i) (M := (out.drop i).take (a.length + 1)) (R := out.drop (i + (a.length + 1))) (a := a) (x := b.getD i 0) (k := 0) hwa ((hwo.drop i).take _) g1 ⟨by omega, by omega⟩ hMl (by rw [← hsp]; omega)
    rw [← hsp, hL] at hr
    rw [hl] at hr
    have hval := val_lt (hwb.take i)
    have hbt : (b.take i).length = i := by rw [List.length_take]; omega
    rw [hbt] at hval
    have hva := val_lt hwa
    have hout : val out < 4294967296 ^ (i + a.length) := by
      rw [hv, Nat.pow_add, Nat.mul_comm]
      exact Nat.mul_lt_mul'' hval hva
    have hz := val_drop_zero (i := i + a.length) (by omega) hout
    have hz2 : val (out.drop (i + (a.length + 1))) = 0 := by
      have h2 : val (out.drop (i + a.length)) = _ := val_take_drop (out.drop (i + a.length)) 1 (by rw [List.length_drop]; omega)
      rw [hz, List.drop_drop, Nat.add_assoc] at h2
      have : 4294967296 ^ 1 * val (out.drop (i + (a.length + 1))) = 0 := by omega
      omega
    have hmid : val (out.drop i) = val ((out.drop i).take a.length) := by
      have h2 := val_take_drop (out.drop i) a.length (by rw [List.length_drop]; omega)
      rw [List.drop_drop, hz] at h2
      omega
    have htt : ((out.drop i).take (a.length + 1)).take a.length = (out.drop i).take a.length := by rw [List.take_take, Nat.min_eq_left (by omega)]
    have hstep : (b.getD i 0).toNat * val a + val ((out.drop i).take a.length) < 4294967296 ^ (a.length + 1) := by
      refine mul_step (by omega) hva ?_
      have := val_take_lt (hwo.drop i) a.length
      exact this
    rw [htt] at hr
    have hlen2 : (out.take i ++ (dig (a.length + 1) ((b.getD i 0).toNat * val a + val ((out.drop i).take a.length) + (0 : Int).toNat) ++ out.drop (i + (a.length + 1)))).length = a.length + b.length + 1 := by
      rw [List.length_append, List.length_append, dig_len, hL, List.length_drop]; omega
    refine call_row 14 hr rfl rfl rfl rfl rfl rfl (same_words (by rw [hl]; exact hlen2.symm)) ?_
    refine ⟨(i + 1, out.take i ++ (dig (a.length + 1) ((b.getD i 0).toNat * val a + val ((out.drop i).take a.length) + (0 : Int).toNat) ++ out.drop (i + (a.length + 1)))), ⟨hlt, hlen2, (hwo.take i).app ((Wd.dig _ _).app (hwo.drop _)), ?_⟩, by show b.length - (i + 1) < b.length - i; omega, ?_⟩
    · show val (out.take i ++ (dig (a.length + 1) ((b.getD i 0).toNat * val a + val ((out.drop i).take a.length) + 0) ++ out.drop (i + (a.length + 1)))) = val a * val (b.take (i + 1))
      simp only [Nat.add_zero]
      rw [val_parts, hL, val_dig_lt hstep, hz2, Nat.mul_zero, Nat.add_zero, val_take_succ hlt, ← hmid]
      have h3 := val_take_drop out i (by omega)
      rw [hv] at h3
      clear hr hsp hstep
      generalize val (b.take i) = t at h3 ⊢
      generalize val (out.take i) = o1 at h3 ⊢
      generalize val (out.drop i) = o2 at h3 ⊢
      generalize 4294967296 ^ i = p at h3 ⊢
      generalize (b.getD i 0).toNat = u
      generalize val a = A at h3 ⊢
      grind
    · exact weak_st _ _ ⟨rfl, rfl, rfl, rfl, i64_inj ei, trivial⟩ ⟨rfl, trivial⟩ rfl
  · have hend : i = b.length := by have h : ¬ (i : Int) < b.length := of_decide_eq_false h; omega
    subst hend
    refine opp_frz 14 (.words tU32 out) rfl (Nat.le_of_ble_eq_true rfl) rfl ?_
    refine call_intro (.d (.words (toW (val out)))) ?_ ?_
    · have := norm_spec hwo (by omega)
      have e : snapM (.words tU32 out) 0 (a.length + b.length + 1) = .d (.words out) := by
        show V.d (.words ((out.drop 0).take (a.length + b.length + 1))) = _
        rw [List.drop_zero, List.take_of_length_le (by omega)]
      rw [← e] at this
      exact this
    · refine ret_intro (ws_inj ?_) rfl
      rw [hv, List.take_length]
end Go.Proofs.YtolkecnhncbkhaaGreat.Fw

/- Shifts by less than a word, the quotient by a word. -/
set_option linter.unusedVariables false
namespace Go.Proofs.YtolkecnhncbkhaaGreat.Fw
open Go Pu
theorem or32 {m l : Int} {k : Nat} (hm : 0 ≤ m) (hk : m < 2 ^ k) (hl0 : 0 ≤ l) (hl : l < 4294967296) (t : Nat) (ht : l = ((2 ^ k * t : Nat) : Int)) (hk2 : k < 32) :
    IntKind.u32.wrap (BitVec.ofInt 32 m ||| BitVec.ofInt 32 l).toNat = m + l := by
  obtain ⟨m, rfl⟩ := Int.eq_ofNat_of_zero_le hm
  subst ht
  have hk' : m < 2 ^ k := by exact_mod_cast hk
  have hlt : 2 ^ k * t < 4294967296 := by generalize 2 ^ k * t = z at hl ⊢; omega
  have h2 : 2 ^ k ≤ 2 ^ 31 := Nat.pow_le_pow_right (by omega) (by omega)
  rw [BitVec.ofInt_natCast, BitVec.ofInt_natCast, BitVec.toNat_or, BitVec.toNat_ofNat, BitVec.toNat_ofNat, Nat.mod_eq_of_lt (show m < 2 ^ 32 by omega), Nat.mod_eq_of_lt (show 2 ^ k * t < 2 ^ 32 from hlt), Nat.or_comm, ← Nat.two_pow_add_eq_or_of_lt hk', w32]
  have h3 : 2 ^ k * t + m < 4294967296 := by
    have hc := pow32 (n := k) (by omega)
    have : t < 2 ^ (32 - k) := by
      rcases Nat.lt_or_ge t (2 ^ (32 - k)) with h | h
      · exact h
      · have := Nat.mul_le_mul_left (2 ^ k) h; omega
    have := Nat.mul_le_mul_left (2 ^ k) this
    rw [Nat.mul_succ] at this
    omega
  generalize 2 ^ k * t = z at h3 hlt ⊢
  omega
theorem Up_specG {a : List Int} {n : Nat} (hwa : Wd a) (ha : a.length ≤ 274877906944) (hn : n < 32) : RunsG Tryz.prog g_twos_Up [.d (.words a), .d (.int .i64 (n : Int))] [] (.own 56 0 (toW (val a * 2 ^ n)).length) [(56, .words tU32 (toW (val a * 2 ^ n)))] := by
  refine runG [56] p_twos_Up rfl rfl rfl rfl (fun B S F0 w0 V0 => ?_)
  have e1 : (if (0 : Int) > (n : Int) then (0 : Int) else (n : Int)) = (n : Int) := if_neg (by omega)
  have e2 : (if (4096 : Int) < (n : Int) then (4096 : Int) else (n : Int)) = (n : Int) := if_neg (by omega)
  have e0 : (if (4096 : Int) < (if (0 : Int) > (n : Int) then (0 : Int) else (n : Int)) then (4096 : Int) else (if (0 : Int) > (n : Int) then (0 : Int) else (n : Int))) = (n : Int) := by rw [e1, e2]
  have d1 : IntKind.i64.wrap ((n : Int).tdiv 32) = 0 := by rw [Int.tdiv_eq_ediv_of_nonneg (by omega), wr (by omega) (by omega)]; omega
  have d2 : ((n : Int).tmod 32) = (n : Int) := by rw [Int.tmod_eq_emod_of_nonneg (by omega)]; omega
  refine side_intro (by show (32 : Int) ≠ 0; omega) ?_
  refine side_intro (by show (32 : Int) ≠ 0; omega) ?_
  have d1' : IntKind.i64.wrap ((if (4096 : Int) < (if (0 : Int) > (n : Int) then (0 : Int) else (n : Int)) then (4096 : Int) else (if (0 : Int) > (n : Int) then (0 : Int) else (n : Int))).tdiv 32) = 0 := by rw [e0]; exact d1
  have d2' : ((if (4096 : Int) < (if (0 : Int) > (n : Int) then (0 : Int) else (n : Int)) then (4096 : Int) else (if (0 : Int) > (n : Int) then (0 : Int) else (n : Int))).tmod 32) = (n : Int) := by rw [e0]; exact d2
  have e3 : IntKind.i64.wrap (IntKind.i64.wrap (IntKind.i64.wrap ((if (4096 : Int) < (if (0 : Int) > (n : Int) then (0 : Int) else (n : Int)) then (4096 : Int) else (if (0 : Int) > (n : Int) then (0 : Int) else (n : Int))).tdiv 32) + (a.length : Int)) + 1) = ((a.length + 1 : Nat) : Int) := by
    rw [d1', wr (x := 0 + (a.length : Int)) (by omega) (by omega), wr (by omega) (by omega)]; omega
  refine opp_make hT rfl rfl (Nat.le_of_ble_eq_true rfl) (e := tU32) rfl rfl (Nat.le_of_ble_eq_true rfl) (fun _ => rfl) (k := .i64) (k' := .i64) (n := ((a.length + 1 : Nat) : Int)) (i64_inj e3) (i64_inj e3) rfl (by omega) ?_ ?_ ?_
  · show 4 * ((a.length + 1 : Nat) : Int).toNat ≤ _
    omega
  · unfold maxLen; omega
  rw [Int.toNat_natCast]
  refine loop_intro (fun p : Nat × List Int => st [(0, .d (.words a)), (5, .d (.int .i64 0)), (6, .d (.int .i64 (n : Int))), (7, .own 23 0 (a.length + 1)), (24, .d (.words a)), (25, .d (.int .i64 (a.length : Int))), (26, .d (.int .i64 (p.1 : Int)))] [(23, .words tU32 p.2)]) (fun p => a.length - p.1)
    (fun p => p.1 ≤ a.length ∧ p.2.length = a.length + 1 ∧ Wd p.2 ∧ val p.2 = val (a.take p.1) * 2 ^ n ∧ (∀ j, p.1 < j → p.2.getD j 0 = 0) ∧ (p.2.getD p.1 0).toNat < 2 ^ n) (0, List.replicate (a.length + 1) 0)
    ⟨Nat.zero_le _, by simp, Wd.zeros _, by simp only [val_zeros]; simp [val], fun j _ => by dsimp only; rw [List.getD_eq_getElem?_getD, List.getElem?_replicate]; split <;> rfl, by show ((List.replicate (a.length + 1) (0 : Int)).getD 0 0).toNat < 2 ^ n; rw [List.getD_eq_getElem?_getD, List.getElem?_replicate]; split <;> exact Nat.two_pow_pos n⟩ (weak_st _ _ ⟨rfl, i64_inj d1', i64_inj d2', rfl, rfl, rfl, rfl, trivial⟩ ⟨rfl, trivial⟩ rfl) ?_
  rintro ⟨i, out⟩ ⟨hi, hl, hwo, hv, hz, hs⟩
  dsimp only at hi hl hwo hv hz hs
  refine split_intro (fun h => ?_) (fun h => ?_)
  · have hlt : i < a.length := by have h : (i : Int) < a.length := of_decide_eq_true h; omega
    have ei : IntKind.i64.wrap ((i : Int) + 1) = ((i + 1 : Nat) : Int) := by rw [wr (by omega) (by omega)]; omega
    have ej : IntKind.i64.wrap (0 + (i : Int)) = (i : Int) := by rw [wr (by omega) (by omega)]; omega
    have ej2 : IntKind.i64.wrap (IntKind.i64.wrap (0 + (i : Int)) + 1) = ((i + 1 : Nat) : Int) := by rw [ej]; exact ei
    have g1 := hwa.g i
    have g2 := hwo.g i
    refine idx_w i rfl hlt ?_
    refine side_intro (by show (0 : Int) ≤ n; omega) ?_
    refine side_intro (by show (0 : Int) ≤ IntKind.i64.wrap (0 + (i : Int)) ∧ IntKind.i64.wrap (0 + (i : Int)) < ((a.length + 1 : Nat) : Int); omega) ?_
    refine idx_intro (out.getD i 0) (Int.natCast_nonneg _) (by
      show out[((0 + (IntKind.i64.wrap (0 + (i : Int))).toNat : Nat) : Int).toNat]? = _
      rw [ej, Int.toNat_natCast, Int.toNat_natCast, Nat.zero_add]
      exact el out (by omega)) ?_
    refine side_intro (by show (0 : Int) ≤ IntKind.i64.wrap (0 + (i : Int)) ∧ IntKind.i64.wrap (0 + (i : Int)) < ((a.length + 1 : Nat) : Int); omega) ?_
    refine side_intro (by show (0 : Int) ≤ 32; omega) ?_
    refine side_intro (by show (0 : Int) ≤ IntKind.i64.wrap (IntKind.i64.wrap (0 + (i : Int)) + 1) ∧ IntKind.i64.wrap (IntKind.i64.wrap (0 + (i : Int)) + 1) < ((a.length + 1 : Nat) : Int); omega) ?_
    have hpc := pow32 (n := n) (by omega)
    have hpp : 0 < 2 ^ n := Nat.two_pow_pos n
    obtain ⟨x, hx⟩ := Int.eq_ofNat_of_zero_le g1.1
    obtain ⟨u, hu⟩ := Int.eq_ofNat_of_zero_le g2.1
    rw [hx] at g1
    rw [hu] at g2 hs
    have hs' : u < 2 ^ n := hs
    have hX : x * 2 ^ n < 4294967296 * 2 ^ n := Nat.mul_lt_mul_of_pos_right (by omega) hpp
    have hn31 : 2 ^ n ≤ 2 ^ 31 := Nat.pow_le_pow_right (by omega) (by omega)
    have ew : IntKind.u64.wrap (IntKind.u64.wrap (a.getD i 0) * 2 ^ (min ((n : Int)).toNat IntKind.u64.bits)) = ((x * 2 ^ n : Nat) : Int) := by
      rw [hx, show min ((n : Int)).toNat IntKind.u64.bits = n by show min n 64 = n; omega, w64 ((x : Nat) : Int), show ((x : Nat) : Int) % 18446744073709551616 = ((x : Nat) : Int) by omega, w64]
      have : ((x : Int) * 2 ^ n) = ((x * 2 ^ n : Nat) : Int) := by rw [Int.natCast_mul, Int.natCast_pow]; rfl
      rw [this]
      generalize x * 2 ^ n = X at hX ⊢
      omega
    have elo : IntKind.u32.wrap (BitVec.ofInt 32 (out.getD i 0) ||| BitVec.ofInt 32 (IntKind.u32.wrap (IntKind.u64.wrap (IntKind.u64.wrap (a.getD i 0) * 2 ^ (min ((n : Int)).toNat IntKind.u64.bits))))).toNat = ((u + x * 2 ^ n % 4294967296 : Nat) : Int) := by
      rw [ew, hu, w32 ((x * 2 ^ n : Nat) : Int)]
      have hl : ((x * 2 ^ n : Nat) : Int) % 4294967296 = ((x * 2 ^ n % 4294967296 : Nat) : Int) := by omega
      rw [hl]
      rw [or32 (k := n) (by show (0 : Int) ≤ (u : Int); omega) (by show (u : Int) < 2 ^ n; exact_mod_cast hs') (by omega) (by omega) (x % 2 ^ (32 - n)) (by rw [← hpc, Nat.mul_comm x, Nat.mul_mod_mul_left]) hn]
      show (u : Int) + _ = _
      omega
    have ehi : IntKind.u32.wrap ((IntKind.u64.wrap (IntKind.u64.wrap (a.getD i 0) * 2 ^ (min ((n : Int)).toNat IntKind.u64.bits))).fdiv (2 ^ (min ((32 : Int)).toNat IntKind.u64.bits))) = ((x * 2 ^ n / 4294967296 : Nat) : Int) := by
      rw [ew, show (2 : Int) ^ (min ((32 : Int)).toNat IntKind.u64.bits) = 4294967296 from rfl, Int.fdiv_eq_ediv_of_nonneg _ (by omega), w32]
      generalize x * 2 ^ n = X at hX ⊢
      omega
    have hlo : u + x * 2 ^ n % 4294967296 < 4294967296 := by
      rw [← hpc, Nat.mul_comm x, Nat.mul_mod_mul_left]
      have : x % 2 ^ (32 - n) < 2 ^ (32 - n) := Nat.mod_lt _ (Nat.two_pow_pos _)
      have := Nat.mul_le_mul_left (2 ^ n) this
      rw [Nat.mul_succ] at this
      omega
    have hhi : x * 2 ^ n / 4294967296 < 2 ^ n := (Nat.div_lt_iff_lt_mul (by omega)).2 (by rw [Nat.mul_comm (2 ^ n)]; exact hX)
    have hw1 : Wd (out.set i ((u + x * 2 ^ n % 4294967296 : Nat) : Int)) := hwo.set i (by omega) (by omega)
    refine ⟨(i + 1, (out.set i ((u + x * 2 ^ n % 4294967296 : Nat) : Int)).set (i + 1) ((x * 2 ^ n / 4294967296 : Nat) : Int)), ⟨hlt, by show ((out.set i _).set (i + 1) _).length = _; rw [List.length_set, List.length_set]; exact hl, hw1.set _ (by omega) (by omega), ?_, fun j hj => ?_, ?_⟩, by show a.length - (i + 1) < a.length - i; omega, ?_⟩
    · show val ((out.set i ((u + x * 2 ^ n % 4294967296 : Nat) : Int)).set (i + 1) ((x * 2 ^ n / 4294967296 : Nat) : Int)) = val (a.take (i + 1)) * 2 ^ n
      rw [up_step (u := u) (r := x * 2 ^ n % 4294967296) (d := x * 2 ^ n / 4294967296) (by omega) (by rw [hu]; rfl) (by rw [hz (i + 1) (by omega)]; rfl) (Int.toNat_natCast _) (Int.toNat_natCast _), hv, val_take_succ hlt, hx, Nat.add_mul, Int.toNat_natCast, Nat.mul_assoc, Nat.pow_succ, Nat.add_assoc, up_sum (Nat.div_add_mod _ _)]
    · show ((out.set i _).set (i + 1) _).getD j 0 = 0
      have hj : i + 1 < j := hj
      rw [getD_setne (by omega), getD_setne (by omega)]
      exact hz j (by omega)
    · show (((out.set i _).set (i + 1) ((x * 2 ^ n / 4294967296 : Nat) : Int)).getD (i + 1) 0).toNat < 2 ^ n
      rw [getD_setself (by rw [List.length_set]; omega), Int.toNat_natCast]
      exact hhi
    · refine weak_st _ _ ⟨rfl, rfl, rfl, rfl, rfl, rfl, i64_inj ei, trivial⟩ ⟨?_, trivial⟩ rfl
      show some (MO.words tU32 ((out.set (0 + (IntKind.i64.wrap (0 + (i : Int))).toNat) (IntKind.u32.wrap (BitVec.ofInt 32 (out.getD i 0) ||| BitVec.ofInt 32 (IntKind.u32.wrap (IntKind.u64.wrap (IntKind.u64.wrap (a.getD i 0) * 2 ^ (min ((n : Int)).toNat IntKind.u64.bits))))).toNat)).set (0 + (IntKind.i64.wrap (IntKind.i64.wrap (0 + (i : Int)) + 1)).toNat) (IntKind.u32.wrap ((IntKind.u64.wrap (IntKind.u64.wrap (a.getD i 0) * 2 ^ (min ((n : Int)).toNat IntKind.u64.bits))).fdiv (2 ^ (min ((32 : Int)).toNat IntKind.u64.bits)))))) = _
      rw [elo, ehi, ej, ei, Nat.zero_add, Nat.zero_add, Int.toNat_natCast, Int.toNat_natCast]
  · have hend : i = a.length := by have h : ¬ (i : Int) < a.length := of_decide_eq_false h; omega
    subst hend
    have e : snapM (.words tU32 out) 0 (a.length + 1) = .d (.words out) := by
      show V.d (.words ((out.drop 0).take (a.length + 1))) = _
      rw [List.drop_zero, List.take_of_length_le (by omega)]
    have hn := norm_specG hwo (by omega)
    rw [hv, List.take_length] at hn
    refine opp_weak _ (weak_freeze (i := 23) (m := .words tU32 out) (Nat.le_of_ble_eq_true rfl) rfl) ?_
    refine call_new 56 hn rfl rfl rfl rfl rfl ?_ rfl ?_
    · show [snapM (.words tU32 out) 0 (a.length + 1)] = _
      rw [e]
    · exact retG_intro rfl rfl ⟨rfl, trivial⟩ rfl
theorem Down_spec {a : List Int} {n : Nat} (hwa : Wd a) (ha : a.length ≤ 274877906944) (hn : n < 32) : Runs Tryz.prog g_twos_Down [.d (.words a), .d (.int .i64 (n : Int))] (.d (.words (toW (val a / 2 ^ n)))) := by
  refine run1 [] p_twos_Down rfl rfl (fun B S F0 w0 V0 => ?_)
  have e1 : (if (0 : Int) > (n : Int) then (0 : Int) else (n : Int)) = (n : Int) := if_neg (by omega)
  have d1 : IntKind.i64.wrap ((if (0 : Int) > (n : Int) then (0 : Int) else (n : Int)).tdiv 32) = 0 := by rw [e1, Int.tdiv_eq_ediv_of_nonneg (by omega), wr (by omega) (by omega)]; omega
  have d2 : ((if (0 : Int) > (n : Int) then (0 : Int) else (n : Int)).tmod 32) = (n : Int) := by rw [e1, Int.tmod_eq_emod_of_nonneg (by omega)]; omega
  refine side_intro (by show (32 : Int) ≠ 0; omega) ?_
  refine side_intro (by show (32 : Int) ≠ 0; omega) ?_
  refine split_intro (fun h => ?_) (fun h => ?_)
  · have h : IntKind.i64.wrap ((if (0 : Int) > (n : Int) then (0 : Int) else (n : Int)).tdiv 32) ≥ (a.length : Int) := of_decide_eq_true h
    rw [d1] at h
    have : a = [] := List.eq_nil_of_length_eq_zero (by omega)
    subst this
    refine ret_intro (ws_inj ?_) rfl
    simp [val, toW_zero]
  have h : ¬ IntKind.i64.wrap ((if (0 : Int) > (n : Int) then (0 : Int) else (n : Int)).tdiv 32) ≥ (a.length : Int) := of_decide_eq_false h
  have e3 : IntKind.i64.wrap ((a.length : Int) - IntKind.i64.wrap ((if (0 : Int) > (n : Int) then (0 : Int) else (n : Int)).tdiv 32)) = ((a.length : Nat) : Int) := by rw [d1, wr (by omega) (by omega)]; omega
  refine opp_make hT rfl rfl (Nat.le_of_ble_eq_true rfl) (e := tU32) rfl rfl (Nat.le_of_ble_eq_true rfl) (fun _ => rfl) (k := .i64) (k' := .i64) (n := ((a.length : Nat) : Int)) (i64_inj e3) (i64_inj e3) rfl (by omega) ?_ ?_ ?_
  · show 4 * ((a.length : Nat) : Int).toNat ≤ _
    omega
  · unfold maxLen; omega
  rw [Int.toNat_natCast]
  refine loop_intro (fun p : Nat × List Int => st [(0, .d (.words a)), (5, .d (.int .i64 0)), (6, .d (.int .i64 (n : Int))), (7, .own 24 0 a.length), (26, .d (.int .i64 (a.length : Int))), (27, .d (.int .i64 (p.1 : Int)))] [(24, .words tU32 p.2)]) (fun p => a.length - p.1)
    (fun p => p.1 ≤ a.length ∧ p.2.length = a.length ∧ Wd p.2 ∧ val (p.2.take p.1) + 4294967296 ^ p.1 * (val (a.drop p.1) / 2 ^ n) = val a / 2 ^ n) (0, List.replicate a.length 0)
    ⟨Nat.zero_le _, by simp, Wd.zeros _, by simp [val]⟩ (weak_st _ _ ⟨rfl, i64_inj d1, i64_inj d2, rfl, rfl, rfl, trivial⟩ ⟨rfl, trivial⟩ rfl) ?_
  rintro ⟨i, out⟩ ⟨hi, hl, hwo, hv⟩
  dsimp only at hi hl hwo hv
  refine split_intro (fun h => ?_) (fun h => ?_)
  · have hlt : i < a.length := by have h : (i : Int) < a.length := of_decide_eq_true h; omega
    have ei : IntKind.i64.wrap ((i : Int) + 1) = ((i + 1 : Nat) : Int) := by rw [wr (by omega) (by omega)]; omega
    have ej : IntKind.i64.wrap (0 + (i : Int)) = (i : Int) := by rw [wr (by omega) (by omega)]; omega
    have ej2 : IntKind.i64.wrap (IntKind.i64.wrap (0 + (i : Int)) + 1) = ((i + 1 : Nat) : Int) := by rw [ej]; exact ei
    have g1 := hwa.g i
    have g2 := hwa.g (i + 1)
    obtain ⟨x, hx⟩ := Int.eq_ofNat_of_zero_le g1.1
    obtain ⟨y, hy⟩ := Int.eq_ofNat_of_zero_le g2.1
    have hvd := val_drop_cons' a i
    have hvm := val_mod a (i + 1) (n := n) (by omega)
    rw [hx] at g1 hvd
    rw [hy] at g2 hvm
    rw [Int.toNat_natCast] at hvd hvm
    have hpp : 0 < 2 ^ n := Nat.two_pow_pos n
    have hst := down_step (x := x) (n := n) (by omega) (by omega) hvm
    have fin : ∀ (dg : Int), dg = (((x + 4294967296 * y) / 2 ^ n % 4294967296 : Nat) : Int) → W32 dg ∧ val ((out.set i dg).take (i + 1)) + 4294967296 ^ (i + 1) * (val (a.drop (i + 1)) / 2 ^ n) = val a / 2 ^ n := by
      rintro _ rfl
      refine ⟨⟨by omega, by omega⟩, ?_⟩
      rw [val_take_set (by omega), Int.toNat_natCast, Nat.pow_succ, Nat.mul_assoc, Nat.add_assoc, ← Nat.mul_add, hst, ← hvd, hv]
    have eu : IntKind.u64.wrap (a.getD i 0) = (x : Int) := by rw [hx, w64]; omega
    have fdn : ∀ (z : Nat), ((z : Int)).fdiv (2 ^ (min ((n : Int)).toNat IntKind.u64.bits)) = ((z / 2 ^ n : Nat) : Int) := by
      intro z
      rw [Int.fdiv_eq_ediv_of_nonneg _ (Int.pow_nonneg (by omega)), show min ((n : Int)).toNat IntKind.u64.bits = n by show min n 64 = n; omega]
      norm_cast
    refine idx_w i ej hlt ?_
    refine split_intro (fun h => ?_) (fun h => ?_)
    · have h : IntKind.i64.wrap (IntKind.i64.wrap (0 + (i : Int)) + 1) < (a.length : Int) := of_decide_eq_true h
      rw [ej2] at h
      refine idx_w (i + 1) ej2 (by omega) ?_
      refine side_intro (by show (0 : Int) ≤ 32; omega) ?_
      refine side_intro (by show (0 : Int) ≤ n; omega) ?_
      refine side_intro (by show (0 : Int) ≤ i ∧ (i : Int) < ((a.length : Nat) : Int); omega) ?_
      have ed : IntKind.u32.wrap ((IntKind.u64.wrap (BitVec.ofInt 64 (IntKind.u64.wrap (a.getD i 0)) ||| BitVec.ofInt 64 (IntKind.u64.wrap (IntKind.u64.wrap (a.getD (i + 1) 0) * 2 ^ (min ((32 : Int)).toNat IntKind.u64.bits)))).toNat).fdiv (2 ^ (min ((n : Int)).toNat IntKind.u64.bits))) = (((x + 4294967296 * y) / 2 ^ n % 4294967296 : Nat) : Int) := by
        have e2 : IntKind.u64.wrap (a.getD (i + 1) 0) = (y : Int) := by rw [hy, w64]; omega
        rw [eu, e2, show (2 : Int) ^ (min ((32 : Int)).toNat IntKind.u64.bits) = 4294967296 from rfl, show IntKind.u64.wrap ((y : Int) * 4294967296) = (y : Int) * 4294967296 by rw [w64]; omega, BitVec.or_comm, or_add (y : Int) (x : Int) (by omega) (by omega) (by omega) (by omega)]
        rw [show (y : Int) * 4294967296 + (x : Int) = ((x + 4294967296 * y : Nat) : Int) by omega, fdn, w32]
        generalize (x + 4294967296 * y) / 2 ^ n = k
        omega
      obtain ⟨f1, f2⟩ := fin _ ed
      refine ⟨(i + 1, out.set i _), ⟨hlt, by show (out.set i _).length = _; rw [List.length_set]; exact hl, hwo.set i f1.1 f1.2, f2⟩, by show a.length - (i + 1) < a.length - i; omega, ?_⟩
      refine weak_st _ _ ⟨rfl, rfl, rfl, rfl, rfl, i64_inj ei, trivial⟩ ⟨?_, trivial⟩ rfl
      show some (MO.words tU32 (out.set (0 + ((i : Int)).toNat) _)) = _
      rw [Nat.zero_add]; rfl
    · have h : ¬ IntKind.i64.wrap (IntKind.i64.wrap (0 + (i : Int)) + 1) < (a.length : Int) := of_decide_eq_false h
      rw [ej2] at h
      refine side_intro (by show (0 : Int) ≤ n; omega) ?_
      refine side_intro (by show (0 : Int) ≤ i ∧ (i : Int) < ((a.length : Nat) : Int); omega) ?_
      have hy0 : y = 0 := by rw [getD_ge (by omega)] at hy; omega
      have ed : IntKind.u32.wrap ((IntKind.u64.wrap (a.getD i 0)).fdiv (2 ^ (min ((n : Int)).toNat IntKind.u64.bits))) = (((x + 4294967296 * y) / 2 ^ n % 4294967296 : Nat) : Int) := by
        rw [eu, fdn, w32, hy0, Nat.mul_zero, Nat.add_zero]
        generalize x / 2 ^ n = k
        omega
      obtain ⟨f1, f2⟩ := fin _ ed
      refine ⟨(i + 1, out.set i _), ⟨hlt, by show (out.set i _).length = _; rw [List.length_set]; exact hl, hwo.set i f1.1 f1.2, f2⟩, by show a.length - (i + 1) < a.length - i; omega, ?_⟩
      refine weak_st _ _ ⟨rfl, rfl, rfl, rfl, rfl, i64_inj ei, trivial⟩ ⟨?_, trivial⟩ rfl
      show some (MO.words tU32 (out.set (0 + ((i : Int)).toNat) _)) = _
      rw [Nat.zero_add]; rfl
  · have hend : i = a.length := by have h : ¬ (i : Int) < a.length := of_decide_eq_false h; omega
    subst hend
    have e : snapM (.words tU32 out) 0 a.length = .d (.words out) := by
      show V.d (.words ((out.drop 0).take a.length)) = _
      rw [List.drop_zero, List.take_of_length_le (by omega)]
    refine opp_frz 24 (.words tU32 out) rfl (Nat.le_of_ble_eq_true rfl) rfl ?_
    refine call_intro (.d (.words (toW (val out)))) ?_ ?_
    · have := norm_spec hwo (by omega)
      rw [← e] at this
      exact this
    · refine ret_intro (ws_inj ?_) rfl
      rw [List.drop_length, ← hl, List.take_length] at hv
      rw [← hv]
      simp [val]
theorem Word_no (a : List Int) : Runs Tryz.prog g_quot_Word [.d (.words a), .d (.int .u32 0)] (.tup [.d (.words []), .d (.int .u32 0), .d (.bool false)]) := by
  refine run1 [] p_quot_Word rfl rfl (fun B S F0 w0 V0 => ?_)
  refine split_true rfl ?_
  exact ret_intro rfl rfl
theorem Word_spec {a : List Int} {x : Int} (hwa : Wd a) (ha : a.length ≤ 274877906944) (hx : W32 x) (h0 : x ≠ 0) : Runs Tryz.prog g_quot_Word [.d (.words a), .d (.int .u32 x)] (.tup [.d (.words (toW (val a / x.toNat))), .d (.int .u32 ((val a % x.toNat : Nat) : Int)), .d (.bool true)]) := by
  refine run1 [] p_quot_Word rfl rfl (fun B S F0 w0 V0 => ?_)
  refine split_false (beq_eq_false_iff_ne.2 h0) ?_
  refine opp_make hT rfl rfl (Nat.le_of_ble_eq_true rfl) (e := tU32) rfl rfl (Nat.le_of_ble_eq_true rfl) (fun _ => rfl) (k := .i64) (k' := .i64) (n := ((a.length : Nat) : Int)) rfl rfl rfl (by omega) ?_ ?_ ?_
  · show 4 * ((a.length : Nat) : Int).toNat ≤ _
    omega
  · unfold maxLen; omega
  rw [Int.toNat_natCast]
  have e0 : IntKind.i64.wrap ((a.length : Int) - 1) = (a.length : Int) - 1 := wr (by omega) (by omega)
  obtain ⟨x, rfl⟩ := Int.eq_ofNat_of_zero_le hx.1
  have hx0 : 0 < x := by omega
  refine loop_intro (fun p : Nat × List Int × Nat => st [(0, .d (.words a)), (1, .d (.int .u32 (x : Int))), (4, .own 12 0 a.length), (5, .d (.int .u32 (p.2.2 : Int))), (7, .d (.int .i64 ((p.1 : Int) - 1)))] [(12, .words tU32 p.2.1)]) (fun p => p.1)
    (fun p => p.1 ≤ a.length ∧ p.2.1.length = a.length ∧ Wd p.2.1 ∧ p.2.2 < x ∧ val (p.2.1.drop p.1) * x + p.2.2 = val (a.drop p.1)) (a.length, List.replicate a.length 0, 0)
    ⟨Nat.le_refl _, by simp, Wd.zeros _, hx0, by simp [val]⟩ (weak_st _ _ ⟨rfl, rfl, rfl, rfl, i64_inj e0, trivial⟩ ⟨rfl, trivial⟩ rfl) ?_
  rintro ⟨k, q, r⟩ ⟨hk, hl, hwq, hr, hv⟩
  dsimp only at hk hl hwq hr hv
  refine split_intro (fun h => ?_) (fun h => ?_)
  · have h : (k : Int) - 1 ≥ 0 := of_decide_eq_true h
    have e1 : (k : Int) - 1 = ((k - 1 : Nat) : Int) := by omega
    have e2 : IntKind.i64.wrap ((k : Int) - 1 - 1) = ((k - 1 : Nat) : Int) - 1 := by rw [wr (by omega) (by omega)]; omega
    have g1 := hwa.g (k - 1)
    refine idx_w (k - 1) e1 (by omega) ?_
    refine call_intro _ (limb_Div_spec (h := (r : Int)) (l := a.getD (k - 1) 0) (y := (x : Int)) ⟨by omega, by have := hx.2; omega⟩ g1 hx (by omega)) ?_
    refine side_intro (by show (0 : Int) ≤ (k : Int) - 1 ∧ (k : Int) - 1 < ((a.length : Nat) : Int); omega) ?_
    obtain ⟨y, hy⟩ := Int.eq_ofNat_of_zero_le g1.1
    have eq : ((r : Int) * 4294967296 + a.getD (k - 1) 0) / (x : Int) = (((r * 4294967296 + y) / x : Nat) : Int) := by
      rw [hy, Int.natCast_ediv]
      congr 1
    have er : ((r : Int) * 4294967296 + a.getD (k - 1) 0) % (x : Int) = (((r * 4294967296 + y) % x : Nat) : Int) := by
      rw [hy, Int.natCast_emod]
      congr 1
    have hql : (r * 4294967296 + y) / x < 4294967296 := by
      rw [Nat.div_lt_iff_lt_mul hx0]
      have : (r + 1) * 4294967296 ≤ x * 4294967296 := Nat.mul_le_mul_right _ hr
      rw [Nat.mul_comm 4294967296 x]
      omega
    refine ⟨(k - 1, q.set (k - 1) (((r * 4294967296 + y) / x : Nat) : Int), (r * 4294967296 + y) % x), ⟨by show k - 1 ≤ a.length; omega, by show (q.set _ _).length = _; rw [List.length_set]; exact hl, hwq.set _ (Int.natCast_nonneg _) (by generalize (r * 4294967296 + y) / x = z at hql ⊢; omega), Nat.mod_lt _ hx0, ?_⟩, by show k - 1 < k; omega, ?_⟩
    · show val ((q.set (k - 1) (((r * 4294967296 + y) / x : Nat) : Int)).drop (k - 1)) * x + (r * 4294967296 + y) % x = val (a.drop (k - 1))
      rw [val_drop_cons (by rw [List.length_set]; omega), getD_setself (by omega), List.drop_set_of_lt (by omega), val_drop_cons (a := a) (by omega), hy, show k - 1 + 1 = k by omega, ← hv, Int.toNat_natCast, Int.toNat_natCast, Nat.add_mul]
      have hd := Nat.div_add_mod (r * 4294967296 + y) x
      rw [Nat.mul_comm] at hd
      generalize (r * 4294967296 + y) / x * x = z at hd ⊢
      generalize (r * 4294967296 + y) % x = z2 at hd ⊢
      rw [Nat.mul_add, Nat.mul_assoc]
      generalize val (q.drop k) * x = z3
      omega
    · refine weak_st _ _ ⟨rfl, rfl, rfl, by show V.d (.int .u32 _) = _; rw [er], i64_inj e2, trivial⟩ ⟨?_, trivial⟩ rfl
      show some (MO.words tU32 (q.set (0 + ((k : Int) - 1).toNat) _)) = _
      rw [eq, e1, Nat.zero_add, Int.toNat_natCast]
  · have h : ¬ (k : Int) - 1 ≥ 0 := of_decide_eq_false h
    have hk0 : k = 0 := by omega
    subst hk0
    simp only [List.drop_zero] at hv
    have e : snapM (.words tU32 q) 0 a.length = .d (.words q) := by
      show V.d (.words ((q.drop 0).take a.length)) = _
      rw [List.drop_zero, List.take_of_length_le (by omega)]
    refine opp_frz 12 (.words tU32 q) rfl (Nat.le_of_ble_eq_true rfl) rfl ?_
    have hq : val q = val a / x := by
      rw [← hv, Nat.mul_comm, Nat.mul_add_div hx0, Nat.div_eq_of_lt hr, Nat.add_zero]
    have hrr : r = val a % x := by
      rw [← hv, Nat.mul_comm, Nat.mul_add_mod, Nat.mod_eq_of_lt hr]
    refine call_intro (.d (.words (toW (val q)))) ?_ ?_
    · have := norm_spec hwq (by omega)
      rw [← e] at this
      exact this
    · refine ret_intro (tup3 (ws_inj ?_) (u32_inj ?_) rfl) rfl
      · rw [hq]; rfl
      · rw [hrr]; rfl
end Go.Proofs.YtolkecnhncbkhaaGreat.Fw

/- Of one word of a quotient. -/
namespace Go.Proofs.YtolkecnhncbkhaaGreat.Pu
/-- the guess by the highest words is not too small -/
theorem qhat_ge {R b A D M r b' : Nat} (hR : R = A * M + r) (hr : r < M) (hb : b = D * M + b') (hD : 0 < D) : R / b ≤ A / D := by
  rw [Nat.le_div_iff_mul_le hD]
  have h1 : R / b * b ≤ R := Nat.div_mul_le_self R b
  have h2 : R / b * (D * M) ≤ R / b * b := Nat.mul_le_mul_left _ (by omega)
  have h3 : R / b * D * M < (A + 1) * M := by
    rw [Nat.mul_assoc, Nat.add_mul]; omega
  have := Nat.lt_of_mul_lt_mul_right h3
  omega
/-- .. and at most by one too great -/
theorem qhat_le {R b A D M r b' q : Nat} (hR : R = A * M + r) (hb : b = D * M + b') (hb' : b' < M) (hD : 0 < D) (hq : q * D ≤ A) (hqD : q ≤ D + 1) : q ≤ R / b + 1 := by
  apply Nat.le_of_not_lt
  intro hlt
  have hb0 : 0 < b := by
    have : 0 < D * M := Nat.mul_pos hD (by omega)
    omega
  have h1 : R < (R / b + 1) * b := by
    have := Nat.lt_div_mul_add (a := R) hb0
    rw [Nat.add_mul]; omega
  have h2 : (R / b + 1) * b ≤ (q - 1) * b := Nat.mul_le_mul_right _ (by omega)
  have h3 : q * D * M ≤ A * M := Nat.mul_le_mul_right _ hq
  have h4 : (q - 1) * b ≤ (q - 1) * ((D + 1) * M) := Nat.mul_le_mul_left _ (by rw [hb, Nat.add_mul]; omega)
  have h5 : q * D * M < (q - 1) * (D + 1) * M := by rw [Nat.mul_assoc (q - 1)]; omega
  have h6 := Nat.lt_of_mul_lt_mul_right h5
  clear h1 h2 h3 h4 h5 hlt
  cases q with
  | zero => omega
  | succ p =>
    simp only [Nat.add_sub_cancel] at h6
    rw [Nat.add_mul, Nat.mul_add] at h6
    omega
end Go.Proofs.YtolkecnhncbkhaaGreat.Pu

/- The guess at a word of a quotient. -/
namespace Go.Proofs.YtolkecnhncbkhaaGreat.Pu
section
variable {W a2 a1 a0 b1 b0 q r : Nat}
theorem guess_eq (hI : q * b1 + r = a2 * W + a1) : q * (b1 * W + b0) + (r * W + a0) = (a2 * W + a1) * W + a0 + q * b0 := by
  rw [← hI, Nat.mul_add, ← Nat.mul_assoc, Nat.add_mul]
  omega
theorem guess_le (hD : 0 < b1 * W + b0) (hI : q * b1 + r = a2 * W + a1) (h : q * b0 ≤ r * W + a0) : q ≤ ((a2 * W + a1) * W + a0) / (b1 * W + b0) := by
  have := guess_eq (b0 := b0) (a0 := a0) hI
  rw [Nat.le_div_iff_mul_le hD]
  omega
theorem guess_gt (hD : 0 < b1 * W + b0) (hI : q * b1 + r = a2 * W + a1) (h : r * W + a0 < q * b0) : ((a2 * W + a1) * W + a0) / (b1 * W + b0) < q := by
  have := guess_eq (b0 := b0) (a0 := a0) hI
  rw [Nat.div_lt_iff_lt_mul hD]
  omega
end
def gW (W a2 a1 a0 b1 b0 : Nat) : Nat := min (((a2 * W + a1) * W + a0) / (b1 * W + b0)) (W - 1)
theorem gW_lt {W a2 a1 a0 b1 b0 : Nat} (h : 0 < W) : gW W a2 a1 a0 b1 b0 < W := by
  unfold gW
  omega
theorem gW_stop {W a2 a1 a0 b1 b0 q r : Nat} (hD : 0 < b1 * W + b0) (hI : q * b1 + r = a2 * W + a1) (h : q * b0 ≤ r * W + a0) (hq : q < W) (hG : gW W a2 a1 a0 b1 b0 ≤ q) : q = gW W a2 a1 a0 b1 b0 := by
  have := guess_le hD hI h
  unfold gW at hG ⊢
  omega
theorem gW_go {W a2 a1 a0 b1 b0 q r : Nat} (hD : 0 < b1 * W + b0) (hI : q * b1 + r = a2 * W + a1) (h : r * W + a0 < q * b0) : gW W a2 a1 a0 b1 b0 < q := by
  have := guess_gt hD hI h
  unfold gW
  omega
theorem gW_start {W a2 a1 a0 b1 b0 : Nat} (hb : 0 < b1) (hW : 0 < W) (h1 : a1 < W) (hlt : a2 < b1) (h0 : a0 < W) : gW W a2 a1 a0 b1 b0 ≤ (a2 * W + a1) / b1 := by
  have hD : 0 < b1 * W + b0 := by have := Nat.mul_pos hb hW; omega
  have e : (a2 * W + a1) / b1 * b1 + (a2 * W + a1) % b1 = a2 * W + a1 := by rw [Nat.mul_comm]; exact Nat.div_add_mod _ _
  have hr : (a2 * W + a1) % b1 < b1 := Nat.mod_lt _ hb
  have key : ((a2 * W + a1) * W + a0) / (b1 * W + b0) < (a2 * W + a1) / b1 + 1 := by
    rw [Nat.div_lt_iff_lt_mul hD, Nat.mul_add, ← Nat.mul_assoc, Nat.succ_mul]
    have h2 : (a2 * W + a1) * W + W ≤ ((a2 * W + a1) / b1 * b1 + b1) * W := by
      rw [← Nat.succ_mul]
      exact Nat.mul_le_mul_right _ (by omega)
    omega
  unfold gW
  omega
/-- with the first word too great, the guess is the greatest -/
theorem gW_top {W a2 a1 a0 b1 b0 : Nat} (hW : 0 < W) (hb0 : b0 < W) (hb : 0 < b1) (h : b1 < a2 ∨ (a2 = b1 ∧ W ≤ a1 + b1)) : gW W a2 a1 a0 b1 b0 = W - 1 := by
  have hD : 0 < b1 * W + b0 := by have := Nat.mul_pos hb hW; omega
  have key : W - 1 ≤ ((a2 * W + a1) * W + a0) / (b1 * W + b0) := by
    rw [Nat.le_div_iff_mul_le hD]
    obtain ⟨V, rfl⟩ : ∃ V, W = V + 1 := ⟨W - 1, by omega⟩
    rw [Nat.add_sub_cancel]
    rcases h with h | ⟨rfl, h⟩
    · have h1 : (b1 + 1) * (V + 1) ≤ a2 * (V + 1) := Nat.mul_le_mul_right _ h
      have h2 : ((b1 + 1) * (V + 1)) * (V + 1) ≤ (a2 * (V + 1) + a1) * (V + 1) := Nat.mul_le_mul_right _ (by omega)
      have h3 : V * (b1 * (V + 1) + b0) ≤ (V + 1) * (b1 * (V + 1) + (V + 1)) := Nat.mul_le_mul (by omega) (by omega)
      have h4 : (V + 1) * (b1 * (V + 1) + (V + 1)) = ((b1 + 1) * (V + 1)) * (V + 1) := by rw [Nat.add_mul b1 1, Nat.one_mul, Nat.mul_comm]
      omega
    · have h1 : (V + 1) * (V + 1) ≤ (a1 + a2) * (V + 1) := Nat.mul_le_mul_right _ h
      have h2 : V * b0 ≤ (V + 1) * (V + 1) := Nat.mul_le_mul (by omega) (by omega)
      have h3 : V * (a2 * (V + 1) + b0) = V * (a2 * (V + 1)) + V * b0 := Nat.mul_add _ _ _
      have h4 : (a2 * (V + 1) + a1) * (V + 1) = V * (a2 * (V + 1)) + (a1 + a2) * (V + 1) := by
        rw [Nat.add_mul, Nat.add_mul, ← Nat.add_assoc]
        have : a2 * (V + 1) * (V + 1) = V * (a2 * (V + 1)) + a2 * (V + 1) := by rw [Nat.mul_comm (a2 * (V + 1)) (V + 1), Nat.succ_mul]
        omega
      omega
  unfold gW
  omega
end Go.Proofs.YtolkecnhncbkhaaGreat.Pu

/- The quotient: the guess, taking away, giving back. -/
set_option linter.unusedVariables false
namespace Go.Proofs.YtolkecnhncbkhaaGreat.Fw
open Go Pu
theorem mulI (q b : Nat) : ((q : Int) * (b : Int) + 0 + 0) = ((q * b : Nat) : Int) := by simp
theorem guess_spec {a2 a1 a0 b1 b0 : Nat} (h2 : a2 < 4294967296) (h1 : a1 < 4294967296) (h0 : a0 < 4294967296) (k1 : b1 < 4294967296) (k0 : b0 < 4294967296) (hp : 0 < b1) :
    Runs Tryz.prog g_quot_guess [.d (.int .u32 (a2 : Int)), .d (.int .u32 (a1 : Int)), .d (.int .u32 (a0 : Int)), .d (.int .u32 (b1 : Int)), .d (.int .u32 (b0 : Int))] (.d (.int .u32 ((gW 4294967296 a2 a1 a0 b1 b0 : Nat) : Int))) := by
  refine run1 [] p_quot_guess rfl rfl (fun B S F0 w0 V0 => ?_)
  have w : ∀ {n : Nat}, n < 4294967296 → W32 (n : Int) := fun h => ⟨by omega, by omega⟩
  have hD : 0 < b1 * 4294967296 + b0 := by omega
  rcases Nat.lt_or_ge a2 b1 with hlt | hge
  case' inl =>
    refine call_intro _ (limb_Div_spec (w h2) (w h1) (w k1) (by omega)) ?_
    refine split_false rfl ?_
    have eq : ((a2 : Int) * 4294967296 + (a1 : Int)) / (b1 : Int) = (((a2 * 4294967296 + a1) / b1 : Nat) : Int) := by rw [Int.natCast_ediv]; congr 1
    have er : ((a2 : Int) * 4294967296 + (a1 : Int)) % (b1 : Int) = (((a2 * 4294967296 + a1) % b1 : Nat) : Int) := by rw [Int.natCast_emod]; congr 1
    have hG := gW_start (a0 := a0) (b0 := b0) hp (W := 4294967296) (by omega) h1 hlt h0
    have hI : (a2 * 4294967296 + a1) / b1 * b1 + (a2 * 4294967296 + a1) % b1 = a2 * 4294967296 + a1 := by rw [Nat.mul_comm]; exact Nat.div_add_mod _ _
    have hr : (a2 * 4294967296 + a1) % b1 < 4294967296 := Nat.lt_trans (Nat.mod_lt _ hp) k1
    have hq : (a2 * 4294967296 + a1) / b1 < 4294967296 := by
      rw [Nat.div_lt_iff_lt_mul hp]
      have : (a2 + 1) * 4294967296 ≤ b1 * 4294967296 := Nat.mul_le_mul_right _ hlt
      rw [Nat.mul_comm 4294967296 b1]
      omega
    generalize (a2 * 4294967296 + a1) / b1 = q0 at hG hI hq eq
    generalize (a2 * 4294967296 + a1) % b1 = r0 at hI hr er
  case' inr =>
    refine call_intro _ (limb_Div_no (by omega)) ?_
    refine split_true rfl ?_
    refine call_intro _ (limb_Add_spec (w h1) (w k1) ⟨by omega, by omega⟩) ?_
    have top : (b1 < a2 ∨ (a2 = b1 ∧ 4294967296 ≤ a1 + b1)) → (4294967295 : Int) = ((gW 4294967296 a2 a1 a0 b1 b0 : Nat) : Int) := fun h => by rw [gW_top (by omega) k0 hp h]; rfl
    refine split_intro (fun h => ?_) (fun h => ?_)
    case' refine_1 =>
      have h : (a2 : Int) > b1 := of_decide_eq_true h
      refine split_true rfl ?_
      exact ret_intro (u32_inj (top (.inl (by omega)))) rfl
    have h : ¬ (a2 : Int) > b1 := of_decide_eq_false h
    refine split_intro (fun h' => ?_) (fun h' => ?_)
    case' refine_1 =>
      have h' : ((a1 : Int) + b1 + 0) / 4294967296 > 0 := of_decide_eq_true h'
      exact ret_intro (u32_inj (top (.inr ⟨by omega, by omega⟩))) rfl
    have h' : ¬ ((a1 : Int) + b1 + 0) / 4294967296 > 0 := of_decide_eq_false h'
    obtain ⟨q0, hq0⟩ : ∃ q0 : Nat, q0 = 4294967295 := ⟨_, rfl⟩
    obtain ⟨r0, hr0⟩ : ∃ r0 : Nat, r0 = a1 + b1 := ⟨_, rfl⟩
    have hI : q0 * b1 + r0 = a2 * 4294967296 + a1 := by subst hq0 hr0; omega
    have hr : r0 < 4294967296 := by omega
    have hq : q0 < 4294967296 := by omega
    have hG : gW 4294967296 a2 a1 a0 b1 b0 ≤ q0 := by have := gW_lt (W := 4294967296) (a2 := a2) (a1 := a1) (a0 := a0) (b1 := b1) (b0 := b0) (by omega); omega
    have eq : (4294967295 : Int) = (q0 : Int) := by rw [hq0]; rfl
    have er : ((a1 : Int) + b1 + 0) % 4294967296 = (r0 : Int) := by omega
  all_goals
    refine loop_intro (fun p : Nat × Nat => st [(2, .d (.int .u32 (a0 : Int))), (3, .d (.int .u32 (b1 : Int))), (4, .d (.int .u32 (b0 : Int))), (11, .d (.int .u32 (p.1 : Int))), (12, .d (.int .u32 (p.2 : Int)))] []) (fun p => p.1)
      (fun p => p.1 * b1 + p.2 = a2 * 4294967296 + a1 ∧ p.2 < 4294967296 ∧ p.1 < 4294967296 ∧ gW 4294967296 a2 a1 a0 b1 b0 ≤ p.1) (q0, r0) ⟨hI, hr, hq, hG⟩ (weak_st _ _ ⟨rfl, rfl, rfl, u32_inj eq, u32_inj er, trivial⟩ trivial rfl) ?_
    clear hI hr hq hG eq er
    rintro ⟨q, r⟩ ⟨hI, hr, hq, hG⟩
    dsimp only at hI hr hq hG
    refine call_intro _ (limb_Mul_spec (w hq) (w k0) ⟨by omega, by omega⟩ ⟨by omega, by omega⟩) ?_
    have em := mulI q b0
    have done : q * b0 ≤ r * 4294967296 + a0 → ((q : Nat) : Int) = ((gW 4294967296 a2 a1 a0 b1 b0 : Nat) : Int) := fun h => by rw [← gW_stop hD hI h hq hG]
    have go : r * 4294967296 + a0 < q * b0 → ∃ q', q = q' + 1 ∧ gW 4294967296 a2 a1 a0 b1 b0 ≤ q' ∧ q' * b1 + (r + b1) = a2 * 4294967296 + a1 ∧ (4294967296 ≤ r + b1 → ((q' : Nat) : Int) = ((gW 4294967296 a2 a1 a0 b1 b0 : Nat) : Int)) := fun h => by
      have hgt := gW_go hD hI h
      obtain ⟨q', rfl⟩ : ∃ q', q = q' + 1 := ⟨q - 1, by omega⟩
      have hI' : q' * b1 + (r + b1) = a2 * 4294967296 + a1 := by rw [Nat.succ_mul] at hI; omega
      refine ⟨q', rfl, by omega, hI', fun ho => ?_⟩
      have h5 : q' * b0 ≤ (r + b1) * 4294967296 := by
        rw [Nat.mul_comm (r + b1)]
        exact Nat.mul_le_mul (by omega) (by omega)
      rw [← gW_stop hD hI' (Nat.le_trans h5 (Nat.le_add_right _ _)) (by omega) (by omega)]
    have after : ∀ {P : Prop}, (r * 4294967296 + a0 < q * b0) → (∀ q' : Nat, q = q' + 1 → gW 4294967296 a2 a1 a0 b1 b0 ≤ q' → q' * b1 + (r + b1) = a2 * 4294967296 + a1 → (4294967296 ≤ r + b1 → ((q' : Nat) : Int) = ((gW 4294967296 a2 a1 a0 b1 b0 : Nat) : Int)) → P) → P := fun h k => by
      obtain ⟨q', h1, h2, h3, h4⟩ := go h
      exact k q' h1 h2 h3 h4
    generalize hm : q * b0 = m at em done go after
    refine split_intro (fun h => ?_) (fun h => ?_)
    case' refine_1 =>
      have h : ((q : Int) * b0 + 0 + 0) / 4294967296 < r := of_decide_eq_true h
      rw [em] at h
      refine split_true rfl ?_
      exact ret_intro (u32_inj (done (by omega))) rfl
    have h : ¬ ((q : Int) * b0 + 0 + 0) / 4294967296 < r := of_decide_eq_false h
    rw [em] at h
    refine split_intro (fun h' => ?_) (fun h' => ?_)
    case' refine_1 =>
      have h' : ((q : Int) * b0 + 0 + 0) / 4294967296 = r := eq_of_beq h'
      rw [em] at h'
      refine split_intro (fun h6 => ?_) (fun h6 => ?_)
      case' refine_1 =>
        have h6 : ((q : Int) * b0 + 0 + 0) % 4294967296 ≤ a0 := of_decide_eq_true h6
        rw [em] at h6
        exact ret_intro (u32_inj (done (by omega))) rfl
      have h6 : ¬ ((q : Int) * b0 + 0 + 0) % 4294967296 ≤ a0 := of_decide_eq_false h6
      rw [em] at h6
      have hgt : r * 4294967296 + a0 < m := by omega
      clear h6 h'
    case' refine_2 =>
      have h' : ¬ ((q : Int) * b0 + 0 + 0) / 4294967296 = r := beq_eq_false_iff_ne.1 h'
      rw [em] at h'
      refine split_false rfl ?_
      have hgt : r * 4294967296 + a0 < m := by omega
      clear h'
    all_goals
      refine after hgt (fun q' hq' hG' hI' hend => ?_)
      have eqq : IntKind.u32.wrap ((q : Int) - 1) = (q' : Int) := by rw [w32]; omega
      refine call_intro _ (limb_Add_spec (w hr) (w k1) ⟨by omega, by omega⟩) ?_
      refine split_intro (fun h8 => ?_) (fun h8 => ?_)
      · have h8 : ((r : Int) + b1 + 0) / 4294967296 > 0 := of_decide_eq_true h8
        exact ret_intro (u32_inj (eqq.trans (hend (by omega)))) rfl
      · have h8 : ¬ ((r : Int) + b1 + 0) / 4294967296 > 0 := of_decide_eq_false h8
        refine ⟨(q', r + b1), ⟨hI', by show r + b1 < 4294967296; omega, by show q' < 4294967296; omega, hG'⟩, by show q' < q; omega, weak_st _ _ ⟨rfl, rfl, rfl, u32_inj eqq, u32_inj ?_, trivial⟩ trivial rfl⟩
        show ((r : Int) + b1 + 0) % 4294967296 = ((r + b1 : Nat) : Int)
        omega
end Go.Proofs.YtolkecnhncbkhaaGreat.Fw

/- Taking away a multiple, giving back: one word each. -/
namespace Go.Proofs.YtolkecnhncbkhaaGreat.Pu
/-- one word: what is taken away is the low word of x * y + c -/
theorem take_word {x y c m w : Nat} (hw : w ≤ 1) (hm : m < 4294967296) :
    ∃ lo hi d w' : Nat, ((x : Int) * (y : Int) + (c : Int) + 0) % 4294967296 = (lo : Int) ∧ ((x : Int) * (y : Int) + (c : Int) + 0) / 4294967296 = (hi : Int) ∧ lo < 4294967296 ∧ ((m : Int) - (lo : Int) - (w : Int)) % 4294967296 = (d : Int) ∧ -(((m : Int) - (lo : Int) - (w : Int)) / 4294967296) = (w' : Int) ∧
      w' ≤ 1 ∧ d < 4294967296 ∧ d + x * y + w + c = m + 4294967296 * (w' + hi) := by
  have e : ((x : Int) * (y : Int) + (c : Int) + 0) = ((x * y + c : Nat) : Int) := by simp
  rw [e]
  generalize x * y = p
  obtain ⟨lo, hlo⟩ : ∃ lo, lo = (p + c) % 4294967296 := ⟨_, rfl⟩
  obtain ⟨hi, hhi⟩ : ∃ hi, hi = (p + c) / 4294967296 := ⟨_, rfl⟩
  refine ⟨lo, hi, (((m : Int) - (lo : Int) - (w : Int)) % 4294967296).toNat, (-(((m : Int) - (lo : Int) - (w : Int)) / 4294967296)).toNat, by omega, by omega, by omega, ?_, ?_, ?_, ?_, ?_⟩ <;> omega
theorem step_sum {W q A C D d xy w c m w' hi : Nat} (h : A + C = D + q * (w + c)) (hs : d + xy + w + c = m + W * (w' + hi)) : (A + q * d) + (C + q * xy) = (D + q * m) + q * W * (w' + hi) := by
  have e1 : q * (d + xy + w + c) = q * (m + W * (w' + hi)) := by rw [hs]
  rw [Nat.mul_assoc q W]
  simp only [Nat.mul_add] at e1 h ⊢
  omega
/-- the end of taking away -/
theorem take_end {N T Q v w : Nat} (h : v + Q = T + N * w) (hv : v < N) (hQ : Q < N) (hw : w ≤ 1) : (w = if T < Q then 1 else 0) ∧ v = if T < Q then T + N - Q else T - Q := by
  have : w = 0 ∨ w = 1 := by omega
  rcases this with rfl | rfl
  · rw [if_neg (by omega), if_neg (by omega)]; omega
  · rw [if_pos (by omega), if_pos (by omega)]; omega
def takeN (N T Q : Nat) : Nat := if T < Q then T + N - Q else T - Q
theorem dig_mod {n v : Nat} {l : List Int} (hw : Wd l) (hl : l.length = n) (hv : val l = v % 4294967296 ^ n) : l = dig n v := by
  apply val_inj hw (Wd.dig _ _) (by rw [dig_len, hl])
  rw [hv, val_dig]
end Go.Proofs.YtolkecnhncbkhaaGreat.Pu

/- Taking a multiple of the divisor away, giving it back. -/
set_option linter.unusedVariables false
namespace Go.Proofs.YtolkecnhncbkhaaGreat.Fw
open Go Pu
theorem mget (m : List Int) (hw : Wd m) (i : Nat) : ∃ n : Nat, m.getD i 0 = (n : Int) ∧ n < 4294967296 := by
  obtain ⟨n, hn⟩ := Int.eq_ofNat_of_zero_le (hw.g i).1
  exact ⟨n, hn, by have := (hw.g i).2; omega⟩
theorem take_spec {L M R b : List Int} {x : Nat} (hwb : Wd b) (hwM : Wd M) (hx : x < 4294967296) (hM : M.length = b.length + 1) (hlen : (L ++ (M ++ R)).length ≤ 8796093022208) :
    RunsG Tryz.prog g_quot_take [.own 1000 0 (L ++ (M ++ R)).length, .d (.int .i64 (L.length : Int)), .d (.words b), .d (.int .u32 (x : Int))] [(1000, .words tU32 (L ++ (M ++ R)))] (.d (.bool (decide (val M < x * val b))))
      [(1000, .words tU32 (L ++ (dig (b.length + 1) (takeN (4294967296 ^ (b.length + 1)) (val M) (x * val b)) ++ R)))] := by
  refine runG [] p_quot_take rfl rfl rfl rfl (fun B S F0 w0 V0 => ?_)
  have hN : (L ++ (M ++ R)).length = L.length + b.length + 1 + R.length := by simp [hM]; omega
  rw [hN] at hlen ⊢
  have w : ∀ {n : Nat}, n < 4294967296 → W32 (n : Int) := fun h => ⟨by omega, by omega⟩
  refine loop_intro (fun p : Nat × List Int × Nat × Nat => st [(0, .own 1000 0 (L.length + b.length + 1 + R.length)), (1, .d (.int .i64 (L.length : Int))), (2, .d (.words b)), (3, .d (.int .u32 (x : Int))), (9, .d (.int .u32 (p.2.2.1 : Int))), (10, .d (.int .u32 (p.2.2.2 : Int))), (15, .d (.words b)), (16, .d (.int .i64 (b.length : Int))), (17, .d (.int .i64 (p.1 : Int)))] [(1000, .words tU32 (L ++ (p.2.1 ++ R)))]) (fun p => b.length - p.1)
    (fun p => p.1 ≤ b.length ∧ p.2.1.length = b.length + 1 ∧ Wd p.2.1 ∧ p.2.2.1 < 4294967296 ∧ p.2.2.2 ≤ 1 ∧ (∀ j, p.1 ≤ j → p.2.1.getD j 0 = M.getD j 0) ∧ val (p.2.1.take p.1) + x * val (b.take p.1) = val (M.take p.1) + 4294967296 ^ p.1 * (p.2.2.2 + p.2.2.1)) (0, M, 0, 0)
    ⟨Nat.zero_le _, hM, hwM, by show (0 : Nat) < 4294967296; omega, Nat.zero_le _, fun _ _ => rfl, by simp [val]⟩ (weak_st _ _ ⟨rfl, rfl, rfl, rfl, rfl, rfl, rfl, rfl, rfl, trivial⟩ ⟨rfl, trivial⟩ rfl) ?_
  rintro ⟨i, m, c, u⟩ ⟨hi, hl, hwm, hc, hu, hsame, hv⟩
  dsimp only at hi hl hwm hc hu hsame hv
  obtain ⟨mi, hmi, hmi'⟩ := mget m hwm i
  refine split_intro (fun h => ?_) (fun h => ?_)
  · have hlt : i < b.length := by have h : (i : Int) < b.length := of_decide_eq_true h; omega
    have ei : IntKind.i64.wrap ((i : Int) + 1) = ((i + 1 : Nat) : Int) := by rw [wr (by omega) (by omega)]; omega
    have ea : IntKind.i64.wrap ((L.length : Int) + (i : Int)) = ((L.length + i : Nat) : Int) := by rw [wr (by omega) (by omega)]; omega
    obtain ⟨y, hy, hy'⟩ := mget b hwb i
    obtain ⟨lo, hi', d, u', e1, e2, e3, e4, e5, e6, e7, e8⟩ := take_word (x := x) (y := y) (c := c) (m := mi) (w := u) hu hmi'
    refine idx_w i rfl hlt ?_
    refine call_intro _ (limb_Mul_spec (w hx) (by rw [hy]; exact w hy') (w hc) ⟨by omega, by omega⟩) ?_
    refine side_intro (by show (0 : Int) ≤ IntKind.i64.wrap ((L.length : Int) + (i : Int)) ∧ IntKind.i64.wrap ((L.length : Int) + (i : Int)) < ((L.length + b.length + 1 + R.length : Nat) : Int); omega) ?_
    refine idx_intro (m.getD i 0) (Int.natCast_nonneg _) (by
      show (L ++ (m ++ R))[((0 + (IntKind.i64.wrap ((L.length : Int) + (i : Int))).toNat : Nat) : Int).toNat]? = _
      rw [ea, Int.toNat_natCast, Int.toNat_natCast]
      exact mid_elem (by omega) (by omega)) ?_
    refine call_intro (.tup [.d (.int .u32 (d : Int)), .d (.int .u32 (u' : Int))]) ?_ ?_
    · have hsub := limb_Sub_spec (x := (mi : Int)) (y := (lo : Int)) (k := (u : Int)) (w hmi') (w e3) (w (by omega))
      rw [e4, e5] at hsub
      rw [← e1, ← hmi, ← hy] at hsub
      exact hsub
    refine side_intro (by show (0 : Int) ≤ IntKind.i64.wrap ((L.length : Int) + (i : Int)) ∧ IntKind.i64.wrap ((L.length : Int) + (i : Int)) < ((L.length + b.length + 1 + R.length : Nat) : Int); omega) ?_
    have hhi : hi' < 4294967296 := by
      have := mul_bd (w hx) (w hy') (w hc) (d := 0) ⟨by omega, by omega⟩
      generalize (x : Int) * (y : Int) = xy at this e2
      omega
    refine ⟨(i + 1, m.set i (d : Int), hi', u'), ⟨hlt, by show (m.set i _).length = _; rw [List.length_set]; exact hl, hwm.set i (by omega) (by omega), hhi, e6, fun j hj => ?_, ?_⟩, by show b.length - (i + 1) < b.length - i; omega, ?_⟩
    · show (m.set i _).getD j 0 = _
      have hj : i + 1 ≤ j := hj
      rw [getD_setne (by omega)]
      exact hsame j (by omega)
    · show val ((m.set i _).take (i + 1)) + x * val (b.take (i + 1)) = val (M.take (i + 1)) + 4294967296 ^ (i + 1) * (u' + hi')
      rw [val_take_set (by omega), val_take_succ' (a := b), val_take_succ' (a := M), ← hsame i (Nat.le_refl _), hmi, hy, Nat.pow_succ]
      simp only [Int.toNat_natCast]
      rw [Nat.mul_add x, Nat.mul_left_comm x]
      exact step_sum hv e8
    · refine weak_st _ _ ⟨rfl, rfl, rfl, rfl, u32_inj ?_, rfl, rfl, rfl, i64_inj ei, trivial⟩ ⟨?_, trivial⟩ rfl
      · show ((x : Int) * b.getD i 0 + (c : Int) + 0) / 4294967296 = (hi' : Int)
        rw [hy]; exact e2
      · show some (MO.words tU32 ((L ++ (m ++ R)).set (0 + (IntKind.i64.wrap ((L.length : Int) + (i : Int))).toNat) _)) = _
        rw [mid_set (j := i) (by rw [ea]; omega) (by omega)]
  · have hend : i = b.length := by have h : ¬ (i : Int) < b.length := of_decide_eq_false h; omega
    subst hend
    have ea : IntKind.i64.wrap ((L.length : Int) + (b.length : Int)) = ((L.length + b.length : Nat) : Int) := by rw [wr (by omega) (by omega)]; omega
    obtain ⟨lo, hi', d, u', e1, e2, e3, e4, e5, e6, e7, e8⟩ := take_word (x := 0) (y := 0) (c := c) (m := mi) (w := u) hu hmi'
    have hlo : lo = c := by omega
    have hhi : hi' = 0 := by omega
    subst hlo hhi
    refine side_intro (by show (0 : Int) ≤ IntKind.i64.wrap ((L.length : Int) + (b.length : Int)) ∧ IntKind.i64.wrap ((L.length : Int) + (b.length : Int)) < ((L.length + b.length + 1 + R.length : Nat) : Int); omega) ?_
    refine idx_intro (m.getD b.length 0) (Int.natCast_nonneg _) (by
      show (L ++ (m ++ R))[((0 + (IntKind.i64.wrap ((L.length : Int) + (b.length : Int))).toNat : Nat) : Int).toNat]? = _
      rw [ea, Int.toNat_natCast, Int.toNat_natCast]
      exact mid_elem (by omega) (by omega)) ?_
    refine call_intro (.tup [.d (.int .u32 (d : Int)), .d (.int .u32 (u' : Int))]) ?_ ?_
    · have hsub := limb_Sub_spec (x := (mi : Int)) (y := (lo : Int)) (k := (u : Int)) (w hmi') (w e3) (w (by omega))
      rw [e4, e5, ← hmi] at hsub
      exact hsub
    refine side_intro (by show (0 : Int) ≤ IntKind.i64.wrap ((L.length : Int) + (b.length : Int)) ∧ IntKind.i64.wrap ((L.length : Int) + (b.length : Int)) < ((L.length + b.length + 1 + R.length : Nat) : Int); omega) ?_
    have hwf : Wd (m.set b.length (d : Int)) := hwm.set _ (by omega) (by omega)
    have hlf : (m.set b.length (d : Int)).length = b.length + 1 := by rw [List.length_set]; exact hl
    have hvf : val (m.set b.length (d : Int)) + x * val b = val M + 4294967296 ^ (b.length + 1) * u' := by
      rw [val_set_last (by omega), Int.toNat_natCast]
      have hMM : val M = val (M.take b.length) + 4294967296 ^ b.length * mi := by
        have := val_take_succ' (a := M) b.length
        rw [List.take_of_length_le (by omega), ← hsame b.length (Nat.le_refl _), hmi, Int.toNat_natCast] at this
        exact this
      have hs := step_sum hv e8
      rw [List.take_length, ← hMM] at hs
      rw [Nat.pow_succ]
      simpa using hs
    have hlt1 := val_lt hwf
    rw [hlf] at hlt1
    have hlt2 := val_lt hwM
    rw [hM] at hlt2
    have hlt3 : x * val b < 4294967296 ^ (b.length + 1) := mul_step (D := 0) hx (val_lt hwb) (Nat.pow_pos (by omega))
    obtain ⟨f1, f2⟩ := take_end hvf hlt1 hlt3 e6
    refine retG_intro (b_inj ?_) rfl ⟨?_, trivial⟩ rfl
    · show decide ((u' : Int) > 0) = _
      by_cases hb : val M < x * val b
      · rw [if_pos hb] at f1; rw [f1, decide_eq_true hb]; rfl
      · rw [if_neg hb] at f1; rw [f1, decide_eq_false hb]; rfl
    · show some (MO.words tU32 ((L ++ (m ++ R)).set (0 + (IntKind.i64.wrap ((L.length : Int) + (b.length : Int))).toNat) (d : Int))) = _
      rw [mid_set (j := b.length) (by rw [ea]; omega) (by omega)]
      rw [dig_eq (n := b.length + 1) (v := takeN (4294967296 ^ (b.length + 1)) (val M) (x * val b)) hwf hlf f2]
theorem give_spec {L M R b : List Int} (hwb : Wd b) (hwM : Wd M) (hM : M.length = b.length + 1) (hlen : (L ++ (M ++ R)).length ≤ 8796093022208) :
    RunsG Tryz.prog g_quot_give [.own 1000 0 (L ++ (M ++ R)).length, .d (.int .i64 (L.length : Int)), .d (.words b)] [(1000, .words tU32 (L ++ (M ++ R)))] (.tup [])
      [(1000, .words tU32 (L ++ (dig (b.length + 1) (val M + val b) ++ R)))] := by
  refine runG [] p_quot_give rfl rfl rfl rfl (fun B S F0 w0 V0 => ?_)
  have hN : (L ++ (M ++ R)).length = L.length + b.length + 1 + R.length := by simp [hM]; omega
  rw [hN] at hlen ⊢
  refine loop_intro (fun p : Nat × List Int × Int => st [(0, .own 1000 0 (L.length + b.length + 1 + R.length)), (1, .d (.int .i64 (L.length : Int))), (2, .d (.words b)), (6, .d (.int .u32 p.2.2)), (9, .d (.words b)), (10, .d (.int .i64 (b.length : Int))), (11, .d (.int .i64 (p.1 : Int)))] [(1000, .words tU32 (L ++ (p.2.1 ++ R)))]) (fun p => b.length - p.1)
    (fun p => p.1 ≤ b.length ∧ p.2.1.length = b.length + 1 ∧ Wd p.2.1 ∧ W32 p.2.2 ∧ (∀ j, p.1 ≤ j → p.2.1.getD j 0 = M.getD j 0) ∧ val (p.2.1.take p.1) + 4294967296 ^ p.1 * p.2.2.toNat = (1 : Int).toNat * val (b.take p.1) + val (M.take p.1) + 0) (0, M, 0)
    ⟨Nat.zero_le _, hM, hwM, ⟨Int.le_refl 0, by show (0 : Int) < 4294967296; omega⟩, fun _ _ => rfl, by simp [val]⟩ (weak_st _ _ ⟨rfl, rfl, rfl, rfl, rfl, rfl, rfl, trivial⟩ ⟨rfl, trivial⟩ rfl) ?_
  rintro ⟨i, m, c⟩ ⟨hi, hl, hwm, hc, hsame, hv⟩
  dsimp only at hi hl hwm hc hsame hv
  have g2 := hwm.g i
  refine split_intro (fun h => ?_) (fun h => ?_)
  · have hlt : i < b.length := by have h : (i : Int) < b.length := of_decide_eq_true h; omega
    have ei : IntKind.i64.wrap ((i : Int) + 1) = ((i + 1 : Nat) : Int) := by rw [wr (by omega) (by omega)]; omega
    have ea : IntKind.i64.wrap ((L.length : Int) + (i : Int)) = ((L.length + i : Nat) : Int) := by rw [wr (by omega) (by omega)]; omega
    have g1 := hwb.g i
    refine idx_w i rfl hlt ?_
    refine side_intro (by show (0 : Int) ≤ IntKind.i64.wrap ((L.length : Int) + (i : Int)) ∧ IntKind.i64.wrap ((L.length : Int) + (i : Int)) < ((L.length + b.length + 1 + R.length : Nat) : Int); omega) ?_
    refine idx_intro (m.getD i 0) (Int.natCast_nonneg _) (by
      show (L ++ (m ++ R))[((0 + (IntKind.i64.wrap ((L.length : Int) + (i : Int))).toNat : Nat) : Int).toNat]? = _
      rw [ea, Int.toNat_natCast, Int.toNat_natCast]
      exact mid_elem (by omega) (by omega)) ?_
    refine call_intro _ (limb_Add_spec g2 g1 hc) ?_
    refine side_intro (by show (0 : Int) ≤ IntKind.i64.wrap ((L.length : Int) + (i : Int)) ∧ IntKind.i64.wrap ((L.length : Int) + (i : Int)) < ((L.length + b.length + 1 + R.length : Nat) : Int); omega) ?_
    have hc0 := hc.1
    have hc1 := hc.2
    refine ⟨(i + 1, m.set i ((m.getD i 0 + b.getD i 0 + c) % 4294967296), (m.getD i 0 + b.getD i 0 + c) / 4294967296), ⟨hlt, by show (m.set i _).length = _; rw [List.length_set]; exact hl, hwm.set i (by omega) (by omega), ⟨by dsimp only; omega, by dsimp only; omega⟩, fun j hj => ?_, ?_⟩, by show b.length - (i + 1) < b.length - i; omega, ?_⟩
    · show (m.set i _).getD j 0 = _
      have hj : i + 1 ≤ j := hj
      rw [getD_setne (by omega)]
      exact hsame j (by omega)
    · show val ((m.set i _).take (i + 1)) + 4294967296 ^ (i + 1) * _ = _
      rw [val_take_set (by omega), val_take_succ' (a := b), val_take_succ' (a := M), ← hsame i (Nat.le_refl _), Nat.pow_succ]
      have e : m.getD i 0 + b.getD i 0 + c = 1 * b.getD i 0 + m.getD i 0 + c := by omega
      rw [e]
      exact row_step (by omega) g1.1 g2.1 hc.1 hv
    · refine weak_st _ _ ⟨rfl, rfl, rfl, rfl, rfl, rfl, i64_inj ei, trivial⟩ ⟨?_, trivial⟩ rfl
      show some (MO.words tU32 ((L ++ (m ++ R)).set (0 + (IntKind.i64.wrap ((L.length : Int) + (i : Int))).toNat) _)) = _
      rw [mid_set (j := i) (by rw [ea]; omega) (by omega)]
  · have hend : i = b.length := by have h : ¬ (i : Int) < b.length := of_decide_eq_false h; omega
    subst hend
    have ea : IntKind.i64.wrap ((L.length : Int) + (b.length : Int)) = ((L.length + b.length : Nat) : Int) := by rw [wr (by omega) (by omega)]; omega
    refine side_intro (by show (0 : Int) ≤ IntKind.i64.wrap ((L.length : Int) + (b.length : Int)) ∧ IntKind.i64.wrap ((L.length : Int) + (b.length : Int)) < ((L.length + b.length + 1 + R.length : Nat) : Int); omega) ?_
    refine idx_intro (m.getD b.length 0) (Int.natCast_nonneg _) (by
      show (L ++ (m ++ R))[((0 + (IntKind.i64.wrap ((L.length : Int) + (b.length : Int))).toNat : Nat) : Int).toNat]? = _
      rw [ea, Int.toNat_natCast, Int.toNat_natCast]
      exact mid_elem (by omega) (by omega)) ?_
    refine side_intro (by show (0 : Int) ≤ IntKind.i64.wrap ((L.length : Int) + (b.length : Int)) ∧ IntKind.i64.wrap ((L.length : Int) + (b.length : Int)) < ((L.length + b.length + 1 + R.length : Nat) : Int); omega) ?_
    refine retG_intro rfl rfl ⟨?_, trivial⟩ rfl
    show some (MO.words tU32 ((L ++ (m ++ R)).set (0 + (IntKind.i64.wrap ((L.length : Int) + (b.length : Int))).toNat) (IntKind.u32.wrap (m.getD b.length 0 + c)))) = _
    rw [mid_set (j := b.length) (by rw [ea]; omega) (by omega)]
    obtain ⟨k, hk, hk'⟩ := mget m hwm b.length
    obtain ⟨c, rfl⟩ := Int.eq_ofNat_of_zero_le hc.1
    have ew : IntKind.u32.wrap (m.getD b.length 0 + (c : Int)) = (((k + c) % 4294967296 : Nat) : Int) := by rw [hk, w32]; omega
    rw [ew]
    rw [dig_mod (n := b.length + 1) (v := val M + val b) (l := m.set b.length (((k + c) % 4294967296 : Nat) : Int)) (hwm.set _ (by omega) (by omega)) (by rw [List.length_set]; exact hl)]
    rw [val_set_last (by omega), Int.toNat_natCast]
    have hMM : val M = val (M.take b.length) + 4294967296 ^ b.length * k := by
      have := val_take_succ' (a := M) b.length
      rw [List.take_of_length_le (by omega), ← hsame b.length (Nat.le_refl _), hk, Int.toNat_natCast] at this
      exact this
    have hv' : val (m.take b.length) + 4294967296 ^ b.length * c = val b + val (M.take b.length) := by
      rw [List.take_length] at hv
      simpa using hv
    have htl := val_take_lt hwm b.length
    rw [Nat.pow_succ]
    generalize 4294967296 ^ b.length = q at hv' hMM htl ⊢
    have e3 : val M + val b = val (m.take b.length) + q * (k + c) := by rw [Nat.mul_add]; omega
    rw [e3, Nat.mod_mul]
    have e4 : (val (m.take b.length) + q * (k + c)) % q = val (m.take b.length) := by rw [Nat.add_mul_mod_self_left, Nat.mod_eq_of_lt htl]
    have e5 : (val (m.take b.length) + q * (k + c)) / q = k + c := by rw [Nat.add_mul_div_left _ _ (by omega), Nat.div_eq_of_lt htl, Nat.zero_add]
    rw [e4, e5]
end Go.Proofs.YtolkecnhncbkhaaGreat.Fw

/- One word of a long quotient. -/
namespace Go.Proofs.YtolkecnhncbkhaaGreat.Pu
theorem guess_ok {W a2 a1 a0 b1 b0 M r b' R vb : Nat} (hW : 0 < W) (hR : R = ((a2 * W + a1) * W + a0) * M + r) (hr : r < M) (hb : vb = (b1 * W + b0) * M + b') (hb' : b' < M) (hb1 : 0 < b1) (hlt : R < W * vb) :
    R / vb ≤ gW W a2 a1 a0 b1 b0 ∧ gW W a2 a1 a0 b1 b0 ≤ R / vb + 1 := by
  have hD : 0 < b1 * W + b0 := by have := Nat.mul_pos hb1 hW; omega
  have hvb : 0 < vb := by
    rcases Nat.eq_zero_or_pos vb with h | h
    · subst h; simp at hlt
    · exact h
  have h1 := qhat_ge hR hr hb hD
  have h2 : R / vb < W := (Nat.div_lt_iff_lt_mul hvb).2 hlt
  have hDW : W ≤ b1 * W + b0 := by have := Nat.mul_le_mul_right W hb1; omega
  refine ⟨by unfold gW; omega, ?_⟩
  refine qhat_le hR hb hb' hD ?_ ?_
  · have : gW W a2 a1 a0 b1 b0 ≤ ((a2 * W + a1) * W + a0) / (b1 * W + b0) := Nat.min_le_left _ _
    exact (Nat.le_div_iff_mul_le hD).1 this
  · have := gW_lt (W := W) (a2 := a2) (a1 := a1) (a0 := a0) (b1 := b1) (b0 := b0) hW
    omega
theorem top3 {M : List Int} {n : Nat} (hl : M.length = n + 3) : val M = (((M.getD (n + 2) 0).toNat * 4294967296 + (M.getD (n + 1) 0).toNat) * 4294967296 + (M.getD n 0).toNat) * 4294967296 ^ n + val (M.take n) := by
  rw [val_take_drop M n (by omega), val_drop_cons' M n, val_drop_cons' M (n + 1), val_drop_cons' M (n + 1 + 1), List.drop_eq_nil_of_le (by omega)]
  simp only [val, Nat.mul_zero, Nat.add_zero]
  generalize (M.getD (n + 1 + 1) 0).toNat = x
  generalize (M.getD (n + 1) 0).toNat = y
  generalize (M.getD n 0).toNat = z
  rw [Nat.add_comm, Nat.mul_comm (4294967296 ^ n)]
  congr 2
  rw [Nat.add_comm z, Nat.mul_comm _ 4294967296, Nat.mul_comm 4294967296 x, Nat.add_comm y]
theorem top2 {M : List Int} {n : Nat} (hl : M.length = n + 2) : val M = ((M.getD (n + 1) 0).toNat * 4294967296 + (M.getD n 0).toNat) * 4294967296 ^ n + val (M.take n) := by
  rw [val_take_drop M n (by omega), val_drop_cons' M n, val_drop_cons' M (n + 1), List.drop_eq_nil_of_le (by omega)]
  simp only [val, Nat.mul_zero, Nat.add_zero]
  generalize (M.getD (n + 1) 0).toNat = y
  generalize (M.getD n 0).toNat = z
  rw [Nat.add_comm, Nat.mul_comm (4294967296 ^ n)]
  congr 2
  rw [Nat.add_comm z, Nat.mul_comm 4294967296 y]
theorem getD_mid {a : List Int} {i k j : Nat} (h : j < k) : ((a.drop i).take k).getD j 0 = a.getD (i + j) 0 := by
  simp only [List.getD_eq_getElem?_getD]
  rw [List.getElem?_take, if_pos h, List.getElem?_drop]
/-- what is left behind taking away, and giving back once if that was one too many -/
theorem left_over {N R vb x : Nat} (hvb : 0 < vb) (h1 : R / vb ≤ x) (h2 : x ≤ R / vb + 1) (hN : vb < N) (hQ : x * vb < N) :
    (¬ R < x * vb → x = R / vb ∧ takeN N R (x * vb) = R % vb) ∧ (R < x * vb → x = R / vb + 1 ∧ takeN N R (x * vb) < N ∧ (takeN N R (x * vb) + vb) % N = R % vb) := by
  have hd := Nat.div_add_mod R vb
  have hm := Nat.mod_lt R hvb
  have hcase : x = R / vb ∨ x = R / vb + 1 := by omega
  generalize R / vb = q at *
  generalize R % vb = r at *
  unfold takeN
  rw [Nat.mul_comm] at hd
  rcases hcase with rfl | rfl
  · exact ⟨fun h => ⟨rfl, by rw [if_neg h]; omega⟩, fun h => by omega⟩
  · rw [Nat.succ_mul] at hQ ⊢
    refine ⟨fun h => by omega, fun h => ⟨rfl, by rw [if_pos h]; omega, ?_⟩⟩
    rw [if_pos h]
    have : R + N - (q * vb + vb) + vb = r + N := by omega
    rw [this, Nat.add_mod_right, Nat.mod_eq_of_lt (by omega)]
theorem long_round {a c q L R : List Int} {i n la m vb y : Nat} (hi : i < m) (hLl : L.length = i) (hL : L = c.take i) (len3 : ∀ v, (L ++ (dig (n + 3) v ++ R)).length = la) (hwL : Wd L) (hwR : Wd R) (hR0 : val R = 0) (hql : q.length = m) (hwq : Wd q)
    (hvb : 0 < vb) (hN : vb < 4294967296 ^ (n + 3)) (hRlt : val (c.drop i) < 4294967296 * vb) (hsame : c.take (i + 1) = a.take (i + 1)) (hRd : val (c.drop i) = (c.getD i 0).toNat + 4294967296 * val (c.drop (i + 1)))
    (hv : val (q.drop (i + 1)) * vb + val (c.drop (i + 1)) = val (a.drop (i + 1))) (hy : y = val (c.drop i) / vb) :
    i ≤ m ∧ (L ++ (dig (n + 3) (val (c.drop i) % vb) ++ R)).length = la ∧ Wd (L ++ (dig (n + 3) (val (c.drop i) % vb) ++ R)) ∧ (q.set i (y : Int)).length = m ∧ Wd (q.set i (y : Int)) ∧ val ((L ++ (dig (n + 3) (val (c.drop i) % vb) ++ R)).drop i) < vb ∧
      val ((q.set i (y : Int)).drop i) * vb + val ((L ++ (dig (n + 3) (val (c.drop i) % vb) ++ R)).drop i) = val (a.drop i) ∧ (L ++ (dig (n + 3) (val (c.drop i) % vb) ++ R)).take i = a.take i := by
  have hyl : y < 4294967296 := by rw [hy]; exact (Nat.div_lt_iff_lt_mul hvb).2 hRlt
  have hdr : (L ++ (dig (n + 3) (val (c.drop i) % vb) ++ R)).drop i = dig (n + 3) (val (c.drop i) % vb) ++ R := by
    rw [← hLl, List.drop_left]
  have hmod : val (c.drop i) % vb < vb := Nat.mod_lt _ hvb
  have hvd : val (dig (n + 3) (val (c.drop i) % vb) ++ R) = val (c.drop i) % vb := by
    rw [val_app, hR0, Nat.mul_zero, Nat.add_zero, val_dig_lt (Nat.lt_trans hmod hN)]
  have y0 : (0 : Int) ≤ (y : Int) := Int.natCast_nonneg _
  have y1 : (y : Int) < 4294967296 := by omega
  refine ⟨Nat.le_of_lt hi, len3 _, hwL.app ((Wd.dig _ _).app hwR), by rw [List.length_set]; exact hql, hwq.set i y0 y1, by rw [hdr, hvd]; exact hmod, ?_, ?_⟩
  · have hai : a.getD i 0 = c.getD i 0 := by
      have h1 : (c.take (i + 1)).getD i 0 = (a.take (i + 1)).getD i 0 := by rw [hsame]
      simp only [List.getD_eq_getElem?_getD, List.getElem?_take, if_pos (Nat.lt_succ_self i)] at h1 ⊢
      exact h1.symm
    have hd := Nat.div_add_mod (val (c.drop i)) vb
    rw [hdr, hvd, val_drop_cons (by rw [List.length_set, hql]; exact hi), getD_setself (by rw [hql]; exact hi), List.drop_set_of_lt (Nat.lt_succ_self i), Int.toNat_natCast, hy, val_drop_cons' a i, hai, ← hv]
    clear hdr hvd hmod hN hRlt hyl y1 y0 hy
    rw [Nat.mul_comm] at hd
    rw [Nat.add_mul, Nat.mul_assoc, Nat.mul_add]
    rw [hRd] at hd ⊢
    generalize (c.getD i 0).toNat = g at *
    generalize val (c.drop (i + 1)) = D at *
    generalize (g + 4294967296 * D) / vb * vb = z1 at *
    generalize (g + 4294967296 * D) % vb = z2 at *
    generalize val (q.drop (i + 1)) * vb = z3 at *
    omega
  · rw [← hLl, List.take_left, hLl, hL]
    have h1 : (c.take (i + 1)).take i = (a.take (i + 1)).take i := by rw [hsame]
    rw [List.take_take, List.take_take, Nat.min_eq_left (Nat.le_succ i)] at h1
    exact h1
theorem toW_len_mul {a : List Int} (hw : Wd a) {k : Nat} (hk : k ≤ 4294967296) : (toW (val a * k)).length ≤ a.length + 1 := by
  rw [toW_len_iff, Nat.pow_succ]
  have h1 := val_lt hw
  rcases Nat.eq_zero_or_pos k with h0 | h0
  · subst h0; rw [Nat.mul_zero]; exact Nat.mul_pos (Nat.pow_pos (by omega)) (by omega)
  · exact Nat.lt_of_lt_of_le (Nat.mul_lt_mul_of_pos_right h1 h0) (Nat.mul_le_mul_left _ hk)
theorem toW_ge {n : Nat} (h : (toW n).length ≠ 0) : 4294967296 ^ ((toW n).length - 1) ≤ n := by
  rcases Nat.lt_or_ge n (4294967296 ^ ((toW n).length - 1)) with h1 | h1
  · have := toW_len_le h1; omega
  · exact h1
/-- the facts of a long quotient whose dividend has a word more -/
theorem div_frame {A D n : Nat} (hD : (toW D).length = n + 2) (hle : D ≤ A) :
    (toW A ++ [0]).length = (toW A).length + 1 ∧ n + 2 ≤ (toW A ++ [0]).length ∧ val ((toW A ++ [0]).drop ((toW A ++ [0]).length - (n + 2))) < D ∧ A / D < 4294967296 ^ ((toW A ++ [0]).length - (n + 2)) ∧ A % D < 4294967296 ^ (toW A ++ [0]).length ∧ val (toW A ++ [0]) = A := by
  have hm := toW_len_mono hle
  have hl : (toW A ++ [0]).length = (toW A).length + 1 := by rw [List.length_append]; rfl
  have hg := toW_ge (n := D) (by omega)
  have hlt := val_lt (Wd.toW A)
  rw [val_toW] at hlt
  rw [hD] at hg hm
  have hk : (toW A).length + 1 - (n + 2) ≤ (toW A).length := by omega
  have hv : val (toW A ++ [0]) = A := by rw [val_app, val_toW]; simp [val]
  rw [hl]
  refine ⟨rfl, by omega, ?_, ?_, ?_, hv⟩
  · rw [List.drop_append_of_le_length hk, val_app]
    have h2 := val_lt ((Wd.toW A).drop ((toW A).length + 1 - (n + 2)))
    rw [List.length_drop, show (toW A).length - ((toW A).length + 1 - (n + 2)) = n + 1 by omega] at h2
    have h3 : val [0] = 0 := rfl
    rw [h3, Nat.mul_zero, Nat.add_zero]
    exact Nat.lt_of_lt_of_le h2 hg
  · rw [Nat.div_lt_iff_lt_mul (by
      rcases Nat.eq_zero_or_pos D with h0 | h0
      · subst h0; rw [toW_zero] at hD; simp at hD
      · exact h0), Nat.mul_comm]
    refine Nat.lt_of_lt_of_le hlt ?_
    refine Nat.le_trans ?_ (Nat.mul_le_mul_right _ hg)
    rw [← Nat.pow_add]
    exact Nat.pow_le_pow_right (by omega) (by omega)
  · refine Nat.lt_of_le_of_lt (Nat.mod_le _ _) (Nat.lt_of_lt_of_le hlt (Nat.pow_le_pow_right (by omega) (by omega)))
end Go.Proofs.YtolkecnhncbkhaaGreat.Pu

/- The long quotient. -/
set_option linter.unusedVariables false
namespace Go.Proofs.YtolkecnhncbkhaaGreat.Fw
open Go Pu
theorem pred_emod {x : Nat} (h0 : 1 ≤ x) (h1 : x < 4294967296) : ((x : Int) - 1) % 4294967296 = ((x - 1 : Nat) : Int) := by omega
theorem idx_own {l : List Int} {x : Int} {k : Int → Prop} (i : Nat) (hx : x = (i : Int)) (h : i < l.length) (hk : k (l.getD i 0)) : IdxP l ((0 + x.toNat : Nat) : Int) k :=
  idx_intro (l.getD i 0) (Int.natCast_nonneg _) (by rw [hx, Int.toNat_natCast, Int.toNat_natCast, Nat.zero_add]; exact el l h) hk
set_option maxHeartbeats 2000000 in
theorem long_spec {a b : List Int} {n : Nat} (hwa : Wd a) (hwb : Wd b) (hbl : b.length = n + 2) (hle : n + 2 ≤ a.length) (ha : a.length ≤ 8796093022208) (hb1 : 0 < (b.getD (n + 1) 0).toNat) (htop : val (a.drop (a.length - (n + 2))) < val b) :
    RunsG Tryz.prog g_quot_long [.own 1000 0 a.length, .d (.words b)] [(1000, .words tU32 a)] (.own 15 0 (a.length - (n + 2))) [(1000, .words tU32 (dig a.length (val a % val b))), (15, .words tU32 (dig (a.length - (n + 2)) (val a / val b)))] := by
  refine runG [] p_quot_long rfl rfl rfl rfl (fun B S F0 w0 V0 => ?_)
  have hvb : 0 < val b := by omega
  obtain ⟨la, hla⟩ : ∃ la, la = a.length := ⟨_, rfl⟩
  obtain ⟨va, hva⟩ : ∃ va, va = val a := ⟨_, rfl⟩
  have e1 : IntKind.i64.wrap ((a.length : Int) - (b.length : Int)) = ((a.length - (n + 2) : Nat) : Int) := by rw [hbl, wr (by omega) (by omega)]; omega
  refine opp_make hT rfl rfl (Nat.le_of_ble_eq_true rfl) (e := tU32) rfl rfl (Nat.le_of_ble_eq_true rfl) (fun _ => rfl) (k := .i64) (k' := .i64) (n := ((a.length - (n + 2) : Nat) : Int)) (i64_inj e1) (i64_inj e1) rfl (by omega) ?_ ?_ ?_
  · show 4 * ((a.length - (n + 2) : Nat) : Int).toNat ≤ _
    omega
  · unfold maxLen; omega
  rw [Int.toNat_natCast]
  have e2 : IntKind.i64.wrap (((a.length - (n + 2) : Nat) : Int) - 1) = ((a.length - (n + 2) : Nat) : Int) - 1 := wr (by omega) (by omega)
  refine loop_intro (fun p : Nat × List Int × List Int => st [(0, .own 1000 0 a.length), (1, .d (.words b)), (5, .d (.int .i64 (b.length : Int))), (6, .own 15 0 (a.length - (n + 2))), (7, .d (.int .i64 ((p.1 : Int) - 1)))] [(1000, .words tU32 p.2.1), (15, .words tU32 p.2.2)]) (fun p => p.1)
    (fun p => p.1 ≤ a.length - (n + 2) ∧ p.2.1.length = a.length ∧ Wd p.2.1 ∧ p.2.2.length = a.length - (n + 2) ∧ Wd p.2.2 ∧ val (p.2.1.drop p.1) < val b ∧ val (p.2.2.drop p.1) * val b + val (p.2.1.drop p.1) = val (a.drop p.1) ∧ p.2.1.take p.1 = a.take p.1) (a.length - (n + 2), a, List.replicate (a.length - (n + 2)) 0)
    ⟨Nat.le_refl _, rfl, hwa, by simp, Wd.zeros _, htop, by simp [val], rfl⟩ (weak_st _ _ ⟨rfl, rfl, rfl, rfl, i64_inj e2, trivial⟩ ⟨rfl, rfl, trivial⟩ rfl) ?_
  rintro ⟨k, c, q⟩ ⟨hk, hcl, hwc, hql, hwq, hlt, hv, hsame⟩
  dsimp only at hk hcl hwc hql hwq hlt hv hsame
  refine split_intro (fun h => ?_) (fun h => ?_)
  · have h : (k : Int) - 1 ≥ 0 := of_decide_eq_true h
    obtain ⟨i, rfl⟩ : ∃ i, k = i + 1 := ⟨k - 1, by omega⟩
    have hll : i + (n + 3 + (a.length - (i + (n + 3)))) = a.length := by omega
    have hilt : i < a.length - (n + 2) := by omega
    have hile : i ≤ c.length := by omega
    have ek : ((i + 1 : Nat) : Int) - 1 = (i : Int) := by omega
    have f0 : IntKind.i64.wrap (((i + 1 : Nat) : Int) - 1 + (b.length : Int)) = ((i + (n + 2) : Nat) : Int) := by rw [ek, hbl, wr (by omega) (by omega)]; omega
    have f1 : IntKind.i64.wrap (IntKind.i64.wrap (((i + 1 : Nat) : Int) - 1 + (b.length : Int)) - 1) = ((i + (n + 1) : Nat) : Int) := by rw [f0, wr (by omega) (by omega)]; omega
    have f2 : IntKind.i64.wrap (IntKind.i64.wrap (((i + 1 : Nat) : Int) - 1 + (b.length : Int)) - 2) = ((i + n : Nat) : Int) := by rw [f0, wr (by omega) (by omega)]; omega
    have f3 : IntKind.i64.wrap ((b.length : Int) - 1) = ((n + 1 : Nat) : Int) := by rw [hbl, wr (by omega) (by omega)]; omega
    have f4 : IntKind.i64.wrap ((b.length : Int) - 2) = ((n : Nat) : Int) := by rw [hbl, wr (by omega) (by omega)]; omega
    have f5 : IntKind.i64.wrap (((i + 1 : Nat) : Int) - 1 - 1) = (i : Int) - 1 := by rw [ek, wr (by omega) (by omega)]
    refine side_intro rfl ?_
    refine side_intro (by show (0 : Int) ≤ IntKind.i64.wrap (((i + 1 : Nat) : Int) - 1 + (b.length : Int)) ∧ IntKind.i64.wrap (((i + 1 : Nat) : Int) - 1 + (b.length : Int)) < ((a.length : Nat) : Int); omega) ?_
    refine idx_own (i + (n + 2)) f0 (by show _ < c.length; omega) ?_
    refine side_intro (by show (0 : Int) ≤ IntKind.i64.wrap (IntKind.i64.wrap (((i + 1 : Nat) : Int) - 1 + (b.length : Int)) - 1) ∧ IntKind.i64.wrap (IntKind.i64.wrap (((i + 1 : Nat) : Int) - 1 + (b.length : Int)) - 1) < ((a.length : Nat) : Int); omega) ?_
    refine idx_own (i + (n + 1)) f1 (by show _ < c.length; omega) ?_
    refine side_intro (by show (0 : Int) ≤ IntKind.i64.wrap (IntKind.i64.wrap (((i + 1 : Nat) : Int) - 1 + (b.length : Int)) - 2) ∧ IntKind.i64.wrap (IntKind.i64.wrap (((i + 1 : Nat) : Int) - 1 + (b.length : Int)) - 2) < ((a.length : Nat) : Int); omega) ?_
    refine idx_own (i + n) f2 (by show _ < c.length; omega) ?_
    refine idx_w (n + 1) f3 (by omega) ?_
    refine idx_w n f4 (by omega) ?_
    obtain ⟨a2, ha2, ha2'⟩ := mget c hwc (i + (n + 2))
    obtain ⟨a1, ha1, ha1'⟩ := mget c hwc (i + (n + 1))
    obtain ⟨a0, ha0, ha0'⟩ := mget c hwc (i + n)
    obtain ⟨b1, hb1e, hb1'⟩ := mget b hwb (n + 1)
    obtain ⟨b0, hb0e, hb0'⟩ := mget b hwb n
    rw [hb1e, Int.toNat_natCast] at hb1
    -- the numbers
    have hLl : (c.take i).length = i := by rw [List.length_take]; omega
    have hMl : ((c.drop i).take (n + 3)).length = n + 3 := by rw [List.length_take, List.length_drop]; omega
    have hR0 : val (c.drop (i + (n + 3))) = 0 := by
      have hb2 := val_lt hwb
      rw [hbl] at hb2
      have := val_drop_zero (a := c.drop (i + 1)) (i := n + 2) (by rw [List.length_drop]; omega) (by omega)
      rw [List.drop_drop] at this
      rw [show i + (n + 3) = i + 1 + (n + 2) by omega]
      exact this
    have hMv : val ((c.drop i).take (n + 3)) = val (c.drop i) := by
      have h2 := val_take_drop (c.drop i) (n + 3) (by rw [List.length_drop]; omega)
      rw [List.drop_drop, hR0] at h2
      omega
    have hRd : val (c.drop i) = (c.getD i 0).toNat + 4294967296 * val (c.drop (i + 1)) := val_drop_cons' c i
    have hRlt : val (c.drop i) < 4294967296 * val b := by
      have g := hwc.g i
      have := Nat.mul_le_mul_left 4294967296 hlt
      rw [Nat.mul_succ] at this
      omega
    have ht3 := top3 hMl
    rw [getD_mid (by omega), getD_mid (by omega), getD_mid (by omega), ha2, ha1, ha0, hMv] at ht3
    have ht2 := top2 hbl
    rw [hb1e, hb0e] at ht2
    simp only [Int.toNat_natCast] at ht3 ht2
    have hrl := val_take_lt ((hwc.drop i).take (n + 3)) n
    have hbl2 := val_take_lt hwb n
    have hg := guess_ok (by omega) ht3 hrl ht2 hbl2 hb1 hRlt
    obtain ⟨x, hx⟩ : ∃ x, x = gW 4294967296 a2 a1 a0 b1 b0 := ⟨_, rfl⟩
    have hxl : x < 4294967296 := by rw [hx]; exact gW_lt (by omega)
    rw [← hx] at hg
    clear ht3 ht2 hrl hbl2
    refine call_intro (.d (.int .u32 (x : Int))) ?_ ?_
    · have hgs := guess_spec ha2' ha1' ha0' hb1' hb0' hb1
      rw [← hx, ← ha2, ← ha1, ← ha0, ← hb1e, ← hb0e] at hgs
      exact hgs
    clear hx
    have hsp := three c i (n + 3)
    have hwM := (hwc.drop i).take (n + 3)
    obtain ⟨L, hL⟩ : ∃ L, L = c.take i := ⟨_, rfl⟩
    obtain ⟨M, hM⟩ : ∃ M, M = (c.drop i).take (n + 3) := ⟨_, rfl⟩
    obtain ⟨R, hR⟩ : ∃ R, R = c.drop (i + (n + 3)) := ⟨_, rfl⟩
    have hwL : Wd L := by rw [hL]; exact hwc.take i
    have hwR : Wd R := by rw [hR]; exact hwc.drop _
    have hRl : R.length = a.length - (i + (n + 3)) := by rw [hR, List.length_drop, hcl]
    rw [← hL, ← hM, ← hR] at hsp
    rw [← hL] at hLl
    rw [← hM] at hMl hMv hwM
    rw [← hR] at hR0
    have hN1 : val b < 4294967296 ^ (n + 3) := by
      have := val_lt hwb
      rw [hbl] at this
      exact Nat.lt_of_lt_of_le this (Nat.pow_le_pow_right (by omega) (by omega))
    have hQ : x * val b < 4294967296 ^ (n + 3) := by
      have := val_lt hwb
      rw [hbl] at this
      exact mul_step (D := 0) hxl this (Nat.pow_pos (by omega))
    obtain ⟨lo1, lo2⟩ := left_over hvb hg.1 hg.2 hN1 hQ
    have htk := take_spec (L := L) (M := M) (R := R) (b := b) (x := x) hwb hwM hxl (by omega) (by rw [← hsp]; omega)
    have len3 : ∀ v, (L ++ (dig (n + 3) v ++ R)).length = a.length := fun v => by rw [List.length_append, List.length_append, dig_len, hLl, hRl]; exact hll
    rw [← hsp, hcl, hLl, hMv, hbl, ← ek] at htk
    refine call_row 1000 htk rfl rfl rfl rfl rfl rfl (same_words (by rw [hcl]; exact (len3 _).symm)) ?_
    have fin : ∀ (y : Nat), y = val (c.drop i) / val b → _ := fun y hy => long_round (n := n) hilt hLl hL len3 hwL hwR hR0 hql hwq hvb hN1 hRlt hsame hRd hv hy
    refine split_intro (fun hs => ?_) (fun hs => ?_)
    · have hs : val (c.drop i) < x * val b := of_decide_eq_true hs
      obtain ⟨hx1, hx2, hx3⟩ := lo2 hs
      have hx0 : 1 ≤ x := by rw [hx1]; exact Nat.succ_pos _
      have hxe : ((x : Int) - 1) % 4294967296 = ((x - 1 : Nat) : Int) := pred_emod hx0 hxl
      have hgv := give_spec (L := L) (M := dig (n + 3) (takeN (4294967296 ^ (n + 3)) (val (c.drop i)) (x * val b))) (R := R) (b := b) hwb (Wd.dig _ _) (by rw [dig_len, hbl]) (by rw [len3]; exact ha)
      rw [len3, hLl, hbl, val_dig_lt hx2, ← ek] at hgv
      refine call_row 1000 hgv rfl rfl rfl rfl rfl rfl (same_words (by rw [len3, len3])) ?_
      refine side_intro (by show (0 : Int) ≤ ((i + 1 : Nat) : Int) - 1 ∧ ((i + 1 : Nat) : Int) - 1 < ((a.length - (n + 2) : Nat) : Int); omega) ?_
      have hdd : dig (n + 3) (takeN (4294967296 ^ (n + 3)) (val (c.drop i)) (x * val b) + val b) = dig (n + 3) (val (c.drop i) % val b) := by
        apply val_inj (Wd.dig _ _) (Wd.dig _ _) (by rw [dig_len, dig_len])
        rw [val_dig, hx3, val_dig_lt (Nat.lt_trans (Nat.mod_lt _ hvb) hN1)]
      have hf := fin (x - 1) (by rw [hx1, Nat.add_sub_cancel])
      rw [← hdd] at hf
      refine ⟨(i, L ++ (dig (n + 3) (takeN (4294967296 ^ (n + 3)) (val (c.drop i)) (x * val b) + val b) ++ R), q.set i ((x - 1 : Nat) : Int)), hf, Nat.lt_succ_self i, ?_⟩
      refine weak_st _ _ ⟨rfl, rfl, rfl, rfl, i64_inj f5, trivial⟩ ⟨rfl, ?_, trivial⟩ rfl
      show some (MO.words tU32 (q.set (0 + (((i + 1 : Nat) : Int) - 1).toNat) (IntKind.u32.wrap ((x : Int) - 1)))) = _
      rw [ek, Nat.zero_add, Int.toNat_natCast, w32, hxe]
    · have hs : ¬ val (c.drop i) < x * val b := of_decide_eq_false hs
      obtain ⟨hx1, hx2⟩ := lo1 hs
      refine side_intro (by show (0 : Int) ≤ ((i + 1 : Nat) : Int) - 1 ∧ ((i + 1 : Nat) : Int) - 1 < ((a.length - (n + 2) : Nat) : Int); omega) ?_
      have hf := fin x hx1
      rw [← hx2] at hf
      refine ⟨(i, L ++ (dig (n + 3) (takeN (4294967296 ^ (n + 3)) (val (c.drop i)) (x * val b)) ++ R), q.set i (x : Int)), hf, Nat.lt_succ_self i, ?_⟩
      refine weak_st _ _ ⟨rfl, rfl, rfl, rfl, i64_inj f5, trivial⟩ ⟨rfl, ?_, trivial⟩ rfl
      show some (MO.words tU32 (q.set (0 + (((i + 1 : Nat) : Int) - 1).toNat) (x : Int))) = _
      rw [ek, Nat.zero_add, Int.toNat_natCast]
  · have h : ¬ (k : Int) - 1 ≥ 0 := of_decide_eq_false h
    have hk0 : k = 0 := by omega
    subst hk0
    simp only [List.drop_zero] at hlt hv
    refine retG_intro rfl rfl ⟨?_, ?_, trivial⟩ rfl
    · show some (MO.words tU32 c) = _
      rw [dig_eq (n := a.length) (v := val a % val b) hwc hcl (by rw [← hv, Nat.mul_comm, Nat.mul_add_mod, Nat.mod_eq_of_lt hlt])]
    · show some (MO.words tU32 q) = _
      rw [dig_eq (n := a.length - (n + 2)) (v := val a / val b) hwq hql (by rw [← hv, Nat.mul_comm, Nat.mul_add_div hvb, Nat.div_eq_of_lt hlt, Nat.add_zero])]
end Go.Proofs.YtolkecnhncbkhaaGreat.Fw

/- Quotient and rest. -/
set_option linter.unusedVariables false
namespace Go.Proofs.YtolkecnhncbkhaaGreat.Fw
open Go Pu
theorem Up_spec {a : List Int} {n : Nat} (hwa : Wd a) (ha : a.length ≤ 274877906944) (hn : n < 32) : Runs Tryz.prog g_twos_Up [.d (.words a), .d (.int .i64 (n : Int))] (.d (.words (toW (val a * 2 ^ n)))) := by
  have := runs_of_G (Up_specG hwa ha hn) rfl rfl
  have e : snapR [(56, MO.words tU32 (toW (val a * 2 ^ n)))] (.own 56 0 (toW (val a * 2 ^ n)).length) = .d (.words (toW (val a * 2 ^ n))) := by
    show V.d (.words (((toW (val a * 2 ^ n)).drop 0).take (toW (val a * 2 ^ n)).length)) = _
    rw [List.drop_zero, List.take_length]
  rw [e] at this
  exact this
theorem bits_le {x : Nat} (h : x < 4294967296) : bits x ≤ 32 := by
  unfold bits
  split
  · omega
  · rename_i h0
    have := (Nat.log2_lt h0).2 (show x < 2 ^ 32 from h)
    omega
theorem bits_pos {x : Nat} (h : x ≠ 0) : 0 < bits x := by
  unfold bits
  rw [if_neg h]; omega
theorem snap_all (e : TypeId) (l : List Int) {n : Nat} (h : n = l.length) : snapM (.words e l) 0 n = .d (.words l) := by
  show V.d (.words ((l.drop 0).take n)) = _
  rw [List.drop_zero, h, List.take_length]
theorem Div_zero {a b : List Int} (hwb : Wd b) (hb : b.length ≤ 274877906944) (h0 : val b = 0) : Runs Tryz.prog g_quot_Div [.d (.words a), .d (.words b)] (.tup [.d (.words []), .d (.words []), .d (.bool false)]) := by
  refine run1 [52] p_quot_Div rfl rfl (fun B S F0 w0 V0 => ?_)
  refine call_intro _ (norm_spec hwb (by omega)) ?_
  rw [h0, toW_zero]
  refine split_true rfl ?_
  exact ret_intro rfl rfl
set_option maxHeartbeats 2000000 in
theorem Div_spec {a b : List Int} (hwa : Wd a) (hwb : Wd b) (ha : a.length ≤ 137438953472) (hb : b.length ≤ 274877906944) (h0 : val b ≠ 0) : Runs Tryz.prog g_quot_Div [.d (.words a), .d (.words b)] (.tup [.d (.words (toW (val a / val b))), .d (.words (toW (val a % val b))), .d (.bool true)]) := by
  refine run1 [52] p_quot_Div rfl rfl (fun B S F0 w0 V0 => ?_)
  refine call_intro _ (norm_spec hwb (by omega)) ?_
  have hbl := toW_len_val_le hwb
  obtain ⟨vb, hvb⟩ : ∃ vb, vb = val b := ⟨_, rfl⟩
  have hw : Wd (toW vb) := Wd.toW vb
  have hbl' : (toW vb).length ≤ 274877906944 := by rw [hvb]; omega
  have hpos : 0 < vb := by omega
  have hlen0 : (toW vb).length ≠ 0 := by rw [Ne, toW_len_zero]; omega
  rw [← hvb]
  refine split_false (beq_eq_false_iff_ne.2 (by show ((toW vb).length : Int) ≠ 0; omega)) ?_
  refine call_intro _ (Cmp_spec hwa hw (by omega) (by omega)) ?_
  rw [val_toW]
  refine split_intro (fun h => ?_) (fun h => ?_)
  · have h : val a < vb := cmpI_lt.1 (of_decide_eq_true h)
    refine call_intro _ (norm_spec hwa (by omega)) ?_
    refine ret_intro (tup3 (ws_inj ?_) (ws_inj ?_) rfl) rfl
    · rw [Nat.div_eq_of_lt h, toW_zero]
    · rw [Nat.mod_eq_of_lt h]
  have h : ¬ val a < vb := fun hh => absurd (cmpI_lt.2 hh) (of_decide_eq_false h)
  refine split_intro (fun h1 => ?_) (fun h1 => ?_)
  · have h1 : ((toW vb).length : Int) = 1 := eq_of_beq h1
    have hone : toW vb = [(vb : Int)] ∧ vb < 4294967296 := by
      have hlt := val_lt hw
      rw [val_toW, show (toW vb).length = 1 by omega] at hlt
      refine ⟨?_, by omega⟩
      rw [toW_pos (by omega), Nat.div_eq_of_lt (by omega), toW_zero, Nat.mod_eq_of_lt (by omega)]
    rw [hone.1]
    refine idx_w 0 rfl (by show 0 < 1; omega) ?_
    have hwd := Word_spec (x := (vb : Int)) hwa (by omega) ⟨by omega, by omega⟩ (by omega)
    rw [Int.toNat_natCast] at hwd
    refine call_intro _ hwd ?_
    have hmlt : val a % vb < vb := Nat.mod_lt _ hpos
    have ec : IntKind.u64.wrap ((val a % vb : Nat) : Int) = ((val a % vb : Nat) : Int) := by rw [w64]; generalize val a % vb = z at hmlt ⊢; omega
    have hof := Of_spec (n := IntKind.u64.wrap ((val a % vb : Nat) : Int)) (by rw [ec]; omega) (by rw [ec]; generalize val a % vb = z at hmlt ⊢; omega)
    refine call_intro _ hof ?_
    refine ret_intro (tup3 rfl (ws_inj ?_) rfl) rfl
    rw [ec, Int.toNat_natCast]
  have h1 : ¬ ((toW vb).length : Int) = 1 := beq_eq_false_iff_ne.1 h1
  have e1 : IntKind.i64.wrap (((toW vb).length : Int) - 1) = (((toW vb).length - 1 : Nat) : Int) := by rw [wr (by omega) (by omega)]; omega
  refine idx_w ((toW vb).length - 1) e1 (by omega) ?_
  obtain ⟨t, ht, ht'⟩ := mget (toW vb) hw ((toW vb).length - 1)
  have ht0 : t ≠ 0 := by
    intro e
    refine toW_last (n := vb) (x := (t : Int)) ?_ (by omega)
    rw [List.getLast?_eq_getElem?, el _ (by omega), ht]
  refine call_intro (.d (.int .i64 ((bits t : Nat) : Int))) ?_ ?_
  · have := limb_Len_spec (x := (t : Int)) ⟨by omega, by omega⟩
    rw [Int.toNat_natCast, ← ht] at this
    exact this
  have hb1 := bits_pos ht0
  have hb2 := bits_le ht'
  obtain ⟨s, hs⟩ : ∃ s, s = 32 - bits t := ⟨_, rfl⟩
  have es : IntKind.i64.wrap (32 - ((bits t : Nat) : Int)) = (s : Int) := by rw [wr (by omega) (by omega)]; omega
  have hup := Up_specG hwa (by omega) (n := s) (by omega)
  refine call_new 52 hup rfl rfl rfl rfl rfl (by show [V.d (.words a), V.d (.int .i64 (IntKind.i64.wrap (32 - ((bits t : Nat) : Int))))] = _; rw [es]) rfl ?_
  obtain ⟨A, hA⟩ : ∃ A, A = val a * 2 ^ s := ⟨_, rfl⟩
  rw [← hA]
  have h32 := pow32 (n := s) (by omega)
  have hs31 : 2 ^ s ≤ 2 ^ 31 := Nat.pow_le_pow_right (by omega) (by omega)
  have hs32 : 2 ^ s ≤ 4294967296 := by omega
  have hAl : (toW A).length ≤ 137438953473 := by
    have := toW_len_mul hwa hs32
    rw [← hA] at this
    omega
  refine opp_append_own hT (e := tU32) (i := 52) (j := 54) (obj := .words tU32 (toW A)) (obj2 := .words tU32 (toW A ++ [0])) (n := (toW A).length) (m := 1) rfl rfl rfl rfl rfl rfl rfl rfl rfl rfl (Nat.le_of_ble_eq_true rfl) (Nat.le_of_ble_eq_true rfl) (.inr rfl) ?_ ?_ ?_
  · show some (tU32, 1, (toW A ++ [0]).length, (toW A ++ [0]).map wd) = _
    rw [List.length_append, List.map_append]; rfl
  · show ((toW A).length + 1) * (4 + 1) ≤ _
    omega
  have hup2 := Up_spec hw hbl' (n := s) (by omega)
  rw [val_toW] at hup2
  refine call_intro (.d (.words (toW (vb * 2 ^ s)))) ?_ ?_
  · rw [← es] at hup2
    exact hup2
  have hD2 : 2 ≤ (toW (vb * 2 ^ s)).length := by
    have := toW_len_mono (m := vb) (n := vb * 2 ^ s) (Nat.le_mul_of_pos_right _ (Nat.two_pow_pos s))
    omega
  obtain ⟨n, hn⟩ : ∃ n, (toW (vb * 2 ^ s)).length = n + 2 := ⟨(toW (vb * 2 ^ s)).length - 2, by omega⟩
  have hDA : vb * 2 ^ s ≤ A := by rw [hA]; exact Nat.mul_le_mul_right _ (by omega)
  have hq : A / (vb * 2 ^ s) = val a / vb := by rw [hA]; exact Nat.mul_div_mul_right _ _ (Nat.two_pow_pos s)
  have hr : A % (vb * 2 ^ s) = (val a % vb) * 2 ^ s := by rw [hA]; exact Nat.mul_mod_mul_right _ _ _
  obtain ⟨DD, hDD⟩ : ∃ DD, DD = vb * 2 ^ s := ⟨_, rfl⟩
  rw [← hDD] at hn hDA hq hr hD2 ⊢
  obtain ⟨g1, g2, g3, g4, g5, g6⟩ := div_frame hn hDA
  have hla : (toW A ++ [0]).length ≤ 137438953474 := by omega
  have hlg := long_spec (a := toW A ++ [0]) (b := toW DD) (n := n) ((Wd.toW A).app (Wd.zeros 1)) (Wd.toW DD) hn g2 (by omega) (by
    obtain ⟨x, hx, _⟩ := mget (toW DD) (Wd.toW DD) (n + 1)
    rw [hx, Int.toNat_natCast]
    rcases Nat.eq_zero_or_pos x with h0 | h0
    · exfalso
      subst h0
      refine toW_last (n := DD) (x := 0) ?_ rfl
      rw [List.getLast?_eq_getElem?, hn, show n + 2 - 1 = n + 1 by omega, el _ (by omega), hx]
      rfl
    · exact h0) (by rw [val_toW]; exact g3)
  rw [val_toW, g6, hq, hr] at hlg
  rw [hq] at g4
  rw [hr] at g5
  rw [g1] at hlg g4 g5
  refine call_G [(1000, 54), (15, 59)] hlg rfl rfl rfl rfl rfl ⟨rfl, trivial⟩ ⟨same_words (by rw [dig_len, g1]), trivial⟩ ⟨trivial, ⟨rfl, Nat.le_of_ble_eq_true rfl⟩, trivial⟩ rfl ?_
  refine opp_frz 59 (.words tU32 (dig ((toW A).length + 1 - (n + 2)) (val a / vb))) rfl (Nat.le_of_ble_eq_true rfl) rfl ?_
  refine call_intro (.d (.words (toW (val a / vb)))) ?_ ?_
  · have := norm_spec (a := dig ((toW A).length + 1 - (n + 2)) (val a / vb)) (Wd.dig _ _) (by rw [dig_len]; omega)
    rw [val_dig_lt g4, ← snap_all tU32 _ (dig_len _ _).symm] at this
    exact this
  refine opp_frz 54 (.words tU32 (dig ((toW A).length + 1) (val a % vb * 2 ^ s))) rfl (Nat.le_of_ble_eq_true rfl) rfl ?_
  refine call_intro (.d (.words (toW (val a % vb)))) ?_ ?_
  · have := Down_spec (a := dig ((toW A).length + 1) (val a % vb * 2 ^ s)) (n := s) (Wd.dig _ _) (by rw [dig_len]; omega) (by omega)
    rw [val_dig_lt g5, Nat.mul_div_cancel _ (Nat.two_pow_pos s), ← snap_all tU32 _ (dig_len _ _).symm, ← es] at this
    exact this
  exact ret_intro rfl rfl
end Go.Proofs.YtolkecnhncbkhaaGreat.Fw

/- The document's numbers: normed, at, the same, compared. -/
set_option linter.unusedVariables false
namespace Go.Proofs.YtolkecnhncbkhaaGreat.Fw
open Go Pu
theorem rNorm_specG {a : List Int} (hw : Wd a) (ha : a.length ≤ 1099511627776) : RunsG Tryz.prog g_retrospectref02_Norm [.d (.words a)] [] (.own 22 0 (toW (val a)).length) [(22, .words tU32 (toW (val a)))] := by
  refine runG [18] p_retrospectref02_Norm rfl rfl rfl rfl (fun B S F0 w0 V0 => ?_)
  refine loop_intro (fun i : Nat => st [(0, .d (.words a)), (3, .d (.int .i64 (i : Int)))] []) (fun i => i) (fun i => i ≤ a.length ∧ ∀ j, i ≤ j → j < a.length → a[j]? = some 0) a.length ⟨Nat.le_refl _, by intro j h1 h2; omega⟩ ?_ ?_
  · exact weak_st _ _ ⟨rfl, rfl, trivial⟩ trivial rfl
  · rintro i ⟨hi, hz⟩
    have fin : (i = 0 ∨ a.getD (i - 1) 0 ≠ 0) → a.take i = toW (val a) := take_trim hw hi hz
    refine split_intro (fun h => ?_) (fun h => ?_)
    case' refine_1 =>
      have h : (i : Int) > 0 := of_decide_eq_true h
      have e1 : IntKind.i64.wrap ((i : Int) - 1) = ((i - 1 : Nat) : Int) := by rw [wr (by omega) (by omega)]; omega
      refine idx_w (i - 1) e1 (by omega) ?_
      refine split_intro (fun h => ?_) (fun h => ?_)
      case' refine_1 =>
        have h : a.getD (i - 1) 0 = 0 := eq_of_beq h
        refine ⟨i - 1, ⟨by omega, fun j h1 h2 => ?_⟩, by show i - 1 < i; omega, weak_st _ _ ⟨rfl, i64_inj e1, trivial⟩ trivial rfl⟩
        by_cases hj : j = i - 1
        · subst hj; rw [el a (by omega), h]
        · exact hz j (by omega) h2
      have h : a.getD (i - 1) 0 ≠ 0 := beq_eq_false_iff_ne.1 h
      have hfin := fin (.inr h)
    case' refine_2 =>
      have h : ¬ (i : Int) > 0 := of_decide_eq_false h
      refine split_false rfl ?_
      have hfin := fin (.inl (by omega))
    all_goals
      refine opp_lit hT (e := tU32) (l := []) (obj := .words tU32 []) rfl rfl (Nat.le_of_ble_eq_true rfl) rfl rfl (Nat.le_of_ble_eq_true rfl) rfl rfl (Nat.zero_le _) rfl rfl ?_
      refine side_intro (by show 0 ≤ (i : Int) ∧ (i : Int) ≤ a.length; omega) ?_
      have hil : (a.take i).length = i := by rw [List.length_take]; omega
      refine opp_append_own hT (e := tU32) (i := 18) (j := 22) (obj := .words tU32 []) (obj2 := .words tU32 (a.take i)) (n := 0) (m := i) (fl2 := (a.take i).map wd) rfl rfl rfl rfl rfl rfl rfl rfl ?_ ?_ (Nat.le_of_ble_eq_true rfl) (Nat.le_of_ble_eq_true rfl) (.inr rfl) ?_ ?_ ?_
      · show srcOf TB tU32 (.d (.words (a.take i))) = _
        show some ((a.take i).length, (a.take i).map wd) = _
        rw [hil]
      · rw [List.length_map, hil]; show i = i * 1; omega
      · show some (tU32, 1, (a.take i).length, (a.take i).map wd) = _
        rw [hil]; show _ = some (tU32, 1, 0 + i, [] ++ (a.take i).map wd); rw [Nat.zero_add, List.nil_append]
      · show (0 + i) * (4 + 1) ≤ _
        omega
      refine retG_intro ?_ rfl ⟨?_, trivial⟩ rfl
      · show V.own 22 0 (0 + i) = _
        rw [Nat.zero_add, ← hfin, hil]
      · show some (MO.words tU32 (a.take i)) = _
        rw [hfin]
theorem rNorm_spec {a : List Int} (hw : Wd a) (ha : a.length ≤ 1099511627776) : Runs Tryz.prog g_retrospectref02_Norm [.d (.words a)] (.d (.words (toW (val a)))) := by
  have := runs_of_G (rNorm_specG hw ha) rfl rfl
  have e : snapR [(22, MO.words tU32 (toW (val a)))] (.own 22 0 (toW (val a)).length) = .d (.words (toW (val a))) := snap_all tU32 _ rfl
  rw [e] at this
  exact this
theorem rAt_spec {a : List Int} {i : Nat} (ha : a.length ≤ 1099511627776) : Runs Tryz.prog g_retrospectref02_At [.d (.words a), .d (.int .i64 (i : Int))] (.d (.int .u32 (a.getD i 0))) := by
  refine run1 [] p_retrospectref02_At rfl rfl (fun B S F0 w0 V0 => ?_)
  refine split_intro (fun h => ?_) (fun h => ?_)
  · have h : (i : Int) < a.length := of_decide_eq_true h
    refine idx_w i rfl (by omega) ?_
    exact ret_intro rfl rfl
  · have h : ¬ (i : Int) < a.length := of_decide_eq_false h
    refine ret_intro (u32_inj ?_) rfl
    rw [getD_ge (by omega)]
theorem rSame_spec {a b : List Int} (ha : a.length ≤ 1099511627776) : Runs Tryz.prog g_retrospectref02_Same [.d (.words a), .d (.words b)] (.d (.bool (decide (a = b)))) := by
  refine run1 [] p_retrospectref02_Same rfl rfl (fun B S F0 w0 V0 => ?_)
  refine split_intro (fun h => ?_) (fun h => ?_)
  · have h : (a.length : Int) ≠ b.length := bne_iff_ne.1 h
    refine ret_intro (b_inj ?_) rfl
    rw [decide_eq_false (fun e => h (by rw [e]))]
  have h : (a.length : Int) = b.length := by simpa using h
  refine loop_intro (fun i : Nat => st [(0, .d (.words a)), (1, .d (.words b)), (5, .d (.int .i64 (i : Int)))] []) (fun i => a.length - i) (fun i => i ≤ a.length ∧ ∀ j, j < i → a[j]? = b[j]?) 0 ⟨Nat.zero_le _, by intro j h1; omega⟩ (weak_st _ _ ⟨rfl, rfl, rfl, trivial⟩ trivial rfl) ?_
  rintro i ⟨hi, hz⟩
  refine split_intro (fun h1 => ?_) (fun h1 => ?_)
  · have h1 : (i : Int) < a.length := of_decide_eq_true h1
    have ei : IntKind.i64.wrap ((i : Int) + 1) = ((i + 1 : Nat) : Int) := by rw [wr (by omega) (by omega)]; omega
    refine side_intro rfl ?_
    refine idx_w i rfl (by omega) ?_
    refine idx_w i rfl (by omega) ?_
    refine split_intro (fun h2 => ?_) (fun h2 => ?_)
    · have h2 : a.getD i 0 ≠ b.getD i 0 := bne_iff_ne.1 h2
      refine ret_intro (b_inj ?_) rfl
      rw [decide_eq_false (fun e => h2 (by rw [e]))]
    · have h2 : a.getD i 0 = b.getD i 0 := bne_eq_false_iff_eq.1 h2
      refine ⟨i + 1, ⟨by omega, fun j hj => ?_⟩, by show a.length - (i + 1) < a.length - i; omega, weak_st _ _ ⟨rfl, rfl, i64_inj ei, trivial⟩ trivial rfl⟩
      by_cases hj2 : j = i
      · subst hj2; rw [el a (by omega), el b (by omega), h2]
      · exact hz j (by omega)
  · have h1 : ¬ (i : Int) < a.length := of_decide_eq_false h1
    refine ret_intro (b_inj ?_) rfl
    symm
    refine decide_eq_true ?_
    apply List.ext_getElem?
    intro j
    by_cases hj : j < i
    · exact hz j hj
    · rw [List.getElem?_eq_none (by omega), List.getElem?_eq_none (by omega)]
theorem lt_top' {a b : List Int} {i : Nat} (ha : Wd a) (hb : Wd b) (hd : val (a.drop (i + 1)) = val (b.drop (i + 1))) (hlt : a.getD i 0 < b.getD i 0) : val (a.drop i) < val (b.drop i) := by
  rw [val_drop_cons' a i, val_drop_cons' b i, hd]
  have := (ha.g i).1
  omega
theorem lt_drop {a b : List Int} {i : Nat} (ha : Wd a) (hb : Wd b) (h : val (a.drop i) < val (b.drop i)) : val a < val b := by
  by_cases hj : i ≤ b.length
  · by_cases hi : i ≤ a.length
    · rw [val_take_drop a i hi, val_take_drop b i hj]
      have h1 := val_take_lt ha i
      generalize 4294967296 ^ i = p at h1 ⊢
      have := Nat.mul_le_mul_left p h
      rw [Nat.mul_succ] at this
      omega
    · rw [val_take_drop b i hj]
      have h1 := val_lt ha
      have h2 : 4294967296 ^ a.length ≤ 4294967296 ^ i := Nat.pow_le_pow_right (by omega) (by omega)
      have h3 : 4294967296 ^ i * 1 ≤ 4294967296 ^ i * val (b.drop i) := Nat.mul_le_mul_left _ (by omega)
      omega
  · have hd : b.drop i = [] := List.drop_eq_nil_of_le (by omega)
    rw [hd] at h
    exact absurd h (Nat.not_lt_zero _)
theorem rCmp_spec {a b : List Int} (hwa : Wd a) (hwb : Wd b) (ha : a.length ≤ 1099511627776) (hb : b.length ≤ 1099511627776) : Runs Tryz.prog g_retrospectref02_Cmp [.d (.words a), .d (.words b)] (.d (.int .i64 (cmpI (val a) (val b)))) := by
  refine run1 [] p_retrospectref02_Cmp rfl rfl (fun B S F0 w0 V0 => ?_)
  obtain ⟨m, hm⟩ : ∃ m : Nat, m = max a.length b.length := ⟨_, rfl⟩
  have e0 : IntKind.i64.wrap ((if (b.length : Int) > (a.length : Int) then (b.length : Int) else (a.length : Int)) - 1) = (m : Int) - 1 := by
    rw [hm]; split <;> rw [wr (by omega) (by omega)] <;> omega
  refine loop_intro (fun k : Nat => st [(0, .d (.words a)), (1, .d (.words b)), (5, .d (.int .i64 ((k : Int) - 1)))] []) (fun k => k) (fun k => k ≤ m ∧ val (a.drop k) = val (b.drop k)) m
    ⟨Nat.le_refl _, by rw [List.drop_eq_nil_of_le (by omega), List.drop_eq_nil_of_le (by omega)]⟩ (weak_st _ _ ⟨rfl, rfl, i64_inj e0, trivial⟩ trivial rfl) ?_
  rintro k ⟨hk, hd⟩
  refine split_intro (fun h => ?_) (fun h => ?_)
  · have h : (k : Int) - 1 ≥ 0 := of_decide_eq_true h
    obtain ⟨i, rfl⟩ : ∃ i, k = i + 1 := ⟨k - 1, by omega⟩
    have e1 : ((i + 1 : Nat) : Int) - 1 = (i : Int) := by omega
    have e2 : IntKind.i64.wrap (((i + 1 : Nat) : Int) - 1 - 1) = (i : Int) - 1 := by rw [e1, wr (by omega) (by omega)]
    refine call_intro (.d (.int .u32 (a.getD i 0))) (by have := rAt_spec (a := a) (i := i) ha; rw [← e1] at this; exact this) ?_
    refine call_intro (.d (.int .u32 (b.getD i 0))) (by have := rAt_spec (a := b) (i := i) hb; rw [← e1] at this; exact this) ?_
    refine split_intro (fun h1 => ?_) (fun h1 => ?_)
    · have h1 : a.getD i 0 < b.getD i 0 := of_decide_eq_true h1
      refine ret_intro (i64_inj ?_) rfl
      unfold cmpI
      rw [if_pos (lt_drop hwa hwb (lt_top' hwa hwb hd h1))]
    have h1 : ¬ a.getD i 0 < b.getD i 0 := of_decide_eq_false h1
    refine split_intro (fun h2 => ?_) (fun h2 => ?_)
    · have h2 : a.getD i 0 > b.getD i 0 := of_decide_eq_true h2
      refine ret_intro (i64_inj ?_) rfl
      have := lt_drop hwb hwa (lt_top' hwb hwa hd.symm h2)
      unfold cmpI
      rw [if_neg (by omega), if_pos this]
    have h2 : ¬ a.getD i 0 > b.getD i 0 := of_decide_eq_false h2
    refine ⟨i, ⟨by omega, ?_⟩, by show i < i + 1; omega, weak_st _ _ ⟨rfl, rfl, i64_inj e2, trivial⟩ trivial rfl⟩
    rw [val_drop_cons' a i, val_drop_cons' b i, hd, show a.getD i 0 = b.getD i 0 by omega]
  · have h : ¬ (k : Int) - 1 ≥ 0 := of_decide_eq_false h
    have : k = 0 := by omega
    subst this
    simp only [List.drop_zero] at hd
    refine ret_intro (i64_inj ?_) rfl
    exact (cmpI_eq.2 hd).symm
end Go.Proofs.YtolkecnhncbkhaaGreat.Fw

/- Bits of a number. -/
namespace Go.Proofs.YtolkecnhncbkhaaGreat.Pu
theorem val_div_pow {a : List Int} (hw : Wd a) {j : Nat} (hj : j ≤ a.length) : val a / 4294967296 ^ j = val (a.drop j) := by
  rw [val_take_drop a j hj]
  have h := val_take_lt hw j
  rw [Nat.add_mul_div_left _ _ (by omega), Nat.div_eq_of_lt h, Nat.zero_add]
theorem pow_split (j r : Nat) : 2 ^ (32 * j + r) = 4294967296 ^ j * 2 ^ r := by
  rw [Nat.pow_add, Nat.pow_mul]
theorem bit_word {a : List Int} (hw : Wd a) {j r : Nat} (hj : j < a.length) (hr : r < 32) : val a / 2 ^ (32 * j + r) % 2 = (a.getD j 0).toNat / 2 ^ r % 2 := by
  rw [pow_split, ← Nat.div_div_eq_div_mul, val_div_pow hw (by omega), val_drop_cons' a j]
  have hc := pow32 (n := r) (by omega)
  have h2 : 2 ^ (32 - r) = 2 * 2 ^ (31 - r) := by rw [show 32 - r = (31 - r) + 1 by omega, Nat.pow_succ, Nat.mul_comm]
  have hp : 0 < 2 ^ r := Nat.two_pow_pos r
  rw [← hc, Nat.mul_assoc, Nat.add_mul_div_left _ _ hp, h2, Nat.mul_assoc, Nat.add_mul_mod_self_left]
theorem bit_high {a : List Int} (hw : Wd a) {j r : Nat} (hj : a.length ≤ j) : val a / 2 ^ (32 * j + r) = 0 := by
  apply Nat.div_eq_of_lt
  rw [pow_split]
  refine Nat.lt_of_lt_of_le (val_lt hw) (Nat.le_trans (Nat.pow_le_pow_right (by omega) hj) (Nat.le_mul_of_pos_right _ (Nat.two_pow_pos r)))
theorem val_lt_bits {a : List Int} (hw : Wd a) : val a < 2 ^ (32 * a.length) := by
  have := val_lt hw
  have e := pow_split a.length 0
  rw [Nat.add_zero, Nat.pow_zero, Nat.mul_one] at e
  rw [e]; exact this
/-- a bit that is 0 at the top -/
theorem lt_of_bit {v n : Nat} (h : v < 2 ^ (n + 1)) (hb : v / 2 ^ n % 2 ≠ 1) : v < 2 ^ n := by
  rcases Nat.lt_or_ge v (2 ^ n) with h1 | h1
  · exact h1
  · exfalso
    have hp : 0 < 2 ^ n := Nat.two_pow_pos n
    have h2 : v / 2 ^ n < 2 := by rw [Nat.div_lt_iff_lt_mul hp, Nat.mul_comm, ← Nat.pow_succ]; exact h
    have h3 : 0 < v / 2 ^ n := Nat.div_pos h1 hp
    omega
end Go.Proofs.YtolkecnhncbkhaaGreat.Pu

/- The document's bits, doubling and taking away in place. -/
set_option linter.unusedVariables false
namespace Go.Proofs.YtolkecnhncbkhaaGreat.Fw
open Go Pu
theorem Has_spec {a : List Int} {i : Nat} (hwa : Wd a) (ha : a.length ≤ 1099511627776) (hi : i < 1125899906842624) : Runs Tryz.prog g_retrospectref03_Has [.d (.words a), .d (.int .i64 (i : Int))] (.d (.bool (decide (val a / 2 ^ i % 2 = 1)))) := by
  refine run1 [] p_retrospectref03_Has rfl rfl (fun B S F0 w0 V0 => ?_)
  have ej : IntKind.i64.wrap ((i : Int).tdiv 32) = ((i / 32 : Nat) : Int) := by rw [Int.tdiv_eq_ediv_of_nonneg (by omega), wr (by omega) (by omega)]; omega
  have er : (i : Int).tmod 32 = ((i % 32 : Nat) : Int) := by rw [Int.tmod_eq_emod_of_nonneg (by omega)]; omega
  have hid : i = 32 * (i / 32) + i % 32 := by omega
  refine split_false (decide_eq_false (by show ¬ (i : Int) < 0; omega)) ?_
  refine side_intro (by show (32 : Int) ≠ 0; omega) ?_
  refine split_intro (fun h => ?_) (fun h => ?_)
  · have h : IntKind.i64.wrap ((i : Int).tdiv 32) ≥ (a.length : Int) := of_decide_eq_true h
    refine ret_intro (b_inj ?_) rfl
    have hb := bit_high hwa (j := i / 32) (r := i % 32) (by omega)
    rw [← hid] at hb
    rw [hb, decide_eq_false (by omega)]
  have h : ¬ IntKind.i64.wrap ((i : Int).tdiv 32) ≥ (a.length : Int) := of_decide_eq_false h
  refine side_intro (by show (32 : Int) ≠ 0; omega) ?_
  refine idx_w (i / 32) ej (by omega) ?_
  obtain ⟨x, hx, hx'⟩ := mget a hwa (i / 32)
  have hb := bit_word hwa (j := i / 32) (r := i % 32) (by omega) (by omega)
  rw [← hid, hx, Int.toNat_natCast] at hb
  refine loop_intro (fun p : Nat × Nat => st [(1, .d (.int .i64 (i : Int))), (5, .d (.int .u32 (p.2 : Int))), (6, .d (.int .i64 (p.1 : Int)))] []) (fun p => 32 - p.1) (fun p => p.1 ≤ i % 32 ∧ p.2 = x / 2 ^ p.1) (0, x) ⟨Nat.zero_le _, by simp⟩ (weak_st _ _ ⟨rfl, u32_inj hx, rfl, trivial⟩ trivial rfl) ?_
  rintro ⟨k, y⟩ ⟨hk, hy⟩
  dsimp only at hk hy
  refine side_intro (by show (32 : Int) ≠ 0; omega) ?_
  have hyl : y < 4294967296 := by rw [hy]; exact Nat.lt_of_le_of_lt (Nat.div_le_self _ _) hx'
  refine split_intro (fun h1 => ?_) (fun h1 => ?_)
  · have h1 : (k : Int) < (i : Int).tmod 32 := of_decide_eq_true h1
    have ek : IntKind.i64.wrap ((k : Int) + 1) = ((k + 1 : Nat) : Int) := by rw [wr (by omega) (by omega)]; omega
    refine side_intro (by show (2 : Int) ≠ 0; omega) ?_
    refine ⟨(k + 1, y / 2), ⟨by dsimp only; omega, by dsimp only; rw [hy, Nat.pow_succ, Nat.div_div_eq_div_mul]⟩, by show 32 - (k + 1) < 32 - k; omega, weak_st _ _ ⟨rfl, u32_inj ?_, i64_inj ek, trivial⟩ trivial rfl⟩
    show IntKind.u32.wrap ((y : Int).tdiv 2) = ((y / 2 : Nat) : Int)
    rw [Int.tdiv_eq_ediv_of_nonneg (by omega), w32]
    omega
  · have h1 : ¬ (k : Int) < (i : Int).tmod 32 := of_decide_eq_false h1
    have hk2 : k = i % 32 := by omega
    refine side_intro (by show (2 : Int) ≠ 0; omega) ?_
    refine ret_intro (b_inj ?_) rfl
    show ((y : Int).tmod 2 == 1) = _
    rw [hb, ← hk2, ← hy, Int.tmod_eq_emod_of_nonneg (by omega)]
    by_cases hh : y % 2 = 1
    · rw [decide_eq_true hh]; exact beq_iff_eq.2 (by omega)
    · rw [decide_eq_false hh]; exact beq_eq_false_iff_ne.2 (by omega)
theorem rLen_spec {a : List Int} (hwa : Wd a) (ha : a.length ≤ 1099511627776) : Runs Tryz.prog g_retrospectref03_Len [.d (.words a)] (.d (.int .i64 ((bits (val a) : Nat) : Int))) := by
  refine run1 [] p_retrospectref03_Len rfl rfl (fun B S F0 w0 V0 => ?_)
  have e0 : IntKind.i64.wrap (32 * (a.length : Int)) = ((32 * a.length : Nat) : Int) := by rw [wr (by omega) (by omega)]; omega
  refine loop_intro (fun n : Nat => st [(0, .d (.words a)), (3, .d (.int .i64 (n : Int)))] []) (fun n => n) (fun n => n ≤ 32 * a.length ∧ val a < 2 ^ n) (32 * a.length) ⟨Nat.le_refl _, val_lt_bits hwa⟩ (weak_st _ _ ⟨rfl, i64_inj e0, trivial⟩ trivial rfl) ?_
  rintro n ⟨hn, hv⟩
  refine split_intro (fun h => ?_) (fun h => ?_)
  · have h : (n : Int) > 0 := of_decide_eq_true h
    obtain ⟨i, rfl⟩ : ∃ i, n = i + 1 := ⟨n - 1, by omega⟩
    have e1 : IntKind.i64.wrap (((i + 1 : Nat) : Int) - 1) = (i : Int) := by rw [wr (by omega) (by omega)]; omega
    refine call_intro (.d (.bool (decide (val a / 2 ^ i % 2 = 1)))) ?_ ?_
    · have := Has_spec hwa ha (i := i) (by omega)
      rw [← e1] at this
      exact this
    refine split_intro (fun h1 => ?_) (fun h1 => ?_)
    · have h1 : (!decide (val a / 2 ^ i % 2 = 1)) = true := h1
      have h1 : ¬ val a / 2 ^ i % 2 = 1 := by simpa using h1
      exact ⟨i, ⟨by omega, lt_of_bit hv h1⟩, Nat.lt_succ_self i, weak_st _ _ ⟨rfl, i64_inj e1, trivial⟩ trivial rfl⟩
    · have h1 : (!decide (val a / 2 ^ i % 2 = 1)) = false := h1
      have h1 : val a / 2 ^ i % 2 = 1 := by simpa using h1
      refine ret_intro (i64_inj ?_) rfl
      show ((i + 1 : Nat) : Int) = _
      have hne : val a ≠ 0 := by intro e; rw [e, Nat.zero_div] at h1; cases h1
      have hge : 2 ^ i ≤ val a := by
        rcases Nat.lt_or_ge (val a) (2 ^ i) with h2 | h2
        · rw [Nat.div_eq_of_lt h2] at h1; cases h1
        · exact h2
      unfold bits
      rw [if_neg hne, (Nat.log2_eq_iff hne).2 ⟨hge, hv⟩]
  · have h : ¬ (n : Int) > 0 := of_decide_eq_false h
    have : n = 0 := by omega
    subst this
    refine split_false rfl ?_
    refine ret_intro (i64_inj ?_) rfl
    have : val a = 0 := by simpa using hv
    rw [this]; rfl
theorem Double_spec {r : List Int} (more : Bool) (hwr : Wd r) (hl0 : r.length ≤ 1099511627776) :
    RunsG Tryz.prog g_retrospectref05_Double [.own 1000 0 r.length, .d (.bool more)] [(1000, .words tU32 r)] (.tup []) [(1000, .words tU32 (dig r.length (2 * val r + more.toNat)))] := by
  refine runG [] p_retrospectref05_Double rfl rfl rfl rfl (fun B S F0 w0 V0 => ?_)
  obtain ⟨k0, hk0, hk1⟩ : ∃ k0 : Int, k0.toNat = more.toNat ∧ k0 = if more then 1 else 0 := ⟨_, by cases more <;> rfl, rfl⟩
  have hkb : 0 ≤ k0 ∧ k0 ≤ 1 := by rw [hk1]; cases more <;> decide
  cases more
  case' false => refine split_false rfl ?_
  case' true => refine split_true rfl ?_
  all_goals
    rw [← hk0]
    refine loop_intro (fun p : Nat × List Int × Int => st [(0, .own 1000 0 r.length), (4, .d (.int .u32 p.2.2)), (5, .d (.int .i64 (p.1 : Int)))] [(1000, .words tU32 p.2.1)]) (fun p => r.length - p.1)
      (fun p => p.1 ≤ r.length ∧ p.2.1.length = r.length ∧ Wd p.2.1 ∧ (0 ≤ p.2.2 ∧ p.2.2 ≤ 1) ∧ (∀ j, p.1 ≤ j → p.2.1.getD j 0 = r.getD j 0) ∧ val (p.2.1.take p.1) + 4294967296 ^ p.1 * p.2.2.toNat = (2 : Int).toNat * val (r.take p.1) + 0 + k0.toNat) (0, r, k0)
      ⟨Nat.zero_le _, rfl, hwr, hkb, fun _ _ => rfl, by simp [val]⟩ (weak_st _ _ ⟨rfl, u32_inj (by rw [hk1]; rfl), rfl, trivial⟩ ⟨rfl, trivial⟩ rfl) ?_
    rintro ⟨i, m, c⟩ ⟨hi, hl, hwm, hc, hsame, hv⟩
    dsimp only at hi hl hwm hc hsame hv
    refine split_intro (fun h => ?_) (fun h => ?_)
    · have hlt : i < r.length := by have h : (i : Int) < r.length := of_decide_eq_true h; omega
      have ei : IntKind.i64.wrap ((i : Int) + 1) = ((i + 1 : Nat) : Int) := by rw [wr (by omega) (by omega)]; omega
      have g := hwm.g i
      refine side_intro (by show (0 : Int) ≤ i ∧ (i : Int) < ((r.length : Nat) : Int); omega) ?_
      refine idx_own i rfl (by show i < m.length; omega) ?_
      refine side_intro (by show (2147483648 : Int) ≠ 0; omega) ?_
      refine side_intro (by show (0 : Int) ≤ i ∧ (i : Int) < ((r.length : Nat) : Int); omega) ?_
      refine idx_own i rfl (by show i < m.length; omega) ?_
      refine side_intro (by show (0 : Int) ≤ i ∧ (i : Int) < ((r.length : Nat) : Int); omega) ?_
      have ed : IntKind.u32.wrap (IntKind.u32.wrap (m.getD i 0 * 2) + c) = (2 * m.getD i 0 + 0 + c) % 4294967296 := by rw [w32, w32]; omega
      have eq : IntKind.u32.wrap ((m.getD i 0).tdiv 2147483648) = (2 * m.getD i 0 + 0 + c) / 4294967296 := by rw [Int.tdiv_eq_ediv_of_nonneg g.1, w32]; omega
      refine ⟨(i + 1, m.set i ((2 * m.getD i 0 + 0 + c) % 4294967296), (2 * m.getD i 0 + 0 + c) / 4294967296), ⟨hlt, by show (m.set i _).length = _; rw [List.length_set]; exact hl, hwm.set i (by omega) (by omega), ⟨by dsimp only; omega, by dsimp only; omega⟩, fun j hj => ?_, ?_⟩, by show r.length - (i + 1) < r.length - i; omega, ?_⟩
      · show (m.set i _).getD j 0 = _
        have hj : i + 1 ≤ j := hj
        rw [getD_setne (by omega)]
        exact hsame j (by omega)
      · show val ((m.set i _).take (i + 1)) + 4294967296 ^ (i + 1) * _ = _
        rw [val_take_set (by omega), val_take_succ' (a := r), ← hsame i (Nat.le_refl _), Nat.pow_succ]
        exact row_step (by omega) g.1 (Int.le_refl 0) hc.1 hv
      · refine weak_st _ _ ⟨rfl, u32_inj eq, i64_inj ei, trivial⟩ ⟨?_, trivial⟩ rfl
        show some (MO.words tU32 (m.set (0 + ((i : Int)).toNat) (IntKind.u32.wrap (IntKind.u32.wrap (m.getD i 0 * 2) + c)))) = _
        rw [ed, Nat.zero_add, Int.toNat_natCast]
    · have hend : i = r.length := by have h : ¬ (i : Int) < r.length := of_decide_eq_false h; omega
      refine retG_intro rfl rfl ⟨?_, trivial⟩ rfl
      show some (MO.words tU32 m) = _
      rw [dig_mod (n := r.length) (v := 2 * val r + k0.toNat) hwm hl]
      have h2 := val_lt hwm
      rw [hl] at h2
      rw [hend, ← hl, List.take_length, hl, List.take_length] at hv
      have h3 : (2 : Int).toNat = 2 := rfl
      rw [h3, Nat.add_zero] at hv
      rw [← hv, Nat.add_mul_mod_self_left, Nat.mod_eq_of_lt h2]
theorem Less_spec {a b : List Int} (hwa : Wd a) (hwb : Wd b) (hla : a.length ≤ 1099511627776) (hlb : b.length ≤ 1099511627776) (hle : val b ≤ val a) :
    RunsG Tryz.prog g_retrospectref05_Less [.own 1000 0 a.length, .d (.words b)] [(1000, .words tU32 a)] (.tup []) [(1000, .words tU32 (dig a.length (val a - val b)))] := by
  refine runG [] p_retrospectref05_Less rfl rfl rfl rfl (fun B S F0 w0 V0 => ?_)
  refine loop_intro (fun p : Nat × List Int × Nat => st [(0, .own 1000 0 a.length), (1, .d (.words b)), (4, .d (.int .u64 (p.2.2 : Int))), (5, .d (.int .i64 (p.1 : Int)))] [(1000, .words tU32 p.2.1)]) (fun p => a.length - p.1)
    (fun p => p.1 ≤ a.length ∧ p.2.1.length = a.length ∧ Wd p.2.1 ∧ p.2.2 ≤ 1 ∧ (∀ j, p.1 ≤ j → p.2.1.getD j 0 = a.getD j 0) ∧ val (p.2.1.take p.1) + val (b.take p.1) = val (a.take p.1) + 4294967296 ^ p.1 * (p.2.2 + 0)) (0, a, 0)
    ⟨Nat.zero_le _, rfl, hwa, Nat.zero_le _, fun _ _ => rfl, by simp [val]⟩ (weak_st _ _ ⟨rfl, rfl, rfl, rfl, trivial⟩ ⟨rfl, trivial⟩ rfl) ?_
  rintro ⟨i, m, u⟩ ⟨hi, hl, hwm, hu, hsame, hv⟩
  dsimp only at hi hl hwm hu hsame hv
  refine split_intro (fun h => ?_) (fun h => ?_)
  · have hlt : i < a.length := by have h : (i : Int) < a.length := of_decide_eq_true h; omega
    have ei : IntKind.i64.wrap ((i : Int) + 1) = ((i + 1 : Nat) : Int) := by rw [wr (by omega) (by omega)]; omega
    obtain ⟨x, hx, hx'⟩ := mget m hwm i
    obtain ⟨y, hy, hy'⟩ := mget b hwb i
    refine side_intro (by show (0 : Int) ≤ i ∧ (i : Int) < ((a.length : Nat) : Int); omega) ?_
    refine idx_own i rfl (by show i < m.length; omega) ?_
    refine call_intro _ (rAt_spec (a := b) (i := i) hlb) ?_
    have ex : IntKind.u64.wrap (m.getD i 0) = (x : Int) := by rw [hx, w64]; omega
    have ey : IntKind.u64.wrap (IntKind.u64.wrap (b.getD i 0) + (u : Int)) = ((y + u : Nat) : Int) := by rw [hy, w64, w64]; omega
    have fin : ∀ (d w : Nat), d < 4294967296 → w ≤ 1 → d + y + u + 0 = x + 4294967296 * (w + 0) → val ((m.set i (d : Int)).take (i + 1)) + val (b.take (i + 1)) = val (a.take (i + 1)) + 4294967296 ^ (i + 1) * (w + 0) := by
      intro d w hd hw he
      rw [val_take_set (by omega), val_take_succ' (a := b), val_take_succ' (a := a), ← hsame i (Nat.le_refl _), hx, hy, Nat.pow_succ]
      simp only [Int.toNat_natCast]
      exact step_sum hv he
    have same' : ∀ d : Int, ∀ j, i + 1 ≤ j → (m.set i d).getD j 0 = a.getD j 0 := by
      intro d j hj
      rw [getD_setne (by omega)]
      exact hsame j (by omega)
    refine split_intro (fun h1 => ?_) (fun h1 => ?_)
    · have h1 : IntKind.u64.wrap (m.getD i 0) < IntKind.u64.wrap (IntKind.u64.wrap (b.getD i 0) + (u : Int)) := of_decide_eq_true h1
      refine side_intro (by show (0 : Int) ≤ i ∧ (i : Int) < ((a.length : Nat) : Int); omega) ?_
      have ed : IntKind.u32.wrap (IntKind.u64.wrap (IntKind.u64.wrap (IntKind.u64.wrap (m.getD i 0) + 4294967296) - IntKind.u64.wrap (IntKind.u64.wrap (b.getD i 0) + (u : Int)))) = ((x + 4294967296 - (y + u) : Nat) : Int) := by
        rw [ex, ey, w64 ((x : Int) + 4294967296), w64, w32]; omega
      refine ⟨(i + 1, m.set i ((x + 4294967296 - (y + u) : Nat) : Int), 1), ⟨hlt, by show (m.set i _).length = _; rw [List.length_set]; exact hl, hwm.set i (by omega) (by omega), Nat.le_refl _, same' _, fin _ 1 (by omega) (Nat.le_refl _) (by omega)⟩, by show a.length - (i + 1) < a.length - i; omega, ?_⟩
      refine weak_st _ _ ⟨rfl, rfl, rfl, i64_inj ei, trivial⟩ ⟨?_, trivial⟩ rfl
      show some (MO.words tU32 (m.set (0 + ((i : Int)).toNat) (IntKind.u32.wrap (IntKind.u64.wrap (IntKind.u64.wrap (IntKind.u64.wrap (m.getD i 0) + 4294967296) - IntKind.u64.wrap (IntKind.u64.wrap (b.getD i 0) + (u : Int))))))) = _
      rw [ed, Nat.zero_add, Int.toNat_natCast]
    · have h1 : ¬ IntKind.u64.wrap (m.getD i 0) < IntKind.u64.wrap (IntKind.u64.wrap (b.getD i 0) + (u : Int)) := of_decide_eq_false h1
      refine side_intro (by show (0 : Int) ≤ i ∧ (i : Int) < ((a.length : Nat) : Int); omega) ?_
      have ed : IntKind.u32.wrap (IntKind.u64.wrap (IntKind.u64.wrap (m.getD i 0) - IntKind.u64.wrap (IntKind.u64.wrap (b.getD i 0) + (u : Int)))) = ((x - (y + u) : Nat) : Int) := by
        rw [ex, ey, w64, w32]; omega
      refine ⟨(i + 1, m.set i ((x - (y + u) : Nat) : Int), 0), ⟨hlt, by show (m.set i _).length = _; rw [List.length_set]; exact hl, hwm.set i (by omega) (by omega), Nat.zero_le _, same' _, fin _ 0 (by omega) (Nat.zero_le _) (by omega)⟩, by show a.length - (i + 1) < a.length - i; omega, ?_⟩
      refine weak_st _ _ ⟨rfl, rfl, rfl, i64_inj ei, trivial⟩ ⟨?_, trivial⟩ rfl
      show some (MO.words tU32 (m.set (0 + ((i : Int)).toNat) (IntKind.u32.wrap (IntKind.u64.wrap (IntKind.u64.wrap (m.getD i 0) - IntKind.u64.wrap (IntKind.u64.wrap (b.getD i 0) + (u : Int))))))) = _
      rw [ed, Nat.zero_add, Int.toNat_natCast]
  · have hend : i = a.length := by have h : ¬ (i : Int) < a.length := of_decide_eq_false h; omega
    refine retG_intro rfl rfl ⟨?_, trivial⟩ rfl
    show some (MO.words tU32 m) = _
    have h2 := val_lt hwm
    have h3 := val_lt hwa
    rw [hl] at h2
    rw [hend, ← hl, List.take_length, hl, List.take_length] at hv
    have hbt : val (b.take a.length) = val b := by
      by_cases hj : a.length ≤ b.length
      · have h4 := val_drop_zero (a := b) (i := a.length) hj (by omega)
        rw [val_take_drop b a.length hj, h4, Nat.mul_zero, Nat.add_zero]
      · rw [val_take_ge (by omega)]
    rw [hbt, Nat.add_zero] at hv
    generalize 4294967296 ^ a.length = q at hv h2 h3
    have hu0 : u = 0 := by
      have : u = 0 ∨ u = 1 := by omega
      rcases this with h | h
      · exact h
      · subst h; omega
    subst hu0
    rw [dig_eq (n := a.length) (v := val a - val b) hwm hl (by omega)]
end Go.Proofs.YtolkecnhncbkhaaGreat.Fw

/- Bit by bit. -/
namespace Go.Proofs.YtolkecnhncbkhaaGreat.Pu
theorem dig_zero (n : Nat) : dig n 0 = List.replicate n 0 := by
  induction n with
  | zero => rfl
  | succ n ih => simp [dig, ih, List.replicate_succ]
theorem half_step (va i : Nat) : va / 2 ^ i = 2 * (va / 2 ^ (i + 1)) + va / 2 ^ i % 2 := by
  rw [Nat.pow_succ, ← Nat.div_div_eq_div_mul]
  omega
theorem bit_round {V Q R vb c : Nat} (hvb : 0 < vb) (hQ : Q = V / vb) (hR : R = V % vb) (hc : c ≤ 1) :
    (vb ≤ 2 * R + c → (2 * V + c) / vb = 2 * Q + 1 ∧ (2 * V + c) % vb = 2 * R + c - vb) ∧ (¬ vb ≤ 2 * R + c → (2 * V + c) / vb = 2 * Q ∧ (2 * V + c) % vb = 2 * R + c) := by
  have hd := Nat.div_add_mod V vb
  have hm := Nat.mod_lt V hvb
  rw [← hQ, ← hR] at hd
  rw [← hR] at hm
  constructor
  · intro h
    have e : 2 * V + c = (2 * R + c - vb) + vb * (2 * Q + 1) := by
      rw [Nat.mul_add, Nat.mul_one, Nat.mul_left_comm]; omega
    rw [e]
    exact ⟨by rw [Nat.add_mul_div_left _ _ hvb, Nat.div_eq_of_lt (by omega), Nat.zero_add], by rw [Nat.add_mul_mod_self_left, Nat.mod_eq_of_lt (by omega)]⟩
  · intro h
    have e : 2 * V + c = (2 * R + c) + vb * (2 * Q) := by
      rw [Nat.mul_left_comm]; omega
    rw [e]
    exact ⟨by rw [Nat.add_mul_div_left _ _ hvb, Nat.div_eq_of_lt (by omega), Nat.zero_add], by rw [Nat.add_mul_mod_self_left, Nat.mod_eq_of_lt (by omega)]⟩
theorem dig_inc {n v : Nat} : (dig (n + 1) (2 * v)).set 0 (((2 * v) % 4294967296 + 1 : Nat) : Int) = dig (n + 1) (2 * v + 1) := by
  simp only [dig, List.set_cons_zero]
  congr 2
  · omega
  · omega
theorem div_bits_zero {v : Nat} (n : Nat) (h : v < 2 ^ n) : v / 2 ^ n = 0 := Nat.div_eq_of_lt h
end Go.Proofs.YtolkecnhncbkhaaGreat.Pu
