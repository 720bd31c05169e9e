/- The numbers of the functions and types, and what is known of the types. -/
import Derived.Test.YthefflmebkcilaaFV
import Derived.Test.YthefflmebkcilaaProg
set_option linter.unusedVariables false
namespace Go.Proofs.Ythefflmebkcilaa.Fw
open Go
abbrev tInt : TypeId := 3
abbrev tBool : TypeId := 4
abbrev tWs : TypeId := 22
abbrev tU32 : TypeId := 32
abbrev tU64 : TypeId := 45
abbrev tWss : TypeId := 41
def TB : TT := fun t =>
  bif Nat.beq t 3 then ⟨1, 8, [.int .i64 0], .int .i64⟩ else
  bif Nat.beq t 4 then ⟨1, 1, [.bool false], .bool⟩ else
  bif Nat.beq t 22 then ⟨1, 24, [.words []], .sl 32⟩ else
  bif Nat.beq t 32 then ⟨1, 4, [.int .u32 0], .int .u32⟩ else
  bif Nat.beq t 45 then ⟨1, 8, [.int .u64 0], .int .u64⟩ else
  bif Nat.beq t 41 then ⟨1, 24, [.rows 1 []], .sl 22⟩ else
  ⟨0, 0, [], .none⟩
theorem ok_tInt : TOK Try.prog TB 3 ∧ ((TB 3).k.agg = false → (TB 3).sz = 1) ∧ (TB 3).zero.length = (TB 3).sz ∧ (TB 3).zero.all zok = true := ⟨⟨by kernel_rfl, ⟨_, Try.underlying3, rfl⟩⟩, fun h => (by first | rfl | cases h), rfl, rfl⟩
theorem ok_tBool : TOK Try.prog TB 4 ∧ ((TB 4).k.agg = false → (TB 4).sz = 1) ∧ (TB 4).zero.length = (TB 4).sz ∧ (TB 4).zero.all zok = true := ⟨⟨by kernel_rfl, ⟨_, Try.underlying4, rfl⟩⟩, fun h => (by first | rfl | cases h), rfl, rfl⟩
theorem ok_tWs : TOK Try.prog TB 22 ∧ ((TB 22).k.agg = false → (TB 22).sz = 1) ∧ (TB 22).zero.length = (TB 22).sz ∧ (TB 22).zero.all zok = true := ⟨⟨by kernel_rfl, ⟨_, Try.underlying22, rfl⟩⟩, fun h => (by first | rfl | cases h), rfl, rfl⟩
theorem ok_tU32 : TOK Try.prog TB 32 ∧ ((TB 32).k.agg = false → (TB 32).sz = 1) ∧ (TB 32).zero.length = (TB 32).sz ∧ (TB 32).zero.all zok = true := ⟨⟨by kernel_rfl, ⟨_, Try.underlying32, rfl⟩⟩, fun h => (by first | rfl | cases h), rfl, rfl⟩
theorem ok_tU64 : TOK Try.prog TB 45 ∧ ((TB 45).k.agg = false → (TB 45).sz = 1) ∧ (TB 45).zero.length = (TB 45).sz ∧ (TB 45).zero.all zok = true := ⟨⟨by kernel_rfl, ⟨_, Try.underlying45, rfl⟩⟩, fun h => (by first | rfl | cases h), rfl, rfl⟩
theorem ok_tWss : TOK Try.prog TB 41 ∧ ((TB 41).k.agg = false → (TB 41).sz = 1) ∧ (TB 41).zero.length = (TB 41).sz ∧ (TB 41).zero.all zok = true := ⟨⟨by kernel_rfl, ⟨_, Try.underlying41, rfl⟩⟩, fun h => (by first | rfl | cases h), rfl, rfl⟩
theorem hT : TAll Try.prog TB := by
  intro t h
  unfold TB at h
  by_cases e : t = 3
  · subst e; exact ok_tInt
  rw [beq_no e, cond_false] at h
  by_cases e : t = 4
  · subst e; exact ok_tBool
  rw [beq_no e, cond_false] at h
  by_cases e : t = 22
  · subst e; exact ok_tWs
  rw [beq_no e, cond_false] at h
  by_cases e : t = 32
  · subst e; exact ok_tU32
  rw [beq_no e, cond_false] at h
  by_cases e : t = 45
  · subst e; exact ok_tU64
  rw [beq_no e, cond_false] at h
  by_cases e : t = 41
  · subst e; exact ok_tWss
  rw [beq_no e, cond_false] at h
  cases h
theorem hM : Try.prog.follows .mixedOrders = true := by kernel_rfl
abbrev g_retrospectlaw05_QuotDivides : FuncId := 3
noncomputable abbrev f_retrospectlaw05_QuotDivides : Func := Try.f3
theorem p_retrospectlaw05_QuotDivides : Try.prog.funcs[g_retrospectlaw05_QuotDivides]? = some f_retrospectlaw05_QuotDivides := Try.func3
abbrev g_retrospectlaw05_QuotWords : FuncId := 4
noncomputable abbrev f_retrospectlaw05_QuotWords : Func := Try.f4
theorem p_retrospectlaw05_QuotWords : Try.prog.funcs[g_retrospectlaw05_QuotWords]? = some f_retrospectlaw05_QuotWords := Try.func4
abbrev g_retrospectlaw05_QuotBack : FuncId := 5
noncomputable abbrev f_retrospectlaw05_QuotBack : Func := Try.f5
theorem p_retrospectlaw05_QuotBack : Try.prog.funcs[g_retrospectlaw05_QuotBack]? = some f_retrospectlaw05_QuotBack := Try.func5
abbrev g_retrospectlaw06_CommonTells : FuncId := 6
noncomputable abbrev f_retrospectlaw06_CommonTells : Func := Try.f6
theorem p_retrospectlaw06_CommonTells : Try.prog.funcs[g_retrospectlaw06_CommonTells]? = some f_retrospectlaw06_CommonTells := Try.func6
abbrev g_retrospectlaw06_CommonAll : FuncId := 7
noncomputable abbrev f_retrospectlaw06_CommonAll : Func := Try.f7
theorem p_retrospectlaw06_CommonAll : Try.prog.funcs[g_retrospectlaw06_CommonAll]? = some f_retrospectlaw06_CommonAll := Try.func7
abbrev g_retrospectlaw06_CommonBoth : FuncId := 8
noncomputable abbrev f_retrospectlaw06_CommonBoth : Func := Try.f8
theorem p_retrospectlaw06_CommonBoth : Try.prog.funcs[g_retrospectlaw06_CommonBoth]? = some f_retrospectlaw06_CommonBoth := Try.func8
abbrev g_retrospectlaw06_CommonDivides : FuncId := 9
noncomputable abbrev f_retrospectlaw06_CommonDivides : Func := Try.f9
theorem p_retrospectlaw06_CommonDivides : Try.prog.funcs[g_retrospectlaw06_CommonDivides]? = some f_retrospectlaw06_CommonDivides := Try.func9
abbrev g_retrospectlaw05_works : FuncId := 10
noncomputable abbrev f_retrospectlaw05_works : Func := Try.f10
theorem p_retrospectlaw05_works : Try.prog.funcs[g_retrospectlaw05_works]? = some f_retrospectlaw05_works := Try.func10
abbrev g_quot_Div : FuncId := 11
noncomputable abbrev f_quot_Div : Func := Try.f11
theorem p_quot_Div : Try.prog.funcs[g_quot_Div]? = some f_quot_Div := Try.func11
abbrev g_quot_Exact : FuncId := 12
noncomputable abbrev f_quot_Exact : Func := Try.f12
theorem p_quot_Exact : Try.prog.funcs[g_quot_Exact]? = some f_quot_Exact := Try.func12
abbrev g_retrospectref02_Norm : FuncId := 13
noncomputable abbrev f_retrospectref02_Norm : Func := Try.f13
theorem p_retrospectref02_Norm : Try.prog.funcs[g_retrospectref02_Norm]? = some f_retrospectref02_Norm := Try.func13
abbrev g_retrospectref05_Div : FuncId := 14
noncomputable abbrev f_retrospectref05_Div : Func := Try.f14
theorem p_retrospectref05_Div : Try.prog.funcs[g_retrospectref05_Div]? = some f_retrospectref05_Div := Try.func14
abbrev g_retrospectref02_Same : FuncId := 15
noncomputable abbrev f_retrospectref02_Same : Func := Try.f15
theorem p_retrospectref02_Same : Try.prog.funcs[g_retrospectref02_Same]? = some f_retrospectref02_Same := Try.func15
abbrev g_quot_Word : FuncId := 16
noncomputable abbrev f_quot_Word : Func := Try.f16
theorem p_quot_Word : Try.prog.funcs[g_quot_Word]? = some f_quot_Word := Try.func16
abbrev g_nat_Zero : FuncId := 17
noncomputable abbrev f_nat_Zero : Func := Try.f17
theorem p_nat_Zero : Try.prog.funcs[g_nat_Zero]? = some f_nat_Zero := Try.func17
abbrev g_nat_Cmp : FuncId := 18
noncomputable abbrev f_nat_Cmp : Func := Try.f18
theorem p_nat_Cmp : Try.prog.funcs[g_nat_Cmp]? = some f_nat_Cmp := Try.func18
abbrev g_nat_Add : FuncId := 19
noncomputable abbrev f_nat_Add : Func := Try.f19
theorem p_nat_Add : Try.prog.funcs[g_nat_Add]? = some f_nat_Add := Try.func19
abbrev g_prod_Mul : FuncId := 20
noncomputable abbrev f_prod_Mul : Func := Try.f20
theorem p_prod_Mul : Try.prog.funcs[g_prod_Mul]? = some f_prod_Mul := Try.func20
abbrev g_retrospectlaw06_works : FuncId := 21
noncomputable abbrev f_retrospectlaw06_works : Func := Try.f21
theorem p_retrospectlaw06_works : Try.prog.funcs[g_retrospectlaw06_works]? = some f_retrospectlaw06_works := Try.func21
abbrev g_retrospectref06_Gcd : FuncId := 22
noncomputable abbrev f_retrospectref06_Gcd : Func := Try.f22
theorem p_retrospectref06_Gcd : Try.prog.funcs[g_retrospectref06_Gcd]? = some f_retrospectref06_Gcd := Try.func22
abbrev g_common_Cancel : FuncId := 23
noncomputable abbrev f_common_Cancel : Func := Try.f23
theorem p_common_Cancel : Try.prog.funcs[g_common_Cancel]? = some f_common_Cancel := Try.func23
abbrev g_common_Gcd : FuncId := 24
noncomputable abbrev f_common_Gcd : Func := Try.f24
theorem p_common_Gcd : Try.prog.funcs[g_common_Gcd]? = some f_common_Gcd := Try.func24
abbrev g_common_Prime : FuncId := 25
noncomputable abbrev f_common_Prime : Func := Try.f25
theorem p_common_Prime : Try.prog.funcs[g_common_Prime]? = some f_common_Prime := Try.func25
abbrev g_retrospectref06_One : FuncId := 26
noncomputable abbrev f_retrospectref06_One : Func := Try.f26
theorem p_retrospectref06_One : Try.prog.funcs[g_retrospectref06_One]? = some f_retrospectref06_One := Try.func26
abbrev g_common_Lcm : FuncId := 27
noncomputable abbrev f_common_Lcm : Func := Try.f27
theorem p_common_Lcm : Try.prog.funcs[g_common_Lcm]? = some f_common_Lcm := Try.func27
abbrev g_retrospectref06_Lcm : FuncId := 28
noncomputable abbrev f_retrospectref06_Lcm : Func := Try.f28
theorem p_retrospectref06_Lcm : Try.prog.funcs[g_retrospectref06_Lcm]? = some f_retrospectref06_Lcm := Try.func28
abbrev g_retrospectref06_Over : FuncId := 29
noncomputable abbrev f_retrospectref06_Over : Func := Try.f29
theorem p_retrospectref06_Over : Try.prog.funcs[g_retrospectref06_Over]? = some f_retrospectref06_Over := Try.func29
abbrev g_retrospectref02_Long : FuncId := 30
noncomputable abbrev f_retrospectref02_Long : Func := Try.f30
theorem p_retrospectref02_Long : Try.prog.funcs[g_retrospectref02_Long]? = some f_retrospectref02_Long := Try.func30
abbrev g_common_All : FuncId := 31
noncomputable abbrev f_common_All : Func := Try.f31
theorem p_common_All : Try.prog.funcs[g_common_All]? = some f_common_All := Try.func31
abbrev g_nat_Of : FuncId := 32
noncomputable abbrev f_nat_Of : Func := Try.f32
theorem p_nat_Of : Try.prog.funcs[g_nat_Of]? = some f_nat_Of := Try.func32
abbrev g_nat_Norm : FuncId := 33
noncomputable abbrev f_nat_Norm : Func := Try.f33
theorem p_nat_Norm : Try.prog.funcs[g_nat_Norm]? = some f_nat_Norm := Try.func33
abbrev g_limb_Len : FuncId := 34
noncomputable abbrev f_limb_Len : Func := Try.f34
theorem p_limb_Len : Try.prog.funcs[g_limb_Len]? = some f_limb_Len := Try.func34
abbrev g_twos_Up : FuncId := 35
noncomputable abbrev f_twos_Up : Func := Try.f35
theorem p_twos_Up : Try.prog.funcs[g_twos_Up]? = some f_twos_Up := Try.func35
abbrev g_quot_long : FuncId := 36
noncomputable abbrev f_quot_long : Func := Try.f36
theorem p_quot_long : Try.prog.funcs[g_quot_long]? = some f_quot_long := Try.func36
abbrev g_twos_Down : FuncId := 37
noncomputable abbrev f_twos_Down : Func := Try.f37
theorem p_twos_Down : Try.prog.funcs[g_twos_Down]? = some f_twos_Down := Try.func37
abbrev g_retrospectref03_Len : FuncId := 38
noncomputable abbrev f_retrospectref03_Len : Func := Try.f38
theorem p_retrospectref03_Len : Try.prog.funcs[g_retrospectref03_Len]? = some f_retrospectref03_Len := Try.func38
abbrev g_retrospectref05_Double : FuncId := 39
noncomputable abbrev f_retrospectref05_Double : Func := Try.f39
theorem p_retrospectref05_Double : Try.prog.funcs[g_retrospectref05_Double]? = some f_retrospectref05_Double := Try.func39
abbrev g_retrospectref02_Cmp : FuncId := 40
noncomputable abbrev f_retrospectref02_Cmp : Func := Try.f40
theorem p_retrospectref02_Cmp : Try.prog.funcs[g_retrospectref02_Cmp]? = some f_retrospectref02_Cmp := Try.func40
abbrev g_retrospectref05_Less : FuncId := 41
noncomputable abbrev f_retrospectref05_Less : Func := Try.f41
theorem p_retrospectref05_Less : Try.prog.funcs[g_retrospectref05_Less]? = some f_retrospectref05_Less := Try.func41
abbrev g_limb_Div : FuncId := 42
noncomputable abbrev f_limb_Div : Func := Try.f42
theorem p_limb_Div : Try.prog.funcs[g_limb_Div]? = some f_limb_Div := Try.func42
abbrev g_nat_trim : FuncId := 43
noncomputable abbrev f_nat_trim : Func := Try.f43
theorem p_nat_trim : Try.prog.funcs[g_nat_trim]? = some f_nat_trim := Try.func43
abbrev g_nat_plus : FuncId := 44
noncomputable abbrev f_nat_plus : Func := Try.f44
theorem p_nat_plus : Try.prog.funcs[g_nat_plus]? = some f_nat_plus := Try.func44
abbrev g_prod_row : FuncId := 45
noncomputable abbrev f_prod_row : Func := Try.f45
theorem p_prod_row : Try.prog.funcs[g_prod_row]? = some f_prod_row := Try.func45
abbrev g_retrospectref06_odd : FuncId := 46
noncomputable abbrev f_retrospectref06_odd : Func := Try.f46
theorem p_retrospectref06_odd : Try.prog.funcs[g_retrospectref06_odd]? = some f_retrospectref06_odd := Try.func46
abbrev g_retrospectref06_double : FuncId := 47
noncomputable abbrev f_retrospectref06_double : Func := Try.f47
theorem p_retrospectref06_double : Try.prog.funcs[g_retrospectref06_double]? = some f_retrospectref06_double := Try.func47
abbrev g_common_one : FuncId := 48
noncomputable abbrev f_common_one : Func := Try.f48
theorem p_common_one : Try.prog.funcs[g_common_one]? = some f_common_one := Try.func48
abbrev g_nat_Small : FuncId := 49
noncomputable abbrev f_nat_Small : Func := Try.f49
theorem p_nat_Small : Try.prog.funcs[g_nat_Small]? = some f_nat_Small := Try.func49
abbrev g_common_small : FuncId := 50
noncomputable abbrev f_common_small : Func := Try.f50
theorem p_common_small : Try.prog.funcs[g_common_small]? = some f_common_small := Try.func50
abbrev g_retrospectref04_Mul : FuncId := 51
noncomputable abbrev f_retrospectref04_Mul : Func := Try.f51
theorem p_retrospectref04_Mul : Try.prog.funcs[g_retrospectref04_Mul]? = some f_retrospectref04_Mul := Try.func51
abbrev g_nat_fresh : FuncId := 52
noncomputable abbrev f_nat_fresh : Func := Try.f52
theorem p_nat_fresh : Try.prog.funcs[g_nat_fresh]? = some f_nat_fresh := Try.func52
abbrev g_quot_guess : FuncId := 53
noncomputable abbrev f_quot_guess : Func := Try.f53
theorem p_quot_guess : Try.prog.funcs[g_quot_guess]? = some f_quot_guess := Try.func53
abbrev g_quot_take : FuncId := 54
noncomputable abbrev f_quot_take : Func := Try.f54
theorem p_quot_take : Try.prog.funcs[g_quot_take]? = some f_quot_take := Try.func54
abbrev g_quot_give : FuncId := 55
noncomputable abbrev f_quot_give : Func := Try.f55
theorem p_quot_give : Try.prog.funcs[g_quot_give]? = some f_quot_give := Try.func55
abbrev g_retrospectref03_Has : FuncId := 56
noncomputable abbrev f_retrospectref03_Has : Func := Try.f56
theorem p_retrospectref03_Has : Try.prog.funcs[g_retrospectref03_Has]? = some f_retrospectref03_Has := Try.func56
abbrev g_retrospectref02_At : FuncId := 57
noncomputable abbrev f_retrospectref02_At : Func := Try.f57
theorem p_retrospectref02_At : Try.prog.funcs[g_retrospectref02_At]? = some f_retrospectref02_At := Try.func57
abbrev g_limb_Add : FuncId := 58
noncomputable abbrev f_limb_Add : Func := Try.f58
theorem p_limb_Add : Try.prog.funcs[g_limb_Add]? = some f_limb_Add := Try.func58
abbrev g_limb_Mul : FuncId := 59
noncomputable abbrev f_limb_Mul : Func := Try.f59
theorem p_limb_Mul : Try.prog.funcs[g_limb_Mul]? = some f_limb_Mul := Try.func59
abbrev g_retrospectref01_Zeros : FuncId := 60
noncomputable abbrev f_retrospectref01_Zeros : Func := Try.f60
theorem p_retrospectref01_Zeros : Try.prog.funcs[g_retrospectref01_Zeros]? = some f_retrospectref01_Zeros := Try.func60
abbrev g_retrospectref06_down : FuncId := 61
noncomputable abbrev f_retrospectref06_down : Func := Try.f61
theorem p_retrospectref06_down : Try.prog.funcs[g_retrospectref06_down]? = some f_retrospectref06_down := Try.func61
abbrev g_limb_Sub : FuncId := 62
noncomputable abbrev f_limb_Sub : Func := Try.f62
theorem p_limb_Sub : Try.prog.funcs[g_limb_Sub]? = some f_limb_Sub := Try.func62
end Go.Proofs.Ythefflmebkcilaa.Fw
