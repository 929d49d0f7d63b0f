/- Part C of the proof: ZwIr1. Conditions: none. -/
import Derived.Test.YtbdlmjnpglfkoaaDoorProg
import Derived.Test.YtbdlmjnpglfkoaaDoorZpB
set_option linter.unusedSimpArgs false
set_option linter.unusedVariables false
set_option linter.unusedSectionVars false
namespace Go.Proofs.YtbdlmjnpglfkoaaDoor.Zv
/- The functions' intermediate form. -/
section
open Go
def k_slices_Grow_int64_int64 : Nat := 37
def k_math_bits_TrailingZeros64 : Nat := 46
def k_zz30 : Nat := 3
def k_zz65 : Nat := 4
def k_zz48 : Nat := 5
def k_zz66 : Nat := 6
def k_zz46 : Nat := 7
def k_zz64 : Nat := 8
def k_zz58 : Nat := 9
def k_zz72 : Nat := 10
def k_zz61 : Nat := 11
def k_zz59 : Nat := 12
def k_zz55 : Nat := 13
def k_zz63 : Nat := 14
def k_zz57 : Nat := 15
def k_zz71 : Nat := 16
def k_zz69 : Nat := 17
def k_zz67 : Nat := 18
def k_zz70 : Nat := 19
def k_zz62 : Nat := 20
def k_zz39 : Nat := 21
def k_zz40 : Nat := 22
def k_zz68 : Nat := 23
def k_zz31 : Nat := 24
def k_zz36 : Nat := 25
def k_zz26 : Nat := 26
def k_zz34 : Nat := 27
def k_zz43 : Nat := 28
def k_zz45 : Nat := 29
def k_zz47 : Nat := 30
def k_zz73 : Nat := 31
def k_zz54 : Nat := 32
def k_zz22 : Nat := 33
def k_zz35 : Nat := 34
def k_zz56 : Nat := 35
def k_zz32 : Nat := 36
def k_zz25 : Nat := 38
def k_zz60 : Nat := 39
def k_zz74 : Nat := 40
def k_zz7 : Nat := 41
def k_zz37 : Nat := 42
def k_zz27 : Nat := 43
def k_zz33 : Nat := 44
def k_zz38 : Nat := 45
def k_zz12 : Nat := 47
def k_zz23 : Nat := 48
def k_zz11 : Nat := 49
def k_zz17 : Nat := 50
def k_zz15 : Nat := 51
def k_zz1 : Nat := 52
def k_zz53 : Nat := 53
def k_zz10 : Nat := 54
def k_zz21 : Nat := 55
def k_zz51 : Nat := 56
def k_zz52 : Nat := 57
def k_zz41 : Nat := 58
def k_zz18 : Nat := 59
def k_zz49 : Nat := 60
def k_zz24 : Nat := 61
def k_zz42 : Nat := 62
def k_zz44 : Nat := 63
def k_zz9 : Nat := 64
def k_zz28 : Nat := 65
def k_zz50 : Nat := 66
def k_zz5 : Nat := 67
def k_zz14 : Nat := 68
def k_zz4 : Nat := 69
def k_zz8 : Nat := 70
def k_zz6 : Nat := 71
def k_zz0 : Nat := 72
def k_zz3 : Nat := 73
def k_zz13 : Nat := 74
def k_zz29 : Nat := 75
def k_zz16 : Nat := 76
def k_zz2 : Nat := 77
def k_zz19 : Nat := 78
def k_zz20 : Nat := 79
/-- loop.example/g01331/laws.FnExactAreIsomorphic -/
def i_zz30 : FF := ⟨58, [.tmp 4],
 .seq (.ops [
 ⟨some 2, .box 2 (.tmp 0), none, 0⟩,
 ⟨some 3, .box 2 (.tmp 1), none, 0⟩,
 ⟨some 4, .mv (.const (.bool false)), none, 0⟩]) <|
 .seq (.ops [
 ⟨some 5, .mv (.const (.int .i64 1048576)), none, 0⟩]) <|
 .seq (.ops [
 ⟨some 12, .load true 2 (.tmp 2), none, 0⟩,
 ⟨some 13, .mv (.tmp 5), none, 0⟩,
 ⟨some 14, .call k_zz65 [(.tmp 12), (.tmp 13)], none, 0⟩,
 ⟨some 5, .mv (.tmp 14), none, 0⟩]) <|
 .seq (.seq (.ops [
 ⟨some 15, .mv (.tmp 5), none, 0⟩,
 ⟨some 16, .bin .lss (.tmp 15) (.const (.int .i64 0)), none, 0⟩]) <|
 .cond (.tmp 16)
 (.seq (.ops [
 ⟨some 4, .mv (.const (.bool true)), none, 0⟩]) <|
 .keep [4] <|
 .ret)
 (.skip)) <|
 .seq (.ops [
 ⟨some 17, .load true 2 (.tmp 3), none, 0⟩,
 ⟨some 18, .mv (.tmp 5), none, 0⟩,
 ⟨some 19, .call k_zz65 [(.tmp 17), (.tmp 18)], none, 0⟩,
 ⟨some 5, .mv (.tmp 19), none, 0⟩]) <|
 .seq (.seq (.ops [
 ⟨some 20, .mv (.tmp 5), none, 0⟩,
 ⟨some 21, .bin .lss (.tmp 20) (.const (.int .i64 0)), none, 0⟩]) <|
 .cond (.tmp 21)
 (.seq (.ops [
 ⟨some 4, .mv (.const (.bool true)), none, 0⟩]) <|
 .keep [4] <|
 .ret)
 (.skip)) <|
 .seq (.dops [
 ⟨some 23, .load true 2 (.tmp 2), none, 0⟩,
 ⟨some 24, .call k_zz66 [(.tmp 23)], none, 0⟩,
 ⟨some 25, .load true 2 (.tmp 3), none, 1⟩,
 ⟨some 26, .call k_zz66 [(.tmp 25)], none, 0⟩,
 ⟨some 27, .call k_zz48 [(.tmp 24), (.tmp 26)], none, 0⟩,
 ⟨some 22, .mv (.tmp 27), none, 0⟩,
 ⟨some 28, .ext (.tmp 22) 0, none, 0⟩,
 ⟨some 29, .ext (.tmp 22) 1, none, 0⟩,
 ⟨some 6, .mv (.tmp 28), none, 0⟩,
 ⟨some 7, .mv (.tmp 29), none, 0⟩]) <|
 .seq (.ops [
 ⟨some 30, .load true 2 (.tmp 2), none, 0⟩,
 ⟨some 31, .call k_zz66 [(.tmp 30)], none, 0⟩,
 ⟨some 8, .alloc [.int .i64 0, .slice none 0 0], none, 0⟩,
 ⟨none, .store 2 (.tmp 8) (.tmp 31), none, 0⟩]) <|
 .seq (.ops [
 ⟨some 32, .load true 2 (.tmp 3), none, 0⟩,
 ⟨some 33, .call k_zz66 [(.tmp 32)], none, 0⟩,
 ⟨some 9, .alloc [.int .i64 0, .slice none 0 0], none, 0⟩,
 ⟨none, .store 2 (.tmp 9) (.tmp 33), none, 0⟩]) <|
 .seq (.ops [
 ⟨some 35, .load true 2 (.tmp 8), none, 0⟩,
 ⟨some 36, .load true 2 (.tmp 9), none, 0⟩,
 ⟨some 37, .call k_zz46 [(.tmp 35), (.tmp 36)], none, 0⟩,
 ⟨some 34, .mv (.tmp 37), none, 0⟩,
 ⟨some 38, .ext (.tmp 34) 0, none, 0⟩,
 ⟨some 39, .ext (.tmp 34) 1, none, 0⟩,
 ⟨some 10, .mv (.tmp 38), none, 0⟩,
 ⟨some 11, .mv (.tmp 39), none, 0⟩]) <|
 .seq (.seq (.ops [
 ⟨some 40, .mv (.tmp 10), none, 0⟩,
 ⟨some 41, .mv (.tmp 6), none, 0⟩,
 ⟨some 42, .beq true (.tmp 40) (.tmp 41), none, 0⟩,
 ⟨some 43, .mv (.tmp 42), none, 0⟩,
 ⟨some 44, .mv (.tmp 11), some (43, false), 0⟩,
 ⟨some 45, .mv (.tmp 7), some (43, false), 0⟩,
 ⟨some 46, .bin .neq (.tmp 44) (.tmp 45), some (43, false), 0⟩,
 ⟨some 47, .pick (.tmp 43) (.const (.bool true)) (.tmp 46), none, 0⟩]) <|
 .cond (.tmp 47)
 (.seq (.ops [
 ⟨some 4, .mv (.const (.bool false)), none, 0⟩]) <|
 .keep [4] <|
 .ret)
 (.skip)) <|
 .seq (.seq (.dops [
 ⟨some 49, .load true 2 (.tmp 2), none, 0⟩,
 ⟨some 50, .call k_zz66 [(.tmp 49)], none, 0⟩,
 ⟨some 48, .load true 2 (.tmp 8), none, 1⟩,
 ⟨some 51, .call k_zz64 [(.tmp 48), (.tmp 50)], none, 0⟩,
 ⟨some 52, .un .not (.tmp 51), none, 0⟩]) <|
 .cond (.tmp 52)
 (.seq (.ops [
 ⟨some 4, .mv (.const (.bool false)), none, 0⟩]) <|
 .keep [4] <|
 .ret)
 (.skip)) <|
 .seq (.seq (.dops [
 ⟨some 54, .load true 2 (.tmp 3), none, 0⟩,
 ⟨some 55, .call k_zz66 [(.tmp 54)], none, 0⟩,
 ⟨some 53, .load true 2 (.tmp 9), none, 1⟩,
 ⟨some 56, .call k_zz64 [(.tmp 53), (.tmp 55)], none, 0⟩,
 ⟨some 57, .un .not (.tmp 56), none, 0⟩]) <|
 .cond (.tmp 57)
 (.seq (.ops [
 ⟨some 4, .mv (.const (.bool false)), none, 0⟩]) <|
 .keep [4] <|
 .ret)
 (.skip)) <|
 .seq (.ops [
 ⟨some 4, .mv (.const (.bool true)), none, 0⟩]) <|
 .keep [4] <|
 .ret⟩
theorem e_zz30 : EntOK Tryd.prog (compD Tryd.prog) k_zz30 i_zz30.vf :=
 ⟨Tryd.f3, Tryd.f3.body.getD .skip, Tryd.func3, by kernel_rfl, by kernel_rfl, by kernel_rfl, by kernel_rfl, by kernel_rfl⟩
/-- loop.example/g01331/laws.szGraph -/
def i_zz65 : FF := ⟨12, [.tmp 4],
 .seq (.ops [
 ⟨some 2, .box 2 (.tmp 0), none, 0⟩,
 ⟨some 4, .mv (.const (.int .i64 0)), none, 0⟩]) <|
 .seq (.ops [
 ⟨some 5, .fld 1 (.tmp 2), none, 0⟩,
 ⟨some 6, .load false 1 (.tmp 5), none, 0⟩,
 ⟨some 7, .mv (.tmp 1), none, 0⟩,
 ⟨some 8, .call k_zz58 [(.tmp 6), (.tmp 7)], none, 0⟩,
 ⟨some 1, .mv (.tmp 8), none, 0⟩]) <|
 .seq (.seq (.ops [
 ⟨some 9, .mv (.tmp 1), none, 0⟩,
 ⟨some 10, .bin .lss (.tmp 9) (.const (.int .i64 0)), none, 0⟩]) <|
 .cond (.tmp 10)
 (.seq (.ops [
 ⟨some 4, .mv (.const (.int .i64 (-1))), none, 0⟩]) <|
 .keep [4] <|
 .ret)
 (.skip)) <|
 .seq (.ops [
 ⟨some 11, .mv (.tmp 1), none, 0⟩,
 ⟨some 4, .mv (.tmp 11), none, 0⟩]) <|
 .keep [4] <|
 .ret⟩
theorem e_zz65 : EntOK Tryd.prog (compD Tryd.prog) k_zz65 i_zz65.vf :=
 ⟨Tryd.f4, Tryd.f4.body.getD .skip, Tryd.func4, by kernel_rfl, by kernel_rfl, by kernel_rfl, by kernel_rfl, by kernel_rfl⟩
/-- loop.example/g01331/spec.AreIsomorphic -/
def i_zz48 : FF := ⟨28, [.tmp 4, .tmp 5],
 .seq (.ops [
 ⟨some 2, .box 2 (.tmp 0), none, 0⟩,
 ⟨some 3, .box 2 (.tmp 1), none, 0⟩,
 ⟨some 4, .mv (.const (.bool false)), none, 0⟩,
 ⟨some 5, .mv (.const (.int .i64 0)), none, 0⟩]) <|
 .seq (.seq (.ops [
 ⟨some 6, .load true 2 (.tmp 2), none, 0⟩,
 ⟨some 7, .call k_zz72 [(.tmp 6)], none, 0⟩,
 ⟨some 8, .un .not (.tmp 7), none, 0⟩,
 ⟨some 9, .mv (.tmp 8), none, 0⟩,
 ⟨some 10, .load true 2 (.tmp 3), some (9, false), 0⟩,
 ⟨some 11, .call k_zz72 [(.tmp 10)], some (9, false), 0⟩,
 ⟨some 12, .un .not (.tmp 11), some (9, false), 0⟩,
 ⟨some 13, .pick (.tmp 9) (.const (.bool true)) (.tmp 12), none, 0⟩]) <|
 .cond (.tmp 13)
 (.seq (.ops [
 ⟨some 4, .mv (.const (.bool false)), none, 0⟩,
 ⟨some 5, .mv (.const (.int .i64 1)), none, 0⟩]) <|
 .keep [4, 5] <|
 .ret)
 (.skip)) <|
 .seq (.dops [
 ⟨some 14, .fld 0 (.tmp 2), none, 0⟩,
 ⟨some 15, .load false 1 (.tmp 14), none, 0⟩,
 ⟨some 16, .fld 0 (.tmp 3), none, 0⟩,
 ⟨some 17, .load false 1 (.tmp 16), none, 0⟩,
 ⟨some 18, .bin .eql (.tmp 15) (.tmp 17), none, 0⟩,
 ⟨some 19, .mv (.tmp 18), none, 0⟩,
 ⟨some 22, .fld 0 (.tmp 2), some (19, true), 0⟩,
 ⟨some 23, .load false 1 (.tmp 22), some (19, true), 0⟩,
 ⟨some 24, .bin .mul (.const (.int .i64 2)) (.tmp 23), some (19, true), 0⟩,
 ⟨some 25, .mkSl 1 [.int .i64 0] 8 (.tmp 24) (.tmp 24), some (19, true), 0⟩,
 ⟨some 20, .load true 2 (.tmp 2), some (19, true), 1⟩,
 ⟨some 21, .load true 2 (.tmp 3), some (19, true), 1⟩,
 ⟨some 26, .call k_zz61 [(.tmp 20), (.tmp 21), (.tmp 25)], some (19, true), 0⟩,
 ⟨some 27, .pick (.tmp 19) (.tmp 26) (.const (.bool false)), none, 0⟩,
 ⟨some 4, .mv (.tmp 27), none, 0⟩,
 ⟨some 5, .mv (.const (.int .i64 0)), none, 0⟩]) <|
 .keep [4, 5] <|
 .ret⟩
theorem e_zz48 : EntOK Tryd.prog (compD Tryd.prog) k_zz48 i_zz48.vf :=
 ⟨Tryd.f5, Tryd.f5.body.getD .skip, Tryd.func5, by kernel_rfl, by kernel_rfl, by kernel_rfl, by kernel_rfl, by kernel_rfl⟩
/-- loop.example/g01331/laws.toGraph -/
def i_zz66 : FF := ⟨12, [.cell 2 true 2],
 .seq (.ops [
 ⟨some 1, .box 2 (.tmp 0), none, 0⟩,
 ⟨some 2, .alloc [.int .i64 0, .slice none 0 0], none, 0⟩]) <|
 .seq (.ops [
 ⟨some 3, .alloc [.int .i64 0, .slice none 0 0], none, 0⟩]) <|
 .seq (.ops [
 ⟨some 4, .fld 0 (.tmp 1), none, 0⟩,
 ⟨some 5, .load false 1 (.tmp 4), none, 0⟩,
 ⟨some 6, .fld 0 (.tmp 3), none, 0⟩,
 ⟨none, .store 1 (.tmp 6) (.tmp 5), none, 0⟩]) <|
 .seq (.ops [
 ⟨some 7, .fld 1 (.tmp 1), none, 0⟩,
 ⟨some 8, .load false 1 (.tmp 7), none, 0⟩,
 ⟨some 9, .call k_zz59 [(.tmp 8)], none, 0⟩,
 ⟨some 10, .fld 1 (.tmp 3), none, 0⟩,
 ⟨none, .store 1 (.tmp 10) (.tmp 9), none, 0⟩]) <|
 .seq (.ops [
 ⟨some 11, .load true 2 (.tmp 3), none, 0⟩,
 ⟨none, .store 2 (.tmp 2) (.tmp 11), none, 0⟩]) <|
 .keep [2] <|
 .ret⟩
theorem e_zz66 : EntOK Tryd.prog (compD Tryd.prog) k_zz66 i_zz66.vf :=
 ⟨Tryd.f6, Tryd.f6.body.getD .skip, Tryd.func6, by kernel_rfl, by kernel_rfl, by kernel_rfl, by kernel_rfl, by kernel_rfl⟩
/-- loop.example/g01331/impl.AreIsomorphic -/
def i_zz46 : FF := ⟨15, [.tmp 4, .tmp 5],
 .seq (.ops [
 ⟨some 2, .box 2 (.tmp 0), none, 0⟩,
 ⟨some 3, .box 2 (.tmp 1), none, 0⟩,
 ⟨some 4, .mv (.const (.bool false)), none, 0⟩,
 ⟨some 5, .mv (.const (.int .i64 0)), none, 0⟩]) <|
 .seq (.seq (.ops [
 ⟨some 6, .load true 2 (.tmp 2), none, 0⟩,
 ⟨some 7, .load true 2 (.tmp 3), none, 0⟩,
 ⟨some 8, .buildSl 2 [.int .i64 0, .slice none 0 0, .int .i64 0, .slice none 0 0] [(0, 2, (.tmp 6)), (2, 2, (.tmp 7))] 2, none, 0⟩,
 ⟨some 9, .call k_zz55 [(.tmp 8)], none, 0⟩,
 ⟨some 10, .un .not (.tmp 9), none, 0⟩]) <|
 .cond (.tmp 10)
 (.seq (.ops [
 ⟨some 4, .mv (.const (.bool false)), none, 0⟩,
 ⟨some 5, .mv (.const (.int .i64 1)), none, 0⟩]) <|
 .keep [4, 5] <|
 .ret)
 (.skip)) <|
 .seq (.ops [
 ⟨some 11, .load true 2 (.tmp 2), none, 0⟩,
 ⟨some 12, .load true 2 (.tmp 3), none, 0⟩,
 ⟨some 13, .call k_zz63 [(.tmp 11), (.tmp 12), (.const (.slice none 0 0)), (.const (.slice none 0 0))], none, 0⟩,
 ⟨some 14, .eqnilS true (.tmp 13), none, 0⟩,
 ⟨some 4, .mv (.tmp 14), none, 0⟩,
 ⟨some 5, .mv (.const (.int .i64 0)), none, 0⟩]) <|
 .keep [4, 5] <|
 .ret⟩
theorem e_zz46 : EntOK Tryd.prog (compD Tryd.prog) k_zz46 i_zz46.vf :=
 ⟨Tryd.f7, Tryd.f7.body.getD .skip, Tryd.func7, by kernel_rfl, by kernel_rfl, by kernel_rfl, by kernel_rfl, by kernel_rfl⟩
/-- loop.example/g01331/laws.eqGraph -/
def i_zz64 : FF := ⟨16, [.tmp 4],
 .seq (.ops [
 ⟨some 2, .box 2 (.tmp 0), none, 0⟩,
 ⟨some 3, .box 2 (.tmp 1), none, 0⟩,
 ⟨some 4, .mv (.const (.bool false)), none, 0⟩]) <|
 .seq (.seq (.ops [
 ⟨some 5, .fld 0 (.tmp 2), none, 0⟩,
 ⟨some 6, .load false 1 (.tmp 5), none, 0⟩,
 ⟨some 7, .fld 0 (.tmp 3), none, 0⟩,
 ⟨some 8, .load false 1 (.tmp 7), none, 0⟩,
 ⟨some 9, .bin .neq (.tmp 6) (.tmp 8), none, 0⟩]) <|
 .cond (.tmp 9)
 (.seq (.ops [
 ⟨some 4, .mv (.const (.bool false)), none, 0⟩]) <|
 .keep [4] <|
 .ret)
 (.skip)) <|
 .seq (.seq (.ops [
 ⟨some 10, .fld 1 (.tmp 2), none, 0⟩,
 ⟨some 11, .load false 1 (.tmp 10), none, 0⟩,
 ⟨some 12, .fld 1 (.tmp 3), none, 0⟩,
 ⟨some 13, .load false 1 (.tmp 12), none, 0⟩,
 ⟨some 14, .call k_zz57 [(.tmp 11), (.tmp 13)], none, 0⟩,
 ⟨some 15, .un .not (.tmp 14), none, 0⟩]) <|
 .cond (.tmp 15)
 (.seq (.ops [
 ⟨some 4, .mv (.const (.bool false)), none, 0⟩]) <|
 .keep [4] <|
 .ret)
 (.skip)) <|
 .seq (.ops [
 ⟨some 4, .mv (.const (.bool true)), none, 0⟩]) <|
 .keep [4] <|
 .ret⟩
theorem e_zz64 : EntOK Tryd.prog (compD Tryd.prog) k_zz64 i_zz64.vf :=
 ⟨Tryd.f8, Tryd.f8.body.getD .skip, Tryd.func8, by kernel_rfl, by kernel_rfl, by kernel_rfl, by kernel_rfl, by kernel_rfl⟩
/-- loop.example/g01331/laws.szInt64S -/
def i_zz58 : FF := ⟨12, [.tmp 4],
 .seq (.ops [
 ⟨some 4, .mv (.const (.int .i64 0)), none, 0⟩]) <|
 .seq (.ops [
 ⟨some 5, .mv (.tmp 1), none, 0⟩,
 ⟨some 6, .mv (.tmp 0), none, 0⟩,
 ⟨some 7, .len (.tmp 6), none, 0⟩,
 ⟨some 8, .bin .sub (.tmp 5) (.tmp 7), none, 0⟩,
 ⟨some 1, .mv (.tmp 8), none, 0⟩]) <|
 .seq (.seq (.ops [
 ⟨some 9, .mv (.tmp 1), none, 0⟩,
 ⟨some 10, .bin .lss (.tmp 9) (.const (.int .i64 0)), none, 0⟩]) <|
 .cond (.tmp 10)
 (.seq (.ops [
 ⟨some 4, .mv (.const (.int .i64 (-1))), none, 0⟩]) <|
 .keep [4] <|
 .ret)
 (.skip)) <|
 .seq (.ops [
 ⟨some 11, .mv (.tmp 1), none, 0⟩,
 ⟨some 4, .mv (.tmp 11), none, 0⟩]) <|
 .keep [4] <|
 .ret⟩
theorem e_zz58 : EntOK Tryd.prog (compD Tryd.prog) k_zz58 i_zz58.vf :=
 ⟨Tryd.f9, Tryd.f9.body.getD .skip, Tryd.func9, by kernel_rfl, by kernel_rfl, by kernel_rfl, by kernel_rfl, by kernel_rfl⟩
/-- loop.example/g01331/spec.l01Is -/
def i_zz72_B1 : FC :=
 .seq (.seq (.ops [
 ⟨some 18, .mv (.tmp 3), none, 0⟩,
 ⟨some 19, .fld 0 (.tmp 1), none, 0⟩,
 ⟨some 20, .load false 1 (.tmp 19), none, 0⟩,
 ⟨some 21, .bin .lss (.tmp 18) (.tmp 20), none, 0⟩]) <|
 .cond (.tmp 21)
 (.skip)
 (.keep [1] <|
 .exit 0)) <|
 .seq (.block 1 <|
 .seq (.dops [
 ⟨some 24, .fld 1 (.tmp 1), none, 0⟩,
 ⟨some 25, .load false 1 (.tmp 24), none, 0⟩,
 ⟨some 26, .mv (.tmp 3), none, 0⟩,
 ⟨some 27, .idx 1 (.tmp 25) (.tmp 26), none, 0⟩,
 ⟨some 28, .load false 1 (.tmp 27), none, 0⟩,
 ⟨some 29, .fld 0 (.tmp 1), none, 0⟩,
 ⟨some 30, .load false 1 (.tmp 29), none, 0⟩,
 ⟨some 31, .conv .u64 (.tmp 30), none, 0⟩,
 ⟨some 32, .bin .shl (.const (.int .i64 1)) (.tmp 31), none, 0⟩,
 ⟨some 33, .bin .sub (.tmp 32) (.const (.int .i64 1)), none, 0⟩,
 ⟨some 34, .call k_zz71 [(.tmp 28), (.const (.int .i64 0)), (.tmp 33)], none, 0⟩,
 ⟨some 35, .un .not (.tmp 34), none, 0⟩,
 ⟨some 36, .mv (.tmp 35), none, 0⟩,
 ⟨some 37, .load true 2 (.tmp 1), some (36, false), 0⟩,
 ⟨some 38, .mv (.tmp 3), some (36, false), 0⟩,
 ⟨some 39, .mv (.tmp 3), some (36, false), 0⟩,
 ⟨some 40, .call k_zz69 [(.tmp 37), (.tmp 38), (.tmp 39)], some (36, false), 0⟩,
 ⟨some 41, .pick (.tmp 36) (.const (.bool true)) (.tmp 40), none, 0⟩]) <|
 .cond (.tmp 41)
 (.seq (.ops [
 ⟨some 2, .mv (.const (.bool false)), none, 0⟩]) <|
 .keep [2] <|
 .ret)
 (.skip)) <|
 .ops [
 ⟨some 22, .mv (.tmp 3), none, 0⟩,
 ⟨some 23, .bin .add (.tmp 22) (.const (.int .i64 1)), none, 0⟩,
 ⟨some 3, .mv (.tmp 23), none, 0⟩]
def i_zz72_B2 : FC :=
 .seq (.seq (.ops [
 ⟨some 48, .mv (.tmp 5), none, 0⟩,
 ⟨some 49, .mv (.tmp 4), none, 0⟩,
 ⟨some 50, .bin .lss (.tmp 48) (.tmp 49), none, 0⟩]) <|
 .cond (.tmp 50)
 (.skip)
 (.keep [1, 4] <|
 .exit 4)) <|
 .seq (.block 5 <|
 .seq (.dops [
 ⟨some 53, .load true 2 (.tmp 1), none, 0⟩,
 ⟨some 54, .mv (.tmp 4), none, 0⟩,
 ⟨some 55, .mv (.tmp 5), none, 0⟩,
 ⟨some 56, .call k_zz69 [(.tmp 53), (.tmp 54), (.tmp 55)], none, 0⟩,
 ⟨some 57, .load true 2 (.tmp 1), none, 1⟩,
 ⟨some 58, .mv (.tmp 5), none, 1⟩,
 ⟨some 59, .mv (.tmp 4), none, 1⟩,
 ⟨some 60, .call k_zz69 [(.tmp 57), (.tmp 58), (.tmp 59)], none, 0⟩,
 ⟨some 61, .beq true (.tmp 56) (.tmp 60), none, 0⟩]) <|
 .cond (.tmp 61)
 (.seq (.ops [
 ⟨some 2, .mv (.const (.bool false)), none, 0⟩]) <|
 .keep [2] <|
 .ret)
 (.skip)) <|
 .ops [
 ⟨some 51, .mv (.tmp 5), none, 0⟩,
 ⟨some 52, .bin .add (.tmp 51) (.const (.int .i64 1)), none, 0⟩,
 ⟨some 5, .mv (.tmp 52), none, 0⟩]
def i_zz72_B3 : FC :=
 .seq (.seq (.ops [
 ⟨some 42, .mv (.tmp 4), none, 0⟩,
 ⟨some 43, .fld 0 (.tmp 1), none, 0⟩,
 ⟨some 44, .load false 1 (.tmp 43), none, 0⟩,
 ⟨some 45, .bin .lss (.tmp 42) (.tmp 44), none, 0⟩]) <|
 .cond (.tmp 45)
 (.skip)
 (.keep [] <|
 .exit 2)) <|
 .seq (.block 3 <|
 .seq (.ops [
 ⟨some 5, .mv (.const (.int .i64 0)), none, 0⟩]) <|
 .block 4 <|
 .loop [1, 4, 5] i_zz72_B2) <|
 .ops [
 ⟨some 46, .mv (.tmp 4), none, 0⟩,
 ⟨some 47, .bin .add (.tmp 46) (.const (.int .i64 1)), none, 0⟩,
 ⟨some 4, .mv (.tmp 47), none, 0⟩]
def i_zz72 : FF := ⟨62, [.tmp 2],
 .seq (.ops [
 ⟨some 1, .box 2 (.tmp 0), none, 0⟩,
 ⟨some 2, .mv (.const (.bool false)), none, 0⟩]) <|
 .seq (.seq (.ops [
 ⟨some 6, .fld 0 (.tmp 1), none, 0⟩,
 ⟨some 7, .load false 1 (.tmp 6), none, 0⟩,
 ⟨some 8, .call k_zz71 [(.tmp 7), (.const (.int .i64 1)), (.const (.int .i64 62))], none, 0⟩,
 ⟨some 9, .un .not (.tmp 8), none, 0⟩,
 ⟨some 10, .mv (.tmp 9), none, 0⟩,
 ⟨some 11, .fld 1 (.tmp 1), some (10, false), 0⟩,
 ⟨some 12, .load false 1 (.tmp 11), some (10, false), 0⟩,
 ⟨some 13, .len (.tmp 12), some (10, false), 0⟩,
 ⟨some 14, .fld 0 (.tmp 1), some (10, false), 0⟩,
 ⟨some 15, .load false 1 (.tmp 14), some (10, false), 0⟩,
 ⟨some 16, .bin .neq (.tmp 13) (.tmp 15), some (10, false), 0⟩,
 ⟨some 17, .pick (.tmp 10) (.const (.bool true)) (.tmp 16), none, 0⟩]) <|
 .cond (.tmp 17)
 (.seq (.ops [
 ⟨some 2, .mv (.const (.bool false)), none, 0⟩]) <|
 .keep [2] <|
 .ret)
 (.skip)) <|
 .seq (.seq (.ops [
 ⟨some 3, .mv (.const (.int .i64 0)), none, 0⟩]) <|
 .block 0 <|
 .loop [1, 3] i_zz72_B1) <|
 .seq (.seq (.ops [
 ⟨some 4, .mv (.const (.int .i64 0)), none, 0⟩]) <|
 .block 2 <|
 .loop [1, 4] i_zz72_B3) <|
 .seq (.ops [
 ⟨some 2, .mv (.const (.bool true)), none, 0⟩]) <|
 .keep [2] <|
 .ret⟩
theorem e_zz72 : EntOK Tryd.prog (compD Tryd.prog) k_zz72 i_zz72.vf :=
 ⟨Tryd.f10, Tryd.f10.body.getD .skip, Tryd.func10, by kernel_rfl, by kernel_rfl, by kernel_rfl, by kernel_rfl, by kernel_rfl⟩
/-- loop.example/g01331/spec.l10Leads -/
def i_zz61_B1 : FC :=
 .seq (.seq (.ops [
 ⟨some 33, .mv (.tmp 11), none, 0⟩,
 ⟨some 34, .mv (.tmp 7), none, 0⟩,
 ⟨some 35, .bin .lss (.tmp 33) (.tmp 34), none, 0⟩]) <|
 .cond (.tmp 35)
 (.skip)
 (.keep [2, 3, 4, 7, 9, 10] <|
 .exit 0)) <|
 .seq (.block 1 <|
 .ops [
 ⟨some 38, .mv (.tmp 9), none, 0⟩,
 ⟨some 39, .mv (.tmp 2), none, 0⟩,
 ⟨some 40, .mv (.tmp 11), none, 0⟩,
 ⟨some 41, .idx 1 (.tmp 39) (.tmp 40), none, 0⟩,
 ⟨some 42, .load false 1 (.tmp 41), none, 0⟩,
 ⟨some 43, .idx 1 (.tmp 38) (.tmp 42), none, 0⟩,
 ⟨some 44, .load false 1 (.tmp 43), none, 0⟩,
 ⟨some 45, .bin .add (.tmp 44) (.const (.int .i64 1)), none, 0⟩,
 ⟨some 46, .idx 1 (.tmp 38) (.tmp 42), none, 0⟩,
 ⟨none, .store 1 (.tmp 46) (.tmp 45), none, 0⟩]) <|
 .ops [
 ⟨some 36, .mv (.tmp 11), none, 0⟩,
 ⟨some 37, .bin .add (.tmp 36) (.const (.int .i64 1)), none, 0⟩,
 ⟨some 11, .mv (.tmp 37), none, 0⟩]
def i_zz61_B2 : FC :=
 .seq (.seq (.ops [
 ⟨some 47, .mv (.tmp 10), none, 0⟩,
 ⟨some 48, .mv (.tmp 7), none, 0⟩,
 ⟨some 49, .bin .lss (.tmp 47) (.tmp 48), none, 0⟩,
 ⟨some 50, .mv (.tmp 49), none, 0⟩,
 ⟨some 51, .mv (.tmp 9), some (50, true), 0⟩,
 ⟨some 52, .mv (.tmp 2), some (50, true), 0⟩,
 ⟨some 53, .mv (.tmp 10), some (50, true), 0⟩,
 ⟨some 54, .idx 1 (.tmp 52) (.tmp 53), some (50, true), 0⟩,
 ⟨some 55, .load false 1 (.tmp 54), some (50, true), 0⟩,
 ⟨some 56, .idx 1 (.tmp 51) (.tmp 55), some (50, true), 0⟩,
 ⟨some 57, .load false 1 (.tmp 56), some (50, true), 0⟩,
 ⟨some 58, .bin .eql (.tmp 57) (.const (.int .i64 1)), some (50, true), 0⟩,
 ⟨some 59, .pick (.tmp 50) (.tmp 58) (.const (.bool false)), none, 0⟩]) <|
 .cond (.tmp 59)
 (.skip)
 (.keep [2, 3, 4, 7, 10] <|
 .exit 2)) <|
 .block 3 <|
 .ops [
 ⟨some 60, .mv (.tmp 10), none, 0⟩,
 ⟨some 61, .bin .add (.tmp 60) (.const (.int .i64 1)), none, 0⟩,
 ⟨some 10, .mv (.tmp 61), none, 0⟩]
def i_zz61_B3 : FC :=
 .seq (.seq (.ops [
 ⟨some 72, .mv (.tmp 14), none, 0⟩,
 ⟨some 73, .mv (.tmp 7), none, 0⟩,
 ⟨some 74, .bin .lss (.tmp 72) (.tmp 73), none, 0⟩]) <|
 .cond (.tmp 74)
 (.skip)
 (.keep [2, 3, 4, 7, 12, 13] <|
 .exit 6)) <|
 .seq (.block 7 <|
 .seq (.dops [
 ⟨some 77, .mv (.tmp 2), none, 0⟩,
 ⟨some 78, .mv (.tmp 7), none, 0⟩,
 ⟨some 79, .mv (.tmp 14), none, 0⟩,
 ⟨some 80, .bin .add (.tmp 78) (.tmp 79), none, 0⟩,
 ⟨some 81, .idx 1 (.tmp 77) (.tmp 80), none, 0⟩,
 ⟨some 82, .load false 1 (.tmp 81), none, 0⟩,
 ⟨some 83, .mv (.tmp 2), none, 0⟩,
 ⟨some 84, .mv (.tmp 13), none, 0⟩,
 ⟨some 85, .idx 1 (.tmp 83) (.tmp 84), none, 0⟩,
 ⟨some 86, .load false 1 (.tmp 85), none, 0⟩,
 ⟨some 87, .bin .eql (.tmp 82) (.tmp 86), none, 0⟩]) <|
 .cond (.tmp 87)
 (.ops [
 ⟨some 88, .mv (.tmp 12), none, 0⟩,
 ⟨some 89, .mv (.tmp 13), none, 0⟩,
 ⟨some 90, .mv (.tmp 14), none, 0⟩,
 ⟨some 91, .idx 1 (.tmp 88) (.tmp 89), none, 0⟩,
 ⟨none, .store 1 (.tmp 91) (.tmp 90), none, 0⟩])
 (.skip)) <|
 .ops [
 ⟨some 75, .mv (.tmp 14), none, 0⟩,
 ⟨some 76, .bin .add (.tmp 75) (.const (.int .i64 1)), none, 0⟩,
 ⟨some 14, .mv (.tmp 76), none, 0⟩]
def i_zz61_B4 : FC :=
 .seq (.seq (.ops [
 ⟨some 67, .mv (.tmp 13), none, 0⟩,
 ⟨some 68, .mv (.tmp 7), none, 0⟩,
 ⟨some 69, .bin .lss (.tmp 67) (.tmp 68), none, 0⟩]) <|
 .cond (.tmp 69)
 (.skip)
 (.keep [3, 4, 7, 12] <|
 .exit 4)) <|
 .seq (.block 5 <|
 .seq (.ops [
 ⟨some 14, .mv (.const (.int .i64 0)), none, 0⟩]) <|
 .block 6 <|
 .loop [2, 3, 4, 7, 12, 13, 14] i_zz61_B3) <|
 .ops [
 ⟨some 70, .mv (.tmp 13), none, 0⟩,
 ⟨some 71, .bin .add (.tmp 70) (.const (.int .i64 1)), none, 0⟩,
 ⟨some 13, .mv (.tmp 71), none, 0⟩]
def i_zz61_B5 : FC :=
 .seq (.seq (.ops [
 ⟨some 97, .mv (.tmp 16), none, 0⟩,
 ⟨some 98, .mv (.tmp 7), none, 0⟩,
 ⟨some 99, .bin .lss (.tmp 97) (.tmp 98), none, 0⟩]) <|
 .cond (.tmp 99)
 (.skip)
 (.keep [3, 4, 7, 12, 15] <|
 .exit 10)) <|
 .seq (.block 11 <|
 .seq (.dops [
 ⟨some 102, .fld 1 (.tmp 3), none, 0⟩,
 ⟨some 103, .load false 1 (.tmp 102), none, 0⟩,
 ⟨some 104, .mv (.tmp 15), none, 0⟩,
 ⟨some 105, .idx 1 (.tmp 103) (.tmp 104), none, 0⟩,
 ⟨some 106, .load false 1 (.tmp 105), none, 0⟩,
 ⟨some 107, .mv (.tmp 16), none, 0⟩,
 ⟨some 108, .conv .u64 (.tmp 107), none, 0⟩,
 ⟨some 109, .bin .shr (.tmp 106) (.tmp 108), none, 0⟩,
 ⟨some 110, .bin .and (.tmp 109) (.const (.int .i64 1)), none, 0⟩,
 ⟨some 111, .fld 1 (.tmp 4), none, 0⟩,
 ⟨some 112, .load false 1 (.tmp 111), none, 0⟩,
 ⟨some 113, .mv (.tmp 12), none, 0⟩,
 ⟨some 114, .mv (.tmp 15), none, 0⟩,
 ⟨some 115, .idx 1 (.tmp 113) (.tmp 114), none, 0⟩,
 ⟨some 116, .load false 1 (.tmp 115), none, 0⟩,
 ⟨some 117, .idx 1 (.tmp 112) (.tmp 116), none, 0⟩,
 ⟨some 118, .load false 1 (.tmp 117), none, 0⟩,
 ⟨some 119, .mv (.tmp 12), none, 0⟩,
 ⟨some 120, .mv (.tmp 16), none, 0⟩,
 ⟨some 121, .idx 1 (.tmp 119) (.tmp 120), none, 0⟩,
 ⟨some 122, .load false 1 (.tmp 121), none, 0⟩,
 ⟨some 123, .conv .u64 (.tmp 122), none, 0⟩,
 ⟨some 124, .bin .shr (.tmp 118) (.tmp 123), none, 0⟩,
 ⟨some 125, .bin .and (.tmp 124) (.const (.int .i64 1)), none, 0⟩,
 ⟨some 126, .bin .neq (.tmp 110) (.tmp 125), none, 0⟩]) <|
 .cond (.tmp 126)
 (.seq (.ops [
 ⟨some 6, .mv (.const (.bool false)), none, 0⟩]) <|
 .keep [6] <|
 .ret)
 (.skip)) <|
 .ops [
 ⟨some 100, .mv (.tmp 16), none, 0⟩,
 ⟨some 101, .bin .add (.tmp 100) (.const (.int .i64 1)), none, 0⟩,
 ⟨some 16, .mv (.tmp 101), none, 0⟩]
def i_zz61_B6 : FC :=
 .seq (.seq (.ops [
 ⟨some 92, .mv (.tmp 15), none, 0⟩,
 ⟨some 93, .mv (.tmp 7), none, 0⟩,
 ⟨some 94, .bin .lss (.tmp 92) (.tmp 93), none, 0⟩]) <|
 .cond (.tmp 94)
 (.skip)
 (.keep [] <|
 .exit 8)) <|
 .seq (.block 9 <|
 .seq (.ops [
 ⟨some 16, .mv (.const (.int .i64 0)), none, 0⟩]) <|
 .block 10 <|
 .loop [3, 4, 7, 12, 15, 16] i_zz61_B5) <|
 .ops [
 ⟨some 95, .mv (.tmp 15), none, 0⟩,
 ⟨some 96, .bin .add (.tmp 95) (.const (.int .i64 1)), none, 0⟩,
 ⟨some 15, .mv (.tmp 96), none, 0⟩]
def i_zz61_B7 : FC :=
 .seq (.seq (.ops [
 ⟨some 127, .mv (.tmp 17), none, 0⟩,
 ⟨some 128, .mv (.tmp 7), none, 0⟩,
 ⟨some 129, .bin .lss (.tmp 127) (.tmp 128), none, 0⟩]) <|
 .cond (.tmp 129)
 (.skip)
 (.keep [] <|
 .exit 12)) <|
 .seq (.block 13 <|
 .seq (.seq (.dops [
 ⟨some 132, .mv (.tmp 2), none, 0⟩,
 ⟨some 133, .mv (.tmp 7), none, 0⟩,
 ⟨some 134, .mv (.tmp 17), none, 0⟩,
 ⟨some 135, .bin .add (.tmp 133) (.tmp 134), none, 0⟩,
 ⟨some 136, .idx 1 (.tmp 132) (.tmp 135), none, 0⟩,
 ⟨some 137, .load false 1 (.tmp 136), none, 0⟩,
 ⟨some 138, .mv (.tmp 2), none, 0⟩,
 ⟨some 139, .mv (.tmp 10), none, 0⟩,
 ⟨some 140, .idx 1 (.tmp 138) (.tmp 139), none, 0⟩,
 ⟨some 141, .load false 1 (.tmp 140), none, 0⟩,
 ⟨some 142, .bin .neq (.tmp 137) (.tmp 141), none, 0⟩]) <|
 .cond (.tmp 142)
 (.keep [2, 3, 4, 7, 10, 17] <|
 .exit 13)
 (.skip)) <|
 .seq (.ops [
 ⟨some 143, .mv (.tmp 2), none, 0⟩,
 ⟨some 144, .call k_zz70 [(.tmp 143)], none, 0⟩,
 ⟨some 18, .mv (.tmp 144), none, 0⟩]) <|
 .seq (.ops [
 ⟨some 145, .mv (.tmp 18), none, 0⟩,
 ⟨some 146, .mv (.tmp 10), none, 0⟩,
 ⟨some 147, .mv (.tmp 7), none, 0⟩,
 ⟨some 148, .bin .mul (.const (.int .i64 2)) (.tmp 147), none, 0⟩,
 ⟨some 149, .idx 1 (.tmp 145) (.tmp 146), none, 0⟩,
 ⟨none, .store 1 (.tmp 149) (.tmp 148), none, 0⟩]) <|
 .seq (.ops [
 ⟨some 150, .mv (.tmp 18), none, 0⟩,
 ⟨some 151, .mv (.tmp 7), none, 0⟩,
 ⟨some 152, .mv (.tmp 17), none, 0⟩,
 ⟨some 153, .bin .add (.tmp 151) (.tmp 152), none, 0⟩,
 ⟨some 154, .mv (.tmp 7), none, 0⟩,
 ⟨some 155, .bin .mul (.const (.int .i64 2)) (.tmp 154), none, 0⟩,
 ⟨some 156, .idx 1 (.tmp 150) (.tmp 153), none, 0⟩,
 ⟨none, .store 1 (.tmp 156) (.tmp 155), none, 0⟩]) <|
 .seq (.ops [
 ⟨some 157, .load true 2 (.tmp 3), none, 0⟩,
 ⟨some 158, .load true 2 (.tmp 4), none, 0⟩,
 ⟨some 159, .mv (.tmp 18), none, 0⟩,
 ⟨some 160, .call k_zz61 [(.tmp 157), (.tmp 158), (.tmp 159)], none, 0⟩]) <|
 .cond (.tmp 160)
 (.seq (.ops [
 ⟨some 6, .mv (.const (.bool true)), none, 0⟩]) <|
 .keep [6] <|
 .ret)
 (.skip)) <|
 .ops [
 ⟨some 130, .mv (.tmp 17), none, 0⟩,
 ⟨some 131, .bin .add (.tmp 130) (.const (.int .i64 1)), none, 0⟩,
 ⟨some 17, .mv (.tmp 131), none, 0⟩]
def i_zz61 : FF := ⟨161, [.tmp 6],
 .seq (.ops [
 ⟨some 3, .box 2 (.tmp 0), none, 0⟩,
 ⟨some 4, .box 2 (.tmp 1), none, 0⟩,
 ⟨some 6, .mv (.const (.bool false)), none, 0⟩]) <|
 .seq (.ops [
 ⟨some 19, .fld 0 (.tmp 3), none, 0⟩,
 ⟨some 20, .load false 1 (.tmp 19), none, 0⟩,
 ⟨some 7, .mv (.tmp 20), none, 0⟩]) <|
 .seq (.ops [
 ⟨some 22, .load true 2 (.tmp 3), none, 0⟩,
 ⟨some 23, .load true 2 (.tmp 4), none, 0⟩,
 ⟨some 24, .mv (.tmp 2), none, 0⟩,
 ⟨some 25, .call k_zz67 [(.tmp 22), (.tmp 23), (.tmp 24)], none, 0⟩,
 ⟨some 21, .mv (.tmp 25), none, 0⟩,
 ⟨some 26, .ext (.tmp 21) 0, none, 0⟩,
 ⟨some 27, .ext (.tmp 21) 1, none, 0⟩,
 ⟨some 2, .mv (.tmp 26), none, 0⟩,
 ⟨some 8, .mv (.tmp 27), none, 0⟩]) <|
 .seq (.seq (.ops [
 ⟨some 28, .mv (.tmp 8), none, 0⟩,
 ⟨some 29, .un .not (.tmp 28), none, 0⟩]) <|
 .cond (.tmp 29)
 (.seq (.ops [
 ⟨some 6, .mv (.const (.bool false)), none, 0⟩]) <|
 .keep [6] <|
 .ret)
 (.skip)) <|
 .seq (.ops [
 ⟨some 30, .mv (.tmp 7), none, 0⟩,
 ⟨some 31, .bin .mul (.const (.int .i64 2)) (.tmp 30), none, 0⟩,
 ⟨some 32, .mkSl 1 [.int .i64 0] 8 (.tmp 31) (.tmp 31), none, 0⟩,
 ⟨some 9, .mv (.tmp 32), none, 0⟩,
 ⟨some 10, .mv (.const (.int .i64 0)), none, 0⟩]) <|
 .seq (.seq (.ops [
 ⟨some 11, .mv (.const (.int .i64 0)), none, 0⟩]) <|
 .block 0 <|
 .loop [2, 3, 4, 7, 9, 10, 11] i_zz61_B1) <|
 .seq (.block 2 <|
 .loop [2, 3, 4, 7, 9, 10] i_zz61_B2) <|
 .seq (.seq (.ops [
 ⟨some 62, .mv (.tmp 10), none, 0⟩,
 ⟨some 63, .mv (.tmp 7), none, 0⟩,
 ⟨some 64, .bin .eql (.tmp 62) (.tmp 63), none, 0⟩]) <|
 .cond (.tmp 64)
 (.seq (.ops [
 ⟨some 65, .mv (.tmp 7), none, 0⟩,
 ⟨some 66, .mkSl 1 [.int .i64 0] 8 (.tmp 65) (.tmp 65), none, 0⟩,
 ⟨some 12, .mv (.tmp 66), none, 0⟩]) <|
 .seq (.seq (.ops [
 ⟨some 13, .mv (.const (.int .i64 0)), none, 0⟩]) <|
 .block 4 <|
 .loop [2, 3, 4, 7, 12, 13] i_zz61_B4) <|
 .seq (.seq (.ops [
 ⟨some 15, .mv (.const (.int .i64 0)), none, 0⟩]) <|
 .block 8 <|
 .loop [3, 4, 7, 12, 15] i_zz61_B6) <|
 .seq (.ops [
 ⟨some 6, .mv (.const (.bool true)), none, 0⟩]) <|
 .keep [6] <|
 .ret)
 (.skip)) <|
 .seq (.seq (.ops [
 ⟨some 17, .mv (.const (.int .i64 0)), none, 0⟩]) <|
 .block 12 <|
 .loop [2, 3, 4, 7, 10, 17] i_zz61_B7) <|
 .seq (.ops [
 ⟨some 6, .mv (.const (.bool false)), none, 0⟩]) <|
 .keep [6] <|
 .ret⟩
theorem e_zz61 : EntOK Tryd.prog (compD Tryd.prog) k_zz61 i_zz61.vf :=
 ⟨Tryd.f11, Tryd.f11.body.getD .skip, Tryd.func11, by kernel_rfl, by kernel_rfl, by kernel_rfl, by kernel_rfl, by kernel_rfl⟩
/-- loop.example/g01331/laws.toInt64S -/
def i_zz59_B1 : FC :=
 .seq (.seq (.ops [
 ⟨some 8, .mv (.tmp 4), none, 0⟩,
 ⟨some 9, .mv (.tmp 0), none, 0⟩,
 ⟨some 10, .len (.tmp 9), none, 0⟩,
 ⟨some 11, .bin .lss (.tmp 8) (.tmp 10), none, 0⟩]) <|
 .cond (.tmp 11)
 (.skip)
 (.keep [3] <|
 .exit 0)) <|
 .seq (.block 1 <|
 .ops [
 ⟨some 14, .mv (.tmp 3), none, 0⟩,
 ⟨some 15, .mv (.tmp 4), none, 0⟩,
 ⟨some 16, .mv (.tmp 0), none, 0⟩,
 ⟨some 17, .mv (.tmp 4), none, 0⟩,
 ⟨some 18, .idx 1 (.tmp 16) (.tmp 17), none, 0⟩,
 ⟨some 19, .load false 1 (.tmp 18), none, 0⟩,
 ⟨some 20, .idx 1 (.tmp 14) (.tmp 15), none, 0⟩,
 ⟨none, .store 1 (.tmp 20) (.tmp 19), none, 0⟩]) <|
 .ops [
 ⟨some 12, .mv (.tmp 4), none, 0⟩,
 ⟨some 13, .bin .add (.tmp 12) (.const (.int .i64 1)), none, 0⟩,
 ⟨some 4, .mv (.tmp 13), none, 0⟩]
def i_zz59 : FF := ⟨22, [.tmp 2],
 .seq (.ops [
 ⟨some 2, .mv (.const (.slice none 0 0)), none, 0⟩]) <|
 .seq (.ops [
 ⟨some 5, .mv (.tmp 0), none, 0⟩,
 ⟨some 6, .len (.tmp 5), none, 0⟩,
 ⟨some 7, .mkSl 1 [.int .i64 0] 8 (.tmp 6) (.tmp 6), none, 0⟩,
 ⟨some 3, .mv (.tmp 7), none, 0⟩]) <|
 .seq (.seq (.ops [
 ⟨some 4, .mv (.const (.int .i64 0)), none, 0⟩]) <|
 .block 0 <|
 .loop [0, 3, 4] i_zz59_B1) <|
 .seq (.ops [
 ⟨some 21, .mv (.tmp 3), none, 0⟩,
 ⟨some 2, .mv (.tmp 21), none, 0⟩]) <|
 .keep [2] <|
 .ret⟩
theorem e_zz59 : EntOK Tryd.prog (compD Tryd.prog) k_zz59 i_zz59.vf :=
 ⟨Tryd.f12, Tryd.f12.body.getD .skip, Tryd.func12, by kernel_rfl, by kernel_rfl, by kernel_rfl, by kernel_rfl, by kernel_rfl⟩
/-- loop.example/g01331/impl.areGraphs -/
def i_zz55_B1 : FC :=
 .seq (.ops [
 ⟨some 8, .bin .lss (.tmp 7) (.tmp 6), none, 0⟩]) <|
 .seq (.cond (.tmp 8)
 (.skip)
 (.keep [] <|
 .exit 0)) <|
 .seq (.block 1 <|
 .seq (.ops [
 ⟨some 9, .idx 2 (.tmp 5) (.tmp 7), none, 0⟩,
 ⟨some 10, .load true 2 (.tmp 9), none, 0⟩,
 ⟨some 4, .alloc [.int .i64 0, .slice none 0 0], none, 0⟩,
 ⟨none, .store 2 (.tmp 4) (.tmp 10), none, 0⟩]) <|
 .seq (.ops [
 ⟨some 11, .load true 2 (.tmp 4), none, 0⟩,
 ⟨some 12, .call k_zz62 [(.tmp 11)], none, 0⟩,
 ⟨some 13, .un .not (.tmp 12), none, 0⟩]) <|
 .cond (.tmp 13)
 (.seq (.ops [
 ⟨some 2, .mv (.const (.bool false)), none, 0⟩]) <|
 .keep [2] <|
 .ret)
 (.skip)) <|
 .ops [
 ⟨some 14, .bin .add (.tmp 7) (.const (.int .i64 1)), none, 0⟩,
 ⟨some 7, .mv (.tmp 14), none, 0⟩]
def i_zz55 : FF := ⟨15, [.tmp 2],
 .seq (.ops [
 ⟨some 2, .mv (.const (.bool false)), none, 0⟩]) <|
 .seq (.seq (.ops [
 ⟨some 5, .mv (.tmp 0), none, 0⟩,
 ⟨some 6, .len (.tmp 5), none, 0⟩,
 ⟨some 7, .mv (.const (.int .i64 0)), none, 0⟩]) <|
 .block 0 <|
 .loop [5, 6, 7] i_zz55_B1) <|
 .seq (.ops [
 ⟨some 2, .mv (.const (.bool true)), none, 0⟩]) <|
 .keep [2] <|
 .ret⟩
theorem e_zz55 : EntOK Tryd.prog (compD Tryd.prog) k_zz55 i_zz55.vf :=
 ⟨Tryd.f13, Tryd.f13.body.getD .skip, Tryd.func13, by kernel_rfl, by kernel_rfl, by kernel_rfl, by kernel_rfl, by kernel_rfl⟩
/-- loop.example/g01331/impl.mapping -/
def i_zz63_B1 : FC :=
 .seq (.ops [
 ⟨some 32, .bin .lss (.tmp 31) (.tmp 30), none, 0⟩]) <|
 .seq (.cond (.tmp 32)
 (.skip)
 (.keep [9] <|
 .exit 0)) <|
 .seq (.block 1 <|
 .seq (.ops [
 ⟨some 33, .mv (.tmp 31), none, 0⟩,
 ⟨some 34, .idx 1 (.tmp 29) (.tmp 31), none, 0⟩,
 ⟨some 35, .load false 1 (.tmp 34), none, 0⟩,
 ⟨some 10, .mv (.tmp 33), none, 0⟩,
 ⟨some 11, .mv (.tmp 35), none, 0⟩]) <|
 .seq (.ops [
 ⟨some 36, .mv (.tmp 9), none, 0⟩,
 ⟨some 37, .nilchk (.tmp 36), none, 0⟩,
 ⟨some 38, .fld 1 (.tmp 37), none, 0⟩,
 ⟨some 39, .load false 1 (.tmp 38), none, 0⟩,
 ⟨some 40, .idx 1 (.tmp 39) (.const (.int .i64 0)), none, 0⟩,
 ⟨some 41, .load false 1 (.tmp 40), none, 0⟩,
 ⟨some 42, .mv (.tmp 11), none, 0⟩,
 ⟨some 43, .mv (.tmp 10), none, 0⟩,
 ⟨some 44, .bin .add (.tmp 43) (.const (.int .i64 1)), none, 0⟩,
 ⟨some 45, .idx 1 (.tmp 41) (.tmp 42), none, 0⟩,
 ⟨none, .store 1 (.tmp 45) (.tmp 44), none, 0⟩]) <|
 .dops [
 ⟨some 46, .mv (.tmp 9), none, 0⟩,
 ⟨some 47, .nilchk (.tmp 46), none, 0⟩,
 ⟨some 48, .fld 1 (.tmp 47), none, 0⟩,
 ⟨some 49, .load false 1 (.tmp 48), none, 0⟩,
 ⟨some 50, .idx 1 (.tmp 49) (.const (.int .i64 1)), none, 0⟩,
 ⟨some 51, .load false 1 (.tmp 50), none, 0⟩,
 ⟨some 52, .mv (.tmp 3), none, 0⟩,
 ⟨some 53, .mv (.tmp 10), none, 0⟩,
 ⟨some 54, .idx 1 (.tmp 52) (.tmp 53), none, 0⟩,
 ⟨some 55, .load false 1 (.tmp 54), none, 0⟩,
 ⟨some 56, .mv (.tmp 10), none, 0⟩,
 ⟨some 57, .bin .add (.tmp 56) (.const (.int .i64 1)), none, 0⟩,
 ⟨some 58, .idx 1 (.tmp 51) (.tmp 55), none, 0⟩,
 ⟨none, .store 1 (.tmp 58) (.tmp 57), none, 0⟩]) <|
 .ops [
 ⟨some 59, .bin .add (.tmp 31) (.const (.int .i64 1)), none, 0⟩,
 ⟨some 31, .mv (.tmp 59), none, 0⟩]
def i_zz63 : FF := ⟨64, [.tmp 8],
 .seq (.ops [
 ⟨some 4, .box 2 (.tmp 0), none, 0⟩,
 ⟨some 5, .box 2 (.tmp 1), none, 0⟩,
 ⟨some 8, .mv (.const (.slice none 0 0)), none, 0⟩]) <|
 .seq (.seq (.ops [
 ⟨some 12, .fld 0 (.tmp 4), none, 0⟩,
 ⟨some 13, .load false 1 (.tmp 12), none, 0⟩,
 ⟨some 14, .fld 0 (.tmp 5), none, 0⟩,
 ⟨some 15, .load false 1 (.tmp 14), none, 0⟩,
 ⟨some 16, .bin .neq (.tmp 13) (.tmp 15), none, 0⟩]) <|
 .cond (.tmp 16)
 (.seq (.ops [
 ⟨some 8, .mv (.const (.slice none 0 0)), none, 0⟩]) <|
 .keep [8] <|
 .ret)
 (.skip)) <|
 .seq (.dops [
 ⟨some 20, .fld 0 (.tmp 4), none, 0⟩,
 ⟨some 21, .load false 1 (.tmp 20), none, 0⟩,
 ⟨some 22, .mkSl 1 [.int .i64 0] 8 (.tmp 21) (.tmp 21), none, 0⟩,
 ⟨some 23, .fld 0 (.tmp 4), none, 1⟩,
 ⟨some 24, .load false 1 (.tmp 23), none, 1⟩,
 ⟨some 25, .mkSl 1 [.int .i64 0] 8 (.tmp 24) (.tmp 24), none, 1⟩,
 ⟨some 26, .buildSl 1 [.slice none 0 0, .slice none 0 0] [(0, 1, (.tmp 22)), (1, 1, (.tmp 25))] 2, none, 2⟩,
 ⟨some 17, .load true 2 (.tmp 4), none, 3⟩,
 ⟨some 18, .load true 2 (.tmp 5), none, 3⟩,
 ⟨some 19, .buildSl 2 [.int .i64 0, .slice none 0 0, .int .i64 0, .slice none 0 0] [(0, 2, (.tmp 17)), (2, 2, (.tmp 18))] 2, none, 3⟩,
 ⟨some 27, .build [.slice none 0 0, .slice none 0 0] [(0, 1, (.tmp 19)), (1, 1, (.tmp 26))], none, 3⟩,
 ⟨some 28, .box 2 (.tmp 27), none, 3⟩,
 ⟨some 9, .mv (.tmp 28), none, 3⟩]) <|
 .seq (.seq (.ops [
 ⟨some 29, .mv (.tmp 2), none, 0⟩,
 ⟨some 30, .len (.tmp 29), none, 0⟩,
 ⟨some 31, .mv (.const (.int .i64 0)), none, 0⟩]) <|
 .block 0 <|
 .loop [3, 9, 29, 30, 31] i_zz63_B1) <|
 .seq (.ops [
 ⟨some 60, .mv (.tmp 9), none, 0⟩,
 ⟨some 61, .call k_zz39 [(.tmp 60)], none, 0⟩]) <|
 .seq (.ops [
 ⟨some 62, .mv (.tmp 9), none, 0⟩,
 ⟨some 63, .call k_zz40 [(.tmp 62)], none, 0⟩,
 ⟨some 8, .mv (.tmp 63), none, 0⟩]) <|
 .keep [8] <|
 .ret⟩
theorem e_zz63 : EntOK Tryd.prog (compD Tryd.prog) k_zz63 i_zz63.vf :=
 ⟨Tryd.f14, Tryd.f14.body.getD .skip, Tryd.func14, by kernel_rfl, by kernel_rfl, by kernel_rfl, by kernel_rfl, by kernel_rfl⟩
/-- loop.example/g01331/laws.eqInt64S -/
def i_zz57_B1 : FC :=
 .seq (.seq (.ops [
 ⟨some 11, .mv (.tmp 5), none, 0⟩,
 ⟨some 12, .mv (.tmp 0), none, 0⟩,
 ⟨some 13, .len (.tmp 12), none, 0⟩,
 ⟨some 14, .bin .lss (.tmp 11) (.tmp 13), none, 0⟩]) <|
 .cond (.tmp 14)
 (.skip)
 (.keep [] <|
 .exit 0)) <|
 .seq (.block 1 <|
 .seq (.dops [
 ⟨some 17, .mv (.tmp 0), none, 0⟩,
 ⟨some 18, .mv (.tmp 5), none, 0⟩,
 ⟨some 19, .idx 1 (.tmp 17) (.tmp 18), none, 0⟩,
 ⟨some 20, .load false 1 (.tmp 19), none, 0⟩,
 ⟨some 21, .mv (.tmp 1), none, 0⟩,
 ⟨some 22, .mv (.tmp 5), none, 0⟩,
 ⟨some 23, .idx 1 (.tmp 21) (.tmp 22), none, 0⟩,
 ⟨some 24, .load false 1 (.tmp 23), none, 0⟩,
 ⟨some 25, .bin .neq (.tmp 20) (.tmp 24), none, 0⟩]) <|
 .cond (.tmp 25)
 (.seq (.ops [
 ⟨some 4, .mv (.const (.bool false)), none, 0⟩]) <|
 .keep [4] <|
 .ret)
 (.skip)) <|
 .ops [
 ⟨some 15, .mv (.tmp 5), none, 0⟩,
 ⟨some 16, .bin .add (.tmp 15) (.const (.int .i64 1)), none, 0⟩,
 ⟨some 5, .mv (.tmp 16), none, 0⟩]
def i_zz57 : FF := ⟨26, [.tmp 4],
 .seq (.ops [
 ⟨some 4, .mv (.const (.bool false)), none, 0⟩]) <|
 .seq (.seq (.ops [
 ⟨some 6, .mv (.tmp 0), none, 0⟩,
 ⟨some 7, .len (.tmp 6), none, 0⟩,
 ⟨some 8, .mv (.tmp 1), none, 0⟩,
 ⟨some 9, .len (.tmp 8), none, 0⟩,
 ⟨some 10, .bin .neq (.tmp 7) (.tmp 9), none, 0⟩]) <|
 .cond (.tmp 10)
 (.seq (.ops [
 ⟨some 4, .mv (.const (.bool false)), none, 0⟩]) <|
 .keep [4] <|
 .ret)
 (.skip)) <|
 .seq (.seq (.ops [
 ⟨some 5, .mv (.const (.int .i64 0)), none, 0⟩]) <|
 .block 0 <|
 .loop [0, 1, 5] i_zz57_B1) <|
 .seq (.ops [
 ⟨some 4, .mv (.const (.bool true)), none, 0⟩]) <|
 .keep [4] <|
 .ret⟩
theorem e_zz57 : EntOK Tryd.prog (compD Tryd.prog) k_zz57 i_zz57.vf :=
 ⟨Tryd.f15, Tryd.f15.body.getD .skip, Tryd.func15, by kernel_rfl, by kernel_rfl, by kernel_rfl, by kernel_rfl, by kernel_rfl⟩
/-- loop.example/g01331/spec.l01In -/
def i_zz71 : FF := ⟨15, [.tmp 6],
 .seq (.ops [
 ⟨some 6, .mv (.const (.bool false)), none, 0⟩]) <|
 .seq (.ops [
 ⟨some 7, .mv (.tmp 0), none, 0⟩,
 ⟨some 8, .mv (.tmp 1), none, 0⟩,
 ⟨some 9, .bin .geq (.tmp 7) (.tmp 8), none, 0⟩,
 ⟨some 10, .mv (.tmp 9), none, 0⟩,
 ⟨some 11, .mv (.tmp 0), some (10, true), 0⟩,
 ⟨some 12, .mv (.tmp 2), some (10, true), 0⟩,
 ⟨some 13, .bin .leq (.tmp 11) (.tmp 12), some (10, true), 0⟩,
 ⟨some 14, .pick (.tmp 10) (.tmp 13) (.const (.bool false)), none, 0⟩,
 ⟨some 6, .mv (.tmp 14), none, 0⟩]) <|
 .keep [6] <|
 .ret⟩
theorem e_zz71 : EntOK Tryd.prog (compD Tryd.prog) k_zz71 i_zz71.vf :=
 ⟨Tryd.f16, Tryd.f16.body.getD .skip, Tryd.func16, by kernel_rfl, by kernel_rfl, by kernel_rfl, by kernel_rfl, by kernel_rfl⟩
/-- loop.example/g01331/spec.l01Has -/
def i_zz69 : FF := ⟨17, [.tmp 6],
 .seq (.ops [
 ⟨some 3, .box 2 (.tmp 0), none, 0⟩,
 ⟨some 6, .mv (.const (.bool false)), none, 0⟩]) <|
 .seq (.ops [
 ⟨some 7, .fld 1 (.tmp 3), none, 0⟩,
 ⟨some 8, .load false 1 (.tmp 7), none, 0⟩,
 ⟨some 9, .mv (.tmp 1), none, 0⟩,
 ⟨some 10, .idx 1 (.tmp 8) (.tmp 9), none, 0⟩,
 ⟨some 11, .load false 1 (.tmp 10), none, 0⟩,
 ⟨some 12, .mv (.tmp 2), none, 0⟩,
 ⟨some 13, .conv .u64 (.tmp 12), none, 0⟩,
 ⟨some 14, .bin .shr (.tmp 11) (.tmp 13), none, 0⟩,
 ⟨some 15, .bin .and (.tmp 14) (.const (.int .i64 1)), none, 0⟩,
 ⟨some 16, .bin .eql (.tmp 15) (.const (.int .i64 1)), none, 0⟩,
 ⟨some 6, .mv (.tmp 16), none, 0⟩]) <|
 .keep [6] <|
 .ret⟩
theorem e_zz69 : EntOK Tryd.prog (compD Tryd.prog) k_zz69 i_zz69.vf :=
 ⟨Tryd.f17, Tryd.f17.body.getD .skip, Tryd.func17, by kernel_rfl, by kernel_rfl, by kernel_rfl, by kernel_rfl, by kernel_rfl⟩
/-- loop.example/g01331/spec.l10Both -/
def i_zz67_B1 : FC :=
 .seq (.seq (.ops [
 ⟨some 50, .mv (.tmp 15), none, 0⟩,
 ⟨some 51, .mv (.tmp 8), none, 0⟩,
 ⟨some 52, .bin .lss (.tmp 50) (.tmp 51), none, 0⟩]) <|
 .cond (.tmp 52)
 (.skip)
 (.keep [2, 3, 4, 8, 9, 10, 11, 14] <|
 .exit 4)) <|
 .seq (.block 5 <|
 .seq (.ops [
 ⟨some 55, .mv (.tmp 12), none, 0⟩,
 ⟨some 56, .mv (.tmp 15), none, 0⟩,
 ⟨some 57, .conv .u64 (.tmp 56), none, 0⟩,
 ⟨some 58, .bin .shr (.tmp 55) (.tmp 57), none, 0⟩,
 ⟨some 59, .bin .and (.tmp 58) (.const (.int .i64 1)), none, 0⟩,
 ⟨some 60, .bin .eql (.tmp 59) (.const (.int .i64 1)), none, 0⟩]) <|
 .cond (.tmp 60)
 (.ops [
 ⟨some 61, .mv (.tmp 14), none, 0⟩,
 ⟨some 62, .mv (.tmp 2), none, 0⟩,
 ⟨some 63, .mv (.tmp 13), none, 0⟩,
 ⟨some 64, .mv (.tmp 15), none, 0⟩,
 ⟨some 65, .bin .add (.tmp 63) (.tmp 64), none, 0⟩,
 ⟨some 66, .idx 1 (.tmp 62) (.tmp 65), none, 0⟩,
 ⟨some 67, .load false 1 (.tmp 66), none, 0⟩,
 ⟨some 68, .call k_zz68 [(.tmp 67)], none, 0⟩,
 ⟨some 69, .bin .add (.tmp 61) (.tmp 68), none, 0⟩,
 ⟨some 14, .mv (.tmp 69), none, 0⟩])
 (.skip)) <|
 .ops [
 ⟨some 53, .mv (.tmp 15), none, 0⟩,
 ⟨some 54, .bin .add (.tmp 53) (.const (.int .i64 1)), none, 0⟩,
 ⟨some 15, .mv (.tmp 54), none, 0⟩]
def i_zz67_B2 : FC :=
 .seq (.seq (.ops [
 ⟨some 26, .mv (.tmp 11), none, 0⟩,
 ⟨some 27, .mv (.tmp 8), none, 0⟩,
 ⟨some 28, .bin .mul (.const (.int .i64 2)) (.tmp 27), none, 0⟩,
 ⟨some 29, .bin .lss (.tmp 26) (.tmp 28), none, 0⟩]) <|
 .cond (.tmp 29)
 (.skip)
 (.keep [2, 3, 4, 8, 9, 10] <|
 .exit 2)) <|
 .seq (.block 3 <|
 .seq (.dops [
 ⟨some 32, .fld 1 (.tmp 3), none, 0⟩,
 ⟨some 33, .load false 1 (.tmp 32), none, 0⟩,
 ⟨some 34, .mv (.tmp 11), none, 0⟩,
 ⟨some 35, .mv (.tmp 8), none, 0⟩,
 ⟨some 36, .bin .rem (.tmp 34) (.tmp 35), none, 0⟩,
 ⟨some 37, .idx 1 (.tmp 33) (.tmp 36), none, 0⟩,
 ⟨some 38, .load false 1 (.tmp 37), none, 0⟩,
 ⟨some 12, .mv (.tmp 38), none, 0⟩,
 ⟨some 13, .mv (.const (.int .i64 0)), none, 0⟩]) <|
 .seq (.seq (.ops [
 ⟨some 39, .mv (.tmp 11), none, 0⟩,
 ⟨some 40, .mv (.tmp 8), none, 0⟩,
 ⟨some 41, .bin .geq (.tmp 39) (.tmp 40), none, 0⟩]) <|
 .cond (.tmp 41)
 (.seq (.ops [
 ⟨some 42, .fld 1 (.tmp 4), none, 0⟩,
 ⟨some 43, .load false 1 (.tmp 42), none, 0⟩,
 ⟨some 44, .mv (.tmp 11), none, 0⟩,
 ⟨some 45, .mv (.tmp 8), none, 0⟩,
 ⟨some 46, .bin .sub (.tmp 44) (.tmp 45), none, 0⟩,
 ⟨some 47, .idx 1 (.tmp 43) (.tmp 46), none, 0⟩,
 ⟨some 48, .load false 1 (.tmp 47), none, 0⟩,
 ⟨some 12, .mv (.tmp 48), none, 0⟩]) <|
 .ops [
 ⟨some 49, .mv (.tmp 8), none, 0⟩,
 ⟨some 13, .mv (.tmp 49), none, 0⟩])
 (.skip)) <|
 .seq (.ops [
 ⟨some 14, .mv (.const (.int .i64 0)), none, 0⟩]) <|
 .seq (.seq (.ops [
 ⟨some 15, .mv (.const (.int .i64 0)), none, 0⟩]) <|
 .block 4 <|
 .loop [2, 3, 4, 8, 9, 10, 11, 12, 13, 14, 15] i_zz67_B1) <|
 .ops [
 ⟨some 70, .mv (.tmp 10), none, 0⟩,
 ⟨some 71, .mv (.tmp 14), none, 0⟩,
 ⟨some 72, .buildSl 1 [.int .i64 0] [(0, 1, (.tmp 71))] 1, none, 0⟩,
 ⟨some 73, .app 1 8 [.int .i64 0] (.tmp 70) (.tmp 72), none, 0⟩,
 ⟨some 10, .mv (.tmp 73), none, 0⟩]) <|
 .ops [
 ⟨some 30, .mv (.tmp 11), none, 0⟩,
 ⟨some 31, .bin .add (.tmp 30) (.const (.int .i64 1)), none, 0⟩,
 ⟨some 11, .mv (.tmp 31), none, 0⟩]
def i_zz67_B3 : FC :=
 .seq (.seq (.ops [
 ⟨some 84, .mv (.tmp 21), none, 0⟩,
 ⟨some 85, .mv (.tmp 19), none, 0⟩,
 ⟨some 86, .bin .lss (.tmp 84) (.tmp 85), none, 0⟩]) <|
 .cond (.tmp 86)
 (.skip)
 (.keep [2, 3, 4, 8, 9, 10, 16, 17, 18, 19, 20] <|
 .exit 8)) <|
 .seq (.block 9 <|
 .seq (.dops [
 ⟨some 89, .mv (.tmp 2), none, 0⟩,
 ⟨some 90, .mv (.tmp 21), none, 0⟩,
 ⟨some 91, .idx 1 (.tmp 89) (.tmp 90), none, 0⟩,
 ⟨some 92, .load false 1 (.tmp 91), none, 0⟩,
 ⟨some 93, .mv (.tmp 2), none, 0⟩,
 ⟨some 94, .mv (.tmp 19), none, 0⟩,
 ⟨some 95, .idx 1 (.tmp 93) (.tmp 94), none, 0⟩,
 ⟨some 96, .load false 1 (.tmp 95), none, 0⟩,
 ⟨some 97, .bin .eql (.tmp 92) (.tmp 96), none, 0⟩,
 ⟨some 98, .mv (.tmp 97), none, 0⟩,
 ⟨some 99, .mv (.tmp 10), some (98, true), 0⟩,
 ⟨some 100, .mv (.tmp 21), some (98, true), 0⟩,
 ⟨some 101, .idx 1 (.tmp 99) (.tmp 100), some (98, true), 0⟩,
 ⟨some 102, .load false 1 (.tmp 101), some (98, true), 0⟩,
 ⟨some 103, .mv (.tmp 10), some (98, true), 0⟩,
 ⟨some 104, .mv (.tmp 19), some (98, true), 0⟩,
 ⟨some 105, .idx 1 (.tmp 103) (.tmp 104), some (98, true), 0⟩,
 ⟨some 106, .load false 1 (.tmp 105), some (98, true), 0⟩,
 ⟨some 107, .bin .eql (.tmp 102) (.tmp 106), some (98, true), 0⟩,
 ⟨some 108, .pick (.tmp 98) (.tmp 107) (.const (.bool false)), none, 0⟩]) <|
 .cond (.tmp 108)
 (.seq (.ops [
 ⟨some 109, .mv (.tmp 16), none, 0⟩,
 ⟨some 110, .mv (.tmp 21), none, 0⟩,
 ⟨some 111, .idx 1 (.tmp 109) (.tmp 110), none, 0⟩,
 ⟨some 112, .load false 1 (.tmp 111), none, 0⟩,
 ⟨some 20, .mv (.tmp 112), none, 0⟩]) <|
 .keep [2, 3, 4, 8, 9, 10, 16, 17, 18, 19, 20] <|
 .exit 8)
 (.skip)) <|
 .ops [
 ⟨some 87, .mv (.tmp 21), none, 0⟩,
 ⟨some 88, .bin .add (.tmp 87) (.const (.int .i64 1)), none, 0⟩,
 ⟨some 21, .mv (.tmp 88), none, 0⟩]
def i_zz67_B4 : FC :=
 .seq (.seq (.ops [
 ⟨some 78, .mv (.tmp 19), none, 0⟩,
 ⟨some 79, .mv (.tmp 8), none, 0⟩,
 ⟨some 80, .bin .mul (.const (.int .i64 2)) (.tmp 79), none, 0⟩,
 ⟨some 81, .bin .lss (.tmp 78) (.tmp 80), none, 0⟩]) <|
 .cond (.tmp 81)
 (.skip)
 (.keep [3, 4, 8, 9, 16, 17, 18] <|
 .exit 6)) <|
 .seq (.block 7 <|
 .seq (.ops [
 ⟨some 20, .mv (.const (.int .i64 (-1))), none, 0⟩]) <|
 .seq (.seq (.ops [
 ⟨some 21, .mv (.const (.int .i64 0)), none, 0⟩]) <|
 .block 8 <|
 .loop [2, 3, 4, 8, 9, 10, 16, 17, 18, 19, 20, 21] i_zz67_B3) <|
 .seq (.seq (.ops [
 ⟨some 113, .mv (.tmp 20), none, 0⟩,
 ⟨some 114, .bin .lss (.tmp 113) (.const (.int .i64 0)), none, 0⟩]) <|
 .cond (.tmp 114)
 (.seq (.ops [
 ⟨some 115, .mv (.tmp 17), none, 0⟩,
 ⟨some 20, .mv (.tmp 115), none, 0⟩]) <|
 .ops [
 ⟨some 116, .mv (.tmp 17), none, 0⟩,
 ⟨some 117, .bin .add (.tmp 116) (.const (.int .i64 1)), none, 0⟩,
 ⟨some 17, .mv (.tmp 117), none, 0⟩])
 (.skip)) <|
 .seq (.ops [
 ⟨some 118, .mv (.tmp 16), none, 0⟩,
 ⟨some 119, .mv (.tmp 20), none, 0⟩,
 ⟨some 120, .buildSl 1 [.int .i64 0] [(0, 1, (.tmp 119))] 1, none, 0⟩,
 ⟨some 121, .app 1 8 [.int .i64 0] (.tmp 118) (.tmp 120), none, 0⟩,
 ⟨some 16, .mv (.tmp 121), none, 0⟩]) <|
 .seq (.ops [
 ⟨some 122, .mv (.tmp 19), none, 0⟩,
 ⟨some 123, .mv (.tmp 8), none, 0⟩,
 ⟨some 124, .bin .lss (.tmp 122) (.tmp 123), none, 0⟩]) <|
 .cond (.tmp 124)
 (.ops [
 ⟨some 125, .mv (.tmp 18), none, 0⟩,
 ⟨some 126, .mv (.tmp 20), none, 0⟩,
 ⟨some 127, .idx 1 (.tmp 125) (.tmp 126), none, 0⟩,
 ⟨some 128, .load false 1 (.tmp 127), none, 0⟩,
 ⟨some 129, .bin .add (.tmp 128) (.const (.int .i64 1)), none, 0⟩,
 ⟨some 130, .idx 1 (.tmp 125) (.tmp 126), none, 0⟩,
 ⟨none, .store 1 (.tmp 130) (.tmp 129), none, 0⟩])
 (.ops [
 ⟨some 131, .mv (.tmp 18), none, 0⟩,
 ⟨some 132, .mv (.tmp 20), none, 0⟩,
 ⟨some 133, .idx 1 (.tmp 131) (.tmp 132), none, 0⟩,
 ⟨some 134, .load false 1 (.tmp 133), none, 0⟩,
 ⟨some 135, .bin .sub (.tmp 134) (.const (.int .i64 1)), none, 0⟩,
 ⟨some 136, .idx 1 (.tmp 131) (.tmp 132), none, 0⟩,
 ⟨none, .store 1 (.tmp 136) (.tmp 135), none, 0⟩])) <|
 .ops [
 ⟨some 82, .mv (.tmp 19), none, 0⟩,
 ⟨some 83, .bin .add (.tmp 82) (.const (.int .i64 1)), none, 0⟩,
 ⟨some 19, .mv (.tmp 83), none, 0⟩]
def i_zz67_B5 : FC :=
 .seq (.seq (.ops [
 ⟨some 137, .mv (.tmp 22), none, 0⟩,
 ⟨some 138, .mv (.tmp 18), none, 0⟩,
 ⟨some 139, .len (.tmp 138), none, 0⟩,
 ⟨some 140, .bin .lss (.tmp 137) (.tmp 139), none, 0⟩]) <|
 .cond (.tmp 140)
 (.skip)
 (.keep [3, 4, 8, 9, 16, 17] <|
 .exit 10)) <|
 .seq (.block 11 <|
 .seq (.ops [
 ⟨some 143, .mv (.tmp 18), none, 0⟩,
 ⟨some 144, .mv (.tmp 22), none, 0⟩,
 ⟨some 145, .idx 1 (.tmp 143) (.tmp 144), none, 0⟩,
 ⟨some 146, .load false 1 (.tmp 145), none, 0⟩,
 ⟨some 147, .bin .neq (.tmp 146) (.const (.int .i64 0)), none, 0⟩]) <|
 .cond (.tmp 147)
 (.seq (.ops [
 ⟨some 6, .mv (.const (.slice none 0 0)), none, 0⟩,
 ⟨some 7, .mv (.const (.bool false)), none, 0⟩]) <|
 .keep [6, 7] <|
 .ret)
 (.skip)) <|
 .ops [
 ⟨some 141, .mv (.tmp 22), none, 0⟩,
 ⟨some 142, .bin .add (.tmp 141) (.const (.int .i64 1)), none, 0⟩,
 ⟨some 22, .mv (.tmp 142), none, 0⟩]
def i_zz67_B6 : FC :=
 .block 1 <|
 .seq (.ops [
 ⟨some 25, .buildSl 1 [] [] 0, none, 0⟩,
 ⟨some 10, .mv (.tmp 25), none, 0⟩]) <|
 .seq (.seq (.ops [
 ⟨some 11, .mv (.const (.int .i64 0)), none, 0⟩]) <|
 .block 2 <|
 .loop [2, 3, 4, 8, 9, 10, 11] i_zz67_B2) <|
 .seq (.dops [
 ⟨some 74, .buildSl 1 [] [] 0, none, 0⟩,
 ⟨some 16, .mv (.tmp 74), none, 1⟩,
 ⟨some 75, .mv (.tmp 8), none, 1⟩,
 ⟨some 76, .bin .mul (.const (.int .i64 2)) (.tmp 75), none, 1⟩,
 ⟨some 77, .mkSl 1 [.int .i64 0] 8 (.tmp 76) (.tmp 76), none, 1⟩,
 ⟨some 17, .mv (.const (.int .i64 0)), none, 2⟩,
 ⟨some 18, .mv (.tmp 77), none, 2⟩]) <|
 .seq (.seq (.ops [
 ⟨some 19, .mv (.const (.int .i64 0)), none, 0⟩]) <|
 .block 6 <|
 .loop [2, 3, 4, 8, 9, 10, 16, 17, 18, 19] i_zz67_B4) <|
 .seq (.seq (.ops [
 ⟨some 22, .mv (.const (.int .i64 0)), none, 0⟩]) <|
 .block 10 <|
 .loop [3, 4, 8, 9, 16, 17, 18, 22] i_zz67_B5) <|
 .seq (.ops [
 ⟨some 148, .mv (.tmp 16), none, 0⟩,
 ⟨some 2, .mv (.tmp 148), none, 0⟩]) <|
 .seq (.seq (.ops [
 ⟨some 149, .mv (.tmp 17), none, 0⟩,
 ⟨some 150, .mv (.tmp 9), none, 0⟩,
 ⟨some 151, .bin .eql (.tmp 149) (.tmp 150), none, 0⟩]) <|
 .cond (.tmp 151)
 (.seq (.ops [
 ⟨some 152, .mv (.tmp 2), none, 0⟩,
 ⟨some 6, .mv (.tmp 152), none, 0⟩,
 ⟨some 7, .mv (.const (.bool true)), none, 0⟩]) <|
 .keep [6, 7] <|
 .ret)
 (.skip)) <|
 .ops [
 ⟨some 153, .mv (.tmp 17), none, 0⟩,
 ⟨some 9, .mv (.tmp 153), none, 0⟩]
def i_zz67 : FF := ⟨154, [.tmp 6, .tmp 7],
 .seq (.ops [
 ⟨some 3, .box 2 (.tmp 0), none, 0⟩,
 ⟨some 4, .box 2 (.tmp 1), none, 0⟩,
 ⟨some 6, .mv (.const (.slice none 0 0)), none, 0⟩,
 ⟨some 7, .mv (.const (.bool false)), none, 0⟩]) <|
 .seq (.ops [
 ⟨some 23, .fld 0 (.tmp 3), none, 0⟩,
 ⟨some 24, .load false 1 (.tmp 23), none, 0⟩,
 ⟨some 8, .mv (.tmp 24), none, 0⟩]) <|
 .seq (.ops [
 ⟨some 9, .mv (.const (.int .i64 0)), none, 0⟩]) <|
 .block 0 <|
 .loop [2, 3, 4, 8, 9] i_zz67_B6⟩
theorem e_zz67 : EntOK Tryd.prog (compD Tryd.prog) k_zz67 i_zz67.vf :=
 ⟨Tryd.f18, Tryd.f18.body.getD .skip, Tryd.func18, by kernel_rfl, by kernel_rfl, by kernel_rfl, by kernel_rfl, by kernel_rfl⟩
/-- loop.example/g01331/spec.l01Own -/
def i_zz70 : FF := ⟨6, [.tmp 2],
 .seq (.ops [
 ⟨some 2, .mv (.const (.slice none 0 0)), none, 0⟩]) <|
 .seq (.ops [
 ⟨some 3, .buildSl 1 [] [] 0, none, 0⟩,
 ⟨some 4, .mv (.tmp 0), none, 0⟩,
 ⟨some 5, .app 1 8 [.int .i64 0] (.tmp 3) (.tmp 4), none, 0⟩,
 ⟨some 2, .mv (.tmp 5), none, 0⟩]) <|
 .keep [2] <|
 .ret⟩
theorem e_zz70 : EntOK Tryd.prog (compD Tryd.prog) k_zz70 i_zz70.vf :=
 ⟨Tryd.f19, Tryd.f19.body.getD .skip, Tryd.func19, by kernel_rfl, by kernel_rfl, by kernel_rfl, by kernel_rfl, by kernel_rfl⟩
/-- loop.example/g01331/impl.IsGraph -/
def i_zz62_B1 : FC :=
 .seq (.ops [
 ⟨some 47, .bin .lss (.tmp 46) (.tmp 45), none, 0⟩]) <|
 .seq (.cond (.tmp 47)
 (.skip)
 (.keep [1, 3, 23, 24, 25] <|
 .exit 2)) <|
 .seq (.block 3 <|
 .seq (.ops [
 ⟨some 48, .mv (.tmp 46), none, 0⟩,
 ⟨some 6, .mv (.tmp 48), none, 0⟩]) <|
 .seq (.dops [
 ⟨some 49, .mv (.tmp 5), none, 0⟩,
 ⟨some 50, .mv (.tmp 6), none, 0⟩,
 ⟨some 51, .bin .shr (.tmp 49) (.tmp 50), none, 0⟩,
 ⟨some 52, .bin .and (.tmp 51) (.const (.int .i64 1)), none, 0⟩,
 ⟨some 53, .fld 1 (.tmp 1), none, 0⟩,
 ⟨some 54, .load false 1 (.tmp 53), none, 0⟩,
 ⟨some 55, .mv (.tmp 6), none, 0⟩,
 ⟨some 56, .idx 1 (.tmp 54) (.tmp 55), none, 0⟩,
 ⟨some 57, .load false 1 (.tmp 56), none, 0⟩,
 ⟨some 58, .mv (.tmp 4), none, 0⟩,
 ⟨some 59, .bin .shr (.tmp 57) (.tmp 58), none, 0⟩,
 ⟨some 60, .bin .and (.tmp 59) (.const (.int .i64 1)), none, 0⟩,
 ⟨some 61, .bin .neq (.tmp 52) (.tmp 60), none, 0⟩]) <|
 .cond (.tmp 61)
 (.seq (.ops [
 ⟨some 2, .mv (.const (.bool false)), none, 0⟩]) <|
 .keep [2] <|
 .ret)
 (.skip)) <|
 .ops [
 ⟨some 62, .bin .add (.tmp 46) (.const (.int .i64 1)), none, 0⟩,
 ⟨some 46, .mv (.tmp 62), none, 0⟩]
def i_zz62_B2 : FC :=
 .seq (.ops [
 ⟨some 26, .bin .lss (.tmp 25) (.tmp 24), none, 0⟩]) <|
 .seq (.cond (.tmp 26)
 (.skip)
 (.keep [] <|
 .exit 0)) <|
 .seq (.block 1 <|
 .seq (.ops [
 ⟨some 27, .mv (.tmp 25), none, 0⟩,
 ⟨some 28, .idx 1 (.tmp 23) (.tmp 25), none, 0⟩,
 ⟨some 29, .load false 1 (.tmp 28), none, 0⟩,
 ⟨some 4, .mv (.tmp 27), none, 0⟩,
 ⟨some 5, .mv (.tmp 29), none, 0⟩]) <|
 .seq (.seq (.ops [
 ⟨some 30, .mv (.tmp 5), none, 0⟩,
 ⟨some 31, .bin .lss (.tmp 30) (.const (.int .i64 0)), none, 0⟩,
 ⟨some 32, .mv (.tmp 31), none, 0⟩,
 ⟨some 33, .mv (.tmp 5), some (32, false), 0⟩,
 ⟨some 34, .mv (.tmp 3), some (32, false), 0⟩,
 ⟨some 35, .bin .shl (.const (.int .i64 1)) (.tmp 34), some (32, false), 0⟩,
 ⟨some 36, .bin .geq (.tmp 33) (.tmp 35), some (32, false), 0⟩,
 ⟨some 37, .pick (.tmp 32) (.const (.bool true)) (.tmp 36), none, 0⟩,
 ⟨some 38, .mv (.tmp 37), none, 0⟩,
 ⟨some 39, .mv (.tmp 5), some (38, false), 0⟩,
 ⟨some 40, .mv (.tmp 4), some (38, false), 0⟩,
 ⟨some 41, .bin .shr (.tmp 39) (.tmp 40), some (38, false), 0⟩,
 ⟨some 42, .bin .and (.tmp 41) (.const (.int .i64 1)), some (38, false), 0⟩,
 ⟨some 43, .bin .eql (.tmp 42) (.const (.int .i64 1)), some (38, false), 0⟩,
 ⟨some 44, .pick (.tmp 38) (.const (.bool true)) (.tmp 43), none, 0⟩]) <|
 .cond (.tmp 44)
 (.seq (.ops [
 ⟨some 2, .mv (.const (.bool false)), none, 0⟩]) <|
 .keep [2] <|
 .ret)
 (.skip)) <|
 .seq (.ops [
 ⟨some 45, .mv (.tmp 3), none, 0⟩,
 ⟨some 46, .mv (.const (.int .i64 0)), none, 0⟩]) <|
 .block 2 <|
 .loop [1, 3, 4, 5, 23, 24, 25, 45, 46] i_zz62_B1) <|
 .ops [
 ⟨some 63, .bin .add (.tmp 25) (.const (.int .i64 1)), none, 0⟩,
 ⟨some 25, .mv (.tmp 63), none, 0⟩]
def i_zz62 : FF := ⟨64, [.tmp 2],
 .seq (.ops [
 ⟨some 1, .box 2 (.tmp 0), none, 0⟩,
 ⟨some 2, .mv (.const (.bool false)), none, 0⟩]) <|
 .seq (.ops [
 ⟨some 7, .fld 0 (.tmp 1), none, 0⟩,
 ⟨some 8, .load false 1 (.tmp 7), none, 0⟩,
 ⟨some 3, .mv (.tmp 8), none, 0⟩]) <|
 .seq (.seq (.ops [
 ⟨some 9, .mv (.tmp 3), none, 0⟩,
 ⟨some 10, .bin .lss (.tmp 9) (.const (.int .i64 1)), none, 0⟩,
 ⟨some 11, .mv (.tmp 10), none, 0⟩,
 ⟨some 12, .mv (.tmp 3), some (11, false), 0⟩,
 ⟨some 13, .bin .gtr (.tmp 12) (.const (.int .i64 62)), some (11, false), 0⟩,
 ⟨some 14, .pick (.tmp 11) (.const (.bool true)) (.tmp 13), none, 0⟩,
 ⟨some 15, .mv (.tmp 14), none, 0⟩,
 ⟨some 16, .fld 1 (.tmp 1), some (15, false), 0⟩,
 ⟨some 17, .load false 1 (.tmp 16), some (15, false), 0⟩,
 ⟨some 18, .len (.tmp 17), some (15, false), 0⟩,
 ⟨some 19, .mv (.tmp 3), some (15, false), 0⟩,
 ⟨some 20, .bin .neq (.tmp 18) (.tmp 19), some (15, false), 0⟩,
 ⟨some 21, .pick (.tmp 15) (.const (.bool true)) (.tmp 20), none, 0⟩]) <|
 .cond (.tmp 21)
 (.seq (.ops [
 ⟨some 2, .mv (.const (.bool false)), none, 0⟩]) <|
 .keep [2] <|
 .ret)
 (.skip)) <|
 .seq (.seq (.ops [
 ⟨some 22, .fld 1 (.tmp 1), none, 0⟩,
 ⟨some 23, .load false 1 (.tmp 22), none, 0⟩,
 ⟨some 24, .len (.tmp 23), none, 0⟩,
 ⟨some 25, .mv (.const (.int .i64 0)), none, 0⟩]) <|
 .block 0 <|
 .loop [1, 3, 23, 24, 25] i_zz62_B2) <|
 .seq (.ops [
 ⟨some 2, .mv (.const (.bool true)), none, 0⟩]) <|
 .keep [2] <|
 .ret⟩
theorem e_zz62 : EntOK Tryd.prog (compD Tryd.prog) k_zz62 i_zz62.vf :=
 ⟨Tryd.f20, Tryd.f20.body.getD .skip, Tryd.func20, by kernel_rfl, by kernel_rfl, by kernel_rfl, by kernel_rfl, by kernel_rfl⟩
def i_zz39_B1 : FC :=
 .seq (.ops [
 ⟨some 28, .bin .lss (.tmp 27) (.tmp 26), none, 0⟩]) <|
 .seq (.cond (.tmp 28)
 (.skip)
 (.keep [2, 19, 20, 21] <|
 .exit 2)) <|
 .seq (.block 3 <|
 .seq (.ops [
 ⟨some 29, .mv (.tmp 27), none, 0⟩,
 ⟨some 30, .idx 1 (.tmp 25) (.tmp 27), none, 0⟩,
 ⟨some 31, .load false 1 (.tmp 30), none, 0⟩,
 ⟨some 5, .mv (.tmp 29), none, 0⟩,
 ⟨some 6, .mv (.tmp 31), none, 0⟩]) <|
 .ops [
 ⟨some 32, .mv (.tmp 4), none, 0⟩,
 ⟨some 33, .mv (.tmp 5), none, 0⟩,
 ⟨some 34, .mv (.tmp 2), none, 0⟩,
 ⟨some 35, .mv (.tmp 6), none, 0⟩,
 ⟨some 36, .call k_zz34 [(.tmp 34), (.tmp 35)], none, 0⟩,
 ⟨some 37, .idx 1 (.tmp 32) (.tmp 33), none, 0⟩,
 ⟨none, .store 1 (.tmp 37) (.tmp 36), none, 0⟩]) <|
 .ops [
 ⟨some 38, .bin .add (.tmp 27) (.const (.int .i64 1)), none, 0⟩,
 ⟨some 27, .mv (.tmp 38), none, 0⟩]
def i_zz39_B2 : FC :=
 .seq (.ops [
 ⟨some 22, .bin .lss (.tmp 21) (.tmp 20), none, 0⟩]) <|
 .seq (.cond (.tmp 22)
 (.skip)
 (.keep [] <|
 .exit 0)) <|
 .seq (.block 1 <|
 .seq (.ops [
 ⟨some 23, .idx 1 (.tmp 19) (.tmp 21), none, 0⟩,
 ⟨some 24, .load false 1 (.tmp 23), none, 0⟩,
 ⟨some 4, .mv (.tmp 24), none, 0⟩]) <|
 .seq (.ops [
 ⟨some 25, .mv (.tmp 4), none, 0⟩,
 ⟨some 26, .len (.tmp 25), none, 0⟩,
 ⟨some 27, .mv (.const (.int .i64 0)), none, 0⟩]) <|
 .block 2 <|
 .loop [2, 4, 19, 20, 21, 25, 26, 27] i_zz39_B1) <|
 .ops [
 ⟨some 39, .bin .add (.tmp 21) (.const (.int .i64 1)), none, 0⟩,
 ⟨some 21, .mv (.tmp 39), none, 0⟩]
def i_zz39 : FF := ⟨40, [],
 .seq (.ops [
 ⟨some 7, .mv (.tmp 0), none, 0⟩,
 ⟨some 8, .nilchk (.tmp 7), none, 0⟩,
 ⟨some 9, .fld 1 (.tmp 8), none, 0⟩,
 ⟨some 10, .load false 1 (.tmp 9), none, 0⟩,
 ⟨some 11, .call k_zz31 [(.tmp 10)], none, 0⟩,
 ⟨some 2, .mv (.tmp 11), none, 0⟩]) <|
 .seq (.ops [
 ⟨some 12, .mv (.tmp 2), none, 0⟩,
 ⟨some 13, .call k_zz36 [(.tmp 12)], none, 0⟩]) <|
 .seq (.ops [
 ⟨some 14, .mv (.tmp 2), none, 0⟩,
 ⟨some 15, .call k_zz26 [(.tmp 14)], none, 0⟩,
 ⟨some 2, .mv (.tmp 15), none, 0⟩]) <|
 .seq (.ops [
 ⟨some 16, .mv (.tmp 0), none, 0⟩,
 ⟨some 17, .nilchk (.tmp 16), none, 0⟩,
 ⟨some 18, .fld 1 (.tmp 17), none, 0⟩,
 ⟨some 19, .load false 1 (.tmp 18), none, 0⟩,
 ⟨some 20, .len (.tmp 19), none, 0⟩,
 ⟨some 21, .mv (.const (.int .i64 0)), none, 0⟩]) <|
 .block 0 <|
 .loop [2, 19, 20, 21] i_zz39_B2⟩
theorem e_zz39 : EntOK Tryd.prog (compD Tryd.prog) k_zz39 i_zz39.vf :=
 ⟨Tryd.f21, Tryd.f21.body.getD .skip, Tryd.func21, by kernel_rfl, by kernel_rfl, by kernel_rfl, by kernel_rfl, by kernel_rfl⟩
def i_zz40_B1 : FC :=
 .seq (.ops [
 ⟨some 42, .bin .lss (.tmp 41) (.tmp 40), none, 0⟩]) <|
 .seq (.cond (.tmp 42)
 (.skip)
 (.keep [1, 4] <|
 .exit 0)) <|
 .seq (.block 1 <|
 .seq (.ops [
 ⟨some 43, .mv (.tmp 41), none, 0⟩,
 ⟨some 44, .idx 1 (.tmp 39) (.tmp 41), none, 0⟩,
 ⟨some 45, .load false 1 (.tmp 44), none, 0⟩,
 ⟨some 5, .mv (.tmp 43), none, 0⟩,
 ⟨some 6, .mv (.tmp 45), none, 0⟩]) <|
 .ops [
 ⟨some 46, .mv (.tmp 4), none, 0⟩,
 ⟨some 47, .mv (.tmp 5), none, 0⟩,
 ⟨some 48, .load false 1 (.tmp 1), none, 0⟩,
 ⟨some 49, .nilchk (.tmp 48), none, 0⟩,
 ⟨some 50, .fld 1 (.tmp 49), none, 0⟩,
 ⟨some 51, .load false 1 (.tmp 50), none, 0⟩,
 ⟨some 52, .idx 1 (.tmp 51) (.const (.int .i64 1)), none, 0⟩,
 ⟨some 53, .load false 1 (.tmp 52), none, 0⟩,
 ⟨some 54, .mv (.tmp 6), none, 0⟩,
 ⟨some 55, .call k_zz34 [(.tmp 53), (.tmp 54)], none, 0⟩,
 ⟨some 56, .idx 1 (.tmp 46) (.tmp 47), none, 0⟩,
 ⟨none, .store 1 (.tmp 56) (.tmp 55), none, 0⟩]) <|
 .ops [
 ⟨some 57, .bin .add (.tmp 41) (.const (.int .i64 1)), none, 0⟩,
 ⟨some 41, .mv (.tmp 57), none, 0⟩]
def i_zz40_B2 : FC :=
 .seq (.ops [
 ⟨some 75, .bin .lss (.tmp 74) (.tmp 73), none, 0⟩]) <|
 .seq (.cond (.tmp 75)
 (.skip)
 (.keep [1, 4, 64, 65, 66] <|
 .exit 4)) <|
 .seq (.block 5 <|
 .seq (.ops [
 ⟨some 76, .idx 1 (.tmp 72) (.tmp 74), none, 0⟩,
 ⟨some 77, .load false 1 (.tmp 76), none, 0⟩,
 ⟨some 10, .mv (.tmp 77), none, 0⟩]) <|
 .seq (.dops [
 ⟨some 78, .load false 1 (.tmp 1), none, 0⟩,
 ⟨some 79, .nilchk (.tmp 78), none, 0⟩,
 ⟨some 80, .fld 0 (.tmp 79), none, 0⟩,
 ⟨some 81, .load false 1 (.tmp 80), none, 0⟩,
 ⟨some 82, .idx 2 (.tmp 81) (.const (.int .i64 1)), none, 0⟩,
 ⟨some 83, .load true 2 (.tmp 82), none, 0⟩,
 ⟨some 84, .mv (.tmp 4), none, 0⟩,
 ⟨some 85, .mv (.tmp 7), none, 0⟩,
 ⟨some 86, .idx 1 (.tmp 84) (.tmp 85), none, 0⟩,
 ⟨some 87, .load false 1 (.tmp 86), none, 0⟩,
 ⟨some 88, .mv (.tmp 4), none, 0⟩,
 ⟨some 89, .mv (.tmp 10), none, 0⟩,
 ⟨some 90, .idx 1 (.tmp 88) (.tmp 89), none, 0⟩,
 ⟨some 91, .load false 1 (.tmp 90), none, 0⟩,
 ⟨some 92, .call k_zz54 [(.tmp 83), (.tmp 87), (.tmp 91)], none, 0⟩,
 ⟨some 93, .un .not (.tmp 92), none, 0⟩]) <|
 .cond (.tmp 93)
 (.seq (.ops [
 ⟨some 2, .mv (.const (.slice none 0 0)), none, 0⟩]) <|
 .keep [2] <|
 .ret)
 (.skip)) <|
 .ops [
 ⟨some 94, .bin .add (.tmp 74) (.const (.int .i64 1)), none, 0⟩,
 ⟨some 74, .mv (.tmp 94), none, 0⟩]
def i_zz40_B3 : FC :=
 .seq (.ops [
 ⟨some 67, .bin .lss (.tmp 66) (.tmp 65), none, 0⟩]) <|
 .seq (.cond (.tmp 67)
 (.skip)
 (.keep [4] <|
 .exit 2)) <|
 .seq (.block 3 <|
 .seq (.ops [
 ⟨some 68, .mv (.tmp 66), none, 0⟩,
 ⟨some 69, .idx 1 (.tmp 64) (.tmp 66), none, 0⟩,
 ⟨some 70, .load false 1 (.tmp 69), none, 0⟩,
 ⟨some 7, .mv (.tmp 68), none, 0⟩,
 ⟨some 8, .mv (.tmp 70), none, 0⟩]) <|
 .seq (.ops [
 ⟨some 71, .mv (.tmp 8), none, 0⟩,
 ⟨some 72, .call k_zz73 [(.tmp 71)], none, 0⟩,
 ⟨some 73, .len (.tmp 72), none, 0⟩,
 ⟨some 74, .mv (.const (.int .i64 0)), none, 0⟩]) <|
 .block 4 <|
 .loop [1, 4, 7, 64, 65, 66, 72, 73, 74] i_zz40_B2) <|
 .ops [
 ⟨some 95, .bin .add (.tmp 66) (.const (.int .i64 1)), none, 0⟩,
 ⟨some 66, .mv (.tmp 95), none, 0⟩]
def i_zz40_B4 : FC :=
 .seq (.ops [
 ⟨some 113, .bin .lss (.tmp 112) (.tmp 111), none, 0⟩]) <|
 .seq (.cond (.tmp 113)
 (.skip)
 (.keep [] <|
 .exit 6)) <|
 .seq (.block 7 <|
 .seq (.ops [
 ⟨some 114, .mv (.tmp 112), none, 0⟩,
 ⟨some 115, .idx 1 (.tmp 110) (.tmp 112), none, 0⟩,
 ⟨some 116, .load false 1 (.tmp 115), none, 0⟩,
 ⟨some 12, .mv (.tmp 114), none, 0⟩,
 ⟨some 13, .mv (.tmp 116), none, 0⟩]) <|
 .seq (.seq (.ops [
 ⟨some 117, .mv (.tmp 13), none, 0⟩,
 ⟨some 118, .load false 1 (.tmp 1), none, 0⟩,
 ⟨some 119, .nilchk (.tmp 118), none, 0⟩,
 ⟨some 120, .fld 1 (.tmp 119), none, 0⟩,
 ⟨some 121, .load false 1 (.tmp 120), none, 0⟩,
 ⟨some 122, .idx 1 (.tmp 121) (.const (.int .i64 0)), none, 0⟩,
 ⟨some 123, .load false 1 (.tmp 122), none, 0⟩,
 ⟨some 124, .mv (.tmp 11), none, 0⟩,
 ⟨some 125, .idx 1 (.tmp 123) (.tmp 124), none, 0⟩,
 ⟨some 126, .load false 1 (.tmp 125), none, 0⟩,
 ⟨some 127, .bin .neq (.tmp 117) (.tmp 126), none, 0⟩]) <|
 .cond (.tmp 127)
 (.keep [1, 3, 11, 110, 111, 112] <|
 .exit 7)
 (.skip)) <|
 .seq (.dops [
 ⟨some 132, .load false 1 (.tmp 1), none, 0⟩,
 ⟨some 133, .nilchk (.tmp 132), none, 0⟩,
 ⟨some 134, .fld 1 (.tmp 133), none, 0⟩,
 ⟨some 135, .load false 1 (.tmp 134), none, 0⟩,
 ⟨some 136, .idx 1 (.tmp 135) (.const (.int .i64 0)), none, 0⟩,
 ⟨some 137, .load false 1 (.tmp 136), none, 0⟩,
 ⟨some 138, .call k_zz32 [(.tmp 137)], none, 0⟩,
 ⟨some 139, .load false 1 (.tmp 1), none, 1⟩,
 ⟨some 140, .nilchk (.tmp 139), none, 1⟩,
 ⟨some 141, .fld 1 (.tmp 140), none, 1⟩,
 ⟨some 142, .load false 1 (.tmp 141), none, 1⟩,
 ⟨some 143, .idx 1 (.tmp 142) (.const (.int .i64 1)), none, 1⟩,
 ⟨some 144, .load false 1 (.tmp 143), none, 1⟩,
 ⟨some 145, .call k_zz32 [(.tmp 144)], none, 0⟩,
 ⟨some 146, .buildSl 1 [.slice none 0 0, .slice none 0 0] [(0, 1, (.tmp 138)), (1, 1, (.tmp 145))] 2, none, 0⟩,
 ⟨some 128, .load false 1 (.tmp 1), none, 3⟩,
 ⟨some 129, .nilchk (.tmp 128), none, 3⟩,
 ⟨some 130, .fld 0 (.tmp 129), none, 3⟩,
 ⟨some 131, .load false 1 (.tmp 130), none, 3⟩,
 ⟨some 147, .build [.slice none 0 0, .slice none 0 0] [(0, 1, (.tmp 131)), (1, 1, (.tmp 146))], none, 0⟩,
 ⟨some 148, .box 2 (.tmp 147), none, 0⟩,
 ⟨some 14, .mv (.tmp 148), none, 0⟩]) <|
 .seq (.dops [
 ⟨some 149, .mv (.tmp 14), none, 0⟩,
 ⟨some 150, .nilchk (.tmp 149), none, 0⟩,
 ⟨some 151, .fld 1 (.tmp 150), none, 0⟩,
 ⟨some 152, .load false 1 (.tmp 151), none, 0⟩,
 ⟨some 153, .idx 1 (.tmp 152) (.const (.int .i64 0)), none, 0⟩,
 ⟨some 154, .load false 1 (.tmp 153), none, 0⟩,
 ⟨some 155, .mv (.tmp 11), none, 0⟩,
 ⟨some 156, .mv (.tmp 14), none, 0⟩,
 ⟨some 157, .nilchk (.tmp 156), none, 0⟩,
 ⟨some 158, .fld 1 (.tmp 157), none, 0⟩,
 ⟨some 159, .load false 1 (.tmp 158), none, 0⟩,
 ⟨some 160, .idx 1 (.tmp 159) (.const (.int .i64 1)), none, 0⟩,
 ⟨some 161, .load false 1 (.tmp 160), none, 0⟩,
 ⟨some 163, .mv (.tmp 3), none, 0⟩,
 ⟨some 165, .idx 1 (.tmp 154) (.tmp 155), none, 0⟩,
 ⟨none, .store 1 (.tmp 165) (.tmp 163), none, 0⟩,
 ⟨some 162, .mv (.tmp 12), none, 1⟩,
 ⟨some 164, .mv (.tmp 3), none, 1⟩,
 ⟨some 166, .idx 1 (.tmp 161) (.tmp 162), none, 0⟩,
 ⟨none, .store 1 (.tmp 166) (.tmp 164), none, 0⟩]) <|
 .seq (.ops [
 ⟨some 167, .mv (.tmp 14), none, 0⟩,
 ⟨some 168, .call k_zz40 [(.tmp 167)], none, 0⟩,
 ⟨some 15, .mv (.tmp 168), none, 0⟩]) <|
 .seq (.ops [
 ⟨some 169, .mv (.tmp 15), none, 0⟩,
 ⟨some 170, .eqnilS true (.tmp 169), none, 0⟩]) <|
 .cond (.tmp 170)
 (.seq (.ops [
 ⟨some 171, .mv (.tmp 15), none, 0⟩,
 ⟨some 2, .mv (.tmp 171), none, 0⟩]) <|
 .keep [2] <|
 .ret)
 (.skip)) <|
 .ops [
 ⟨some 172, .bin .add (.tmp 112) (.const (.int .i64 1)), none, 0⟩,
 ⟨some 112, .mv (.tmp 172), none, 0⟩]
def i_zz40 : FF := ⟨173, [.tmp 2],
 .seq (.ops [
 ⟨some 1, .box 1 (.tmp 0), none, 0⟩,
 ⟨some 2, .mv (.const (.slice none 0 0)), none, 0⟩]) <|
 .seq (.ops [
 ⟨some 16, .load false 1 (.tmp 1), none, 0⟩,
 ⟨some 17, .call k_zz43 [(.tmp 16)], none, 0⟩]) <|
 .seq (.seq (.ops [
 ⟨some 18, .load false 1 (.tmp 1), none, 0⟩,
 ⟨some 19, .call k_zz45 [(.tmp 18)], none, 0⟩,
 ⟨some 20, .un .not (.tmp 19), none, 0⟩]) <|
 .cond (.tmp 20)
 (.seq (.ops [
 ⟨some 2, .mv (.const (.slice none 0 0)), none, 0⟩]) <|
 .keep [2] <|
 .ret)
 (.skip)) <|
 .seq (.ops [
 ⟨some 21, .load false 1 (.tmp 1), none, 0⟩,
 ⟨some 22, .call k_zz47 [(.tmp 21)], none, 0⟩,
 ⟨some 3, .mv (.tmp 22), none, 0⟩]) <|
 .seq (.seq (.ops [
 ⟨some 23, .mv (.tmp 3), none, 0⟩,
 ⟨some 24, .load false 1 (.tmp 1), none, 0⟩,
 ⟨some 25, .nilchk (.tmp 24), none, 0⟩,
 ⟨some 26, .fld 0 (.tmp 25), none, 0⟩,
 ⟨some 27, .load false 1 (.tmp 26), none, 0⟩,
 ⟨some 28, .idx 2 (.tmp 27) (.const (.int .i64 0)), none, 0⟩,
 ⟨some 29, .fld 0 (.tmp 28), none, 0⟩,
 ⟨some 30, .load false 1 (.tmp 29), none, 0⟩,
 ⟨some 31, .bin .eql (.tmp 23) (.tmp 30), none, 0⟩]) <|
 .cond (.tmp 31)
 (.seq (.ops [
 ⟨some 32, .mv (.tmp 3), none, 0⟩,
 ⟨some 33, .mkSl 1 [.int .i64 0] 8 (.tmp 32) (.tmp 32), none, 0⟩,
 ⟨some 4, .mv (.tmp 33), none, 0⟩]) <|
 .seq (.seq (.ops [
 ⟨some 34, .load false 1 (.tmp 1), none, 0⟩,
 ⟨some 35, .nilchk (.tmp 34), none, 0⟩,
 ⟨some 36, .fld 1 (.tmp 35), none, 0⟩,
 ⟨some 37, .load false 1 (.tmp 36), none, 0⟩,
 ⟨some 38, .idx 1 (.tmp 37) (.const (.int .i64 0)), none, 0⟩,
 ⟨some 39, .load false 1 (.tmp 38), none, 0⟩,
 ⟨some 40, .len (.tmp 39), none, 0⟩,
 ⟨some 41, .mv (.const (.int .i64 0)), none, 0⟩]) <|
 .block 0 <|
 .loop [1, 4, 39, 40, 41] i_zz40_B1) <|
 .seq (.seq (.ops [
 ⟨some 58, .load false 1 (.tmp 1), none, 0⟩,
 ⟨some 59, .nilchk (.tmp 58), none, 0⟩,
 ⟨some 60, .fld 0 (.tmp 59), none, 0⟩,
 ⟨some 61, .load false 1 (.tmp 60), none, 0⟩,
 ⟨some 62, .idx 2 (.tmp 61) (.const (.int .i64 0)), none, 0⟩,
 ⟨some 63, .fld 1 (.tmp 62), none, 0⟩,
 ⟨some 64, .load false 1 (.tmp 63), none, 0⟩,
 ⟨some 65, .len (.tmp 64), none, 0⟩,
 ⟨some 66, .mv (.const (.int .i64 0)), none, 0⟩]) <|
 .block 2 <|
 .loop [1, 4, 64, 65, 66] i_zz40_B3) <|
 .seq (.ops [
 ⟨some 96, .mv (.tmp 4), none, 0⟩,
 ⟨some 2, .mv (.tmp 96), none, 0⟩]) <|
 .keep [2] <|
 .ret)
 (.skip)) <|
 .seq (.ops [
 ⟨some 97, .load false 1 (.tmp 1), none, 0⟩,
 ⟨some 98, .nilchk (.tmp 97), none, 0⟩,
 ⟨some 99, .fld 1 (.tmp 98), none, 0⟩,
 ⟨some 100, .load false 1 (.tmp 99), none, 0⟩,
 ⟨some 101, .idx 1 (.tmp 100) (.const (.int .i64 0)), none, 0⟩,
 ⟨some 102, .load false 1 (.tmp 101), none, 0⟩,
 ⟨some 103, .mkfn k_zz35 [] [(.tmp 1)], none, 0⟩,
 ⟨some 104, .call k_zz22 [(.tmp 102), (.tmp 103)], none, 0⟩,
 ⟨some 11, .mv (.tmp 104), none, 0⟩]) <|
 .seq (.seq (.ops [
 ⟨some 105, .load false 1 (.tmp 1), none, 0⟩,
 ⟨some 106, .nilchk (.tmp 105), none, 0⟩,
 ⟨some 107, .fld 1 (.tmp 106), none, 0⟩,
 ⟨some 108, .load false 1 (.tmp 107), none, 0⟩,
 ⟨some 109, .idx 1 (.tmp 108) (.const (.int .i64 1)), none, 0⟩,
 ⟨some 110, .load false 1 (.tmp 109), none, 0⟩,
 ⟨some 111, .len (.tmp 110), none, 0⟩,
 ⟨some 112, .mv (.const (.int .i64 0)), none, 0⟩]) <|
 .block 6 <|
 .loop [1, 3, 11, 110, 111, 112] i_zz40_B4) <|
 .seq (.ops [
 ⟨some 2, .mv (.const (.slice none 0 0)), none, 0⟩]) <|
 .keep [2] <|
 .ret⟩
theorem e_zz40 : EntOK Tryd.prog (compD Tryd.prog) k_zz40 i_zz40.vf :=
 ⟨Tryd.f22, Tryd.f22.body.getD .skip, Tryd.func22, by kernel_rfl, by kernel_rfl, by kernel_rfl, by kernel_rfl, by kernel_rfl⟩
/-- loop.example/g01331/spec.l10Mark -/
def i_zz68 : FF := ⟨19, [.tmp 2],
 .seq (.ops [
 ⟨some 2, .mv (.const (.int .i64 0)), none, 0⟩]) <|
 .seq (.ops [
 ⟨some 4, .mv (.tmp 0), none, 0⟩,
 ⟨some 5, .bin .mul (.tmp 4) (.const (.int .i64 2654435761)), none, 0⟩,
 ⟨some 6, .bin .add (.tmp 5) (.const (.int .i64 97)), none, 0⟩,
 ⟨some 3, .mv (.tmp 6), none, 0⟩]) <|
 .seq (.ops [
 ⟨some 7, .mv (.tmp 3), none, 0⟩,
 ⟨some 8, .mv (.tmp 3), none, 0⟩,
 ⟨some 9, .bin .shr (.tmp 8) (.const (.int .u64 7)), none, 0⟩,
 ⟨some 10, .bin .xor (.tmp 7) (.tmp 9), none, 0⟩,
 ⟨some 3, .mv (.tmp 10), none, 0⟩]) <|
 .seq (.ops [
 ⟨some 11, .mv (.tmp 3), none, 0⟩,
 ⟨some 12, .mv (.tmp 3), none, 0⟩,
 ⟨some 13, .bin .mul (.tmp 11) (.tmp 12), none, 0⟩,
 ⟨some 14, .mv (.tmp 3), none, 0⟩,
 ⟨some 15, .bin .mul (.tmp 13) (.tmp 14), none, 0⟩,
 ⟨some 16, .mv (.tmp 3), none, 0⟩,
 ⟨some 17, .bin .mul (.const (.int .i64 31)) (.tmp 16), none, 0⟩,
 ⟨some 18, .bin .add (.tmp 15) (.tmp 17), none, 0⟩,
 ⟨some 2, .mv (.tmp 18), none, 0⟩]) <|
 .keep [2] <|
 .ret⟩
theorem e_zz68 : EntOK Tryd.prog (compD Tryd.prog) k_zz68 i_zz68.vf :=
 ⟨Tryd.f23, Tryd.f23.body.getD .skip, Tryd.func23, by kernel_rfl, by kernel_rfl, by kernel_rfl, by kernel_rfl, by kernel_rfl⟩
/-- slices.Concat[[]int64,int64] -/
def i_zz31_B1 : FC :=
 .seq (.ops [
 ⟨some 12, .bin .lss (.tmp 11) (.tmp 10), none, 0⟩]) <|
 .seq (.cond (.tmp 12)
 (.skip)
 (.keep [0, 3] <|
 .exit 0)) <|
 .seq (.block 1 <|
 .seq (.ops [
 ⟨some 13, .idx 1 (.tmp 9) (.tmp 11), none, 0⟩,
 ⟨some 14, .load false 1 (.tmp 13), none, 0⟩,
 ⟨some 5, .mv (.tmp 14), none, 0⟩]) <|
 .seq (.ops [
 ⟨some 15, .mv (.tmp 3), none, 0⟩,
 ⟨some 16, .mv (.tmp 5), none, 0⟩,
 ⟨some 17, .len (.tmp 16), none, 0⟩,
 ⟨some 18, .bin .add (.tmp 15) (.tmp 17), none, 0⟩,
 ⟨some 3, .mv (.tmp 18), none, 0⟩]) <|
 .seq (.ops [
 ⟨some 19, .mv (.tmp 3), none, 0⟩,
 ⟨some 20, .bin .lss (.tmp 19) (.const (.int .i64 0)), none, 0⟩]) <|
 .cond (.tmp 20)
 (.ops [
 ⟨some 21, .stop, none, 0⟩,
 ⟨none, .stop, none, 0⟩])
 (.skip)) <|
 .ops [
 ⟨some 22, .bin .add (.tmp 11) (.const (.int .i64 1)), none, 0⟩,
 ⟨some 11, .mv (.tmp 22), none, 0⟩]
def i_zz31_B2 : FC :=
 .seq (.ops [
 ⟨some 28, .bin .lss (.tmp 27) (.tmp 26), none, 0⟩]) <|
 .seq (.cond (.tmp 28)
 (.skip)
 (.keep [6] <|
 .exit 2)) <|
 .seq (.block 3 <|
 .seq (.ops [
 ⟨some 29, .idx 1 (.tmp 25) (.tmp 27), none, 0⟩,
 ⟨some 30, .load false 1 (.tmp 29), none, 0⟩,
 ⟨some 8, .mv (.tmp 30), none, 0⟩]) <|
 .ops [
 ⟨some 31, .mv (.tmp 6), none, 0⟩,
 ⟨some 32, .mv (.tmp 8), none, 0⟩,
 ⟨some 33, .app 1 8 [.int .i64 0] (.tmp 31) (.tmp 32), none, 0⟩,
 ⟨some 6, .mv (.tmp 33), none, 0⟩]) <|
 .ops [
 ⟨some 34, .bin .add (.tmp 27) (.const (.int .i64 1)), none, 0⟩,
 ⟨some 27, .mv (.tmp 34), none, 0⟩]
def i_zz31 : FF := ⟨36, [.tmp 2],
 .seq (.ops [
 ⟨some 2, .mv (.const (.slice none 0 0)), none, 0⟩]) <|
 .seq (.ops [
 ⟨some 3, .mv (.const (.int .i64 0)), none, 0⟩]) <|
 .seq (.seq (.ops [
 ⟨some 9, .mv (.tmp 0), none, 0⟩,
 ⟨some 10, .len (.tmp 9), none, 0⟩,
 ⟨some 11, .mv (.const (.int .i64 0)), none, 0⟩]) <|
 .block 0 <|
 .loop [0, 3, 9, 10, 11] i_zz31_B1) <|
 .seq (.ops [
 ⟨some 23, .mv (.tmp 3), none, 0⟩,
 ⟨some 24, .call k_slices_Grow_int64_int64 [(.const (.slice none 0 0)), (.tmp 23)], none, 0⟩,
 ⟨some 6, .mv (.tmp 24), none, 0⟩]) <|
 .seq (.seq (.ops [
 ⟨some 25, .mv (.tmp 0), none, 0⟩,
 ⟨some 26, .len (.tmp 25), none, 0⟩,
 ⟨some 27, .mv (.const (.int .i64 0)), none, 0⟩]) <|
 .block 2 <|
 .loop [6, 25, 26, 27] i_zz31_B2) <|
 .seq (.ops [
 ⟨some 35, .mv (.tmp 6), none, 0⟩,
 ⟨some 2, .mv (.tmp 35), none, 0⟩]) <|
 .keep [2] <|
 .ret⟩
theorem e_zz31 : EntOK Tryd.prog (compD Tryd.prog) k_zz31 i_zz31.vf :=
 ⟨Tryd.f24, Tryd.f24.body.getD .skip, Tryd.func24, by kernel_rfl, by kernel_rfl, by kernel_rfl, by kernel_rfl, by kernel_rfl⟩
/-- slices.Sort[[]int64,int64] -/
def i_zz36 : FF := ⟨11, [],
 .seq (.ops [
 ⟨some 3, .mv (.tmp 0), none, 0⟩,
 ⟨some 4, .len (.tmp 3), none, 0⟩,
 ⟨some 2, .mv (.tmp 4), none, 0⟩]) <|
 .ops [
 ⟨some 5, .mv (.tmp 0), none, 0⟩,
 ⟨some 6, .mv (.tmp 2), none, 0⟩,
 ⟨some 7, .mv (.tmp 2), none, 0⟩,
 ⟨some 8, .conv .u64 (.tmp 7), none, 0⟩,
 ⟨some 9, .call k_zz60 [(.tmp 8)], none, 0⟩,
 ⟨some 10, .call k_zz25 [(.tmp 5), (.const (.int .i64 0)), (.tmp 6), (.tmp 9)], none, 0⟩]⟩
theorem e_zz36 : EntOK Tryd.prog (compD Tryd.prog) k_zz36 i_zz36.vf :=
 ⟨Tryd.f25, Tryd.f25.body.getD .skip, Tryd.func25, by kernel_rfl, by kernel_rfl, by kernel_rfl, by kernel_rfl, by kernel_rfl⟩
/-- slices.Compact[[]int64,int64] -/
def i_zz26_B1 : FC :=
 .seq (.seq (.ops [
 ⟨some 29, .mv (.tmp 5), none, 0⟩,
 ⟨some 30, .mv (.tmp 4), none, 0⟩,
 ⟨some 31, .len (.tmp 30), none, 0⟩,
 ⟨some 32, .bin .lss (.tmp 29) (.tmp 31), none, 0⟩]) <|
 .cond (.tmp 32)
 (.skip)
 (.keep [0, 3] <|
 .exit 2)) <|
 .seq (.block 3 <|
 .seq (.dops [
 ⟨some 35, .mv (.tmp 4), none, 0⟩,
 ⟨some 36, .mv (.tmp 5), none, 0⟩,
 ⟨some 37, .idx 1 (.tmp 35) (.tmp 36), none, 0⟩,
 ⟨some 38, .load false 1 (.tmp 37), none, 0⟩,
 ⟨some 39, .mv (.tmp 4), none, 0⟩,
 ⟨some 40, .mv (.tmp 5), none, 0⟩,
 ⟨some 41, .bin .sub (.tmp 40) (.const (.int .i64 1)), none, 0⟩,
 ⟨some 42, .idx 1 (.tmp 39) (.tmp 41), none, 0⟩,
 ⟨some 43, .load false 1 (.tmp 42), none, 0⟩,
 ⟨some 44, .bin .neq (.tmp 38) (.tmp 43), none, 0⟩]) <|
 .cond (.tmp 44)
 (.seq (.ops [
 ⟨some 45, .mv (.tmp 0), none, 0⟩,
 ⟨some 46, .mv (.tmp 3), none, 0⟩,
 ⟨some 47, .mv (.tmp 4), none, 0⟩,
 ⟨some 48, .mv (.tmp 5), none, 0⟩,
 ⟨some 49, .idx 1 (.tmp 47) (.tmp 48), none, 0⟩,
 ⟨some 50, .load false 1 (.tmp 49), none, 0⟩,
 ⟨some 51, .idx 1 (.tmp 45) (.tmp 46), none, 0⟩,
 ⟨none, .store 1 (.tmp 51) (.tmp 50), none, 0⟩]) <|
 .ops [
 ⟨some 52, .mv (.tmp 3), none, 0⟩,
 ⟨some 53, .bin .add (.tmp 52) (.const (.int .i64 1)), none, 0⟩,
 ⟨some 3, .mv (.tmp 53), none, 0⟩])
 (.skip)) <|
 .ops [
 ⟨some 33, .mv (.tmp 5), none, 0⟩,
 ⟨some 34, .bin .add (.tmp 33) (.const (.int .i64 1)), none, 0⟩,
 ⟨some 5, .mv (.tmp 34), none, 0⟩]
def i_zz26_B2 : FC :=
 .seq (.seq (.ops [
 ⟨some 10, .mv (.tmp 3), none, 0⟩,
 ⟨some 11, .mv (.tmp 0), none, 0⟩,
 ⟨some 12, .len (.tmp 11), none, 0⟩,
 ⟨some 13, .bin .lss (.tmp 10) (.tmp 12), none, 0⟩]) <|
 .cond (.tmp 13)
 (.skip)
 (.keep [0] <|
 .exit 0)) <|
 .seq (.block 1 <|
 .seq (.dops [
 ⟨some 16, .mv (.tmp 0), none, 0⟩,
 ⟨some 17, .mv (.tmp 3), none, 0⟩,
 ⟨some 18, .idx 1 (.tmp 16) (.tmp 17), none, 0⟩,
 ⟨some 19, .load false 1 (.tmp 18), none, 0⟩,
 ⟨some 20, .mv (.tmp 0), none, 0⟩,
 ⟨some 21, .mv (.tmp 3), none, 0⟩,
 ⟨some 22, .bin .sub (.tmp 21) (.const (.int .i64 1)), none, 0⟩,
 ⟨some 23, .idx 1 (.tmp 20) (.tmp 22), none, 0⟩,
 ⟨some 24, .load false 1 (.tmp 23), none, 0⟩,
 ⟨some 25, .bin .eql (.tmp 19) (.tmp 24), none, 0⟩]) <|
 .cond (.tmp 25)
 (.seq (.ops [
 ⟨some 26, .mv (.tmp 0), none, 0⟩,
 ⟨some 27, .mv (.tmp 3), none, 0⟩,
 ⟨some 28, .slc 1 (.tmp 26) (some (.tmp 27)) none, none, 0⟩,
 ⟨some 4, .mv (.tmp 28), none, 0⟩]) <|
 .seq (.seq (.ops [
 ⟨some 5, .mv (.const (.int .i64 1)), none, 0⟩]) <|
 .block 2 <|
 .loop [0, 3, 4, 5] i_zz26_B1) <|
 .seq (.ops [
 ⟨some 54, .mv (.tmp 0), none, 0⟩,
 ⟨some 55, .mv (.tmp 3), none, 0⟩,
 ⟨some 56, .slc 1 (.tmp 54) (some (.tmp 55)) none, none, 0⟩,
 ⟨none, .clr 1 [.int .i64 0] (.tmp 56), none, 0⟩]) <|
 .seq (.ops [
 ⟨some 57, .mv (.tmp 0), none, 0⟩,
 ⟨some 58, .mv (.tmp 3), none, 0⟩,
 ⟨some 59, .slc 1 (.tmp 57) none (some (.tmp 58)), none, 0⟩,
 ⟨some 2, .mv (.tmp 59), none, 0⟩]) <|
 .keep [2] <|
 .ret)
 (.skip)) <|
 .ops [
 ⟨some 14, .mv (.tmp 3), none, 0⟩,
 ⟨some 15, .bin .add (.tmp 14) (.const (.int .i64 1)), none, 0⟩,
 ⟨some 3, .mv (.tmp 15), none, 0⟩]
def i_zz26 : FF := ⟨61, [.tmp 2],
 .seq (.ops [
 ⟨some 2, .mv (.const (.slice none 0 0)), none, 0⟩]) <|
 .seq (.seq (.ops [
 ⟨some 6, .mv (.tmp 0), none, 0⟩,
 ⟨some 7, .len (.tmp 6), none, 0⟩,
 ⟨some 8, .bin .lss (.tmp 7) (.const (.int .i64 2)), none, 0⟩]) <|
 .cond (.tmp 8)
 (.seq (.ops [
 ⟨some 9, .mv (.tmp 0), none, 0⟩,
 ⟨some 2, .mv (.tmp 9), none, 0⟩]) <|
 .keep [2] <|
 .ret)
 (.skip)) <|
 .seq (.seq (.ops [
 ⟨some 3, .mv (.const (.int .i64 1)), none, 0⟩]) <|
 .block 0 <|
 .loop [0, 3] i_zz26_B2) <|
 .seq (.ops [
 ⟨some 60, .mv (.tmp 0), none, 0⟩,
 ⟨some 2, .mv (.tmp 60), none, 0⟩]) <|
 .keep [2] <|
 .ret⟩
theorem e_zz26 : EntOK Tryd.prog (compD Tryd.prog) k_zz26 i_zz26.vf :=
 ⟨Tryd.f26, Tryd.f26.body.getD .skip, Tryd.func26, by kernel_rfl, by kernel_rfl, by kernel_rfl, by kernel_rfl, by kernel_rfl⟩
/-- slices.Index[[]int64,int64] -/
def i_zz34_B1 : FC :=
 .seq (.ops [
 ⟨some 9, .bin .lss (.tmp 8) (.tmp 7), none, 0⟩]) <|
 .seq (.cond (.tmp 9)
 (.skip)
 (.keep [] <|
 .exit 0)) <|
 .seq (.block 1 <|
 .seq (.ops [
 ⟨some 10, .mv (.tmp 8), none, 0⟩,
 ⟨some 5, .mv (.tmp 10), none, 0⟩]) <|
 .seq (.ops [
 ⟨some 11, .mv (.tmp 1), none, 0⟩,
 ⟨some 12, .mv (.tmp 0), none, 0⟩,
 ⟨some 13, .mv (.tmp 5), none, 0⟩,
 ⟨some 14, .idx 1 (.tmp 12) (.tmp 13), none, 0⟩,
 ⟨some 15, .load false 1 (.tmp 14), none, 0⟩,
 ⟨some 16, .bin .eql (.tmp 11) (.tmp 15), none, 0⟩]) <|
 .cond (.tmp 16)
 (.seq (.ops [
 ⟨some 17, .mv (.tmp 5), none, 0⟩,
 ⟨some 4, .mv (.tmp 17), none, 0⟩]) <|
 .keep [4] <|
 .ret)
 (.skip)) <|
 .ops [
 ⟨some 18, .bin .add (.tmp 8) (.const (.int .i64 1)), none, 0⟩,
 ⟨some 8, .mv (.tmp 18), none, 0⟩]
def i_zz34 : FF := ⟨19, [.tmp 4],
 .seq (.ops [
 ⟨some 4, .mv (.const (.int .i64 0)), none, 0⟩]) <|
 .seq (.seq (.ops [
 ⟨some 6, .mv (.tmp 0), none, 0⟩,
 ⟨some 7, .len (.tmp 6), none, 0⟩,
 ⟨some 8, .mv (.const (.int .i64 0)), none, 0⟩]) <|
 .block 0 <|
 .loop [0, 1, 7, 8] i_zz34_B1) <|
 .seq (.ops [
 ⟨some 4, .mv (.const (.int .i64 (-1))), none, 0⟩]) <|
 .keep [4] <|
 .ret⟩
theorem e_zz34 : EntOK Tryd.prog (compD Tryd.prog) k_zz34 i_zz34.vf :=
 ⟨Tryd.f27, Tryd.f27.body.getD .skip, Tryd.func27, by kernel_rfl, by kernel_rfl, by kernel_rfl, by kernel_rfl, by kernel_rfl⟩
def i_zz43_B1 : FC :=
 .seq (.ops [
 ⟨some 41, .bin .lss (.tmp 40) (.tmp 39), none, 0⟩]) <|
 .seq (.cond (.tmp 41)
 (.skip)
 (.keep [0, 2, 3, 4, 5, 6, 23, 24, 25] <|
 .exit 4)) <|
 .seq (.block 5 <|
 .seq (.ops [
 ⟨some 42, .mv (.tmp 40), none, 0⟩,
 ⟨some 43, .idx 1 (.tmp 38) (.tmp 40), none, 0⟩,
 ⟨some 44, .load false 1 (.tmp 43), none, 0⟩,
 ⟨some 7, .mv (.tmp 42), none, 0⟩,
 ⟨some 8, .mv (.tmp 44), none, 0⟩]) <|
 .dops [
 ⟨some 45, .mv (.tmp 6), none, 0⟩,
 ⟨some 46, .mv (.tmp 8), none, 0⟩,
 ⟨some 47, .idx 1 (.tmp 45) (.tmp 46), none, 0⟩,
 ⟨some 48, .load false 1 (.tmp 47), none, 0⟩,
 ⟨some 49, .mv (.tmp 7), none, 0⟩,
 ⟨some 50, .bin .shl (.const (.int .i64 1)) (.tmp 49), none, 0⟩,
 ⟨some 51, .bin .or (.tmp 48) (.tmp 50), none, 0⟩,
 ⟨some 52, .idx 1 (.tmp 45) (.tmp 46), none, 0⟩,
 ⟨none, .store 1 (.tmp 52) (.tmp 51), none, 0⟩]) <|
 .ops [
 ⟨some 53, .bin .add (.tmp 40) (.const (.int .i64 1)), none, 0⟩,
 ⟨some 40, .mv (.tmp 53), none, 0⟩]
def i_zz43_B2 : FC :=
 .seq (.ops [
 ⟨some 72, .bin .lss (.tmp 71) (.tmp 70), none, 0⟩]) <|
 .seq (.cond (.tmp 72)
 (.skip)
 (.keep [0, 2, 3, 4, 5, 6, 9, 11, 23, 24, 25, 60, 61, 62] <|
 .exit 8)) <|
 .seq (.block 9 <|
 .seq (.ops [
 ⟨some 73, .idx 1 (.tmp 69) (.tmp 71), none, 0⟩,
 ⟨some 74, .load false 1 (.tmp 73), none, 0⟩,
 ⟨some 13, .mv (.tmp 74), none, 0⟩]) <|
 .ops [
 ⟨some 75, .mv (.tmp 11), none, 0⟩,
 ⟨some 76, .fld 1 (.tmp 5), none, 0⟩,
 ⟨some 77, .load false 1 (.tmp 76), none, 0⟩,
 ⟨some 78, .mv (.tmp 9), none, 0⟩,
 ⟨some 79, .idx 1 (.tmp 77) (.tmp 78), none, 0⟩,
 ⟨some 80, .load false 1 (.tmp 79), none, 0⟩,
 ⟨some 81, .mv (.tmp 13), none, 0⟩,
 ⟨some 82, .bin .and (.tmp 80) (.tmp 81), none, 0⟩,
 ⟨some 83, .call k_zz74 [(.tmp 82)], none, 0⟩,
 ⟨some 84, .buildSl 1 [.int .i64 0] [(0, 1, (.tmp 83))] 1, none, 0⟩,
 ⟨some 85, .app 1 8 [.int .i64 0] (.tmp 75) (.tmp 84), none, 0⟩,
 ⟨some 11, .mv (.tmp 85), none, 0⟩]) <|
 .ops [
 ⟨some 86, .bin .add (.tmp 71) (.const (.int .i64 1)), none, 0⟩,
 ⟨some 71, .mv (.tmp 86), none, 0⟩]
def i_zz43_B3 : FC :=
 .seq (.ops [
 ⟨some 63, .bin .lss (.tmp 62) (.tmp 61), none, 0⟩]) <|
 .seq (.cond (.tmp 63)
 (.skip)
 (.keep [0, 2, 3, 23, 24, 25] <|
 .exit 6)) <|
 .seq (.block 7 <|
 .seq (.ops [
 ⟨some 64, .mv (.tmp 62), none, 0⟩,
 ⟨some 65, .idx 1 (.tmp 60) (.tmp 62), none, 0⟩,
 ⟨some 66, .load false 1 (.tmp 65), none, 0⟩,
 ⟨some 9, .mv (.tmp 64), none, 0⟩,
 ⟨some 10, .mv (.tmp 66), none, 0⟩]) <|
 .seq (.ops [
 ⟨some 67, .mv (.tmp 10), none, 0⟩,
 ⟨some 68, .buildSl 1 [.int .i64 0] [(0, 1, (.tmp 67))] 1, none, 0⟩,
 ⟨some 11, .mv (.tmp 68), none, 0⟩]) <|
 .seq (.seq (.ops [
 ⟨some 69, .mv (.tmp 6), none, 0⟩,
 ⟨some 70, .len (.tmp 69), none, 0⟩,
 ⟨some 71, .mv (.const (.int .i64 0)), none, 0⟩]) <|
 .block 8 <|
 .loop [0, 2, 3, 4, 5, 6, 9, 11, 23, 24, 25, 60, 61, 62, 69, 70, 71] i_zz43_B2) <|
 .ops [
 ⟨some 87, .mv (.tmp 3), none, 0⟩,
 ⟨some 88, .mv (.tmp 4), none, 0⟩,
 ⟨some 89, .mv (.tmp 9), none, 0⟩,
 ⟨some 90, .mv (.tmp 11), none, 0⟩,
 ⟨some 91, .build [.int .i64 0, .int .i64 0, .slice none 0 0] [(0, 1, (.tmp 88)), (1, 1, (.tmp 89)), (2, 1, (.tmp 90))], none, 0⟩,
 ⟨some 92, .buildSl 3 [.int .i64 0, .int .i64 0, .slice none 0 0] [(0, 3, (.tmp 91))] 1, none, 0⟩,
 ⟨some 93, .app 3 40 [.int .i64 0, .int .i64 0, .slice none 0 0] (.tmp 87) (.tmp 92), none, 0⟩,
 ⟨some 3, .mv (.tmp 93), none, 0⟩]) <|
 .ops [
 ⟨some 94, .bin .add (.tmp 62) (.const (.int .i64 1)), none, 0⟩,
 ⟨some 62, .mv (.tmp 94), none, 0⟩]
def i_zz43_B4 : FC :=
 .seq (.ops [
 ⟨some 26, .bin .lss (.tmp 25) (.tmp 24), none, 0⟩]) <|
 .seq (.cond (.tmp 26)
 (.skip)
 (.keep [0, 2, 3] <|
 .exit 2)) <|
 .seq (.block 3 <|
 .seq (.ops [
 ⟨some 27, .mv (.tmp 25), none, 0⟩,
 ⟨some 28, .idx 2 (.tmp 23) (.tmp 25), none, 0⟩,
 ⟨some 29, .load true 2 (.tmp 28), none, 0⟩,
 ⟨some 5, .alloc [.int .i64 0, .slice none 0 0], none, 0⟩,
 ⟨some 4, .mv (.tmp 27), none, 0⟩,
 ⟨none, .store 2 (.tmp 5) (.tmp 29), none, 0⟩]) <|
 .seq (.ops [
 ⟨some 30, .mv (.tmp 2), none, 0⟩,
 ⟨some 31, .mkSl 1 [.int .i64 0] 8 (.tmp 30) (.tmp 30), none, 0⟩,
 ⟨some 6, .mv (.tmp 31), none, 0⟩]) <|
 .seq (.seq (.ops [
 ⟨some 32, .mv (.tmp 0), none, 0⟩,
 ⟨some 33, .nilchk (.tmp 32), none, 0⟩,
 ⟨some 34, .fld 1 (.tmp 33), none, 0⟩,
 ⟨some 35, .load false 1 (.tmp 34), none, 0⟩,
 ⟨some 36, .mv (.tmp 4), none, 0⟩,
 ⟨some 37, .idx 1 (.tmp 35) (.tmp 36), none, 0⟩,
 ⟨some 38, .load false 1 (.tmp 37), none, 0⟩,
 ⟨some 39, .len (.tmp 38), none, 0⟩,
 ⟨some 40, .mv (.const (.int .i64 0)), none, 0⟩]) <|
 .block 4 <|
 .loop [0, 2, 3, 4, 5, 6, 23, 24, 25, 38, 39, 40] i_zz43_B1) <|
 .seq (.ops [
 ⟨some 54, .mv (.tmp 0), none, 0⟩,
 ⟨some 55, .nilchk (.tmp 54), none, 0⟩,
 ⟨some 56, .fld 1 (.tmp 55), none, 0⟩,
 ⟨some 57, .load false 1 (.tmp 56), none, 0⟩,
 ⟨some 58, .mv (.tmp 4), none, 0⟩,
 ⟨some 59, .idx 1 (.tmp 57) (.tmp 58), none, 0⟩,
 ⟨some 60, .load false 1 (.tmp 59), none, 0⟩,
 ⟨some 61, .len (.tmp 60), none, 0⟩,
 ⟨some 62, .mv (.const (.int .i64 0)), none, 0⟩]) <|
 .block 6 <|
 .loop [0, 2, 3, 4, 5, 6, 23, 24, 25, 60, 61, 62] i_zz43_B3) <|
 .ops [
 ⟨some 95, .bin .add (.tmp 25) (.const (.int .i64 1)), none, 0⟩,
 ⟨some 25, .mv (.tmp 95), none, 0⟩]
def i_zz43_B5 : FC :=
 .seq (.ops [
 ⟨some 101, .bin .lss (.tmp 100) (.tmp 99), none, 0⟩]) <|
 .seq (.cond (.tmp 101)
 (.skip)
 (.keep [0, 2, 14] <|
 .exit 10)) <|
 .seq (.block 11 <|
 .seq (.ops [
 ⟨some 102, .mv (.tmp 100), none, 0⟩,
 ⟨some 103, .idx 3 (.tmp 98) (.tmp 100), none, 0⟩,
 ⟨some 104, .load true 3 (.tmp 103), none, 0⟩,
 ⟨some 16, .alloc [.int .i64 0, .int .i64 0, .slice none 0 0], none, 0⟩,
 ⟨some 15, .mv (.tmp 102), none, 0⟩,
 ⟨none, .store 3 (.tmp 16) (.tmp 104), none, 0⟩]) <|
 .seq (.seq (.dops [
 ⟨some 105, .mv (.tmp 15), none, 0⟩,
 ⟨some 106, .bin .eql (.tmp 105) (.const (.int .i64 0)), none, 0⟩,
 ⟨some 107, .mv (.tmp 106), none, 0⟩,
 ⟨some 108, .fld 2 (.tmp 16), some (107, false), 0⟩,
 ⟨some 109, .load false 1 (.tmp 108), some (107, false), 0⟩,
 ⟨some 110, .mv (.tmp 3), some (107, false), 0⟩,
 ⟨some 111, .mv (.tmp 15), some (107, false), 0⟩,
 ⟨some 112, .bin .sub (.tmp 111) (.const (.int .i64 1)), some (107, false), 0⟩,
 ⟨some 113, .idx 3 (.tmp 110) (.tmp 112), some (107, false), 0⟩,
 ⟨some 114, .fld 2 (.tmp 113), some (107, false), 0⟩,
 ⟨some 115, .load false 1 (.tmp 114), some (107, false), 0⟩,
 ⟨some 116, .call k_zz27 [(.tmp 109), (.tmp 115)], some (107, false), 0⟩,
 ⟨some 117, .bin .neq (.tmp 116) (.const (.int .i64 0)), some (107, false), 0⟩,
 ⟨some 118, .pick (.tmp 107) (.const (.bool true)) (.tmp 117), none, 0⟩]) <|
 .cond (.tmp 118)
 (.ops [
 ⟨some 119, .mv (.tmp 14), none, 0⟩,
 ⟨some 120, .bin .add (.tmp 119) (.const (.int .i64 1)), none, 0⟩,
 ⟨some 14, .mv (.tmp 120), none, 0⟩])
 (.skip)) <|
 .dops [
 ⟨some 121, .mv (.tmp 0), none, 0⟩,
 ⟨some 122, .nilchk (.tmp 121), none, 0⟩,
 ⟨some 123, .fld 1 (.tmp 122), none, 0⟩,
 ⟨some 124, .load false 1 (.tmp 123), none, 0⟩,
 ⟨some 125, .fld 0 (.tmp 16), none, 0⟩,
 ⟨some 126, .load false 1 (.tmp 125), none, 0⟩,
 ⟨some 127, .idx 1 (.tmp 124) (.tmp 126), none, 0⟩,
 ⟨some 128, .load false 1 (.tmp 127), none, 0⟩,
 ⟨some 129, .fld 1 (.tmp 16), none, 0⟩,
 ⟨some 130, .load false 1 (.tmp 129), none, 0⟩,
 ⟨some 131, .mv (.tmp 14), none, 0⟩,
 ⟨some 132, .idx 1 (.tmp 128) (.tmp 130), none, 0⟩,
 ⟨none, .store 1 (.tmp 132) (.tmp 131), none, 0⟩]) <|
 .ops [
 ⟨some 133, .bin .add (.tmp 100) (.const (.int .i64 1)), none, 0⟩,
 ⟨some 100, .mv (.tmp 133), none, 0⟩]
def i_zz43_B6 : FC :=
 .block 1 <|
 .seq (.ops [
 ⟨some 17, .mv (.tmp 0), none, 0⟩,
 ⟨some 18, .call k_zz47 [(.tmp 17)], none, 0⟩,
 ⟨some 2, .mv (.tmp 18), none, 0⟩]) <|
 .seq (.ops [
 ⟨some 19, .buildSl 3 [] [] 0, none, 0⟩,
 ⟨some 3, .mv (.tmp 19), none, 0⟩]) <|
 .seq (.seq (.ops [
 ⟨some 20, .mv (.tmp 0), none, 0⟩,
 ⟨some 21, .nilchk (.tmp 20), none, 0⟩,
 ⟨some 22, .fld 0 (.tmp 21), none, 0⟩,
 ⟨some 23, .load false 1 (.tmp 22), none, 0⟩,
 ⟨some 24, .len (.tmp 23), none, 0⟩,
 ⟨some 25, .mv (.const (.int .i64 0)), none, 0⟩]) <|
 .block 2 <|
 .loop [0, 2, 3, 23, 24, 25] i_zz43_B4) <|
 .seq (.ops [
 ⟨some 96, .mv (.tmp 3), none, 0⟩,
 ⟨some 97, .call k_zz7 [(.tmp 96), (.func k_zz37)], none, 0⟩]) <|
 .seq (.ops [
 ⟨some 14, .mv (.const (.int .i64 (-1))), none, 0⟩]) <|
 .seq (.seq (.ops [
 ⟨some 98, .mv (.tmp 3), none, 0⟩,
 ⟨some 99, .len (.tmp 98), none, 0⟩,
 ⟨some 100, .mv (.const (.int .i64 0)), none, 0⟩]) <|
 .block 10 <|
 .loop [0, 2, 3, 14, 98, 99, 100] i_zz43_B5) <|
 .seq (.ops [
 ⟨some 134, .mv (.tmp 14), none, 0⟩,
 ⟨some 135, .bin .add (.tmp 134) (.const (.int .i64 1)), none, 0⟩,
 ⟨some 136, .mv (.tmp 2), none, 0⟩,
 ⟨some 137, .bin .eql (.tmp 135) (.tmp 136), none, 0⟩]) <|
 .cond (.tmp 137)
 (.keep [] <|
 .ret)
 (.skip)
def i_zz43 : FF := ⟨138, [],
 .block 0 <|
 .loop [0] i_zz43_B6⟩
theorem e_zz43 : EntOK Tryd.prog (compD Tryd.prog) k_zz43 i_zz43.vf :=
 ⟨Tryd.f28, Tryd.f28.body.getD .skip, Tryd.func28, by kernel_rfl, by kernel_rfl, by kernel_rfl, by kernel_rfl, by kernel_rfl⟩
def i_zz45 : FF := ⟨26, [.tmp 2],
 .seq (.ops [
 ⟨some 2, .mv (.const (.bool false)), none, 0⟩]) <|
 .seq (.dops [
 ⟨some 5, .mv (.tmp 0), none, 0⟩,
 ⟨some 6, .nilchk (.tmp 5), none, 0⟩,
 ⟨some 7, .fld 1 (.tmp 6), none, 0⟩,
 ⟨some 8, .load false 1 (.tmp 7), none, 0⟩,
 ⟨some 9, .idx 1 (.tmp 8) (.const (.int .i64 0)), none, 0⟩,
 ⟨some 10, .load false 1 (.tmp 9), none, 0⟩,
 ⟨some 11, .call k_zz32 [(.tmp 10)], none, 0⟩,
 ⟨some 12, .mv (.tmp 0), none, 1⟩,
 ⟨some 13, .nilchk (.tmp 12), none, 1⟩,
 ⟨some 14, .fld 1 (.tmp 13), none, 1⟩,
 ⟨some 15, .load false 1 (.tmp 14), none, 1⟩,
 ⟨some 16, .idx 1 (.tmp 15) (.const (.int .i64 1)), none, 1⟩,
 ⟨some 17, .load false 1 (.tmp 16), none, 1⟩,
 ⟨some 18, .call k_zz32 [(.tmp 17)], none, 0⟩,
 ⟨some 3, .mv (.tmp 11), none, 0⟩,
 ⟨some 4, .mv (.tmp 18), none, 0⟩]) <|
 .seq (.ops [
 ⟨some 19, .mv (.tmp 3), none, 0⟩,
 ⟨some 20, .call k_zz36 [(.tmp 19)], none, 0⟩]) <|
 .seq (.ops [
 ⟨some 21, .mv (.tmp 4), none, 0⟩,
 ⟨some 22, .call k_zz36 [(.tmp 21)], none, 0⟩]) <|
 .seq (.ops [
 ⟨some 23, .mv (.tmp 3), none, 0⟩,
 ⟨some 24, .mv (.tmp 4), none, 0⟩,
 ⟨some 25, .call k_zz33 [(.tmp 23), (.tmp 24)], none, 0⟩,
 ⟨some 2, .mv (.tmp 25), none, 0⟩]) <|
 .keep [2] <|
 .ret⟩
theorem e_zz45 : EntOK Tryd.prog (compD Tryd.prog) k_zz45 i_zz45.vf :=
 ⟨Tryd.f29, Tryd.f29.body.getD .skip, Tryd.func29, by kernel_rfl, by kernel_rfl, by kernel_rfl, by kernel_rfl, by kernel_rfl⟩
def i_zz47_B1 : FC :=
 .seq (.ops [
 ⟨some 12, .bin .lss (.tmp 11) (.tmp 10), none, 0⟩]) <|
 .seq (.cond (.tmp 12)
 (.skip)
 (.keep [3] <|
 .exit 0)) <|
 .seq (.block 1 <|
 .seq (.ops [
 ⟨some 13, .idx 1 (.tmp 9) (.tmp 11), none, 0⟩,
 ⟨some 14, .load false 1 (.tmp 13), none, 0⟩,
 ⟨some 5, .mv (.tmp 14), none, 0⟩]) <|
 .ops [
 ⟨some 15, .mv (.tmp 3), none, 0⟩,
 ⟨some 16, .mv (.tmp 5), none, 0⟩,
 ⟨some 17, .call k_zz38 [(.tmp 16)], none, 0⟩,
 ⟨some 18, .minmax true [(.tmp 15), (.tmp 17)], none, 0⟩,
 ⟨some 3, .mv (.tmp 18), none, 0⟩]) <|
 .ops [
 ⟨some 19, .bin .add (.tmp 11) (.const (.int .i64 1)), none, 0⟩,
 ⟨some 11, .mv (.tmp 19), none, 0⟩]
def i_zz47 : FF := ⟨22, [.tmp 2],
 .seq (.ops [
 ⟨some 2, .mv (.const (.int .i64 0)), none, 0⟩]) <|
 .seq (.ops [
 ⟨some 3, .mv (.const (.int .i64 0)), none, 0⟩]) <|
 .seq (.seq (.ops [
 ⟨some 6, .mv (.tmp 0), none, 0⟩,
 ⟨some 7, .nilchk (.tmp 6), none, 0⟩,
 ⟨some 8, .fld 1 (.tmp 7), none, 0⟩,
 ⟨some 9, .load false 1 (.tmp 8), none, 0⟩,
 ⟨some 10, .len (.tmp 9), none, 0⟩,
 ⟨some 11, .mv (.const (.int .i64 0)), none, 0⟩]) <|
 .block 0 <|
 .loop [3, 9, 10, 11] i_zz47_B1) <|
 .seq (.ops [
 ⟨some 20, .mv (.tmp 3), none, 0⟩,
 ⟨some 21, .bin .add (.tmp 20) (.const (.int .i64 1)), none, 0⟩,
 ⟨some 2, .mv (.tmp 21), none, 0⟩]) <|
 .keep [2] <|
 .ret⟩
theorem e_zz47 : EntOK Tryd.prog (compD Tryd.prog) k_zz47 i_zz47.vf :=
 ⟨Tryd.f30, Tryd.f30.body.getD .skip, Tryd.func30, by kernel_rfl, by kernel_rfl, by kernel_rfl, by kernel_rfl, by kernel_rfl⟩
/-- loop.example/g01331/impl.list -/
def i_zz73_B1 : FC :=
 .seq (.seq (.ops [
 ⟨some 5, .mv (.tmp 0), none, 0⟩,
 ⟨some 6, .bin .neq (.tmp 5) (.const (.int .i64 0)), none, 0⟩]) <|
 .cond (.tmp 6)
 (.skip)
 (.keep [3] <|
 .exit 0)) <|
 .seq (.block 1 <|
 .ops [
 ⟨some 11, .mv (.tmp 3), none, 0⟩,
 ⟨some 12, .mv (.tmp 0), none, 0⟩,
 ⟨some 13, .conv .u64 (.tmp 12), none, 0⟩,
 ⟨some 14, .call k_math_bits_TrailingZeros64 [(.tmp 13)], none, 0⟩,
 ⟨some 15, .buildSl 1 [.int .i64 0] [(0, 1, (.tmp 14))] 1, none, 0⟩,
 ⟨some 16, .app 1 8 [.int .i64 0] (.tmp 11) (.tmp 15), none, 0⟩,
 ⟨some 3, .mv (.tmp 16), none, 0⟩]) <|
 .ops [
 ⟨some 7, .mv (.tmp 0), none, 0⟩,
 ⟨some 8, .mv (.tmp 0), none, 0⟩,
 ⟨some 9, .bin .sub (.tmp 8) (.const (.int .i64 1)), none, 0⟩,
 ⟨some 10, .bin .and (.tmp 7) (.tmp 9), none, 0⟩,
 ⟨some 0, .mv (.tmp 10), none, 0⟩]
def i_zz73 : FF := ⟨18, [.tmp 2],
 .seq (.ops [
 ⟨some 2, .mv (.const (.slice none 0 0)), none, 0⟩]) <|
 .seq (.ops [
 ⟨some 4, .buildSl 1 [] [] 0, none, 0⟩,
 ⟨some 3, .mv (.tmp 4), none, 0⟩]) <|
 .seq (.block 0 <|
 .loop [0, 3] i_zz73_B1) <|
 .seq (.ops [
 ⟨some 17, .mv (.tmp 3), none, 0⟩,
 ⟨some 2, .mv (.tmp 17), none, 0⟩]) <|
 .keep [2] <|
 .ret⟩
theorem e_zz73 : EntOK Tryd.prog (compD Tryd.prog) k_zz73 i_zz73.vf :=
 ⟨Tryd.f31, Tryd.f31.body.getD .skip, Tryd.func31, by kernel_rfl, by kernel_rfl, by kernel_rfl, by kernel_rfl, by kernel_rfl⟩
def i_zz54 : FF := ⟨16, [.tmp 6],
 .seq (.ops [
 ⟨some 3, .box 2 (.tmp 0), none, 0⟩,
 ⟨some 6, .mv (.const (.bool false)), none, 0⟩]) <|
 .seq (.ops [
 ⟨some 7, .fld 1 (.tmp 3), none, 0⟩,
 ⟨some 8, .load false 1 (.tmp 7), none, 0⟩,
 ⟨some 9, .mv (.tmp 1), none, 0⟩,
 ⟨some 10, .idx 1 (.tmp 8) (.tmp 9), none, 0⟩,
 ⟨some 11, .load false 1 (.tmp 10), none, 0⟩,
 ⟨some 12, .mv (.tmp 2), none, 0⟩,
 ⟨some 13, .bin .shr (.tmp 11) (.tmp 12), none, 0⟩,
 ⟨some 14, .bin .and (.tmp 13) (.const (.int .i64 1)), none, 0⟩,
 ⟨some 15, .bin .eql (.tmp 14) (.const (.int .i64 1)), none, 0⟩,
 ⟨some 6, .mv (.tmp 15), none, 0⟩]) <|
 .keep [6] <|
 .ret⟩
theorem e_zz54 : EntOK Tryd.prog (compD Tryd.prog) k_zz54 i_zz54.vf :=
 ⟨Tryd.f32, Tryd.f32.body.getD .skip, Tryd.func32, by kernel_rfl, by kernel_rfl, by kernel_rfl, by kernel_rfl, by kernel_rfl⟩
/-- slices.IndexFunc[[]int64,int64] -/
def i_zz22_B1 : FC :=
 .seq (.ops [
 ⟨some 9, .bin .lss (.tmp 8) (.tmp 7), none, 0⟩]) <|
 .seq (.cond (.tmp 9)
 (.skip)
 (.keep [] <|
 .exit 0)) <|
 .seq (.block 1 <|
 .seq (.ops [
 ⟨some 10, .mv (.tmp 8), none, 0⟩,
 ⟨some 5, .mv (.tmp 10), none, 0⟩]) <|
 .seq (.ops [
 ⟨some 11, .mv (.tmp 1), none, 0⟩,
 ⟨some 12, .mv (.tmp 0), none, 0⟩,
 ⟨some 13, .mv (.tmp 5), none, 0⟩,
 ⟨some 14, .idx 1 (.tmp 12) (.tmp 13), none, 0⟩,
 ⟨some 15, .load false 1 (.tmp 14), none, 0⟩,
 ⟨some 16, .callv (.tmp 11) [(.tmp 15)], none, 0⟩]) <|
 .cond (.tmp 16)
 (.seq (.ops [
 ⟨some 17, .mv (.tmp 5), none, 0⟩,
 ⟨some 4, .mv (.tmp 17), none, 0⟩]) <|
 .keep [4] <|
 .ret)
 (.skip)) <|
 .ops [
 ⟨some 18, .bin .add (.tmp 8) (.const (.int .i64 1)), none, 0⟩,
 ⟨some 8, .mv (.tmp 18), none, 0⟩]
def i_zz22 : FF := ⟨19, [.tmp 4],
 .seq (.ops [
 ⟨some 4, .mv (.const (.int .i64 0)), none, 0⟩]) <|
 .seq (.seq (.ops [
 ⟨some 6, .mv (.tmp 0), none, 0⟩,
 ⟨some 7, .len (.tmp 6), none, 0⟩,
 ⟨some 8, .mv (.const (.int .i64 0)), none, 0⟩]) <|
 .block 0 <|
 .loop [0, 1, 7, 8] i_zz22_B1) <|
 .seq (.ops [
 ⟨some 4, .mv (.const (.int .i64 (-1))), none, 0⟩]) <|
 .keep [4] <|
 .ret⟩
theorem e_zz22 : EntOK Tryd.prog (compD Tryd.prog) k_zz22 i_zz22.vf :=
 ⟨Tryd.f33, Tryd.f33.body.getD .skip, Tryd.func33, by kernel_rfl, by kernel_rfl, by kernel_rfl, by kernel_rfl, by kernel_rfl⟩
def i_zz35 : FF := ⟨21, [.tmp 3],
 .seq (.ops [
 ⟨some 3, .mv (.const (.bool false)), none, 0⟩]) <|
 .seq (.dops [
 ⟨some 4, .load false 1 (.tmp 1), none, 0⟩,
 ⟨some 5, .nilchk (.tmp 4), none, 0⟩,
 ⟨some 6, .fld 1 (.tmp 5), none, 0⟩,
 ⟨some 7, .load false 1 (.tmp 6), none, 0⟩,
 ⟨some 8, .idx 1 (.tmp 7) (.const (.int .i64 0)), none, 0⟩,
 ⟨some 9, .load false 1 (.tmp 8), none, 0⟩,
 ⟨some 10, .mv (.tmp 0), none, 0⟩,
 ⟨some 11, .call k_zz34 [(.tmp 9), (.tmp 10)], none, 0⟩,
 ⟨some 12, .load false 1 (.tmp 1), none, 1⟩,
 ⟨some 13, .nilchk (.tmp 12), none, 1⟩,
 ⟨some 14, .fld 1 (.tmp 13), none, 1⟩,
 ⟨some 15, .load false 1 (.tmp 14), none, 1⟩,
 ⟨some 16, .idx 1 (.tmp 15) (.const (.int .i64 0)), none, 1⟩,
 ⟨some 17, .load false 1 (.tmp 16), none, 1⟩,
 ⟨some 18, .mv (.tmp 0), none, 1⟩,
 ⟨some 19, .call k_zz56 [(.tmp 17), (.tmp 18)], none, 0⟩,
 ⟨some 20, .bin .neq (.tmp 11) (.tmp 19), none, 0⟩,
 ⟨some 3, .mv (.tmp 20), none, 0⟩]) <|
 .keep [3] <|
 .ret⟩
theorem e_zz35 : EntOK Tryd.prog (compD Tryd.prog) k_zz35 i_zz35.vf :=
 ⟨Tryd.f34, Tryd.f34.body.getD .skip, Tryd.func34, by kernel_rfl, by kernel_rfl, by kernel_rfl, by kernel_rfl, by kernel_rfl⟩
/-- loop.example/g01331/impl.lastIndex -/
def i_zz56_B1 : FC :=
 .seq (.seq (.ops [
 ⟨some 9, .mv (.tmp 5), none, 0⟩,
 ⟨some 10, .bin .geq (.tmp 9) (.const (.int .i64 0)), none, 0⟩]) <|
 .cond (.tmp 10)
 (.skip)
 (.keep [] <|
 .exit 0)) <|
 .seq (.block 1 <|
 .seq (.ops [
 ⟨some 13, .mv (.tmp 0), none, 0⟩,
 ⟨some 14, .mv (.tmp 5), none, 0⟩,
 ⟨some 15, .idx 1 (.tmp 13) (.tmp 14), none, 0⟩,
 ⟨some 16, .load false 1 (.tmp 15), none, 0⟩,
 ⟨some 17, .mv (.tmp 1), none, 0⟩,
 ⟨some 18, .bin .eql (.tmp 16) (.tmp 17), none, 0⟩]) <|
 .cond (.tmp 18)
 (.seq (.ops [
 ⟨some 19, .mv (.tmp 5), none, 0⟩,
 ⟨some 4, .mv (.tmp 19), none, 0⟩]) <|
 .keep [4] <|
 .ret)
 (.skip)) <|
 .ops [
 ⟨some 11, .mv (.tmp 5), none, 0⟩,
 ⟨some 12, .bin .sub (.tmp 11) (.const (.int .i64 1)), none, 0⟩,
 ⟨some 5, .mv (.tmp 12), none, 0⟩]
def i_zz56 : FF := ⟨20, [.tmp 4],
 .seq (.ops [
 ⟨some 4, .mv (.const (.int .i64 0)), none, 0⟩]) <|
 .seq (.seq (.ops [
 ⟨some 6, .mv (.tmp 0), none, 0⟩,
 ⟨some 7, .len (.tmp 6), none, 0⟩,
 ⟨some 8, .bin .sub (.tmp 7) (.const (.int .i64 1)), none, 0⟩,
 ⟨some 5, .mv (.tmp 8), none, 0⟩]) <|
 .block 0 <|
 .loop [0, 1, 5] i_zz56_B1) <|
 .seq (.ops [
 ⟨some 4, .mv (.const (.int .i64 (-1))), none, 0⟩]) <|
 .keep [4] <|
 .ret⟩
theorem e_zz56 : EntOK Tryd.prog (compD Tryd.prog) k_zz56 i_zz56.vf :=
 ⟨Tryd.f35, Tryd.f35.body.getD .skip, Tryd.func35, by kernel_rfl, by kernel_rfl, by kernel_rfl, by kernel_rfl, by kernel_rfl⟩
/-- slices.Clone[[]int64,int64] -/
def i_zz32 : FF := ⟨8, [.tmp 2],
 .seq (.ops [
 ⟨some 2, .mv (.const (.slice none 0 0)), none, 0⟩]) <|
 .seq (.seq (.ops [
 ⟨some 3, .mv (.tmp 0), none, 0⟩,
 ⟨some 4, .eqnilS false (.tmp 3), none, 0⟩]) <|
 .cond (.tmp 4)
 (.seq (.ops [
 ⟨some 2, .mv (.const (.slice none 0 0)), none, 0⟩]) <|
 .keep [2] <|
 .ret)
 (.skip)) <|
 .seq (.ops [
 ⟨some 5, .buildSl 1 [] [] 0, none, 0⟩,
 ⟨some 6, .mv (.tmp 0), none, 0⟩,
 ⟨some 7, .app 1 8 [.int .i64 0] (.tmp 5) (.tmp 6), none, 0⟩,
 ⟨some 2, .mv (.tmp 7), none, 0⟩]) <|
 .keep [2] <|
 .ret⟩
theorem e_zz32 : EntOK Tryd.prog (compD Tryd.prog) k_zz32 i_zz32.vf :=
 ⟨Tryd.f36, Tryd.f36.body.getD .skip, Tryd.func36, by kernel_rfl, by kernel_rfl, by kernel_rfl, by kernel_rfl, by kernel_rfl⟩
/-- slices.pdqsortOrdered[int64] -/
def i_zz25_B1 : FC :=
 .block 1 <|
 .seq (.ops [
 ⟨some 19, .mv (.tmp 2), none, 0⟩,
 ⟨some 20, .mv (.tmp 1), none, 0⟩,
 ⟨some 21, .bin .sub (.tmp 19) (.tmp 20), none, 0⟩,
 ⟨some 10, .mv (.tmp 21), none, 0⟩]) <|
 .seq (.seq (.ops [
 ⟨some 22, .mv (.tmp 10), none, 0⟩,
 ⟨some 23, .bin .leq (.tmp 22) (.const (.int .i64 12)), none, 0⟩]) <|
 .cond (.tmp 23)
 (.seq (.ops [
 ⟨some 24, .mv (.tmp 0), none, 0⟩,
 ⟨some 25, .mv (.tmp 1), none, 0⟩,
 ⟨some 26, .mv (.tmp 2), none, 0⟩,
 ⟨some 27, .call k_zz12 [(.tmp 24), (.tmp 25), (.tmp 26)], none, 0⟩]) <|
 .keep [] <|
 .ret)
 (.skip)) <|
 .seq (.seq (.ops [
 ⟨some 28, .mv (.tmp 3), none, 0⟩,
 ⟨some 29, .bin .eql (.tmp 28) (.const (.int .i64 0)), none, 0⟩]) <|
 .cond (.tmp 29)
 (.seq (.ops [
 ⟨some 30, .mv (.tmp 0), none, 0⟩,
 ⟨some 31, .mv (.tmp 1), none, 0⟩,
 ⟨some 32, .mv (.tmp 2), none, 0⟩,
 ⟨some 33, .call k_zz23 [(.tmp 30), (.tmp 31), (.tmp 32)], none, 0⟩]) <|
 .keep [] <|
 .ret)
 (.skip)) <|
 .seq (.seq (.ops [
 ⟨some 34, .mv (.tmp 8), none, 0⟩,
 ⟨some 35, .un .not (.tmp 34), none, 0⟩]) <|
 .cond (.tmp 35)
 (.seq (.ops [
 ⟨some 36, .mv (.tmp 0), none, 0⟩,
 ⟨some 37, .mv (.tmp 1), none, 0⟩,
 ⟨some 38, .mv (.tmp 2), none, 0⟩,
 ⟨some 39, .call k_zz11 [(.tmp 36), (.tmp 37), (.tmp 38)], none, 0⟩]) <|
 .ops [
 ⟨some 40, .mv (.tmp 3), none, 0⟩,
 ⟨some 41, .bin .sub (.tmp 40) (.const (.int .i64 1)), none, 0⟩,
 ⟨some 3, .mv (.tmp 41), none, 0⟩])
 (.skip)) <|
 .seq (.ops [
 ⟨some 43, .mv (.tmp 0), none, 0⟩,
 ⟨some 44, .mv (.tmp 1), none, 0⟩,
 ⟨some 45, .mv (.tmp 2), none, 0⟩,
 ⟨some 46, .call k_zz17 [(.tmp 43), (.tmp 44), (.tmp 45)], none, 0⟩,
 ⟨some 42, .mv (.tmp 46), none, 0⟩,
 ⟨some 47, .ext (.tmp 42) 0, none, 0⟩,
 ⟨some 48, .ext (.tmp 42) 1, none, 0⟩,
 ⟨some 11, .mv (.tmp 47), none, 0⟩,
 ⟨some 12, .mv (.tmp 48), none, 0⟩]) <|
 .seq (.seq (.ops [
 ⟨some 49, .mv (.tmp 12), none, 0⟩,
 ⟨some 50, .bin .eql (.tmp 49) (.const (.int .i64 2)), none, 0⟩]) <|
 .cond (.tmp 50)
 (.seq (.ops [
 ⟨some 51, .mv (.tmp 0), none, 0⟩,
 ⟨some 52, .mv (.tmp 1), none, 0⟩,
 ⟨some 53, .mv (.tmp 2), none, 0⟩,
 ⟨some 54, .call k_zz15 [(.tmp 51), (.tmp 52), (.tmp 53)], none, 0⟩]) <|
 .seq (.ops [
 ⟨some 55, .mv (.tmp 2), none, 0⟩,
 ⟨some 56, .bin .sub (.tmp 55) (.const (.int .i64 1)), none, 0⟩,
 ⟨some 57, .mv (.tmp 11), none, 0⟩,
 ⟨some 58, .mv (.tmp 1), none, 0⟩,
 ⟨some 59, .bin .sub (.tmp 57) (.tmp 58), none, 0⟩,
 ⟨some 60, .bin .sub (.tmp 56) (.tmp 59), none, 0⟩,
 ⟨some 11, .mv (.tmp 60), none, 0⟩]) <|
 .ops [
 ⟨some 12, .mv (.const (.int .i64 1)), none, 0⟩])
 (.skip)) <|
 .seq (.seq (.ops [
 ⟨some 61, .mv (.tmp 8), none, 0⟩,
 ⟨some 62, .mv (.tmp 61), none, 0⟩,
 ⟨some 63, .mv (.tmp 9), some (62, true), 0⟩,
 ⟨some 64, .pick (.tmp 62) (.tmp 63) (.const (.bool false)), none, 0⟩,
 ⟨some 65, .mv (.tmp 64), none, 0⟩,
 ⟨some 66, .mv (.tmp 12), some (65, true), 0⟩,
 ⟨some 67, .bin .eql (.tmp 66) (.const (.int .i64 1)), some (65, true), 0⟩,
 ⟨some 68, .pick (.tmp 65) (.tmp 67) (.const (.bool false)), none, 0⟩]) <|
 .cond (.tmp 68)
 (.seq (.ops [
 ⟨some 69, .mv (.tmp 0), none, 0⟩,
 ⟨some 70, .mv (.tmp 1), none, 0⟩,
 ⟨some 71, .mv (.tmp 2), none, 0⟩,
 ⟨some 72, .call k_zz1 [(.tmp 69), (.tmp 70), (.tmp 71)], none, 0⟩]) <|
 .cond (.tmp 72)
 (.keep [] <|
 .ret)
 (.skip))
 (.skip)) <|
 .seq (.seq (.dops [
 ⟨some 73, .mv (.tmp 1), none, 0⟩,
 ⟨some 74, .bin .gtr (.tmp 73) (.const (.int .i64 0)), none, 0⟩,
 ⟨some 75, .mv (.tmp 74), none, 0⟩,
 ⟨some 76, .mv (.tmp 0), some (75, true), 0⟩,
 ⟨some 77, .mv (.tmp 1), some (75, true), 0⟩,
 ⟨some 78, .bin .sub (.tmp 77) (.const (.int .i64 1)), some (75, true), 0⟩,
 ⟨some 79, .idx 1 (.tmp 76) (.tmp 78), some (75, true), 0⟩,
 ⟨some 80, .load false 1 (.tmp 79), some (75, true), 0⟩,
 ⟨some 81, .mv (.tmp 0), some (75, true), 0⟩,
 ⟨some 82, .mv (.tmp 11), some (75, true), 0⟩,
 ⟨some 83, .idx 1 (.tmp 81) (.tmp 82), some (75, true), 0⟩,
 ⟨some 84, .load false 1 (.tmp 83), some (75, true), 0⟩,
 ⟨some 85, .call k_zz53 [(.tmp 80), (.tmp 84)], some (75, true), 0⟩,
 ⟨some 86, .un .not (.tmp 85), some (75, true), 0⟩,
 ⟨some 87, .pick (.tmp 75) (.tmp 86) (.const (.bool false)), none, 0⟩]) <|
 .cond (.tmp 87)
 (.seq (.ops [
 ⟨some 88, .mv (.tmp 0), none, 0⟩,
 ⟨some 89, .mv (.tmp 1), none, 0⟩,
 ⟨some 90, .mv (.tmp 2), none, 0⟩,
 ⟨some 91, .mv (.tmp 11), none, 0⟩,
 ⟨some 92, .call k_zz10 [(.tmp 88), (.tmp 89), (.tmp 90), (.tmp 91)], none, 0⟩,
 ⟨some 13, .mv (.tmp 92), none, 0⟩]) <|
 .seq (.ops [
 ⟨some 93, .mv (.tmp 13), none, 0⟩,
 ⟨some 1, .mv (.tmp 93), none, 0⟩]) <|
 .keep [0, 1, 2, 3, 8, 9] <|
 .exit 1)
 (.skip)) <|
 .seq (.ops [
 ⟨some 95, .mv (.tmp 0), none, 0⟩,
 ⟨some 96, .mv (.tmp 1), none, 0⟩,
 ⟨some 97, .mv (.tmp 2), none, 0⟩,
 ⟨some 98, .mv (.tmp 11), none, 0⟩,
 ⟨some 99, .call k_zz21 [(.tmp 95), (.tmp 96), (.tmp 97), (.tmp 98)], none, 0⟩,
 ⟨some 94, .mv (.tmp 99), none, 0⟩,
 ⟨some 100, .ext (.tmp 94) 0, none, 0⟩,
 ⟨some 101, .ext (.tmp 94) 1, none, 0⟩,
 ⟨some 14, .mv (.tmp 100), none, 0⟩,
 ⟨some 15, .mv (.tmp 101), none, 0⟩]) <|
 .seq (.ops [
 ⟨some 102, .mv (.tmp 15), none, 0⟩,
 ⟨some 9, .mv (.tmp 102), none, 0⟩]) <|
 .seq (.ops [
 ⟨some 103, .mv (.tmp 14), none, 0⟩,
 ⟨some 104, .mv (.tmp 1), none, 0⟩,
 ⟨some 105, .bin .sub (.tmp 103) (.tmp 104), none, 0⟩,
 ⟨some 106, .mv (.tmp 2), none, 0⟩,
 ⟨some 107, .mv (.tmp 14), none, 0⟩,
 ⟨some 108, .bin .sub (.tmp 106) (.tmp 107), none, 0⟩,
 ⟨some 16, .mv (.tmp 105), none, 0⟩,
 ⟨some 17, .mv (.tmp 108), none, 0⟩]) <|
 .seq (.ops [
 ⟨some 109, .mv (.tmp 10), none, 0⟩,
 ⟨some 110, .bin .quo (.tmp 109) (.const (.int .i64 8)), none, 0⟩,
 ⟨some 18, .mv (.tmp 110), none, 0⟩]) <|
 .seq (.ops [
 ⟨some 111, .mv (.tmp 16), none, 0⟩,
 ⟨some 112, .mv (.tmp 17), none, 0⟩,
 ⟨some 113, .bin .lss (.tmp 111) (.tmp 112), none, 0⟩]) <|
 .cond (.tmp 113)
 (.seq (.ops [
 ⟨some 114, .mv (.tmp 16), none, 0⟩,
 ⟨some 115, .mv (.tmp 18), none, 0⟩,
 ⟨some 116, .bin .geq (.tmp 114) (.tmp 115), none, 0⟩,
 ⟨some 8, .mv (.tmp 116), none, 0⟩]) <|
 .seq (.ops [
 ⟨some 117, .mv (.tmp 0), none, 0⟩,
 ⟨some 118, .mv (.tmp 1), none, 0⟩,
 ⟨some 119, .mv (.tmp 14), none, 0⟩,
 ⟨some 120, .mv (.tmp 3), none, 0⟩,
 ⟨some 121, .call k_zz25 [(.tmp 117), (.tmp 118), (.tmp 119), (.tmp 120)], none, 0⟩]) <|
 .ops [
 ⟨some 122, .mv (.tmp 14), none, 0⟩,
 ⟨some 123, .bin .add (.tmp 122) (.const (.int .i64 1)), none, 0⟩,
 ⟨some 1, .mv (.tmp 123), none, 0⟩])
 (.seq (.ops [
 ⟨some 124, .mv (.tmp 17), none, 0⟩,
 ⟨some 125, .mv (.tmp 18), none, 0⟩,
 ⟨some 126, .bin .geq (.tmp 124) (.tmp 125), none, 0⟩,
 ⟨some 8, .mv (.tmp 126), none, 0⟩]) <|
 .seq (.ops [
 ⟨some 127, .mv (.tmp 0), none, 0⟩,
 ⟨some 128, .mv (.tmp 14), none, 0⟩,
 ⟨some 129, .bin .add (.tmp 128) (.const (.int .i64 1)), none, 0⟩,
 ⟨some 130, .mv (.tmp 2), none, 0⟩,
 ⟨some 131, .mv (.tmp 3), none, 0⟩,
 ⟨some 132, .call k_zz25 [(.tmp 127), (.tmp 129), (.tmp 130), (.tmp 131)], none, 0⟩]) <|
 .ops [
 ⟨some 133, .mv (.tmp 14), none, 0⟩,
 ⟨some 2, .mv (.tmp 133), none, 0⟩])
def i_zz25 : FF := ⟨134, [],
 .seq (.ops [
 ⟨some 8, .mv (.const (.bool true)), none, 0⟩]) <|
 .seq (.ops [
 ⟨some 9, .mv (.const (.bool true)), none, 0⟩]) <|
 .block 0 <|
 .loop [0, 1, 2, 3, 8, 9] i_zz25_B1⟩
theorem e_zz25 : EntOK Tryd.prog (compD Tryd.prog) k_zz25 i_zz25.vf :=
 ⟨Tryd.f38, Tryd.f38.body.getD .skip, Tryd.func38, by kernel_rfl, by kernel_rfl, by kernel_rfl, by kernel_rfl, by kernel_rfl⟩
/-- math/bits.Len -/
def i_zz60 : FF := ⟨8, [.tmp 2],
 .seq (.ops [
 ⟨some 2, .mv (.const (.int .i64 0)), none, 0⟩]) <|
 .seq (.cond (.const (.bool false))
 (.seq (.ops [
 ⟨some 3, .mv (.tmp 0), none, 0⟩,
 ⟨some 4, .conv .u32 (.tmp 3), none, 0⟩,
 ⟨some 5, .call k_zz51 [(.tmp 4)], none, 0⟩,
 ⟨some 2, .mv (.tmp 5), none, 0⟩]) <|
 .keep [2] <|
 .ret)
 (.skip)) <|
 .seq (.ops [
 ⟨some 6, .mv (.tmp 0), none, 0⟩,
 ⟨some 7, .call k_zz52 [(.tmp 6)], none, 0⟩,
 ⟨some 2, .mv (.tmp 7), none, 0⟩]) <|
 .keep [2] <|
 .ret⟩
theorem e_zz60 : EntOK Tryd.prog (compD Tryd.prog) k_zz60 i_zz60.vf :=
 ⟨Tryd.f39, Tryd.f39.body.getD .skip, Tryd.func39, by kernel_rfl, by kernel_rfl, by kernel_rfl, by kernel_rfl, by kernel_rfl⟩
/-- loop.example/g01331/impl.size -/
def i_zz74 : FF := ⟨6, [.tmp 2],
 .seq (.ops [
 ⟨some 2, .mv (.const (.int .i64 0)), none, 0⟩]) <|
 .seq (.ops [
 ⟨some 3, .mv (.tmp 0), none, 0⟩,
 ⟨some 4, .conv .u64 (.tmp 3), none, 0⟩,
 ⟨some 5, .call k_zz41 [(.tmp 4)], none, 0⟩,
 ⟨some 2, .mv (.tmp 5), none, 0⟩]) <|
 .keep [2] <|
 .ret⟩
theorem e_zz74 : EntOK Tryd.prog (compD Tryd.prog) k_zz74 i_zz74.vf :=
 ⟨Tryd.f40, Tryd.f40.body.getD .skip, Tryd.func40, by kernel_rfl, by kernel_rfl, by kernel_rfl, by kernel_rfl, by kernel_rfl⟩
/-- slices.SortFunc[[]loop.example/g01331/impl.told,loop.example/g01331/impl.told] -/
def i_zz7 : FF := ⟨14, [],
 .seq (.ops [
 ⟨some 5, .mv (.tmp 0), none, 0⟩,
 ⟨some 6, .len (.tmp 5), none, 0⟩,
 ⟨some 4, .mv (.tmp 6), none, 0⟩]) <|
 .ops [
 ⟨some 7, .mv (.tmp 0), none, 0⟩,
 ⟨some 8, .mv (.tmp 4), none, 0⟩,
 ⟨some 9, .mv (.tmp 4), none, 0⟩,
 ⟨some 10, .conv .u64 (.tmp 9), none, 0⟩,
 ⟨some 11, .call k_zz60 [(.tmp 10)], none, 0⟩,
 ⟨some 12, .mv (.tmp 1), none, 0⟩,
 ⟨some 13, .call k_zz18 [(.tmp 7), (.const (.int .i64 0)), (.tmp 8), (.tmp 11), (.tmp 12)], none, 0⟩]⟩
theorem e_zz7 : EntOK Tryd.prog (compD Tryd.prog) k_zz7 i_zz7.vf :=
 ⟨Tryd.f41, Tryd.f41.body.getD .skip, Tryd.func41, by kernel_rfl, by kernel_rfl, by kernel_rfl, by kernel_rfl, by kernel_rfl⟩
def i_zz37 : FF := ⟨10, [.tmp 4],
 .seq (.ops [
 ⟨some 2, .box 3 (.tmp 0), none, 0⟩,
 ⟨some 3, .box 3 (.tmp 1), none, 0⟩,
 ⟨some 4, .mv (.const (.int .i64 0)), none, 0⟩]) <|
 .seq (.ops [
 ⟨some 5, .fld 2 (.tmp 2), none, 0⟩,
 ⟨some 6, .load false 1 (.tmp 5), none, 0⟩,
 ⟨some 7, .fld 2 (.tmp 3), none, 0⟩,
 ⟨some 8, .load false 1 (.tmp 7), none, 0⟩,
 ⟨some 9, .call k_zz27 [(.tmp 6), (.tmp 8)], none, 0⟩,
 ⟨some 4, .mv (.tmp 9), none, 0⟩]) <|
 .keep [4] <|
 .ret⟩
theorem e_zz37 : EntOK Tryd.prog (compD Tryd.prog) k_zz37 i_zz37.vf :=
 ⟨Tryd.f42, Tryd.f42.body.getD .skip, Tryd.func42, by kernel_rfl, by kernel_rfl, by kernel_rfl, by kernel_rfl, by kernel_rfl⟩
/-- slices.Compare[[]int64,int64] -/
def i_zz27_B1 : FC :=
 .seq (.ops [
 ⟨some 12, .bin .lss (.tmp 11) (.tmp 10), none, 0⟩]) <|
 .seq (.cond (.tmp 12)
 (.skip)
 (.keep [0, 1] <|
 .exit 0)) <|
 .seq (.block 1 <|
 .seq (.ops [
 ⟨some 13, .mv (.tmp 11), none, 0⟩,
 ⟨some 14, .idx 1 (.tmp 9) (.tmp 11), none, 0⟩,
 ⟨some 15, .load false 1 (.tmp 14), none, 0⟩,
 ⟨some 5, .mv (.tmp 13), none, 0⟩,
 ⟨some 6, .mv (.tmp 15), none, 0⟩]) <|
 .seq (.seq (.ops [
 ⟨some 16, .mv (.tmp 5), none, 0⟩,
 ⟨some 17, .mv (.tmp 1), none, 0⟩,
 ⟨some 18, .len (.tmp 17), none, 0⟩,
 ⟨some 19, .bin .geq (.tmp 16) (.tmp 18), none, 0⟩]) <|
 .cond (.tmp 19)
 (.seq (.ops [
 ⟨some 4, .mv (.const (.int .i64 1)), none, 0⟩]) <|
 .keep [4] <|
 .ret)
 (.skip)) <|
 .seq (.ops [
 ⟨some 20, .mv (.tmp 1), none, 0⟩,
 ⟨some 21, .mv (.tmp 5), none, 0⟩,
 ⟨some 22, .idx 1 (.tmp 20) (.tmp 21), none, 0⟩,
 ⟨some 23, .load false 1 (.tmp 22), none, 0⟩,
 ⟨some 7, .mv (.tmp 23), none, 0⟩]) <|
 .seq (.ops [
 ⟨some 24, .mv (.tmp 6), none, 0⟩,
 ⟨some 25, .mv (.tmp 7), none, 0⟩,
 ⟨some 26, .call k_zz49 [(.tmp 24), (.tmp 25)], none, 0⟩,
 ⟨some 8, .mv (.tmp 26), none, 0⟩]) <|
 .seq (.ops [
 ⟨some 27, .mv (.tmp 8), none, 0⟩,
 ⟨some 28, .bin .neq (.tmp 27) (.const (.int .i64 0)), none, 0⟩]) <|
 .cond (.tmp 28)
 (.seq (.ops [
 ⟨some 29, .mv (.tmp 8), none, 0⟩,
 ⟨some 4, .mv (.tmp 29), none, 0⟩]) <|
 .keep [4] <|
 .ret)
 (.skip)) <|
 .ops [
 ⟨some 30, .bin .add (.tmp 11) (.const (.int .i64 1)), none, 0⟩,
 ⟨some 11, .mv (.tmp 30), none, 0⟩]
def i_zz27 : FF := ⟨36, [.tmp 4],
 .seq (.ops [
 ⟨some 4, .mv (.const (.int .i64 0)), none, 0⟩]) <|
 .seq (.seq (.ops [
 ⟨some 9, .mv (.tmp 0), none, 0⟩,
 ⟨some 10, .len (.tmp 9), none, 0⟩,
 ⟨some 11, .mv (.const (.int .i64 0)), none, 0⟩]) <|
 .block 0 <|
 .loop [0, 1, 9, 10, 11] i_zz27_B1) <|
 .seq (.seq (.ops [
 ⟨some 31, .mv (.tmp 0), none, 0⟩,
 ⟨some 32, .len (.tmp 31), none, 0⟩,
 ⟨some 33, .mv (.tmp 1), none, 0⟩,
 ⟨some 34, .len (.tmp 33), none, 0⟩,
 ⟨some 35, .bin .lss (.tmp 32) (.tmp 34), none, 0⟩]) <|
 .cond (.tmp 35)
 (.seq (.ops [
 ⟨some 4, .mv (.const (.int .i64 (-1))), none, 0⟩]) <|
 .keep [4] <|
 .ret)
 (.skip)) <|
 .seq (.ops [
 ⟨some 4, .mv (.const (.int .i64 0)), none, 0⟩]) <|
 .keep [4] <|
 .ret⟩
theorem e_zz27 : EntOK Tryd.prog (compD Tryd.prog) k_zz27 i_zz27.vf :=
 ⟨Tryd.f43, Tryd.f43.body.getD .skip, Tryd.func43, by kernel_rfl, by kernel_rfl, by kernel_rfl, by kernel_rfl, by kernel_rfl⟩
/-- slices.Equal[[]int64,int64] -/
def i_zz33_B1 : FC :=
 .seq (.ops [
 ⟨some 14, .bin .lss (.tmp 13) (.tmp 12), none, 0⟩]) <|
 .seq (.cond (.tmp 14)
 (.skip)
 (.keep [] <|
 .exit 0)) <|
 .seq (.block 1 <|
 .seq (.ops [
 ⟨some 15, .mv (.tmp 13), none, 0⟩,
 ⟨some 5, .mv (.tmp 15), none, 0⟩]) <|
 .seq (.dops [
 ⟨some 16, .mv (.tmp 0), none, 0⟩,
 ⟨some 17, .mv (.tmp 5), none, 0⟩,
 ⟨some 18, .idx 1 (.tmp 16) (.tmp 17), none, 0⟩,
 ⟨some 19, .load false 1 (.tmp 18), none, 0⟩,
 ⟨some 20, .mv (.tmp 1), none, 0⟩,
 ⟨some 21, .mv (.tmp 5), none, 0⟩,
 ⟨some 22, .idx 1 (.tmp 20) (.tmp 21), none, 0⟩,
 ⟨some 23, .load false 1 (.tmp 22), none, 0⟩,
 ⟨some 24, .bin .neq (.tmp 19) (.tmp 23), none, 0⟩]) <|
 .cond (.tmp 24)
 (.seq (.ops [
 ⟨some 4, .mv (.const (.bool false)), none, 0⟩]) <|
 .keep [4] <|
 .ret)
 (.skip)) <|
 .ops [
 ⟨some 25, .bin .add (.tmp 13) (.const (.int .i64 1)), none, 0⟩,
 ⟨some 13, .mv (.tmp 25), none, 0⟩]
def i_zz33 : FF := ⟨26, [.tmp 4],
 .seq (.ops [
 ⟨some 4, .mv (.const (.bool false)), none, 0⟩]) <|
 .seq (.seq (.ops [
 ⟨some 6, .mv (.tmp 0), none, 0⟩,
 ⟨some 7, .len (.tmp 6), none, 0⟩,
 ⟨some 8, .mv (.tmp 1), none, 0⟩,
 ⟨some 9, .len (.tmp 8), none, 0⟩,
 ⟨some 10, .bin .neq (.tmp 7) (.tmp 9), none, 0⟩]) <|
 .cond (.tmp 10)
 (.seq (.ops [
 ⟨some 4, .mv (.const (.bool false)), none, 0⟩]) <|
 .keep [4] <|
 .ret)
 (.skip)) <|
 .seq (.seq (.ops [
 ⟨some 11, .mv (.tmp 0), none, 0⟩,
 ⟨some 12, .len (.tmp 11), none, 0⟩,
 ⟨some 13, .mv (.const (.int .i64 0)), none, 0⟩]) <|
 .block 0 <|
 .loop [0, 1, 12, 13] i_zz33_B1) <|
 .seq (.ops [
 ⟨some 4, .mv (.const (.bool true)), none, 0⟩]) <|
 .keep [4] <|
 .ret⟩
theorem e_zz33 : EntOK Tryd.prog (compD Tryd.prog) k_zz33 i_zz33.vf :=
 ⟨Tryd.f44, Tryd.f44.body.getD .skip, Tryd.func44, by kernel_rfl, by kernel_rfl, by kernel_rfl, by kernel_rfl, by kernel_rfl⟩
/-- slices.Max[[]int64,int64] -/
def i_zz38_B1 : FC :=
 .seq (.seq (.ops [
 ⟨some 12, .mv (.tmp 4), none, 0⟩,
 ⟨some 13, .mv (.tmp 0), none, 0⟩,
 ⟨some 14, .len (.tmp 13), none, 0⟩,
 ⟨some 15, .bin .lss (.tmp 12) (.tmp 14), none, 0⟩]) <|
 .cond (.tmp 15)
 (.skip)
 (.keep [3] <|
 .exit 0)) <|
 .seq (.block 1 <|
 .ops [
 ⟨some 18, .mv (.tmp 3), none, 0⟩,
 ⟨some 19, .mv (.tmp 0), none, 0⟩,
 ⟨some 20, .mv (.tmp 4), none, 0⟩,
 ⟨some 21, .idx 1 (.tmp 19) (.tmp 20), none, 0⟩,
 ⟨some 22, .load false 1 (.tmp 21), none, 0⟩,
 ⟨some 23, .minmax true [(.tmp 18), (.tmp 22)], none, 0⟩,
 ⟨some 3, .mv (.tmp 23), none, 0⟩]) <|
 .ops [
 ⟨some 16, .mv (.tmp 4), none, 0⟩,
 ⟨some 17, .bin .add (.tmp 16) (.const (.int .i64 1)), none, 0⟩,
 ⟨some 4, .mv (.tmp 17), none, 0⟩]
def i_zz38 : FF := ⟨25, [.tmp 2],
 .seq (.ops [
 ⟨some 2, .mv (.const (.int .i64 0)), none, 0⟩]) <|
 .seq (.seq (.ops [
 ⟨some 5, .mv (.tmp 0), none, 0⟩,
 ⟨some 6, .len (.tmp 5), none, 0⟩,
 ⟨some 7, .bin .lss (.tmp 6) (.const (.int .i64 1)), none, 0⟩]) <|
 .cond (.tmp 7)
 (.ops [
 ⟨some 8, .stop, none, 0⟩,
 ⟨none, .stop, none, 0⟩])
 (.skip)) <|
 .seq (.ops [
 ⟨some 9, .mv (.tmp 0), none, 0⟩,
 ⟨some 10, .idx 1 (.tmp 9) (.const (.int .i64 0)), none, 0⟩,
 ⟨some 11, .load false 1 (.tmp 10), none, 0⟩,
 ⟨some 3, .mv (.tmp 11), none, 0⟩]) <|
 .seq (.seq (.ops [
 ⟨some 4, .mv (.const (.int .i64 1)), none, 0⟩]) <|
 .block 0 <|
 .loop [0, 3, 4] i_zz38_B1) <|
 .seq (.ops [
 ⟨some 24, .mv (.tmp 3), none, 0⟩,
 ⟨some 2, .mv (.tmp 24), none, 0⟩]) <|
 .keep [2] <|
 .ret⟩
theorem e_zz38 : EntOK Tryd.prog (compD Tryd.prog) k_zz38 i_zz38.vf :=
 ⟨Tryd.f45, Tryd.f45.body.getD .skip, Tryd.func45, by kernel_rfl, by kernel_rfl, by kernel_rfl, by kernel_rfl, by kernel_rfl⟩
/-- slices.insertionSortOrdered[int64] -/
def i_zz12_B1 : FC :=
 .seq (.seq (.dops [
 ⟨some 16, .mv (.tmp 7), none, 0⟩,
 ⟨some 17, .mv (.tmp 1), none, 0⟩,
 ⟨some 18, .bin .gtr (.tmp 16) (.tmp 17), none, 0⟩,
 ⟨some 19, .mv (.tmp 18), none, 0⟩,
 ⟨some 20, .mv (.tmp 0), some (19, true), 0⟩,
 ⟨some 21, .mv (.tmp 7), some (19, true), 0⟩,
 ⟨some 22, .idx 1 (.tmp 20) (.tmp 21), some (19, true), 0⟩,
 ⟨some 23, .load false 1 (.tmp 22), some (19, true), 0⟩,
 ⟨some 24, .mv (.tmp 0), some (19, true), 0⟩,
 ⟨some 25, .mv (.tmp 7), some (19, true), 0⟩,
 ⟨some 26, .bin .sub (.tmp 25) (.const (.int .i64 1)), some (19, true), 0⟩,
 ⟨some 27, .idx 1 (.tmp 24) (.tmp 26), some (19, true), 0⟩,
 ⟨some 28, .load false 1 (.tmp 27), some (19, true), 0⟩,
 ⟨some 29, .call k_zz53 [(.tmp 23), (.tmp 28)], some (19, true), 0⟩,
 ⟨some 30, .pick (.tmp 19) (.tmp 29) (.const (.bool false)), none, 0⟩]) <|
 .cond (.tmp 30)
 (.skip)
 (.keep [0, 1, 2, 6] <|
 .exit 2)) <|
 .seq (.block 3 <|
 .dops [
 ⟨some 33, .mv (.tmp 0), none, 0⟩,
 ⟨some 34, .mv (.tmp 7), none, 0⟩,
 ⟨some 38, .mv (.tmp 0), none, 0⟩,
 ⟨some 39, .mv (.tmp 7), none, 0⟩,
 ⟨some 40, .bin .sub (.tmp 39) (.const (.int .i64 1)), none, 0⟩,
 ⟨some 41, .idx 1 (.tmp 38) (.tmp 40), none, 0⟩,
 ⟨some 42, .load false 1 (.tmp 41), none, 0⟩,
 ⟨some 43, .mv (.tmp 0), none, 0⟩,
 ⟨some 44, .mv (.tmp 7), none, 0⟩,
 ⟨some 45, .idx 1 (.tmp 43) (.tmp 44), none, 0⟩,
 ⟨some 46, .load false 1 (.tmp 45), none, 0⟩,
 ⟨some 47, .idx 1 (.tmp 33) (.tmp 34), none, 0⟩,
 ⟨none, .store 1 (.tmp 47) (.tmp 42), none, 0⟩,
 ⟨some 35, .mv (.tmp 0), none, 1⟩,
 ⟨some 36, .mv (.tmp 7), none, 1⟩,
 ⟨some 37, .bin .sub (.tmp 36) (.const (.int .i64 1)), none, 1⟩,
 ⟨some 48, .idx 1 (.tmp 35) (.tmp 37), none, 0⟩,
 ⟨none, .store 1 (.tmp 48) (.tmp 46), none, 0⟩]) <|
 .ops [
 ⟨some 31, .mv (.tmp 7), none, 0⟩,
 ⟨some 32, .bin .sub (.tmp 31) (.const (.int .i64 1)), none, 0⟩,
 ⟨some 7, .mv (.tmp 32), none, 0⟩]
def i_zz12_B2 : FC :=
 .seq (.seq (.ops [
 ⟨some 10, .mv (.tmp 6), none, 0⟩,
 ⟨some 11, .mv (.tmp 2), none, 0⟩,
 ⟨some 12, .bin .lss (.tmp 10) (.tmp 11), none, 0⟩]) <|
 .cond (.tmp 12)
 (.skip)
 (.keep [] <|
 .exit 0)) <|
 .seq (.block 1 <|
 .seq (.ops [
 ⟨some 15, .mv (.tmp 6), none, 0⟩,
 ⟨some 7, .mv (.tmp 15), none, 0⟩]) <|
 .block 2 <|
 .loop [0, 1, 2, 6, 7] i_zz12_B1) <|
 .ops [
 ⟨some 13, .mv (.tmp 6), none, 0⟩,
 ⟨some 14, .bin .add (.tmp 13) (.const (.int .i64 1)), none, 0⟩,
 ⟨some 6, .mv (.tmp 14), none, 0⟩]
def i_zz12 : FF := ⟨49, [],
 .seq (.ops [
 ⟨some 8, .mv (.tmp 1), none, 0⟩,
 ⟨some 9, .bin .add (.tmp 8) (.const (.int .i64 1)), none, 0⟩,
 ⟨some 6, .mv (.tmp 9), none, 0⟩]) <|
 .block 0 <|
 .loop [0, 1, 2, 6] i_zz12_B2⟩
theorem e_zz12 : EntOK Tryd.prog (compD Tryd.prog) k_zz12 i_zz12.vf :=
 ⟨Tryd.f47, Tryd.f47.body.getD .skip, Tryd.func47, by kernel_rfl, by kernel_rfl, by kernel_rfl, by kernel_rfl, by kernel_rfl⟩
/-- slices.heapSortOrdered[int64] -/
def i_zz23_B1 : FC :=
 .seq (.seq (.ops [
 ⟨some 18, .mv (.tmp 9), none, 0⟩,
 ⟨some 19, .bin .geq (.tmp 18) (.const (.int .i64 0)), none, 0⟩]) <|
 .cond (.tmp 19)
 (.skip)
 (.keep [0, 6, 7, 8] <|
 .exit 0)) <|
 .seq (.block 1 <|
 .ops [
 ⟨some 22, .mv (.tmp 0), none, 0⟩,
 ⟨some 23, .mv (.tmp 9), none, 0⟩,
 ⟨some 24, .mv (.tmp 8), none, 0⟩,
 ⟨some 25, .mv (.tmp 6), none, 0⟩,
 ⟨some 26, .call k_zz24 [(.tmp 22), (.tmp 23), (.tmp 24), (.tmp 25)], none, 0⟩]) <|
 .ops [
 ⟨some 20, .mv (.tmp 9), none, 0⟩,
 ⟨some 21, .bin .sub (.tmp 20) (.const (.int .i64 1)), none, 0⟩,
 ⟨some 9, .mv (.tmp 21), none, 0⟩]
def i_zz23_B2 : FC :=
 .seq (.seq (.ops [
 ⟨some 29, .mv (.tmp 10), none, 0⟩,
 ⟨some 30, .bin .geq (.tmp 29) (.const (.int .i64 0)), none, 0⟩]) <|
 .cond (.tmp 30)
 (.skip)
 (.keep [] <|
 .exit 2)) <|
 .seq (.block 3 <|
 .seq (.dops [
 ⟨some 33, .mv (.tmp 0), none, 0⟩,
 ⟨some 34, .mv (.tmp 6), none, 0⟩,
 ⟨some 39, .mv (.tmp 0), none, 0⟩,
 ⟨some 40, .mv (.tmp 6), none, 0⟩,
 ⟨some 41, .mv (.tmp 10), none, 0⟩,
 ⟨some 42, .bin .add (.tmp 40) (.tmp 41), none, 0⟩,
 ⟨some 43, .idx 1 (.tmp 39) (.tmp 42), none, 0⟩,
 ⟨some 44, .load false 1 (.tmp 43), none, 0⟩,
 ⟨some 45, .mv (.tmp 0), none, 0⟩,
 ⟨some 46, .mv (.tmp 6), none, 0⟩,
 ⟨some 47, .idx 1 (.tmp 45) (.tmp 46), none, 0⟩,
 ⟨some 48, .load false 1 (.tmp 47), none, 0⟩,
 ⟨some 49, .idx 1 (.tmp 33) (.tmp 34), none, 0⟩,
 ⟨none, .store 1 (.tmp 49) (.tmp 44), none, 0⟩,
 ⟨some 35, .mv (.tmp 0), none, 1⟩,
 ⟨some 36, .mv (.tmp 6), none, 1⟩,
 ⟨some 37, .mv (.tmp 10), none, 1⟩,
 ⟨some 38, .bin .add (.tmp 36) (.tmp 37), none, 1⟩,
 ⟨some 50, .idx 1 (.tmp 35) (.tmp 38), none, 0⟩,
 ⟨none, .store 1 (.tmp 50) (.tmp 48), none, 0⟩]) <|
 .ops [
 ⟨some 51, .mv (.tmp 0), none, 0⟩,
 ⟨some 52, .mv (.tmp 7), none, 0⟩,
 ⟨some 53, .mv (.tmp 10), none, 0⟩,
 ⟨some 54, .mv (.tmp 6), none, 0⟩,
 ⟨some 55, .call k_zz24 [(.tmp 51), (.tmp 52), (.tmp 53), (.tmp 54)], none, 0⟩]) <|
 .ops [
 ⟨some 31, .mv (.tmp 10), none, 0⟩,
 ⟨some 32, .bin .sub (.tmp 31) (.const (.int .i64 1)), none, 0⟩,
 ⟨some 10, .mv (.tmp 32), none, 0⟩]
def i_zz23 : FF := ⟨56, [],
 .seq (.ops [
 ⟨some 11, .mv (.tmp 1), none, 0⟩,
 ⟨some 6, .mv (.tmp 11), none, 0⟩]) <|
 .seq (.ops [
 ⟨some 7, .mv (.const (.int .i64 0)), none, 0⟩]) <|
 .seq (.ops [
 ⟨some 12, .mv (.tmp 2), none, 0⟩,
 ⟨some 13, .mv (.tmp 1), none, 0⟩,
 ⟨some 14, .bin .sub (.tmp 12) (.tmp 13), none, 0⟩,
 ⟨some 8, .mv (.tmp 14), none, 0⟩]) <|
 .seq (.seq (.ops [
 ⟨some 15, .mv (.tmp 8), none, 0⟩,
 ⟨some 16, .bin .sub (.tmp 15) (.const (.int .i64 1)), none, 0⟩,
 ⟨some 17, .bin .quo (.tmp 16) (.const (.int .i64 2)), none, 0⟩,
 ⟨some 9, .mv (.tmp 17), none, 0⟩]) <|
 .block 0 <|
 .loop [0, 6, 7, 8, 9] i_zz23_B1) <|
 .seq (.ops [
 ⟨some 27, .mv (.tmp 8), none, 0⟩,
 ⟨some 28, .bin .sub (.tmp 27) (.const (.int .i64 1)), none, 0⟩,
 ⟨some 10, .mv (.tmp 28), none, 0⟩]) <|
 .block 2 <|
 .loop [0, 6, 7, 10] i_zz23_B2⟩
theorem e_zz23 : EntOK Tryd.prog (compD Tryd.prog) k_zz23 i_zz23.vf :=
 ⟨Tryd.f48, Tryd.f48.body.getD .skip, Tryd.func48, by kernel_rfl, by kernel_rfl, by kernel_rfl, by kernel_rfl, by kernel_rfl⟩
/-- slices.breakPatternsOrdered[int64] -/
def i_zz11_B1 : FC :=
 .seq (.seq (.ops [
 ⟨some 26, .mv (.tmp 9), none, 0⟩,
 ⟨some 27, .mv (.tmp 1), none, 0⟩,
 ⟨some 28, .mv (.tmp 6), none, 0⟩,
 ⟨some 29, .bin .quo (.tmp 28) (.const (.int .i64 4)), none, 0⟩,
 ⟨some 30, .bin .mul (.tmp 29) (.const (.int .i64 2)), none, 0⟩,
 ⟨some 31, .bin .add (.tmp 27) (.tmp 30), none, 0⟩,
 ⟨some 32, .bin .add (.tmp 31) (.const (.int .i64 1)), none, 0⟩,
 ⟨some 33, .bin .leq (.tmp 26) (.tmp 32), none, 0⟩]) <|
 .cond (.tmp 33)
 (.skip)
 (.keep [] <|
 .exit 0)) <|
 .seq (.block 1 <|
 .seq (.ops [
 ⟨some 36, .call k_zz44 [(.tmp 7)], none, 0⟩,
 ⟨some 37, .mv (.tmp 8), none, 0⟩,
 ⟨some 38, .bin .sub (.tmp 37) (.const (.int .u64 1)), none, 0⟩,
 ⟨some 39, .bin .and (.tmp 36) (.tmp 38), none, 0⟩,
 ⟨some 40, .conv .i64 (.tmp 39), none, 0⟩,
 ⟨some 10, .mv (.tmp 40), none, 0⟩]) <|
 .seq (.seq (.ops [
 ⟨some 41, .mv (.tmp 10), none, 0⟩,
 ⟨some 42, .mv (.tmp 6), none, 0⟩,
 ⟨some 43, .bin .geq (.tmp 41) (.tmp 42), none, 0⟩]) <|
 .cond (.tmp 43)
 (.ops [
 ⟨some 44, .mv (.tmp 10), none, 0⟩,
 ⟨some 45, .mv (.tmp 6), none, 0⟩,
 ⟨some 46, .bin .sub (.tmp 44) (.tmp 45), none, 0⟩,
 ⟨some 10, .mv (.tmp 46), none, 0⟩])
 (.skip)) <|
 .dops [
 ⟨some 47, .mv (.tmp 0), none, 0⟩,
 ⟨some 48, .mv (.tmp 9), none, 0⟩,
 ⟨some 53, .mv (.tmp 0), none, 0⟩,
 ⟨some 54, .mv (.tmp 1), none, 0⟩,
 ⟨some 55, .mv (.tmp 10), none, 0⟩,
 ⟨some 56, .bin .add (.tmp 54) (.tmp 55), none, 0⟩,
 ⟨some 57, .idx 1 (.tmp 53) (.tmp 56), none, 0⟩,
 ⟨some 58, .load false 1 (.tmp 57), none, 0⟩,
 ⟨some 59, .mv (.tmp 0), none, 0⟩,
 ⟨some 60, .mv (.tmp 9), none, 0⟩,
 ⟨some 61, .idx 1 (.tmp 59) (.tmp 60), none, 0⟩,
 ⟨some 62, .load false 1 (.tmp 61), none, 0⟩,
 ⟨some 63, .idx 1 (.tmp 47) (.tmp 48), none, 0⟩,
 ⟨none, .store 1 (.tmp 63) (.tmp 58), none, 0⟩,
 ⟨some 49, .mv (.tmp 0), none, 1⟩,
 ⟨some 50, .mv (.tmp 1), none, 1⟩,
 ⟨some 51, .mv (.tmp 10), none, 1⟩,
 ⟨some 52, .bin .add (.tmp 50) (.tmp 51), none, 1⟩,
 ⟨some 64, .idx 1 (.tmp 49) (.tmp 52), none, 0⟩,
 ⟨none, .store 1 (.tmp 64) (.tmp 62), none, 0⟩]) <|
 .ops [
 ⟨some 34, .mv (.tmp 9), none, 0⟩,
 ⟨some 35, .bin .add (.tmp 34) (.const (.int .i64 1)), none, 0⟩,
 ⟨some 9, .mv (.tmp 35), none, 0⟩]
def i_zz11 : FF := ⟨65, [],
 .seq (.ops [
 ⟨some 11, .mv (.tmp 2), none, 0⟩,
 ⟨some 12, .mv (.tmp 1), none, 0⟩,
 ⟨some 13, .bin .sub (.tmp 11) (.tmp 12), none, 0⟩,
 ⟨some 6, .mv (.tmp 13), none, 0⟩]) <|
 .seq (.ops [
 ⟨some 14, .mv (.tmp 6), none, 0⟩,
 ⟨some 15, .bin .geq (.tmp 14) (.const (.int .i64 8)), none, 0⟩]) <|
 .cond (.tmp 15)
 (.seq (.ops [
 ⟨some 16, .mv (.tmp 6), none, 0⟩,
 ⟨some 17, .conv .u64 (.tmp 16), none, 0⟩,
 ⟨some 7, .alloc [.int .u64 0], none, 0⟩,
 ⟨none, .store 1 (.tmp 7) (.tmp 17), none, 0⟩]) <|
 .seq (.ops [
 ⟨some 18, .mv (.tmp 6), none, 0⟩,
 ⟨some 19, .call k_zz42 [(.tmp 18)], none, 0⟩,
 ⟨some 8, .mv (.tmp 19), none, 0⟩]) <|
 .seq (.ops [
 ⟨some 20, .mv (.tmp 1), none, 0⟩,
 ⟨some 21, .mv (.tmp 6), none, 0⟩,
 ⟨some 22, .bin .quo (.tmp 21) (.const (.int .i64 4)), none, 0⟩,
 ⟨some 23, .bin .mul (.tmp 22) (.const (.int .i64 2)), none, 0⟩,
 ⟨some 24, .bin .add (.tmp 20) (.tmp 23), none, 0⟩,
 ⟨some 25, .bin .sub (.tmp 24) (.const (.int .i64 1)), none, 0⟩,
 ⟨some 9, .mv (.tmp 25), none, 0⟩]) <|
 .block 0 <|
 .loop [0, 1, 6, 7, 8, 9] i_zz11_B1)
 (.skip)⟩
theorem e_zz11 : EntOK Tryd.prog (compD Tryd.prog) k_zz11 i_zz11.vf :=
 ⟨Tryd.f49, Tryd.f49.body.getD .skip, Tryd.func49, by kernel_rfl, by kernel_rfl, by kernel_rfl, by kernel_rfl, by kernel_rfl⟩
/-- slices.choosePivotOrdered[int64] -/
def i_zz17 : FF := ⟨57, [.tmp 6, .tmp 7],
 .seq (.ops [
 ⟨some 6, .mv (.const (.int .i64 0)), none, 0⟩,
 ⟨some 7, .mv (.const (.int .i64 0)), none, 0⟩]) <|
 .seq (.ops [
 ⟨some 13, .mv (.tmp 2), none, 0⟩,
 ⟨some 14, .mv (.tmp 1), none, 0⟩,
 ⟨some 15, .bin .sub (.tmp 13) (.tmp 14), none, 0⟩,
 ⟨some 8, .mv (.tmp 15), none, 0⟩]) <|
 .seq (.ops [
 ⟨some 9, .alloc [.int .i64 0], none, 0⟩]) <|
 .seq (.ops [
 ⟨some 16, .mv (.tmp 1), none, 0⟩,
 ⟨some 17, .mv (.tmp 8), none, 0⟩,
 ⟨some 18, .bin .quo (.tmp 17) (.const (.int .i64 4)), none, 0⟩,
 ⟨some 19, .bin .mul (.tmp 18) (.const (.int .i64 1)), none, 0⟩,
 ⟨some 20, .bin .add (.tmp 16) (.tmp 19), none, 0⟩,
 ⟨some 10, .mv (.tmp 20), none, 0⟩]) <|
 .seq (.ops [
 ⟨some 21, .mv (.tmp 1), none, 0⟩,
 ⟨some 22, .mv (.tmp 8), none, 0⟩,
 ⟨some 23, .bin .quo (.tmp 22) (.const (.int .i64 4)), none, 0⟩,
 ⟨some 24, .bin .mul (.tmp 23) (.const (.int .i64 2)), none, 0⟩,
 ⟨some 25, .bin .add (.tmp 21) (.tmp 24), none, 0⟩,
 ⟨some 11, .mv (.tmp 25), none, 0⟩]) <|
 .seq (.ops [
 ⟨some 26, .mv (.tmp 1), none, 0⟩,
 ⟨some 27, .mv (.tmp 8), none, 0⟩,
 ⟨some 28, .bin .quo (.tmp 27) (.const (.int .i64 4)), none, 0⟩,
 ⟨some 29, .bin .mul (.tmp 28) (.const (.int .i64 3)), none, 0⟩,
 ⟨some 30, .bin .add (.tmp 26) (.tmp 29), none, 0⟩,
 ⟨some 12, .mv (.tmp 30), none, 0⟩]) <|
 .seq (.seq (.ops [
 ⟨some 31, .mv (.tmp 8), none, 0⟩,
 ⟨some 32, .bin .geq (.tmp 31) (.const (.int .i64 8)), none, 0⟩]) <|
 .cond (.tmp 32)
 (.seq (.seq (.ops [
 ⟨some 33, .mv (.tmp 8), none, 0⟩,
 ⟨some 34, .bin .geq (.tmp 33) (.const (.int .i64 50)), none, 0⟩]) <|
 .cond (.tmp 34)
 (.seq (.ops [
 ⟨some 35, .mv (.tmp 0), none, 0⟩,
 ⟨some 36, .mv (.tmp 10), none, 0⟩,
 ⟨some 37, .call k_zz9 [(.tmp 35), (.tmp 36), (.tmp 9)], none, 0⟩,
 ⟨some 10, .mv (.tmp 37), none, 0⟩]) <|
 .seq (.ops [
 ⟨some 38, .mv (.tmp 0), none, 0⟩,
 ⟨some 39, .mv (.tmp 11), none, 0⟩,
 ⟨some 40, .call k_zz9 [(.tmp 38), (.tmp 39), (.tmp 9)], none, 0⟩,
 ⟨some 11, .mv (.tmp 40), none, 0⟩]) <|
 .ops [
 ⟨some 41, .mv (.tmp 0), none, 0⟩,
 ⟨some 42, .mv (.tmp 12), none, 0⟩,
 ⟨some 43, .call k_zz9 [(.tmp 41), (.tmp 42), (.tmp 9)], none, 0⟩,
 ⟨some 12, .mv (.tmp 43), none, 0⟩])
 (.skip)) <|
 .ops [
 ⟨some 44, .mv (.tmp 0), none, 0⟩,
 ⟨some 45, .mv (.tmp 10), none, 0⟩,
 ⟨some 46, .mv (.tmp 11), none, 0⟩,
 ⟨some 47, .mv (.tmp 12), none, 0⟩,
 ⟨some 48, .call k_zz28 [(.tmp 44), (.tmp 45), (.tmp 46), (.tmp 47), (.tmp 9)], none, 0⟩,
 ⟨some 11, .mv (.tmp 48), none, 0⟩])
 (.skip)) <|
 .seq (.ops [
 ⟨some 49, .load false 1 (.tmp 9), none, 0⟩]) <|
 .block 0 <|
 .seq (.ops [
 ⟨some 52, .bin .eql (.tmp 49) (.const (.int .i64 0)), none, 0⟩,
 ⟨some 51, .mv (.tmp 52), none, 0⟩]) <|
 .cond (.tmp 51)
 (.seq (.ops [
 ⟨some 53, .mv (.tmp 11), none, 0⟩,
 ⟨some 6, .mv (.tmp 53), none, 0⟩,
 ⟨some 7, .mv (.const (.int .i64 1)), none, 0⟩]) <|
 .keep [6, 7] <|
 .ret)
 (.seq (.ops [
 ⟨some 55, .bin .eql (.tmp 49) (.const (.int .i64 12)), none, 0⟩,
 ⟨some 54, .mv (.tmp 55), none, 0⟩]) <|
 .cond (.tmp 54)
 (.seq (.ops [
 ⟨some 56, .mv (.tmp 11), none, 0⟩,
 ⟨some 6, .mv (.tmp 56), none, 0⟩,
 ⟨some 7, .mv (.const (.int .i64 2)), none, 0⟩]) <|
 .keep [6, 7] <|
 .ret)
 (.seq (.ops [
 ⟨some 50, .mv (.tmp 11), none, 0⟩,
 ⟨some 6, .mv (.tmp 50), none, 0⟩,
 ⟨some 7, .mv (.const (.int .i64 0)), none, 0⟩]) <|
 .keep [6, 7] <|
 .ret))⟩
theorem e_zz17 : EntOK Tryd.prog (compD Tryd.prog) k_zz17 i_zz17.vf :=
 ⟨Tryd.f50, Tryd.f50.body.getD .skip, Tryd.func50, by kernel_rfl, by kernel_rfl, by kernel_rfl, by kernel_rfl, by kernel_rfl⟩
/-- slices.reverseRangeOrdered[int64] -/
def i_zz15_B1 : FC :=
 .seq (.seq (.ops [
 ⟨some 11, .mv (.tmp 6), none, 0⟩,
 ⟨some 12, .mv (.tmp 7), none, 0⟩,
 ⟨some 13, .bin .lss (.tmp 11) (.tmp 12), none, 0⟩]) <|
 .cond (.tmp 13)
 (.skip)
 (.keep [] <|
 .exit 0)) <|
 .block 1 <|
 .seq (.dops [
 ⟨some 14, .mv (.tmp 0), none, 0⟩,
 ⟨some 15, .mv (.tmp 6), none, 0⟩,
 ⟨some 18, .mv (.tmp 0), none, 0⟩,
 ⟨some 19, .mv (.tmp 7), none, 0⟩,
 ⟨some 20, .idx 1 (.tmp 18) (.tmp 19), none, 0⟩,
 ⟨some 21, .load false 1 (.tmp 20), none, 0⟩,
 ⟨some 22, .mv (.tmp 0), none, 0⟩,
 ⟨some 23, .mv (.tmp 6), none, 0⟩,
 ⟨some 24, .idx 1 (.tmp 22) (.tmp 23), none, 0⟩,
 ⟨some 25, .load false 1 (.tmp 24), none, 0⟩,
 ⟨some 26, .idx 1 (.tmp 14) (.tmp 15), none, 0⟩,
 ⟨none, .store 1 (.tmp 26) (.tmp 21), none, 0⟩,
 ⟨some 16, .mv (.tmp 0), none, 1⟩,
 ⟨some 17, .mv (.tmp 7), none, 1⟩,
 ⟨some 27, .idx 1 (.tmp 16) (.tmp 17), none, 0⟩,
 ⟨none, .store 1 (.tmp 27) (.tmp 25), none, 0⟩]) <|
 .seq (.ops [
 ⟨some 28, .mv (.tmp 6), none, 0⟩,
 ⟨some 29, .bin .add (.tmp 28) (.const (.int .i64 1)), none, 0⟩,
 ⟨some 6, .mv (.tmp 29), none, 0⟩]) <|
 .ops [
 ⟨some 30, .mv (.tmp 7), none, 0⟩,
 ⟨some 31, .bin .sub (.tmp 30) (.const (.int .i64 1)), none, 0⟩,
 ⟨some 7, .mv (.tmp 31), none, 0⟩]
def i_zz15 : FF := ⟨32, [],
 .seq (.ops [
 ⟨some 8, .mv (.tmp 1), none, 0⟩,
 ⟨some 6, .mv (.tmp 8), none, 0⟩]) <|
 .seq (.ops [
 ⟨some 9, .mv (.tmp 2), none, 0⟩,
 ⟨some 10, .bin .sub (.tmp 9) (.const (.int .i64 1)), none, 0⟩,
 ⟨some 7, .mv (.tmp 10), none, 0⟩]) <|
 .block 0 <|
 .loop [0, 6, 7] i_zz15_B1⟩
theorem e_zz15 : EntOK Tryd.prog (compD Tryd.prog) k_zz15 i_zz15.vf :=
 ⟨Tryd.f51, Tryd.f51.body.getD .skip, Tryd.func51, by kernel_rfl, by kernel_rfl, by kernel_rfl, by kernel_rfl, by kernel_rfl⟩
/-- slices.partialInsertionSortOrdered[int64] -/
def i_zz1_B1 : FC :=
 .seq (.seq (.dops [
 ⟨some 17, .mv (.tmp 7), none, 0⟩,
 ⟨some 18, .mv (.tmp 2), none, 0⟩,
 ⟨some 19, .bin .lss (.tmp 17) (.tmp 18), none, 0⟩,
 ⟨some 20, .mv (.tmp 19), none, 0⟩,
 ⟨some 21, .mv (.tmp 0), some (20, true), 0⟩,
 ⟨some 22, .mv (.tmp 7), some (20, true), 0⟩,
 ⟨some 23, .idx 1 (.tmp 21) (.tmp 22), some (20, true), 0⟩,
 ⟨some 24, .load false 1 (.tmp 23), some (20, true), 0⟩,
 ⟨some 25, .mv (.tmp 0), some (20, true), 0⟩,
 ⟨some 26, .mv (.tmp 7), some (20, true), 0⟩,
 ⟨some 27, .bin .sub (.tmp 26) (.const (.int .i64 1)), some (20, true), 0⟩,
 ⟨some 28, .idx 1 (.tmp 25) (.tmp 27), some (20, true), 0⟩,
 ⟨some 29, .load false 1 (.tmp 28), some (20, true), 0⟩,
 ⟨some 30, .call k_zz53 [(.tmp 24), (.tmp 29)], some (20, true), 0⟩,
 ⟨some 31, .un .not (.tmp 30), some (20, true), 0⟩,
 ⟨some 32, .pick (.tmp 20) (.tmp 31) (.const (.bool false)), none, 0⟩]) <|
 .cond (.tmp 32)
 (.skip)
 (.keep [0, 1, 2, 7, 8] <|
 .exit 2)) <|
 .block 3 <|
 .ops [
 ⟨some 33, .mv (.tmp 7), none, 0⟩,
 ⟨some 34, .bin .add (.tmp 33) (.const (.int .i64 1)), none, 0⟩,
 ⟨some 7, .mv (.tmp 34), none, 0⟩]
def i_zz1_B2 : FC :=
 .seq (.seq (.ops [
 ⟨some 64, .mv (.tmp 9), none, 0⟩,
 ⟨some 65, .bin .geq (.tmp 64) (.const (.int .i64 1)), none, 0⟩]) <|
 .cond (.tmp 65)
 (.skip)
 (.keep [0, 1, 2, 7, 8] <|
 .exit 4)) <|
 .seq (.block 5 <|
 .seq (.seq (.dops [
 ⟨some 68, .mv (.tmp 0), none, 0⟩,
 ⟨some 69, .mv (.tmp 9), none, 0⟩,
 ⟨some 70, .idx 1 (.tmp 68) (.tmp 69), none, 0⟩,
 ⟨some 71, .load false 1 (.tmp 70), none, 0⟩,
 ⟨some 72, .mv (.tmp 0), none, 0⟩,
 ⟨some 73, .mv (.tmp 9), none, 0⟩,
 ⟨some 74, .bin .sub (.tmp 73) (.const (.int .i64 1)), none, 0⟩,
 ⟨some 75, .idx 1 (.tmp 72) (.tmp 74), none, 0⟩,
 ⟨some 76, .load false 1 (.tmp 75), none, 0⟩,
 ⟨some 77, .call k_zz53 [(.tmp 71), (.tmp 76)], none, 0⟩,
 ⟨some 78, .un .not (.tmp 77), none, 0⟩]) <|
 .cond (.tmp 78)
 (.keep [0, 1, 2, 7, 8] <|
 .exit 4)
 (.skip)) <|
 .dops [
 ⟨some 79, .mv (.tmp 0), none, 0⟩,
 ⟨some 80, .mv (.tmp 9), none, 0⟩,
 ⟨some 84, .mv (.tmp 0), none, 0⟩,
 ⟨some 85, .mv (.tmp 9), none, 0⟩,
 ⟨some 86, .bin .sub (.tmp 85) (.const (.int .i64 1)), none, 0⟩,
 ⟨some 87, .idx 1 (.tmp 84) (.tmp 86), none, 0⟩,
 ⟨some 88, .load false 1 (.tmp 87), none, 0⟩,
 ⟨some 89, .mv (.tmp 0), none, 0⟩,
 ⟨some 90, .mv (.tmp 9), none, 0⟩,
 ⟨some 91, .idx 1 (.tmp 89) (.tmp 90), none, 0⟩,
 ⟨some 92, .load false 1 (.tmp 91), none, 0⟩,
 ⟨some 93, .idx 1 (.tmp 79) (.tmp 80), none, 0⟩,
 ⟨none, .store 1 (.tmp 93) (.tmp 88), none, 0⟩,
 ⟨some 81, .mv (.tmp 0), none, 1⟩,
 ⟨some 82, .mv (.tmp 9), none, 1⟩,
 ⟨some 83, .bin .sub (.tmp 82) (.const (.int .i64 1)), none, 1⟩,
 ⟨some 94, .idx 1 (.tmp 81) (.tmp 83), none, 0⟩,
 ⟨none, .store 1 (.tmp 94) (.tmp 92), none, 0⟩]) <|
 .ops [
 ⟨some 66, .mv (.tmp 9), none, 0⟩,
 ⟨some 67, .bin .sub (.tmp 66) (.const (.int .i64 1)), none, 0⟩,
 ⟨some 9, .mv (.tmp 67), none, 0⟩]
def i_zz1_B3 : FC :=
 .seq (.seq (.ops [
 ⟨some 101, .mv (.tmp 10), none, 0⟩,
 ⟨some 102, .mv (.tmp 2), none, 0⟩,
 ⟨some 103, .bin .lss (.tmp 101) (.tmp 102), none, 0⟩]) <|
 .cond (.tmp 103)
 (.skip)
 (.keep [0, 1, 2, 7, 8] <|
 .exit 6)) <|
 .seq (.block 7 <|
 .seq (.seq (.dops [
 ⟨some 106, .mv (.tmp 0), none, 0⟩,
 ⟨some 107, .mv (.tmp 10), none, 0⟩,
 ⟨some 108, .idx 1 (.tmp 106) (.tmp 107), none, 0⟩,
 ⟨some 109, .load false 1 (.tmp 108), none, 0⟩,
 ⟨some 110, .mv (.tmp 0), none, 0⟩,
 ⟨some 111, .mv (.tmp 10), none, 0⟩,
 ⟨some 112, .bin .sub (.tmp 111) (.const (.int .i64 1)), none, 0⟩,
 ⟨some 113, .idx 1 (.tmp 110) (.tmp 112), none, 0⟩,
 ⟨some 114, .load false 1 (.tmp 113), none, 0⟩,
 ⟨some 115, .call k_zz53 [(.tmp 109), (.tmp 114)], none, 0⟩,
 ⟨some 116, .un .not (.tmp 115), none, 0⟩]) <|
 .cond (.tmp 116)
 (.keep [0, 1, 2, 7, 8] <|
 .exit 6)
 (.skip)) <|
 .dops [
 ⟨some 117, .mv (.tmp 0), none, 0⟩,
 ⟨some 118, .mv (.tmp 10), none, 0⟩,
 ⟨some 122, .mv (.tmp 0), none, 0⟩,
 ⟨some 123, .mv (.tmp 10), none, 0⟩,
 ⟨some 124, .bin .sub (.tmp 123) (.const (.int .i64 1)), none, 0⟩,
 ⟨some 125, .idx 1 (.tmp 122) (.tmp 124), none, 0⟩,
 ⟨some 126, .load false 1 (.tmp 125), none, 0⟩,
 ⟨some 127, .mv (.tmp 0), none, 0⟩,
 ⟨some 128, .mv (.tmp 10), none, 0⟩,
 ⟨some 129, .idx 1 (.tmp 127) (.tmp 128), none, 0⟩,
 ⟨some 130, .load false 1 (.tmp 129), none, 0⟩,
 ⟨some 131, .idx 1 (.tmp 117) (.tmp 118), none, 0⟩,
 ⟨none, .store 1 (.tmp 131) (.tmp 126), none, 0⟩,
 ⟨some 119, .mv (.tmp 0), none, 1⟩,
 ⟨some 120, .mv (.tmp 10), none, 1⟩,
 ⟨some 121, .bin .sub (.tmp 120) (.const (.int .i64 1)), none, 1⟩,
 ⟨some 132, .idx 1 (.tmp 119) (.tmp 121), none, 0⟩,
 ⟨none, .store 1 (.tmp 132) (.tmp 130), none, 0⟩]) <|
 .ops [
 ⟨some 104, .mv (.tmp 10), none, 0⟩,
 ⟨some 105, .bin .add (.tmp 104) (.const (.int .i64 1)), none, 0⟩,
 ⟨some 10, .mv (.tmp 105), none, 0⟩]
def i_zz1_B4 : FC :=
 .seq (.seq (.ops [
 ⟨some 13, .mv (.tmp 8), none, 0⟩,
 ⟨some 14, .bin .lss (.tmp 13) (.const (.int .i64 5)), none, 0⟩]) <|
 .cond (.tmp 14)
 (.skip)
 (.keep [] <|
 .exit 0)) <|
 .seq (.block 1 <|
 .seq (.block 2 <|
 .loop [0, 1, 2, 7, 8] i_zz1_B1) <|
 .seq (.seq (.ops [
 ⟨some 35, .mv (.tmp 7), none, 0⟩,
 ⟨some 36, .mv (.tmp 2), none, 0⟩,
 ⟨some 37, .bin .eql (.tmp 35) (.tmp 36), none, 0⟩]) <|
 .cond (.tmp 37)
 (.seq (.ops [
 ⟨some 6, .mv (.const (.bool true)), none, 0⟩]) <|
 .keep [6] <|
 .ret)
 (.skip)) <|
 .seq (.seq (.ops [
 ⟨some 38, .mv (.tmp 2), none, 0⟩,
 ⟨some 39, .mv (.tmp 1), none, 0⟩,
 ⟨some 40, .bin .sub (.tmp 38) (.tmp 39), none, 0⟩,
 ⟨some 41, .bin .lss (.tmp 40) (.const (.int .i64 50)), none, 0⟩]) <|
 .cond (.tmp 41)
 (.seq (.ops [
 ⟨some 6, .mv (.const (.bool false)), none, 0⟩]) <|
 .keep [6] <|
 .ret)
 (.skip)) <|
 .seq (.dops [
 ⟨some 42, .mv (.tmp 0), none, 0⟩,
 ⟨some 43, .mv (.tmp 7), none, 0⟩,
 ⟨some 47, .mv (.tmp 0), none, 0⟩,
 ⟨some 48, .mv (.tmp 7), none, 0⟩,
 ⟨some 49, .bin .sub (.tmp 48) (.const (.int .i64 1)), none, 0⟩,
 ⟨some 50, .idx 1 (.tmp 47) (.tmp 49), none, 0⟩,
 ⟨some 51, .load false 1 (.tmp 50), none, 0⟩,
 ⟨some 52, .mv (.tmp 0), none, 0⟩,
 ⟨some 53, .mv (.tmp 7), none, 0⟩,
 ⟨some 54, .idx 1 (.tmp 52) (.tmp 53), none, 0⟩,
 ⟨some 55, .load false 1 (.tmp 54), none, 0⟩,
 ⟨some 56, .idx 1 (.tmp 42) (.tmp 43), none, 0⟩,
 ⟨none, .store 1 (.tmp 56) (.tmp 51), none, 0⟩,
 ⟨some 44, .mv (.tmp 0), none, 1⟩,
 ⟨some 45, .mv (.tmp 7), none, 1⟩,
 ⟨some 46, .bin .sub (.tmp 45) (.const (.int .i64 1)), none, 1⟩,
 ⟨some 57, .idx 1 (.tmp 44) (.tmp 46), none, 0⟩,
 ⟨none, .store 1 (.tmp 57) (.tmp 55), none, 0⟩]) <|
 .seq (.seq (.ops [
 ⟨some 58, .mv (.tmp 7), none, 0⟩,
 ⟨some 59, .mv (.tmp 1), none, 0⟩,
 ⟨some 60, .bin .sub (.tmp 58) (.tmp 59), none, 0⟩,
 ⟨some 61, .bin .geq (.tmp 60) (.const (.int .i64 2)), none, 0⟩]) <|
 .cond (.tmp 61)
 (.seq (.ops [
 ⟨some 62, .mv (.tmp 7), none, 0⟩,
 ⟨some 63, .bin .sub (.tmp 62) (.const (.int .i64 1)), none, 0⟩,
 ⟨some 9, .mv (.tmp 63), none, 0⟩]) <|
 .block 4 <|
 .loop [0, 1, 2, 7, 8, 9] i_zz1_B2)
 (.skip)) <|
 .seq (.ops [
 ⟨some 95, .mv (.tmp 2), none, 0⟩,
 ⟨some 96, .mv (.tmp 7), none, 0⟩,
 ⟨some 97, .bin .sub (.tmp 95) (.tmp 96), none, 0⟩,
 ⟨some 98, .bin .geq (.tmp 97) (.const (.int .i64 2)), none, 0⟩]) <|
 .cond (.tmp 98)
 (.seq (.ops [
 ⟨some 99, .mv (.tmp 7), none, 0⟩,
 ⟨some 100, .bin .add (.tmp 99) (.const (.int .i64 1)), none, 0⟩,
 ⟨some 10, .mv (.tmp 100), none, 0⟩]) <|
 .block 6 <|
 .loop [0, 1, 2, 7, 8, 10] i_zz1_B3)
 (.skip)) <|
 .ops [
 ⟨some 15, .mv (.tmp 8), none, 0⟩,
 ⟨some 16, .bin .add (.tmp 15) (.const (.int .i64 1)), none, 0⟩,
 ⟨some 8, .mv (.tmp 16), none, 0⟩]
def i_zz1 : FF := ⟨133, [.tmp 6],
 .seq (.ops [
 ⟨some 6, .mv (.const (.bool false)), none, 0⟩]) <|
 .seq (.ops [
 ⟨some 11, .mv (.tmp 1), none, 0⟩,
 ⟨some 12, .bin .add (.tmp 11) (.const (.int .i64 1)), none, 0⟩,
 ⟨some 7, .mv (.tmp 12), none, 0⟩]) <|
 .seq (.seq (.ops [
 ⟨some 8, .mv (.const (.int .i64 0)), none, 0⟩]) <|
 .block 0 <|
 .loop [0, 1, 2, 7, 8] i_zz1_B4) <|
 .seq (.ops [
 ⟨some 6, .mv (.const (.bool false)), none, 0⟩]) <|
 .keep [6] <|
 .ret⟩
theorem e_zz1 : EntOK Tryd.prog (compD Tryd.prog) k_zz1 i_zz1.vf :=
 ⟨Tryd.f52, Tryd.f52.body.getD .skip, Tryd.func52, by kernel_rfl, by kernel_rfl, by kernel_rfl, by kernel_rfl, by kernel_rfl⟩
/-- cmp.Less[int64] -/
def i_zz53 : FF := ⟨17, [.tmp 4],
 .seq (.ops [
 ⟨some 4, .mv (.const (.bool false)), none, 0⟩]) <|
 .seq (.ops [
 ⟨some 5, .mv (.tmp 0), none, 0⟩,
 ⟨some 6, .call k_zz50 [(.tmp 5)], none, 0⟩,
 ⟨some 7, .mv (.tmp 6), none, 0⟩,
 ⟨some 8, .mv (.tmp 1), some (7, true), 0⟩,
 ⟨some 9, .call k_zz50 [(.tmp 8)], some (7, true), 0⟩,
 ⟨some 10, .un .not (.tmp 9), some (7, true), 0⟩,
 ⟨some 11, .pick (.tmp 7) (.tmp 10) (.const (.bool false)), none, 0⟩,
 ⟨some 12, .mv (.tmp 11), none, 0⟩,
 ⟨some 13, .mv (.tmp 0), some (12, false), 0⟩,
 ⟨some 14, .mv (.tmp 1), some (12, false), 0⟩,
 ⟨some 15, .bin .lss (.tmp 13) (.tmp 14), some (12, false), 0⟩,
 ⟨some 16, .pick (.tmp 12) (.const (.bool true)) (.tmp 15), none, 0⟩,
 ⟨some 4, .mv (.tmp 16), none, 0⟩]) <|
 .keep [4] <|
 .ret⟩
theorem e_zz53 : EntOK Tryd.prog (compD Tryd.prog) k_zz53 i_zz53.vf :=
 ⟨Tryd.f53, Tryd.f53.body.getD .skip, Tryd.func53, by kernel_rfl, by kernel_rfl, by kernel_rfl, by kernel_rfl, by kernel_rfl⟩
/-- slices.partitionEqualOrdered[int64] -/
def i_zz10_B1 : FC :=
 .seq (.seq (.dops [
 ⟨some 29, .mv (.tmp 9), none, 0⟩,
 ⟨some 30, .mv (.tmp 10), none, 0⟩,
 ⟨some 31, .bin .leq (.tmp 29) (.tmp 30), none, 0⟩,
 ⟨some 32, .mv (.tmp 31), none, 0⟩,
 ⟨some 33, .mv (.tmp 0), some (32, true), 0⟩,
 ⟨some 34, .mv (.tmp 1), some (32, true), 0⟩,
 ⟨some 35, .idx 1 (.tmp 33) (.tmp 34), some (32, true), 0⟩,
 ⟨some 36, .load false 1 (.tmp 35), some (32, true), 0⟩,
 ⟨some 37, .mv (.tmp 0), some (32, true), 0⟩,
 ⟨some 38, .mv (.tmp 9), some (32, true), 0⟩,
 ⟨some 39, .idx 1 (.tmp 37) (.tmp 38), some (32, true), 0⟩,
 ⟨some 40, .load false 1 (.tmp 39), some (32, true), 0⟩,
 ⟨some 41, .call k_zz53 [(.tmp 36), (.tmp 40)], some (32, true), 0⟩,
 ⟨some 42, .un .not (.tmp 41), some (32, true), 0⟩,
 ⟨some 43, .pick (.tmp 32) (.tmp 42) (.const (.bool false)), none, 0⟩]) <|
 .cond (.tmp 43)
 (.skip)
 (.keep [0, 1, 9, 10] <|
 .exit 2)) <|
 .block 3 <|
 .ops [
 ⟨some 44, .mv (.tmp 9), none, 0⟩,
 ⟨some 45, .bin .add (.tmp 44) (.const (.int .i64 1)), none, 0⟩,
 ⟨some 9, .mv (.tmp 45), none, 0⟩]
def i_zz10_B2 : FC :=
 .seq (.seq (.dops [
 ⟨some 46, .mv (.tmp 9), none, 0⟩,
 ⟨some 47, .mv (.tmp 10), none, 0⟩,
 ⟨some 48, .bin .leq (.tmp 46) (.tmp 47), none, 0⟩,
 ⟨some 49, .mv (.tmp 48), none, 0⟩,
 ⟨some 50, .mv (.tmp 0), some (49, true), 0⟩,
 ⟨some 51, .mv (.tmp 1), some (49, true), 0⟩,
 ⟨some 52, .idx 1 (.tmp 50) (.tmp 51), some (49, true), 0⟩,
 ⟨some 53, .load false 1 (.tmp 52), some (49, true), 0⟩,
 ⟨some 54, .mv (.tmp 0), some (49, true), 0⟩,
 ⟨some 55, .mv (.tmp 10), some (49, true), 0⟩,
 ⟨some 56, .idx 1 (.tmp 54) (.tmp 55), some (49, true), 0⟩,
 ⟨some 57, .load false 1 (.tmp 56), some (49, true), 0⟩,
 ⟨some 58, .call k_zz53 [(.tmp 53), (.tmp 57)], some (49, true), 0⟩,
 ⟨some 59, .pick (.tmp 49) (.tmp 58) (.const (.bool false)), none, 0⟩]) <|
 .cond (.tmp 59)
 (.skip)
 (.keep [0, 1, 9, 10] <|
 .exit 4)) <|
 .block 5 <|
 .ops [
 ⟨some 60, .mv (.tmp 10), none, 0⟩,
 ⟨some 61, .bin .sub (.tmp 60) (.const (.int .i64 1)), none, 0⟩,
 ⟨some 10, .mv (.tmp 61), none, 0⟩]
def i_zz10_B3 : FC :=
 .block 1 <|
 .seq (.block 2 <|
 .loop [0, 1, 9, 10] i_zz10_B1) <|
 .seq (.block 4 <|
 .loop [0, 1, 9, 10] i_zz10_B2) <|
 .seq (.seq (.ops [
 ⟨some 62, .mv (.tmp 9), none, 0⟩,
 ⟨some 63, .mv (.tmp 10), none, 0⟩,
 ⟨some 64, .bin .gtr (.tmp 62) (.tmp 63), none, 0⟩]) <|
 .cond (.tmp 64)
 (.keep [9] <|
 .exit 0)
 (.skip)) <|
 .seq (.dops [
 ⟨some 65, .mv (.tmp 0), none, 0⟩,
 ⟨some 66, .mv (.tmp 9), none, 0⟩,
 ⟨some 69, .mv (.tmp 0), none, 0⟩,
 ⟨some 70, .mv (.tmp 10), none, 0⟩,
 ⟨some 71, .idx 1 (.tmp 69) (.tmp 70), none, 0⟩,
 ⟨some 72, .load false 1 (.tmp 71), none, 0⟩,
 ⟨some 73, .mv (.tmp 0), none, 0⟩,
 ⟨some 74, .mv (.tmp 9), none, 0⟩,
 ⟨some 75, .idx 1 (.tmp 73) (.tmp 74), none, 0⟩,
 ⟨some 76, .load false 1 (.tmp 75), none, 0⟩,
 ⟨some 77, .idx 1 (.tmp 65) (.tmp 66), none, 0⟩,
 ⟨none, .store 1 (.tmp 77) (.tmp 72), none, 0⟩,
 ⟨some 67, .mv (.tmp 0), none, 1⟩,
 ⟨some 68, .mv (.tmp 10), none, 1⟩,
 ⟨some 78, .idx 1 (.tmp 67) (.tmp 68), none, 0⟩,
 ⟨none, .store 1 (.tmp 78) (.tmp 76), none, 0⟩]) <|
 .seq (.ops [
 ⟨some 79, .mv (.tmp 9), none, 0⟩,
 ⟨some 80, .bin .add (.tmp 79) (.const (.int .i64 1)), none, 0⟩,
 ⟨some 9, .mv (.tmp 80), none, 0⟩]) <|
 .ops [
 ⟨some 81, .mv (.tmp 10), none, 0⟩,
 ⟨some 82, .bin .sub (.tmp 81) (.const (.int .i64 1)), none, 0⟩,
 ⟨some 10, .mv (.tmp 82), none, 0⟩]
def i_zz10 : FF := ⟨84, [.tmp 8],
 .seq (.ops [
 ⟨some 8, .mv (.const (.int .i64 0)), none, 0⟩]) <|
 .seq (.dops [
 ⟨some 11, .mv (.tmp 0), none, 0⟩,
 ⟨some 12, .mv (.tmp 1), none, 0⟩,
 ⟨some 15, .mv (.tmp 0), none, 0⟩,
 ⟨some 16, .mv (.tmp 3), none, 0⟩,
 ⟨some 17, .idx 1 (.tmp 15) (.tmp 16), none, 0⟩,
 ⟨some 18, .load false 1 (.tmp 17), none, 0⟩,
 ⟨some 19, .mv (.tmp 0), none, 0⟩,
 ⟨some 20, .mv (.tmp 1), none, 0⟩,
 ⟨some 21, .idx 1 (.tmp 19) (.tmp 20), none, 0⟩,
 ⟨some 22, .load false 1 (.tmp 21), none, 0⟩,
 ⟨some 23, .idx 1 (.tmp 11) (.tmp 12), none, 0⟩,
 ⟨none, .store 1 (.tmp 23) (.tmp 18), none, 0⟩,
 ⟨some 13, .mv (.tmp 0), none, 1⟩,
 ⟨some 14, .mv (.tmp 3), none, 1⟩,
 ⟨some 24, .idx 1 (.tmp 13) (.tmp 14), none, 0⟩,
 ⟨none, .store 1 (.tmp 24) (.tmp 22), none, 0⟩]) <|
 .seq (.ops [
 ⟨some 25, .mv (.tmp 1), none, 0⟩,
 ⟨some 26, .bin .add (.tmp 25) (.const (.int .i64 1)), none, 0⟩,
 ⟨some 27, .mv (.tmp 2), none, 0⟩,
 ⟨some 28, .bin .sub (.tmp 27) (.const (.int .i64 1)), none, 0⟩,
 ⟨some 9, .mv (.tmp 26), none, 0⟩,
 ⟨some 10, .mv (.tmp 28), none, 0⟩]) <|
 .seq (.block 0 <|
 .loop [0, 1, 9, 10] i_zz10_B3) <|
 .seq (.ops [
 ⟨some 83, .mv (.tmp 9), none, 0⟩,
 ⟨some 8, .mv (.tmp 83), none, 0⟩]) <|
 .keep [8] <|
 .ret⟩
theorem e_zz10 : EntOK Tryd.prog (compD Tryd.prog) k_zz10 i_zz10.vf :=
 ⟨Tryd.f54, Tryd.f54.body.getD .skip, Tryd.func54, by kernel_rfl, by kernel_rfl, by kernel_rfl, by kernel_rfl, by kernel_rfl⟩
/-- slices.partitionOrdered[int64] -/
def i_zz21_B1 : FC :=
 .seq (.seq (.dops [
 ⟨some 30, .mv (.tmp 10), none, 0⟩,
 ⟨some 31, .mv (.tmp 11), none, 0⟩,
 ⟨some 32, .bin .leq (.tmp 30) (.tmp 31), none, 0⟩,
 ⟨some 33, .mv (.tmp 32), none, 0⟩,
 ⟨some 34, .mv (.tmp 0), some (33, true), 0⟩,
 ⟨some 35, .mv (.tmp 10), some (33, true), 0⟩,
 ⟨some 36, .idx 1 (.tmp 34) (.tmp 35), some (33, true), 0⟩,
 ⟨some 37, .load false 1 (.tmp 36), some (33, true), 0⟩,
 ⟨some 38, .mv (.tmp 0), some (33, true), 0⟩,
 ⟨some 39, .mv (.tmp 1), some (33, true), 0⟩,
 ⟨some 40, .idx 1 (.tmp 38) (.tmp 39), some (33, true), 0⟩,
 ⟨some 41, .load false 1 (.tmp 40), some (33, true), 0⟩,
 ⟨some 42, .call k_zz53 [(.tmp 37), (.tmp 41)], some (33, true), 0⟩,
 ⟨some 43, .pick (.tmp 33) (.tmp 42) (.const (.bool false)), none, 0⟩]) <|
 .cond (.tmp 43)
 (.skip)
 (.keep [0, 1, 10, 11] <|
 .exit 0)) <|
 .block 1 <|
 .ops [
 ⟨some 44, .mv (.tmp 10), none, 0⟩,
 ⟨some 45, .bin .add (.tmp 44) (.const (.int .i64 1)), none, 0⟩,
 ⟨some 10, .mv (.tmp 45), none, 0⟩]
def i_zz21_B2 : FC :=
 .seq (.seq (.dops [
 ⟨some 46, .mv (.tmp 10), none, 0⟩,
 ⟨some 47, .mv (.tmp 11), none, 0⟩,
 ⟨some 48, .bin .leq (.tmp 46) (.tmp 47), none, 0⟩,
 ⟨some 49, .mv (.tmp 48), none, 0⟩,
 ⟨some 50, .mv (.tmp 0), some (49, true), 0⟩,
 ⟨some 51, .mv (.tmp 11), some (49, true), 0⟩,
 ⟨some 52, .idx 1 (.tmp 50) (.tmp 51), some (49, true), 0⟩,
 ⟨some 53, .load false 1 (.tmp 52), some (49, true), 0⟩,
 ⟨some 54, .mv (.tmp 0), some (49, true), 0⟩,
 ⟨some 55, .mv (.tmp 1), some (49, true), 0⟩,
 ⟨some 56, .idx 1 (.tmp 54) (.tmp 55), some (49, true), 0⟩,
 ⟨some 57, .load false 1 (.tmp 56), some (49, true), 0⟩,
 ⟨some 58, .call k_zz53 [(.tmp 53), (.tmp 57)], some (49, true), 0⟩,
 ⟨some 59, .un .not (.tmp 58), some (49, true), 0⟩,
 ⟨some 60, .pick (.tmp 49) (.tmp 59) (.const (.bool false)), none, 0⟩]) <|
 .cond (.tmp 60)
 (.skip)
 (.keep [0, 1, 10, 11] <|
 .exit 2)) <|
 .block 3 <|
 .ops [
 ⟨some 61, .mv (.tmp 11), none, 0⟩,
 ⟨some 62, .bin .sub (.tmp 61) (.const (.int .i64 1)), none, 0⟩,
 ⟨some 11, .mv (.tmp 62), none, 0⟩]
def i_zz21_B3 : FC :=
 .seq (.seq (.dops [
 ⟨some 99, .mv (.tmp 10), none, 0⟩,
 ⟨some 100, .mv (.tmp 11), none, 0⟩,
 ⟨some 101, .bin .leq (.tmp 99) (.tmp 100), none, 0⟩,
 ⟨some 102, .mv (.tmp 101), none, 0⟩,
 ⟨some 103, .mv (.tmp 0), some (102, true), 0⟩,
 ⟨some 104, .mv (.tmp 10), some (102, true), 0⟩,
 ⟨some 105, .idx 1 (.tmp 103) (.tmp 104), some (102, true), 0⟩,
 ⟨some 106, .load false 1 (.tmp 105), some (102, true), 0⟩,
 ⟨some 107, .mv (.tmp 0), some (102, true), 0⟩,
 ⟨some 108, .mv (.tmp 1), some (102, true), 0⟩,
 ⟨some 109, .idx 1 (.tmp 107) (.tmp 108), some (102, true), 0⟩,
 ⟨some 110, .load false 1 (.tmp 109), some (102, true), 0⟩,
 ⟨some 111, .call k_zz53 [(.tmp 106), (.tmp 110)], some (102, true), 0⟩,
 ⟨some 112, .pick (.tmp 102) (.tmp 111) (.const (.bool false)), none, 0⟩]) <|
 .cond (.tmp 112)
 (.skip)
 (.keep [0, 1, 10, 11] <|
 .exit 6)) <|
 .block 7 <|
 .ops [
 ⟨some 113, .mv (.tmp 10), none, 0⟩,
 ⟨some 114, .bin .add (.tmp 113) (.const (.int .i64 1)), none, 0⟩,
 ⟨some 10, .mv (.tmp 114), none, 0⟩]
def i_zz21_B4 : FC :=
 .seq (.seq (.dops [
 ⟨some 115, .mv (.tmp 10), none, 0⟩,
 ⟨some 116, .mv (.tmp 11), none, 0⟩,
 ⟨some 117, .bin .leq (.tmp 115) (.tmp 116), none, 0⟩,
 ⟨some 118, .mv (.tmp 117), none, 0⟩,
 ⟨some 119, .mv (.tmp 0), some (118, true), 0⟩,
 ⟨some 120, .mv (.tmp 11), some (118, true), 0⟩,
 ⟨some 121, .idx 1 (.tmp 119) (.tmp 120), some (118, true), 0⟩,
 ⟨some 122, .load false 1 (.tmp 121), some (118, true), 0⟩,
 ⟨some 123, .mv (.tmp 0), some (118, true), 0⟩,
 ⟨some 124, .mv (.tmp 1), some (118, true), 0⟩,
 ⟨some 125, .idx 1 (.tmp 123) (.tmp 124), some (118, true), 0⟩,
 ⟨some 126, .load false 1 (.tmp 125), some (118, true), 0⟩,
 ⟨some 127, .call k_zz53 [(.tmp 122), (.tmp 126)], some (118, true), 0⟩,
 ⟨some 128, .un .not (.tmp 127), some (118, true), 0⟩,
 ⟨some 129, .pick (.tmp 118) (.tmp 128) (.const (.bool false)), none, 0⟩]) <|
 .cond (.tmp 129)
 (.skip)
 (.keep [0, 1, 10, 11] <|
 .exit 8)) <|
 .block 9 <|
 .ops [
 ⟨some 130, .mv (.tmp 11), none, 0⟩,
 ⟨some 131, .bin .sub (.tmp 130) (.const (.int .i64 1)), none, 0⟩,
 ⟨some 11, .mv (.tmp 131), none, 0⟩]
def i_zz21_B5 : FC :=
 .block 5 <|
 .seq (.block 6 <|
 .loop [0, 1, 10, 11] i_zz21_B3) <|
 .seq (.block 8 <|
 .loop [0, 1, 10, 11] i_zz21_B4) <|
 .seq (.seq (.ops [
 ⟨some 132, .mv (.tmp 10), none, 0⟩,
 ⟨some 133, .mv (.tmp 11), none, 0⟩,
 ⟨some 134, .bin .gtr (.tmp 132) (.tmp 133), none, 0⟩]) <|
 .cond (.tmp 134)
 (.keep [0, 1, 11] <|
 .exit 4)
 (.skip)) <|
 .seq (.dops [
 ⟨some 135, .mv (.tmp 0), none, 0⟩,
 ⟨some 136, .mv (.tmp 10), none, 0⟩,
 ⟨some 139, .mv (.tmp 0), none, 0⟩,
 ⟨some 140, .mv (.tmp 11), none, 0⟩,
 ⟨some 141, .idx 1 (.tmp 139) (.tmp 140), none, 0⟩,
 ⟨some 142, .load false 1 (.tmp 141), none, 0⟩,
 ⟨some 143, .mv (.tmp 0), none, 0⟩,
 ⟨some 144, .mv (.tmp 10), none, 0⟩,
 ⟨some 145, .idx 1 (.tmp 143) (.tmp 144), none, 0⟩,
 ⟨some 146, .load false 1 (.tmp 145), none, 0⟩,
 ⟨some 147, .idx 1 (.tmp 135) (.tmp 136), none, 0⟩,
 ⟨none, .store 1 (.tmp 147) (.tmp 142), none, 0⟩,
 ⟨some 137, .mv (.tmp 0), none, 1⟩,
 ⟨some 138, .mv (.tmp 11), none, 1⟩,
 ⟨some 148, .idx 1 (.tmp 137) (.tmp 138), none, 0⟩,
 ⟨none, .store 1 (.tmp 148) (.tmp 146), none, 0⟩]) <|
 .seq (.ops [
 ⟨some 149, .mv (.tmp 10), none, 0⟩,
 ⟨some 150, .bin .add (.tmp 149) (.const (.int .i64 1)), none, 0⟩,
 ⟨some 10, .mv (.tmp 150), none, 0⟩]) <|
 .ops [
 ⟨some 151, .mv (.tmp 11), none, 0⟩,
 ⟨some 152, .bin .sub (.tmp 151) (.const (.int .i64 1)), none, 0⟩,
 ⟨some 11, .mv (.tmp 152), none, 0⟩]
def i_zz21 : FF := ⟨168, [.tmp 8, .tmp 9],
 .seq (.ops [
 ⟨some 8, .mv (.const (.int .i64 0)), none, 0⟩,
 ⟨some 9, .mv (.const (.bool false)), none, 0⟩]) <|
 .seq (.dops [
 ⟨some 12, .mv (.tmp 0), none, 0⟩,
 ⟨some 13, .mv (.tmp 1), none, 0⟩,
 ⟨some 16, .mv (.tmp 0), none, 0⟩,
 ⟨some 17, .mv (.tmp 3), none, 0⟩,
 ⟨some 18, .idx 1 (.tmp 16) (.tmp 17), none, 0⟩,
 ⟨some 19, .load false 1 (.tmp 18), none, 0⟩,
 ⟨some 20, .mv (.tmp 0), none, 0⟩,
 ⟨some 21, .mv (.tmp 1), none, 0⟩,
 ⟨some 22, .idx 1 (.tmp 20) (.tmp 21), none, 0⟩,
 ⟨some 23, .load false 1 (.tmp 22), none, 0⟩,
 ⟨some 24, .idx 1 (.tmp 12) (.tmp 13), none, 0⟩,
 ⟨none, .store 1 (.tmp 24) (.tmp 19), none, 0⟩,
 ⟨some 14, .mv (.tmp 0), none, 1⟩,
 ⟨some 15, .mv (.tmp 3), none, 1⟩,
 ⟨some 25, .idx 1 (.tmp 14) (.tmp 15), none, 0⟩,
 ⟨none, .store 1 (.tmp 25) (.tmp 23), none, 0⟩]) <|
 .seq (.ops [
 ⟨some 26, .mv (.tmp 1), none, 0⟩,
 ⟨some 27, .bin .add (.tmp 26) (.const (.int .i64 1)), none, 0⟩,
 ⟨some 28, .mv (.tmp 2), none, 0⟩,
 ⟨some 29, .bin .sub (.tmp 28) (.const (.int .i64 1)), none, 0⟩,
 ⟨some 10, .mv (.tmp 27), none, 0⟩,
 ⟨some 11, .mv (.tmp 29), none, 0⟩]) <|
 .seq (.block 0 <|
 .loop [0, 1, 10, 11] i_zz21_B1) <|
 .seq (.block 2 <|
 .loop [0, 1, 10, 11] i_zz21_B2) <|
 .seq (.seq (.ops [
 ⟨some 63, .mv (.tmp 10), none, 0⟩,
 ⟨some 64, .mv (.tmp 11), none, 0⟩,
 ⟨some 65, .bin .gtr (.tmp 63) (.tmp 64), none, 0⟩]) <|
 .cond (.tmp 65)
 (.seq (.dops [
 ⟨some 66, .mv (.tmp 0), none, 0⟩,
 ⟨some 67, .mv (.tmp 11), none, 0⟩,
 ⟨some 70, .mv (.tmp 0), none, 0⟩,
 ⟨some 71, .mv (.tmp 1), none, 0⟩,
 ⟨some 72, .idx 1 (.tmp 70) (.tmp 71), none, 0⟩,
 ⟨some 73, .load false 1 (.tmp 72), none, 0⟩,
 ⟨some 74, .mv (.tmp 0), none, 0⟩,
 ⟨some 75, .mv (.tmp 11), none, 0⟩,
 ⟨some 76, .idx 1 (.tmp 74) (.tmp 75), none, 0⟩,
 ⟨some 77, .load false 1 (.tmp 76), none, 0⟩,
 ⟨some 78, .idx 1 (.tmp 66) (.tmp 67), none, 0⟩,
 ⟨none, .store 1 (.tmp 78) (.tmp 73), none, 0⟩,
 ⟨some 68, .mv (.tmp 0), none, 1⟩,
 ⟨some 69, .mv (.tmp 1), none, 1⟩,
 ⟨some 79, .idx 1 (.tmp 68) (.tmp 69), none, 0⟩,
 ⟨none, .store 1 (.tmp 79) (.tmp 77), none, 0⟩]) <|
 .seq (.ops [
 ⟨some 80, .mv (.tmp 11), none, 0⟩,
 ⟨some 8, .mv (.tmp 80), none, 0⟩,
 ⟨some 9, .mv (.const (.bool true)), none, 0⟩]) <|
 .keep [8, 9] <|
 .ret)
 (.skip)) <|
 .seq (.dops [
 ⟨some 81, .mv (.tmp 0), none, 0⟩,
 ⟨some 82, .mv (.tmp 10), none, 0⟩,
 ⟨some 85, .mv (.tmp 0), none, 0⟩,
 ⟨some 86, .mv (.tmp 11), none, 0⟩,
 ⟨some 87, .idx 1 (.tmp 85) (.tmp 86), none, 0⟩,
 ⟨some 88, .load false 1 (.tmp 87), none, 0⟩,
 ⟨some 89, .mv (.tmp 0), none, 0⟩,
 ⟨some 90, .mv (.tmp 10), none, 0⟩,
 ⟨some 91, .idx 1 (.tmp 89) (.tmp 90), none, 0⟩,
 ⟨some 92, .load false 1 (.tmp 91), none, 0⟩,
 ⟨some 93, .idx 1 (.tmp 81) (.tmp 82), none, 0⟩,
 ⟨none, .store 1 (.tmp 93) (.tmp 88), none, 0⟩,
 ⟨some 83, .mv (.tmp 0), none, 1⟩,
 ⟨some 84, .mv (.tmp 11), none, 1⟩,
 ⟨some 94, .idx 1 (.tmp 83) (.tmp 84), none, 0⟩,
 ⟨none, .store 1 (.tmp 94) (.tmp 92), none, 0⟩]) <|
 .seq (.ops [
 ⟨some 95, .mv (.tmp 10), none, 0⟩,
 ⟨some 96, .bin .add (.tmp 95) (.const (.int .i64 1)), none, 0⟩,
 ⟨some 10, .mv (.tmp 96), none, 0⟩]) <|
 .seq (.ops [
 ⟨some 97, .mv (.tmp 11), none, 0⟩,
 ⟨some 98, .bin .sub (.tmp 97) (.const (.int .i64 1)), none, 0⟩,
 ⟨some 11, .mv (.tmp 98), none, 0⟩]) <|
 .seq (.block 4 <|
 .loop [0, 1, 10, 11] i_zz21_B5) <|
 .seq (.dops [
 ⟨some 153, .mv (.tmp 0), none, 0⟩,
 ⟨some 154, .mv (.tmp 11), none, 0⟩,
 ⟨some 157, .mv (.tmp 0), none, 0⟩,
 ⟨some 158, .mv (.tmp 1), none, 0⟩,
 ⟨some 159, .idx 1 (.tmp 157) (.tmp 158), none, 0⟩,
 ⟨some 160, .load false 1 (.tmp 159), none, 0⟩,
 ⟨some 161, .mv (.tmp 0), none, 0⟩,
 ⟨some 162, .mv (.tmp 11), none, 0⟩,
 ⟨some 163, .idx 1 (.tmp 161) (.tmp 162), none, 0⟩,
 ⟨some 164, .load false 1 (.tmp 163), none, 0⟩,
 ⟨some 165, .idx 1 (.tmp 153) (.tmp 154), none, 0⟩,
 ⟨none, .store 1 (.tmp 165) (.tmp 160), none, 0⟩,
 ⟨some 155, .mv (.tmp 0), none, 1⟩,
 ⟨some 156, .mv (.tmp 1), none, 1⟩,
 ⟨some 166, .idx 1 (.tmp 155) (.tmp 156), none, 0⟩,
 ⟨none, .store 1 (.tmp 166) (.tmp 164), none, 0⟩]) <|
 .seq (.ops [
 ⟨some 167, .mv (.tmp 11), none, 0⟩,
 ⟨some 8, .mv (.tmp 167), none, 0⟩,
 ⟨some 9, .mv (.const (.bool false)), none, 0⟩]) <|
 .keep [8, 9] <|
 .ret⟩
theorem e_zz21 : EntOK Tryd.prog (compD Tryd.prog) k_zz21 i_zz21.vf :=
 ⟨Tryd.f55, Tryd.f55.body.getD .skip, Tryd.func55, by kernel_rfl, by kernel_rfl, by kernel_rfl, by kernel_rfl, by kernel_rfl⟩
/-- math/bits.Len32 -/
def i_zz51 : FF := ⟨19, [.tmp 2],
 .seq (.ops [
 ⟨some 2, .mv (.const (.int .i64 0)), none, 0⟩]) <|
 .seq (.seq (.ops [
 ⟨some 3, .mv (.tmp 0), none, 0⟩,
 ⟨some 4, .bin .geq (.tmp 3) (.const (.int .u32 65536)), none, 0⟩]) <|
 .cond (.tmp 4)
 (.seq (.ops [
 ⟨some 5, .mv (.tmp 0), none, 0⟩,
 ⟨some 6, .bin .shr (.tmp 5) (.const (.int .u64 16)), none, 0⟩,
 ⟨some 0, .mv (.tmp 6), none, 0⟩]) <|
 .ops [
 ⟨some 2, .mv (.const (.int .i64 16)), none, 0⟩])
 (.skip)) <|
 .seq (.seq (.ops [
 ⟨some 7, .mv (.tmp 0), none, 0⟩,
 ⟨some 8, .bin .geq (.tmp 7) (.const (.int .u32 256)), none, 0⟩]) <|
 .cond (.tmp 8)
 (.seq (.ops [
 ⟨some 9, .mv (.tmp 0), none, 0⟩,
 ⟨some 10, .bin .shr (.tmp 9) (.const (.int .u64 8)), none, 0⟩,
 ⟨some 0, .mv (.tmp 10), none, 0⟩]) <|
 .ops [
 ⟨some 11, .mv (.tmp 2), none, 0⟩,
 ⟨some 12, .bin .add (.tmp 11) (.const (.int .i64 8)), none, 0⟩,
 ⟨some 2, .mv (.tmp 12), none, 0⟩])
 (.skip)) <|
 .seq (.ops [
 ⟨some 13, .mv (.tmp 2), none, 0⟩,
 ⟨some 14, .mv (.tmp 0), none, 0⟩,
 ⟨some 15, .conv .u8 (.tmp 14), none, 0⟩,
 ⟨some 16, .idxStr (.const (.string ⟨#[0, 1, 2, 2, 3, 3, 3, 3, 4, 4, 4, 4, 4, 4, 4, 4, 5, 5, 5, 5, 5, 5, 5, 5, 5, 5, 5, 5, 5, 5, 5, 5, 6, 6, 6, 6, 6, 6, 6, 6, 6, 6, 6, 6, 6, 6, 6, 6, 6, 6, 6, 6, 6, 6, 6, 6, 6, 6, 6, 6, 6, 6, 6, 6, 7, 7, 7, 7, 7, 7, 7, 7, 7, 7, 7, 7, 7, 7, 7, 7, 7, 7, 7, 7, 7, 7, 7, 7, 7, 7, 7, 7, 7, 7, 7, 7, 7, 7, 7, 7, 7, 7, 7, 7, 7, 7, 7, 7, 7, 7, 7, 7, 7, 7, 7, 7, 7, 7, 7, 7, 7, 7, 7, 7, 7, 7, 7, 7, 8, 8, 8, 8, 8, 8, 8, 8, 8, 8, 8, 8, 8, 8, 8, 8, 8, 8, 8, 8, 8, 8, 8, 8, 8, 8, 8, 8, 8, 8, 8, 8, 8, 8, 8, 8, 8, 8, 8, 8, 8, 8, 8, 8, 8, 8, 8, 8, 8, 8, 8, 8, 8, 8, 8, 8, 8, 8, 8, 8, 8, 8, 8, 8, 8, 8, 8, 8, 8, 8, 8, 8, 8, 8, 8, 8, 8, 8, 8, 8, 8, 8, 8, 8, 8, 8, 8, 8, 8, 8, 8, 8, 8, 8, 8, 8, 8, 8, 8, 8, 8, 8, 8, 8, 8, 8, 8, 8, 8, 8, 8, 8, 8, 8, 8, 8, 8, 8, 8, 8, 8, 8, 8, 8, 8, 8, 8, 8]⟩)) (.tmp 15), none, 0⟩,
 ⟨some 17, .conv .i64 (.tmp 16), none, 0⟩,
 ⟨some 18, .bin .add (.tmp 13) (.tmp 17), none, 0⟩,
 ⟨some 2, .mv (.tmp 18), none, 0⟩]) <|
 .keep [2] <|
 .ret⟩
theorem e_zz51 : EntOK Tryd.prog (compD Tryd.prog) k_zz51 i_zz51.vf :=
 ⟨Tryd.f56, Tryd.f56.body.getD .skip, Tryd.func56, by kernel_rfl, by kernel_rfl, by kernel_rfl, by kernel_rfl, by kernel_rfl⟩
/-- math/bits.Len64 -/
def i_zz52 : FF := ⟨25, [.tmp 2],
 .seq (.ops [
 ⟨some 2, .mv (.const (.int .i64 0)), none, 0⟩]) <|
 .seq (.seq (.ops [
 ⟨some 3, .mv (.tmp 0), none, 0⟩,
 ⟨some 4, .bin .geq (.tmp 3) (.const (.int .u64 4294967296)), none, 0⟩]) <|
 .cond (.tmp 4)
 (.seq (.ops [
 ⟨some 5, .mv (.tmp 0), none, 0⟩,
 ⟨some 6, .bin .shr (.tmp 5) (.const (.int .u64 32)), none, 0⟩,
 ⟨some 0, .mv (.tmp 6), none, 0⟩]) <|
 .ops [
 ⟨some 2, .mv (.const (.int .i64 32)), none, 0⟩])
 (.skip)) <|
 .seq (.seq (.ops [
 ⟨some 7, .mv (.tmp 0), none, 0⟩,
 ⟨some 8, .bin .geq (.tmp 7) (.const (.int .u64 65536)), none, 0⟩]) <|
 .cond (.tmp 8)
 (.seq (.ops [
 ⟨some 9, .mv (.tmp 0), none, 0⟩,
 ⟨some 10, .bin .shr (.tmp 9) (.const (.int .u64 16)), none, 0⟩,
 ⟨some 0, .mv (.tmp 10), none, 0⟩]) <|
 .ops [
 ⟨some 11, .mv (.tmp 2), none, 0⟩,
 ⟨some 12, .bin .add (.tmp 11) (.const (.int .i64 16)), none, 0⟩,
 ⟨some 2, .mv (.tmp 12), none, 0⟩])
 (.skip)) <|
 .seq (.seq (.ops [
 ⟨some 13, .mv (.tmp 0), none, 0⟩,
 ⟨some 14, .bin .geq (.tmp 13) (.const (.int .u64 256)), none, 0⟩]) <|
 .cond (.tmp 14)
 (.seq (.ops [
 ⟨some 15, .mv (.tmp 0), none, 0⟩,
 ⟨some 16, .bin .shr (.tmp 15) (.const (.int .u64 8)), none, 0⟩,
 ⟨some 0, .mv (.tmp 16), none, 0⟩]) <|
 .ops [
 ⟨some 17, .mv (.tmp 2), none, 0⟩,
 ⟨some 18, .bin .add (.tmp 17) (.const (.int .i64 8)), none, 0⟩,
 ⟨some 2, .mv (.tmp 18), none, 0⟩])
 (.skip)) <|
 .seq (.ops [
 ⟨some 19, .mv (.tmp 2), none, 0⟩,
 ⟨some 20, .mv (.tmp 0), none, 0⟩,
 ⟨some 21, .conv .u8 (.tmp 20), none, 0⟩,
 ⟨some 22, .idxStr (.const (.string ⟨#[0, 1, 2, 2, 3, 3, 3, 3, 4, 4, 4, 4, 4, 4, 4, 4, 5, 5, 5, 5, 5, 5, 5, 5, 5, 5, 5, 5, 5, 5, 5, 5, 6, 6, 6, 6, 6, 6, 6, 6, 6, 6, 6, 6, 6, 6, 6, 6, 6, 6, 6, 6, 6, 6, 6, 6, 6, 6, 6, 6, 6, 6, 6, 6, 7, 7, 7, 7, 7, 7, 7, 7, 7, 7, 7, 7, 7, 7, 7, 7, 7, 7, 7, 7, 7, 7, 7, 7, 7, 7, 7, 7, 7, 7, 7, 7, 7, 7, 7, 7, 7, 7, 7, 7, 7, 7, 7, 7, 7, 7, 7, 7, 7, 7, 7, 7, 7, 7, 7, 7, 7, 7, 7, 7, 7, 7, 7, 7, 8, 8, 8, 8, 8, 8, 8, 8, 8, 8, 8, 8, 8, 8, 8, 8, 8, 8, 8, 8, 8, 8, 8, 8, 8, 8, 8, 8, 8, 8, 8, 8, 8, 8, 8, 8, 8, 8, 8, 8, 8, 8, 8, 8, 8, 8, 8, 8, 8, 8, 8, 8, 8, 8, 8, 8, 8, 8, 8, 8, 8, 8, 8, 8, 8, 8, 8, 8, 8, 8, 8, 8, 8, 8, 8, 8, 8, 8, 8, 8, 8, 8, 8, 8, 8, 8, 8, 8, 8, 8, 8, 8, 8, 8, 8, 8, 8, 8, 8, 8, 8, 8, 8, 8, 8, 8, 8, 8, 8, 8, 8, 8, 8, 8, 8, 8, 8, 8, 8, 8, 8, 8, 8, 8, 8, 8, 8, 8]⟩)) (.tmp 21), none, 0⟩,
 ⟨some 23, .conv .i64 (.tmp 22), none, 0⟩,
 ⟨some 24, .bin .add (.tmp 19) (.tmp 23), none, 0⟩,
 ⟨some 2, .mv (.tmp 24), none, 0⟩]) <|
 .keep [2] <|
 .ret⟩
theorem e_zz52 : EntOK Tryd.prog (compD Tryd.prog) k_zz52 i_zz52.vf :=
 ⟨Tryd.f57, Tryd.f57.body.getD .skip, Tryd.func57, by kernel_rfl, by kernel_rfl, by kernel_rfl, by kernel_rfl, by kernel_rfl⟩
/-- math/bits.OnesCount64 -/
def i_zz41 : FF := ⟨35, [.tmp 2],
 .seq (.ops [
 ⟨some 2, .mv (.const (.int .i64 0)), none, 0⟩]) <|
 .seq (.ops [
 ⟨some 3, .mv (.tmp 0), none, 0⟩,
 ⟨some 4, .bin .shr (.tmp 3) (.const (.int .u64 1)), none, 0⟩,
 ⟨some 5, .bin .and (.tmp 4) (.const (.int .u64 6148914691236517205)), none, 0⟩,
 ⟨some 6, .mv (.tmp 0), none, 0⟩,
 ⟨some 7, .bin .and (.tmp 6) (.const (.int .u64 6148914691236517205)), none, 0⟩,
 ⟨some 8, .bin .add (.tmp 5) (.tmp 7), none, 0⟩,
 ⟨some 0, .mv (.tmp 8), none, 0⟩]) <|
 .seq (.ops [
 ⟨some 9, .mv (.tmp 0), none, 0⟩,
 ⟨some 10, .bin .shr (.tmp 9) (.const (.int .u64 2)), none, 0⟩,
 ⟨some 11, .bin .and (.tmp 10) (.const (.int .u64 3689348814741910323)), none, 0⟩,
 ⟨some 12, .mv (.tmp 0), none, 0⟩,
 ⟨some 13, .bin .and (.tmp 12) (.const (.int .u64 3689348814741910323)), none, 0⟩,
 ⟨some 14, .bin .add (.tmp 11) (.tmp 13), none, 0⟩,
 ⟨some 0, .mv (.tmp 14), none, 0⟩]) <|
 .seq (.ops [
 ⟨some 15, .mv (.tmp 0), none, 0⟩,
 ⟨some 16, .bin .shr (.tmp 15) (.const (.int .u64 4)), none, 0⟩,
 ⟨some 17, .mv (.tmp 0), none, 0⟩,
 ⟨some 18, .bin .add (.tmp 16) (.tmp 17), none, 0⟩,
 ⟨some 19, .bin .and (.tmp 18) (.const (.int .u64 1085102592571150095)), none, 0⟩,
 ⟨some 0, .mv (.tmp 19), none, 0⟩]) <|
 .seq (.ops [
 ⟨some 20, .mv (.tmp 0), none, 0⟩,
 ⟨some 21, .mv (.tmp 0), none, 0⟩,
 ⟨some 22, .bin .shr (.tmp 21) (.const (.int .u64 8)), none, 0⟩,
 ⟨some 23, .bin .add (.tmp 20) (.tmp 22), none, 0⟩,
 ⟨some 0, .mv (.tmp 23), none, 0⟩]) <|
 .seq (.ops [
 ⟨some 24, .mv (.tmp 0), none, 0⟩,
 ⟨some 25, .mv (.tmp 0), none, 0⟩,
 ⟨some 26, .bin .shr (.tmp 25) (.const (.int .u64 16)), none, 0⟩,
 ⟨some 27, .bin .add (.tmp 24) (.tmp 26), none, 0⟩,
 ⟨some 0, .mv (.tmp 27), none, 0⟩]) <|
 .seq (.ops [
 ⟨some 28, .mv (.tmp 0), none, 0⟩,
 ⟨some 29, .mv (.tmp 0), none, 0⟩,
 ⟨some 30, .bin .shr (.tmp 29) (.const (.int .u64 32)), none, 0⟩,
 ⟨some 31, .bin .add (.tmp 28) (.tmp 30), none, 0⟩,
 ⟨some 0, .mv (.tmp 31), none, 0⟩]) <|
 .seq (.ops [
 ⟨some 32, .mv (.tmp 0), none, 0⟩,
 ⟨some 33, .conv .i64 (.tmp 32), none, 0⟩,
 ⟨some 34, .bin .and (.tmp 33) (.const (.int .i64 127)), none, 0⟩,
 ⟨some 2, .mv (.tmp 34), none, 0⟩]) <|
 .keep [2] <|
 .ret⟩
theorem e_zz41 : EntOK Tryd.prog (compD Tryd.prog) k_zz41 i_zz41.vf :=
 ⟨Tryd.f58, Tryd.f58.body.getD .skip, Tryd.func58, by kernel_rfl, by kernel_rfl, by kernel_rfl, by kernel_rfl, by kernel_rfl⟩
/-- slices.pdqsortCmpFunc[loop.example/g01331/impl.told] -/
def i_zz18_B1 : FC :=
 .block 1 <|
 .seq (.ops [
 ⟨some 21, .mv (.tmp 2), none, 0⟩,
 ⟨some 22, .mv (.tmp 1), none, 0⟩,
 ⟨some 23, .bin .sub (.tmp 21) (.tmp 22), none, 0⟩,
 ⟨some 12, .mv (.tmp 23), none, 0⟩]) <|
 .seq (.seq (.ops [
 ⟨some 24, .mv (.tmp 12), none, 0⟩,
 ⟨some 25, .bin .leq (.tmp 24) (.const (.int .i64 12)), none, 0⟩]) <|
 .cond (.tmp 25)
 (.seq (.ops [
 ⟨some 26, .mv (.tmp 0), none, 0⟩,
 ⟨some 27, .mv (.tmp 1), none, 0⟩,
 ⟨some 28, .mv (.tmp 2), none, 0⟩,
 ⟨some 29, .mv (.tmp 4), none, 0⟩,
 ⟨some 30, .call k_zz5 [(.tmp 26), (.tmp 27), (.tmp 28), (.tmp 29)], none, 0⟩]) <|
 .keep [] <|
 .ret)
 (.skip)) <|
 .seq (.seq (.ops [
 ⟨some 31, .mv (.tmp 3), none, 0⟩,
 ⟨some 32, .bin .eql (.tmp 31) (.const (.int .i64 0)), none, 0⟩]) <|
 .cond (.tmp 32)
 (.seq (.ops [
 ⟨some 33, .mv (.tmp 0), none, 0⟩,
 ⟨some 34, .mv (.tmp 1), none, 0⟩,
 ⟨some 35, .mv (.tmp 2), none, 0⟩,
 ⟨some 36, .mv (.tmp 4), none, 0⟩,
 ⟨some 37, .call k_zz14 [(.tmp 33), (.tmp 34), (.tmp 35), (.tmp 36)], none, 0⟩]) <|
 .keep [] <|
 .ret)
 (.skip)) <|
 .seq (.seq (.ops [
 ⟨some 38, .mv (.tmp 10), none, 0⟩,
 ⟨some 39, .un .not (.tmp 38), none, 0⟩]) <|
 .cond (.tmp 39)
 (.seq (.ops [
 ⟨some 40, .mv (.tmp 0), none, 0⟩,
 ⟨some 41, .mv (.tmp 1), none, 0⟩,
 ⟨some 42, .mv (.tmp 2), none, 0⟩,
 ⟨some 43, .mv (.tmp 4), none, 0⟩,
 ⟨some 44, .call k_zz4 [(.tmp 40), (.tmp 41), (.tmp 42), (.tmp 43)], none, 0⟩]) <|
 .ops [
 ⟨some 45, .mv (.tmp 3), none, 0⟩,
 ⟨some 46, .bin .sub (.tmp 45) (.const (.int .i64 1)), none, 0⟩,
 ⟨some 3, .mv (.tmp 46), none, 0⟩])
 (.skip)) <|
 .seq (.ops [
 ⟨some 48, .mv (.tmp 0), none, 0⟩,
 ⟨some 49, .mv (.tmp 1), none, 0⟩,
 ⟨some 50, .mv (.tmp 2), none, 0⟩,
 ⟨some 51, .mv (.tmp 4), none, 0⟩,
 ⟨some 52, .call k_zz8 [(.tmp 48), (.tmp 49), (.tmp 50), (.tmp 51)], none, 0⟩,
 ⟨some 47, .mv (.tmp 52), none, 0⟩,
 ⟨some 53, .ext (.tmp 47) 0, none, 0⟩,
 ⟨some 54, .ext (.tmp 47) 1, none, 0⟩,
 ⟨some 13, .mv (.tmp 53), none, 0⟩,
 ⟨some 14, .mv (.tmp 54), none, 0⟩]) <|
 .seq (.seq (.ops [
 ⟨some 55, .mv (.tmp 14), none, 0⟩,
 ⟨some 56, .bin .eql (.tmp 55) (.const (.int .i64 2)), none, 0⟩]) <|
 .cond (.tmp 56)
 (.seq (.ops [
 ⟨some 57, .mv (.tmp 0), none, 0⟩,
 ⟨some 58, .mv (.tmp 1), none, 0⟩,
 ⟨some 59, .mv (.tmp 2), none, 0⟩,
 ⟨some 60, .mv (.tmp 4), none, 0⟩,
 ⟨some 61, .call k_zz6 [(.tmp 57), (.tmp 58), (.tmp 59), (.tmp 60)], none, 0⟩]) <|
 .seq (.ops [
 ⟨some 62, .mv (.tmp 2), none, 0⟩,
 ⟨some 63, .bin .sub (.tmp 62) (.const (.int .i64 1)), none, 0⟩,
 ⟨some 64, .mv (.tmp 13), none, 0⟩,
 ⟨some 65, .mv (.tmp 1), none, 0⟩,
 ⟨some 66, .bin .sub (.tmp 64) (.tmp 65), none, 0⟩,
 ⟨some 67, .bin .sub (.tmp 63) (.tmp 66), none, 0⟩,
 ⟨some 13, .mv (.tmp 67), none, 0⟩]) <|
 .ops [
 ⟨some 14, .mv (.const (.int .i64 1)), none, 0⟩])
 (.skip)) <|
 .seq (.seq (.ops [
 ⟨some 68, .mv (.tmp 10), none, 0⟩,
 ⟨some 69, .mv (.tmp 68), none, 0⟩,
 ⟨some 70, .mv (.tmp 11), some (69, true), 0⟩,
 ⟨some 71, .pick (.tmp 69) (.tmp 70) (.const (.bool false)), none, 0⟩,
 ⟨some 72, .mv (.tmp 71), none, 0⟩,
 ⟨some 73, .mv (.tmp 14), some (72, true), 0⟩,
 ⟨some 74, .bin .eql (.tmp 73) (.const (.int .i64 1)), some (72, true), 0⟩,
 ⟨some 75, .pick (.tmp 72) (.tmp 74) (.const (.bool false)), none, 0⟩]) <|
 .cond (.tmp 75)
 (.seq (.ops [
 ⟨some 76, .mv (.tmp 0), none, 0⟩,
 ⟨some 77, .mv (.tmp 1), none, 0⟩,
 ⟨some 78, .mv (.tmp 2), none, 0⟩,
 ⟨some 79, .mv (.tmp 4), none, 0⟩,
 ⟨some 80, .call k_zz0 [(.tmp 76), (.tmp 77), (.tmp 78), (.tmp 79)], none, 0⟩]) <|
 .cond (.tmp 80)
 (.keep [] <|
 .ret)
 (.skip))
 (.skip)) <|
 .seq (.seq (.dops [
 ⟨some 81, .mv (.tmp 1), none, 0⟩,
 ⟨some 82, .bin .gtr (.tmp 81) (.const (.int .i64 0)), none, 0⟩,
 ⟨some 83, .mv (.tmp 82), none, 0⟩,
 ⟨some 84, .mv (.tmp 4), some (83, true), 0⟩,
 ⟨some 85, .mv (.tmp 0), some (83, true), 0⟩,
 ⟨some 86, .mv (.tmp 1), some (83, true), 0⟩,
 ⟨some 87, .bin .sub (.tmp 86) (.const (.int .i64 1)), some (83, true), 0⟩,
 ⟨some 88, .idx 3 (.tmp 85) (.tmp 87), some (83, true), 0⟩,
 ⟨some 89, .load true 3 (.tmp 88), some (83, true), 0⟩,
 ⟨some 90, .mv (.tmp 0), some (83, true), 0⟩,
 ⟨some 91, .mv (.tmp 13), some (83, true), 0⟩,
 ⟨some 92, .idx 3 (.tmp 90) (.tmp 91), some (83, true), 0⟩,
 ⟨some 93, .load true 3 (.tmp 92), some (83, true), 0⟩,
 ⟨some 94, .callv (.tmp 84) [(.tmp 89), (.tmp 93)], some (83, true), 0⟩,
 ⟨some 95, .bin .lss (.tmp 94) (.const (.int .i64 0)), some (83, true), 0⟩,
 ⟨some 96, .un .not (.tmp 95), some (83, true), 0⟩,
 ⟨some 97, .pick (.tmp 83) (.tmp 96) (.const (.bool false)), none, 0⟩]) <|
 .cond (.tmp 97)
 (.seq (.ops [
 ⟨some 98, .mv (.tmp 0), none, 0⟩,
 ⟨some 99, .mv (.tmp 1), none, 0⟩,
 ⟨some 100, .mv (.tmp 2), none, 0⟩,
 ⟨some 101, .mv (.tmp 13), none, 0⟩,
 ⟨some 102, .mv (.tmp 4), none, 0⟩,
 ⟨some 103, .call k_zz3 [(.tmp 98), (.tmp 99), (.tmp 100), (.tmp 101), (.tmp 102)], none, 0⟩,
 ⟨some 15, .mv (.tmp 103), none, 0⟩]) <|
 .seq (.ops [
 ⟨some 104, .mv (.tmp 15), none, 0⟩,
 ⟨some 1, .mv (.tmp 104), none, 0⟩]) <|
 .keep [0, 1, 2, 3, 4, 10, 11] <|
 .exit 1)
 (.skip)) <|
 .seq (.ops [
 ⟨some 106, .mv (.tmp 0), none, 0⟩,
 ⟨some 107, .mv (.tmp 1), none, 0⟩,
 ⟨some 108, .mv (.tmp 2), none, 0⟩,
 ⟨some 109, .mv (.tmp 13), none, 0⟩,
 ⟨some 110, .mv (.tmp 4), none, 0⟩,
 ⟨some 111, .call k_zz13 [(.tmp 106), (.tmp 107), (.tmp 108), (.tmp 109), (.tmp 110)], none, 0⟩,
 ⟨some 105, .mv (.tmp 111), none, 0⟩,
 ⟨some 112, .ext (.tmp 105) 0, none, 0⟩,
 ⟨some 113, .ext (.tmp 105) 1, none, 0⟩,
 ⟨some 16, .mv (.tmp 112), none, 0⟩,
 ⟨some 17, .mv (.tmp 113), none, 0⟩]) <|
 .seq (.ops [
 ⟨some 114, .mv (.tmp 17), none, 0⟩,
 ⟨some 11, .mv (.tmp 114), none, 0⟩]) <|
 .seq (.ops [
 ⟨some 115, .mv (.tmp 16), none, 0⟩,
 ⟨some 116, .mv (.tmp 1), none, 0⟩,
 ⟨some 117, .bin .sub (.tmp 115) (.tmp 116), none, 0⟩,
 ⟨some 118, .mv (.tmp 2), none, 0⟩,
 ⟨some 119, .mv (.tmp 16), none, 0⟩,
 ⟨some 120, .bin .sub (.tmp 118) (.tmp 119), none, 0⟩,
 ⟨some 18, .mv (.tmp 117), none, 0⟩,
 ⟨some 19, .mv (.tmp 120), none, 0⟩]) <|
 .seq (.ops [
 ⟨some 121, .mv (.tmp 12), none, 0⟩,
 ⟨some 122, .bin .quo (.tmp 121) (.const (.int .i64 8)), none, 0⟩,
 ⟨some 20, .mv (.tmp 122), none, 0⟩]) <|
 .seq (.ops [
 ⟨some 123, .mv (.tmp 18), none, 0⟩,
 ⟨some 124, .mv (.tmp 19), none, 0⟩,
 ⟨some 125, .bin .lss (.tmp 123) (.tmp 124), none, 0⟩]) <|
 .cond (.tmp 125)
 (.seq (.ops [
 ⟨some 126, .mv (.tmp 18), none, 0⟩,
 ⟨some 127, .mv (.tmp 20), none, 0⟩,
 ⟨some 128, .bin .geq (.tmp 126) (.tmp 127), none, 0⟩,
 ⟨some 10, .mv (.tmp 128), none, 0⟩]) <|
 .seq (.ops [
 ⟨some 129, .mv (.tmp 0), none, 0⟩,
 ⟨some 130, .mv (.tmp 1), none, 0⟩,
 ⟨some 131, .mv (.tmp 16), none, 0⟩,
 ⟨some 132, .mv (.tmp 3), none, 0⟩,
 ⟨some 133, .mv (.tmp 4), none, 0⟩,
 ⟨some 134, .call k_zz18 [(.tmp 129), (.tmp 130), (.tmp 131), (.tmp 132), (.tmp 133)], none, 0⟩]) <|
 .ops [
 ⟨some 135, .mv (.tmp 16), none, 0⟩,
 ⟨some 136, .bin .add (.tmp 135) (.const (.int .i64 1)), none, 0⟩,
 ⟨some 1, .mv (.tmp 136), none, 0⟩])
 (.seq (.ops [
 ⟨some 137, .mv (.tmp 19), none, 0⟩,
 ⟨some 138, .mv (.tmp 20), none, 0⟩,
 ⟨some 139, .bin .geq (.tmp 137) (.tmp 138), none, 0⟩,
 ⟨some 10, .mv (.tmp 139), none, 0⟩]) <|
 .seq (.ops [
 ⟨some 140, .mv (.tmp 0), none, 0⟩,
 ⟨some 141, .mv (.tmp 16), none, 0⟩,
 ⟨some 142, .bin .add (.tmp 141) (.const (.int .i64 1)), none, 0⟩,
 ⟨some 143, .mv (.tmp 2), none, 0⟩,
 ⟨some 144, .mv (.tmp 3), none, 0⟩,
 ⟨some 145, .mv (.tmp 4), none, 0⟩,
 ⟨some 146, .call k_zz18 [(.tmp 140), (.tmp 142), (.tmp 143), (.tmp 144), (.tmp 145)], none, 0⟩]) <|
 .ops [
 ⟨some 147, .mv (.tmp 16), none, 0⟩,
 ⟨some 2, .mv (.tmp 147), none, 0⟩])
def i_zz18 : FF := ⟨148, [],
 .seq (.ops [
 ⟨some 10, .mv (.const (.bool true)), none, 0⟩]) <|
 .seq (.ops [
 ⟨some 11, .mv (.const (.bool true)), none, 0⟩]) <|
 .block 0 <|
 .loop [0, 1, 2, 3, 4, 10, 11] i_zz18_B1⟩
theorem e_zz18 : EntOK Tryd.prog (compD Tryd.prog) k_zz18 i_zz18.vf :=
 ⟨Tryd.f59, Tryd.f59.body.getD .skip, Tryd.func59, by kernel_rfl, by kernel_rfl, by kernel_rfl, by kernel_rfl, by kernel_rfl⟩
/-- cmp.Compare[int64] -/
def i_zz49 : FF := ⟨20, [.tmp 4],
 .seq (.ops [
 ⟨some 4, .mv (.const (.int .i64 0)), none, 0⟩]) <|
 .seq (.ops [
 ⟨some 7, .mv (.tmp 0), none, 0⟩,
 ⟨some 8, .call k_zz50 [(.tmp 7)], none, 0⟩,
 ⟨some 5, .mv (.tmp 8), none, 0⟩]) <|
 .seq (.ops [
 ⟨some 9, .mv (.tmp 1), none, 0⟩,
 ⟨some 10, .call k_zz50 [(.tmp 9)], none, 0⟩,
 ⟨some 6, .mv (.tmp 10), none, 0⟩]) <|
 .seq (.seq (.ops [
 ⟨some 11, .mv (.tmp 5), none, 0⟩]) <|
 .cond (.tmp 11)
 (.seq (.seq (.ops [
 ⟨some 12, .mv (.tmp 6), none, 0⟩]) <|
 .cond (.tmp 12)
 (.seq (.ops [
 ⟨some 4, .mv (.const (.int .i64 0)), none, 0⟩]) <|
 .keep [4] <|
 .ret)
 (.skip)) <|
 .seq (.ops [
 ⟨some 4, .mv (.const (.int .i64 (-1))), none, 0⟩]) <|
 .keep [4] <|
 .ret)
 (.skip)) <|
 .seq (.seq (.ops [
 ⟨some 13, .mv (.tmp 6), none, 0⟩]) <|
 .cond (.tmp 13)
 (.seq (.ops [
 ⟨some 4, .mv (.const (.int .i64 1)), none, 0⟩]) <|
 .keep [4] <|
 .ret)
 (.skip)) <|
 .seq (.seq (.ops [
 ⟨some 14, .mv (.tmp 0), none, 0⟩,
 ⟨some 15, .mv (.tmp 1), none, 0⟩,
 ⟨some 16, .bin .lss (.tmp 14) (.tmp 15), none, 0⟩]) <|
 .cond (.tmp 16)
 (.seq (.ops [
 ⟨some 4, .mv (.const (.int .i64 (-1))), none, 0⟩]) <|
 .keep [4] <|
 .ret)
 (.skip)) <|
 .seq (.seq (.ops [
 ⟨some 17, .mv (.tmp 0), none, 0⟩,
 ⟨some 18, .mv (.tmp 1), none, 0⟩,
 ⟨some 19, .bin .gtr (.tmp 17) (.tmp 18), none, 0⟩]) <|
 .cond (.tmp 19)
 (.seq (.ops [
 ⟨some 4, .mv (.const (.int .i64 1)), none, 0⟩]) <|
 .keep [4] <|
 .ret)
 (.skip)) <|
 .seq (.ops [
 ⟨some 4, .mv (.const (.int .i64 0)), none, 0⟩]) <|
 .keep [4] <|
 .ret⟩
theorem e_zz49 : EntOK Tryd.prog (compD Tryd.prog) k_zz49 i_zz49.vf :=
 ⟨Tryd.f60, Tryd.f60.body.getD .skip, Tryd.func60, by kernel_rfl, by kernel_rfl, by kernel_rfl, by kernel_rfl, by kernel_rfl⟩
end

end Go.Proofs.YtbdlmjnpglfkoaaDoor.Zv

