/- Part C of the proof: ZwIr1. Conditions: none. -/
import Derived.Test.YtbomdghbblakoaaDoorProg
import Derived.Test.YtbomdghbblakoaaDoorZpB
set_option linter.unusedSimpArgs false
set_option linter.unusedVariables false
set_option linter.unusedSectionVars false
namespace Go.Proofs.YtbomdghbblakoaaDoor.Zv
/- The functions' intermediate form. -/
section
open Go
def k_math_bits_TrailingZeros64 : Nat := 78
def k_zz51 : Nat := 3
def k_zz84 : Nat := 4
def k_zz24 : Nat := 5
def k_zz63 : Nat := 6
def k_zz65 : Nat := 7
def k_zz21 : Nat := 8
def k_zz25 : Nat := 9
def k_zz52 : Nat := 10
def k_zz62 : Nat := 11
def k_zz64 : Nat := 12
def k_zz45 : Nat := 13
def k_zz29 : Nat := 14
def k_zz50 : Nat := 15
def k_zz13 : Nat := 16
def k_zz30 : Nat := 17
def k_zz46 : Nat := 18
def k_zz47 : Nat := 19
def k_zz48 : Nat := 20
def k_zz9 : Nat := 21
def k_zz35 : Nat := 22
def k_zz8 : Nat := 23
def k_zz34 : Nat := 24
def k_zz18 : Nat := 25
def k_zz53 : Nat := 26
def k_zz6 : Nat := 27
def k_zz17 : Nat := 28
def k_zz40 : Nat := 29
def k_zz59 : Nat := 30
def k_zz55 : Nat := 31
def k_zz78 : Nat := 32
def k_zz77 : Nat := 33
def k_zz60 : Nat := 34
def k_zz14 : Nat := 35
def k_zz0 : Nat := 36
def k_zz39 : Nat := 37
def k_zz49 : Nat := 38
def k_zz16 : Nat := 39
def k_zz74 : Nat := 40
def k_zz32 : Nat := 41
def k_zz73 : Nat := 42
def k_zz15 : Nat := 43
def k_zz72 : Nat := 44
def k_zz28 : Nat := 45
def k_zz31 : Nat := 46
def k_zz33 : Nat := 47
def k_zz27 : Nat := 48
def k_zz80 : Nat := 49
def k_zz12 : Nat := 50
def k_zz38 : Nat := 51
def k_zz44 : Nat := 52
def k_zz36 : Nat := 53
def k_zz57 : Nat := 54
def k_zz58 : Nat := 55
def k_zz43 : Nat := 56
def k_zz42 : Nat := 57
def k_zz70 : Nat := 58
def k_zz67 : Nat := 59
def k_zz66 : Nat := 60
def k_zz76 : Nat := 61
def k_zz75 : Nat := 62
def k_zz10 : Nat := 63
def k_zz71 : Nat := 64
def k_zz37 : Nat := 65
def k_zz68 : Nat := 66
def k_zz79 : Nat := 67
def k_zz1 : Nat := 68
def k_zz82 : Nat := 69
def k_zz19 : Nat := 70
def k_zz81 : Nat := 71
def k_zz7 : Nat := 72
def k_zz4 : Nat := 73
def k_zz61 : Nat := 74
def k_zz26 : Nat := 75
def k_zz56 : Nat := 76
def k_zz69 : Nat := 77
def k_zz11 : Nat := 79
def k_zz54 : Nat := 80
def k_zz83 : Nat := 81
def k_zz20 : Nat := 82
def k_zz5 : Nat := 83
def k_zz3 : Nat := 84
def k_zz2 : Nat := 85
def k_zz41 : Nat := 86
def k_zz22 : Nat := 87
def k_zz23 : Nat := 88
/-- loop.example/g01331/laws.FnLifts -/
def i_zz51_B1 : FC :=
 .seq (.seq (.ops [
 ⟨some 242, .mv (.tmp 29), none, 0⟩,
 ⟨some 243, .mv (.tmp 25), none, 0⟩,
 ⟨some 244, .len (.tmp 243), none, 0⟩,
 ⟨some 245, .bin .lss (.tmp 242) (.tmp 244), none, 0⟩]) <|
 .cond (.tmp 245)
 (.skip)
 (.keep [0, 3, 4, 18, 24, 25, 26, 27, 28] <|
 .exit 2)) <|
 .seq (.block 3 <|
 .ops [
 ⟨some 248, .mv (.tmp 24), none, 0⟩,
 ⟨some 249, .mv (.tmp 248), none, 0⟩,
 ⟨some 250, .mv (.tmp 25), some (249, true), 0⟩,
 ⟨some 251, .mv (.tmp 29), some (249, true), 0⟩,
 ⟨some 252, .idx 1 (.tmp 250) (.tmp 251), some (249, true), 0⟩,
 ⟨some 253, .load false 1 (.tmp 252), some (249, true), 0⟩,
 ⟨some 254, .idx 1 (.tmp 253) (.const (.int .i64 0)), some (249, true), 0⟩,
 ⟨some 255, .load false 1 (.tmp 254), some (249, true), 0⟩,
 ⟨some 256, .mv (.tmp 27), some (249, true), 0⟩,
 ⟨some 257, .bin .neq (.tmp 255) (.tmp 256), some (249, true), 0⟩,
 ⟨some 258, .mv (.tmp 257), some (249, true), 0⟩,
 ⟨some 259, .mv (.tmp 25), some (258, false), 0⟩,
 ⟨some 260, .mv (.tmp 29), some (258, false), 0⟩,
 ⟨some 261, .idx 1 (.tmp 259) (.tmp 260), some (258, false), 0⟩,
 ⟨some 262, .load false 1 (.tmp 261), some (258, false), 0⟩,
 ⟨some 263, .idx 1 (.tmp 262) (.const (.int .i64 1)), some (258, false), 0⟩,
 ⟨some 264, .load false 1 (.tmp 263), some (258, false), 0⟩,
 ⟨some 265, .mv (.tmp 28), some (258, false), 0⟩,
 ⟨some 266, .bin .neq (.tmp 264) (.tmp 265), some (258, false), 0⟩,
 ⟨some 267, .pick (.tmp 258) (.const (.bool true)) (.tmp 266), some (249, true), 0⟩,
 ⟨some 268, .pick (.tmp 249) (.tmp 267) (.const (.bool false)), none, 0⟩,
 ⟨some 24, .mv (.tmp 268), none, 0⟩]) <|
 .ops [
 ⟨some 246, .mv (.tmp 29), none, 0⟩,
 ⟨some 247, .bin .add (.tmp 246) (.const (.int .i64 1)), none, 0⟩,
 ⟨some 29, .mv (.tmp 247), none, 0⟩]
def i_zz51_B2 : FC :=
 .seq (.seq (.ops [
 ⟨some 203, .mv (.tmp 26), none, 0⟩,
 ⟨some 204, .fld 2 (.tmp 3), none, 0⟩,
 ⟨some 205, .load false 1 (.tmp 204), none, 0⟩,
 ⟨some 206, .len (.tmp 205), none, 0⟩,
 ⟨some 207, .bin .lss (.tmp 203) (.tmp 206), none, 0⟩]) <|
 .cond (.tmp 207)
 (.skip)
 (.keep [0, 3, 4, 18, 24, 25] <|
 .exit 0)) <|
 .seq (.block 1 <|
 .seq (.dops [
 ⟨some 210, .fld 2 (.tmp 3), none, 0⟩,
 ⟨some 211, .load false 1 (.tmp 210), none, 0⟩,
 ⟨some 212, .mv (.tmp 26), none, 0⟩,
 ⟨some 213, .idx 3 (.tmp 211) (.tmp 212), none, 0⟩,
 ⟨some 214, .fld 0 (.tmp 213), none, 0⟩,
 ⟨some 215, .load false 1 (.tmp 214), none, 0⟩,
 ⟨some 216, .fld 2 (.tmp 3), none, 0⟩,
 ⟨some 217, .load false 1 (.tmp 216), none, 0⟩,
 ⟨some 218, .mv (.tmp 26), none, 0⟩,
 ⟨some 219, .idx 3 (.tmp 217) (.tmp 218), none, 0⟩,
 ⟨some 220, .fld 1 (.tmp 219), none, 0⟩,
 ⟨some 221, .load false 1 (.tmp 220), none, 0⟩,
 ⟨some 222, .minmax false [(.tmp 215), (.tmp 221)], none, 0⟩,
 ⟨some 223, .fld 2 (.tmp 3), none, 0⟩,
 ⟨some 224, .load false 1 (.tmp 223), none, 0⟩,
 ⟨some 225, .mv (.tmp 26), none, 0⟩,
 ⟨some 226, .idx 3 (.tmp 224) (.tmp 225), none, 0⟩,
 ⟨some 227, .fld 0 (.tmp 226), none, 0⟩,
 ⟨some 228, .load false 1 (.tmp 227), none, 0⟩,
 ⟨some 229, .fld 2 (.tmp 3), none, 0⟩,
 ⟨some 230, .load false 1 (.tmp 229), none, 0⟩,
 ⟨some 231, .mv (.tmp 26), none, 0⟩,
 ⟨some 232, .idx 3 (.tmp 230) (.tmp 231), none, 0⟩,
 ⟨some 233, .fld 1 (.tmp 232), none, 0⟩,
 ⟨some 234, .load false 1 (.tmp 233), none, 0⟩,
 ⟨some 235, .minmax true [(.tmp 228), (.tmp 234)], none, 0⟩,
 ⟨some 27, .mv (.tmp 222), none, 0⟩,
 ⟨some 28, .mv (.tmp 235), none, 0⟩]) <|
 .seq (.ops [
 ⟨some 236, .mv (.tmp 24), none, 0⟩,
 ⟨some 237, .mv (.tmp 236), none, 0⟩,
 ⟨some 238, .mv (.tmp 27), some (237, true), 0⟩,
 ⟨some 239, .mv (.tmp 28), some (237, true), 0⟩,
 ⟨some 240, .bin .neq (.tmp 238) (.tmp 239), some (237, true), 0⟩,
 ⟨some 241, .pick (.tmp 237) (.tmp 240) (.const (.bool false)), none, 0⟩,
 ⟨some 24, .mv (.tmp 241), none, 0⟩]) <|
 .seq (.seq (.ops [
 ⟨some 29, .mv (.const (.int .i64 0)), none, 0⟩]) <|
 .block 2 <|
 .loop [0, 3, 4, 18, 24, 25, 26, 27, 28, 29] i_zz51_B1) <|
 .ops [
 ⟨some 269, .mv (.tmp 25), none, 0⟩,
 ⟨some 270, .mv (.tmp 27), none, 0⟩,
 ⟨some 271, .mv (.tmp 28), none, 0⟩,
 ⟨some 272, .buildSl 1 [.int .i64 0, .int .i64 0] [(0, 1, (.tmp 270)), (1, 1, (.tmp 271))] 2, none, 0⟩,
 ⟨some 273, .buildSl 1 [.slice none 0 0] [(0, 1, (.tmp 272))] 1, none, 0⟩,
 ⟨some 274, .app 1 24 [.slice none 0 0] (.tmp 269) (.tmp 273), none, 0⟩,
 ⟨some 25, .mv (.tmp 274), none, 0⟩]) <|
 .ops [
 ⟨some 208, .mv (.tmp 26), none, 0⟩,
 ⟨some 209, .bin .add (.tmp 208) (.const (.int .i64 1)), none, 0⟩,
 ⟨some 26, .mv (.tmp 209), none, 0⟩]
def i_zz51 : FF := ⟨394, [.tmp 2],
 .seq (.ops [
 ⟨some 2, .mv (.const (.bool false)), none, 0⟩]) <|
 .seq (.seq (.ops [
 ⟨some 56, .mv (.tmp 0), none, 0⟩,
 ⟨some 57, .call k_zz84 [(.tmp 56)], none, 0⟩]) <|
 .cond (.tmp 57)
 (.seq (.ops [
 ⟨some 2, .mv (.const (.bool true)), none, 0⟩]) <|
 .keep [2] <|
 .ret)
 (.skip)) <|
 .seq (.ops [
 ⟨some 58, .mv (.tmp 0), none, 0⟩,
 ⟨some 59, .call k_zz24 [(.tmp 58)], none, 0⟩,
 ⟨some 3, .alloc [.int .i64 0, .int .i64 0, .slice none 0 0], none, 0⟩,
 ⟨none, .store 3 (.tmp 3) (.tmp 59), none, 0⟩]) <|
 .seq (.ops [
 ⟨some 61, .load true 3 (.tmp 3), none, 0⟩,
 ⟨some 62, .call k_zz63 [(.tmp 61)], none, 0⟩,
 ⟨some 60, .mv (.tmp 62), none, 0⟩,
 ⟨some 63, .ext (.tmp 60) 0, none, 0⟩,
 ⟨some 64, .ext (.tmp 60) 1, none, 0⟩,
 ⟨some 4, .alloc [.int .i64 0, .slice none 0 0], none, 0⟩,
 ⟨none, .store 2 (.tmp 4) (.tmp 63), none, 0⟩,
 ⟨some 5, .mv (.tmp 64), none, 0⟩]) <|
 .seq (.ops [
 ⟨some 66, .load true 3 (.tmp 3), none, 0⟩,
 ⟨some 67, .call k_zz65 [(.tmp 66)], none, 0⟩,
 ⟨some 65, .mv (.tmp 67), none, 0⟩,
 ⟨some 68, .ext (.tmp 65) 0, none, 0⟩,
 ⟨some 69, .ext (.tmp 65) 1, none, 0⟩,
 ⟨some 6, .alloc [.int .i64 0, .slice none 0 0], none, 0⟩,
 ⟨none, .store 2 (.tmp 6) (.tmp 68), none, 0⟩,
 ⟨some 7, .mv (.tmp 69), none, 0⟩]) <|
 .seq (.ops [
 ⟨some 71, .load true 3 (.tmp 3), none, 0⟩,
 ⟨some 72, .call k_zz21 [(.tmp 71)], none, 0⟩,
 ⟨some 70, .mv (.tmp 72), none, 0⟩,
 ⟨some 73, .ext (.tmp 70) 0, none, 0⟩,
 ⟨some 74, .ext (.tmp 70) 1, none, 0⟩,
 ⟨some 8, .mv (.tmp 73), none, 0⟩,
 ⟨some 9, .mv (.tmp 74), none, 0⟩]) <|
 .seq (.ops [
 ⟨some 76, .load true 3 (.tmp 3), none, 0⟩,
 ⟨some 77, .call k_zz25 [(.tmp 76)], none, 0⟩,
 ⟨some 75, .mv (.tmp 77), none, 0⟩,
 ⟨some 78, .ext (.tmp 75) 0, none, 0⟩,
 ⟨some 79, .ext (.tmp 75) 1, none, 0⟩,
 ⟨some 10, .mv (.tmp 78), none, 0⟩,
 ⟨some 11, .mv (.tmp 79), none, 0⟩]) <|
 .seq (.seq (.dops [
 ⟨some 80, .mv (.tmp 5), none, 0⟩,
 ⟨some 81, .mv (.tmp 7), none, 0⟩,
 ⟨some 82, .bin .neq (.tmp 80) (.tmp 81), none, 0⟩,
 ⟨some 83, .mv (.tmp 82), none, 0⟩,
 ⟨some 84, .load true 2 (.tmp 4), some (83, false), 0⟩,
 ⟨some 85, .load true 2 (.tmp 6), some (83, false), 0⟩,
 ⟨some 86, .call k_zz52 [(.tmp 84), (.tmp 85)], some (83, false), 0⟩,
 ⟨some 87, .un .not (.tmp 86), some (83, false), 0⟩,
 ⟨some 88, .pick (.tmp 83) (.const (.bool true)) (.tmp 87), none, 0⟩,
 ⟨some 89, .mv (.tmp 88), none, 0⟩,
 ⟨some 90, .mv (.tmp 9), some (89, false), 0⟩,
 ⟨some 91, .mv (.tmp 11), some (89, false), 0⟩,
 ⟨some 92, .bin .neq (.tmp 90) (.tmp 91), some (89, false), 0⟩,
 ⟨some 93, .pick (.tmp 89) (.const (.bool true)) (.tmp 92), none, 0⟩,
 ⟨some 94, .mv (.tmp 93), none, 0⟩,
 ⟨some 95, .mv (.tmp 8), some (94, false), 0⟩,
 ⟨some 96, .mv (.tmp 10), some (94, false), 0⟩,
 ⟨some 97, .beq true (.tmp 95) (.tmp 96), some (94, false), 0⟩,
 ⟨some 98, .pick (.tmp 94) (.const (.bool true)) (.tmp 97), none, 0⟩,
 ⟨some 99, .mv (.tmp 98), none, 0⟩,
 ⟨some 100, .load true 3 (.tmp 3), some (99, false), 0⟩,
 ⟨some 101, .call k_zz62 [(.tmp 100)], some (99, false), 0⟩,
 ⟨some 102, .load true 3 (.tmp 3), some (99, false), 1⟩,
 ⟨some 103, .call k_zz64 [(.tmp 102)], some (99, false), 0⟩,
 ⟨some 104, .beq true (.tmp 101) (.tmp 103), some (99, false), 0⟩,
 ⟨some 105, .pick (.tmp 99) (.const (.bool true)) (.tmp 104), none, 0⟩]) <|
 .cond (.tmp 105)
 (.seq (.ops [
 ⟨some 2, .mv (.const (.bool false)), none, 0⟩]) <|
 .keep [2] <|
 .ret)
 (.skip)) <|
 .seq (.seq (.ops [
 ⟨some 106, .mv (.tmp 5), none, 0⟩,
 ⟨some 107, .bin .eql (.tmp 106) (.const (.int .i64 0)), none, 0⟩]) <|
 .cond (.tmp 107)
 (.seq (.ops [
 ⟨some 109, .load true 2 (.tmp 4), none, 0⟩,
 ⟨some 110, .call k_zz45 [(.tmp 109)], none, 0⟩,
 ⟨some 108, .mv (.tmp 110), none, 0⟩,
 ⟨some 111, .ext (.tmp 108) 0, none, 0⟩,
 ⟨some 112, .ext (.tmp 108) 1, none, 0⟩,
 ⟨some 12, .mv (.tmp 111), none, 0⟩,
 ⟨some 13, .mv (.tmp 112), none, 0⟩]) <|
 .seq (.ops [
 ⟨some 114, .load true 3 (.tmp 3), none, 0⟩,
 ⟨some 115, .call k_zz29 [(.tmp 114)], none, 0⟩,
 ⟨some 113, .mv (.tmp 115), none, 0⟩,
 ⟨some 116, .ext (.tmp 113) 0, none, 0⟩,
 ⟨some 117, .ext (.tmp 113) 1, none, 0⟩,
 ⟨some 14, .mv (.tmp 116), none, 0⟩,
 ⟨some 15, .mv (.tmp 117), none, 0⟩]) <|
 .seq (.ops [
 ⟨some 119, .load true 2 (.tmp 4), none, 0⟩,
 ⟨some 120, .call k_zz50 [(.tmp 119)], none, 0⟩,
 ⟨some 118, .mv (.tmp 120), none, 0⟩,
 ⟨some 121, .ext (.tmp 118) 0, none, 0⟩,
 ⟨some 122, .ext (.tmp 118) 1, none, 0⟩,
 ⟨some 16, .mv (.tmp 121), none, 0⟩,
 ⟨some 17, .mv (.tmp 122), none, 0⟩]) <|
 .seq (.ops [
 ⟨some 124, .load true 3 (.tmp 3), none, 0⟩,
 ⟨some 125, .call k_zz13 [(.tmp 124)], none, 0⟩,
 ⟨some 123, .mv (.tmp 125), none, 0⟩,
 ⟨some 126, .ext (.tmp 123) 0, none, 0⟩,
 ⟨some 127, .ext (.tmp 123) 1, none, 0⟩,
 ⟨some 18, .mv (.tmp 126), none, 0⟩,
 ⟨some 19, .mv (.tmp 127), none, 0⟩]) <|
 .seq (.seq (.ops [
 ⟨some 128, .mv (.tmp 13), none, 0⟩,
 ⟨some 129, .bin .neq (.tmp 128) (.const (.int .i64 0)), none, 0⟩,
 ⟨some 130, .mv (.tmp 129), none, 0⟩,
 ⟨some 131, .mv (.tmp 15), some (130, false), 0⟩,
 ⟨some 132, .bin .neq (.tmp 131) (.const (.int .i64 0)), some (130, false), 0⟩,
 ⟨some 133, .pick (.tmp 130) (.const (.bool true)) (.tmp 132), none, 0⟩,
 ⟨some 134, .mv (.tmp 133), none, 0⟩,
 ⟨some 135, .mv (.tmp 17), some (134, false), 0⟩,
 ⟨some 136, .bin .neq (.tmp 135) (.const (.int .i64 0)), some (134, false), 0⟩,
 ⟨some 137, .pick (.tmp 134) (.const (.bool true)) (.tmp 136), none, 0⟩,
 ⟨some 138, .mv (.tmp 137), none, 0⟩,
 ⟨some 139, .mv (.tmp 19), some (138, false), 0⟩,
 ⟨some 140, .bin .neq (.tmp 139) (.const (.int .i64 0)), some (138, false), 0⟩,
 ⟨some 141, .pick (.tmp 138) (.const (.bool true)) (.tmp 140), none, 0⟩,
 ⟨some 142, .mv (.tmp 141), none, 0⟩,
 ⟨some 143, .mv (.tmp 14), some (142, false), 0⟩,
 ⟨some 144, .mv (.tmp 16), some (142, false), 0⟩,
 ⟨some 145, .len (.tmp 144), some (142, false), 0⟩,
 ⟨some 146, .bin .neq (.tmp 143) (.tmp 145), some (142, false), 0⟩,
 ⟨some 147, .pick (.tmp 142) (.const (.bool true)) (.tmp 146), none, 0⟩,
 ⟨some 148, .mv (.tmp 147), none, 0⟩,
 ⟨some 149, .mv (.tmp 18), some (148, false), 0⟩,
 ⟨some 150, .len (.tmp 149), some (148, false), 0⟩,
 ⟨some 151, .fld 0 (.tmp 4), some (148, false), 0⟩,
 ⟨some 152, .load false 1 (.tmp 151), some (148, false), 0⟩,
 ⟨some 153, .bin .neq (.tmp 150) (.tmp 152), some (148, false), 0⟩,
 ⟨some 154, .pick (.tmp 148) (.const (.bool true)) (.tmp 153), none, 0⟩,
 ⟨some 155, .mv (.tmp 154), none, 0⟩,
 ⟨some 156, .mv (.tmp 8), some (155, false), 0⟩,
 ⟨some 157, .mv (.tmp 12), some (155, false), 0⟩,
 ⟨some 158, .len (.tmp 157), some (155, false), 0⟩,
 ⟨some 159, .fld 1 (.tmp 3), some (155, false), 0⟩,
 ⟨some 160, .load false 1 (.tmp 159), some (155, false), 0⟩,
 ⟨some 161, .fld 2 (.tmp 3), some (155, false), 0⟩,
 ⟨some 162, .load false 1 (.tmp 161), some (155, false), 0⟩,
 ⟨some 163, .len (.tmp 162), some (155, false), 0⟩,
 ⟨some 164, .bin .mul (.tmp 160) (.tmp 163), some (155, false), 0⟩,
 ⟨some 165, .bin .eql (.tmp 158) (.tmp 164), some (155, false), 0⟩,
 ⟨some 166, .beq true (.tmp 156) (.tmp 165), some (155, false), 0⟩,
 ⟨some 167, .pick (.tmp 155) (.const (.bool true)) (.tmp 166), none, 0⟩]) <|
 .cond (.tmp 167)
 (.seq (.ops [
 ⟨some 2, .mv (.const (.bool false)), none, 0⟩]) <|
 .keep [2] <|
 .ret)
 (.skip)) <|
 .seq (.ops [
 ⟨some 168, .mv (.tmp 8), none, 0⟩]) <|
 .cond (.tmp 168)
 (.seq (.ops [
 ⟨some 170, .load true 3 (.tmp 3), none, 0⟩,
 ⟨some 171, .call k_zz30 [(.tmp 170)], none, 0⟩,
 ⟨some 169, .mv (.tmp 171), none, 0⟩,
 ⟨some 172, .ext (.tmp 169) 0, none, 0⟩,
 ⟨some 173, .ext (.tmp 169) 1, none, 0⟩,
 ⟨some 20, .mv (.tmp 172), none, 0⟩,
 ⟨some 21, .mv (.tmp 173), none, 0⟩]) <|
 .seq (.ops [
 ⟨some 175, .load true 2 (.tmp 4), none, 0⟩,
 ⟨some 176, .call k_zz46 [(.tmp 175)], none, 0⟩,
 ⟨some 174, .mv (.tmp 176), none, 0⟩,
 ⟨some 177, .ext (.tmp 174) 0, none, 0⟩,
 ⟨some 178, .ext (.tmp 174) 1, none, 0⟩,
 ⟨some 22, .mv (.tmp 177), none, 0⟩,
 ⟨some 23, .mv (.tmp 178), none, 0⟩]) <|
 .seq (.seq (.ops [
 ⟨some 179, .mv (.tmp 21), none, 0⟩,
 ⟨some 180, .bin .eql (.tmp 179) (.const (.int .i64 0)), none, 0⟩,
 ⟨some 181, .mv (.tmp 180), none, 0⟩,
 ⟨some 182, .mv (.tmp 23), some (181, true), 0⟩,
 ⟨some 183, .bin .neq (.tmp 182) (.const (.int .i64 0)), some (181, true), 0⟩,
 ⟨some 184, .mv (.tmp 183), some (181, true), 0⟩,
 ⟨some 185, .mv (.tmp 22), some (184, false), 0⟩,
 ⟨some 186, .mv (.tmp 20), some (184, false), 0⟩,
 ⟨some 187, .bin .neq (.tmp 185) (.tmp 186), some (184, false), 0⟩,
 ⟨some 188, .pick (.tmp 184) (.const (.bool true)) (.tmp 187), some (181, true), 0⟩,
 ⟨some 189, .pick (.tmp 181) (.tmp 188) (.const (.bool false)), none, 0⟩,
 ⟨some 190, .mv (.tmp 189), none, 0⟩,
 ⟨some 191, .mv (.tmp 21), some (190, false), 0⟩,
 ⟨some 192, .bin .eql (.tmp 191) (.const (.int .i64 4)), some (190, false), 0⟩,
 ⟨some 193, .mv (.tmp 192), some (190, false), 0⟩,
 ⟨some 194, .mv (.tmp 23), some (193, true), 0⟩,
 ⟨some 195, .bin .eql (.tmp 194) (.const (.int .i64 0)), some (193, true), 0⟩,
 ⟨some 196, .pick (.tmp 193) (.tmp 195) (.const (.bool false)), some (190, false), 0⟩,
 ⟨some 197, .mv (.tmp 196), some (190, false), 0⟩,
 ⟨some 198, .mv (.tmp 22), some (197, true), 0⟩,
 ⟨some 199, .bin .leq (.tmp 198) (.const (.int .i64 14)), some (197, true), 0⟩,
 ⟨some 200, .pick (.tmp 197) (.tmp 199) (.const (.bool false)), some (190, false), 0⟩,
 ⟨some 201, .pick (.tmp 190) (.const (.bool true)) (.tmp 200), none, 0⟩]) <|
 .cond (.tmp 201)
 (.seq (.ops [
 ⟨some 2, .mv (.const (.bool false)), none, 0⟩]) <|
 .keep [2] <|
 .ret)
 (.skip)) <|
 .seq (.ops [
 ⟨some 202, .buildSl 1 [] [] 0, none, 0⟩,
 ⟨some 24, .mv (.const (.bool true)), none, 0⟩,
 ⟨some 25, .mv (.tmp 202), none, 0⟩]) <|
 .seq (.seq (.ops [
 ⟨some 26, .mv (.const (.int .i64 0)), none, 0⟩]) <|
 .block 0 <|
 .loop [0, 3, 4, 18, 24, 25, 26] i_zz51_B2) <|
 .seq (.ops [
 ⟨some 275, .mv (.tmp 24), none, 0⟩]) <|
 .cond (.tmp 275)
 (.seq (.ops [
 ⟨some 277, .fld 0 (.tmp 3), none, 0⟩,
 ⟨some 278, .load false 1 (.tmp 277), none, 0⟩,
 ⟨some 279, .mv (.tmp 25), none, 0⟩,
 ⟨some 280, .call k_zz47 [(.tmp 278), (.tmp 279)], none, 0⟩,
 ⟨some 276, .mv (.tmp 280), none, 0⟩,
 ⟨some 281, .ext (.tmp 276) 0, none, 0⟩,
 ⟨some 282, .ext (.tmp 276) 1, none, 0⟩,
 ⟨some 30, .alloc [.int .i64 0, .slice none 0 0], none, 0⟩,
 ⟨none, .store 2 (.tmp 30) (.tmp 281), none, 0⟩,
 ⟨some 31, .mv (.tmp 282), none, 0⟩]) <|
 .seq (.ops [
 ⟨some 284, .load true 2 (.tmp 4), none, 0⟩,
 ⟨some 285, .load true 2 (.tmp 30), none, 0⟩,
 ⟨some 286, .mv (.tmp 18), none, 0⟩,
 ⟨some 287, .call k_zz48 [(.tmp 284), (.tmp 285), (.tmp 286)], none, 0⟩,
 ⟨some 283, .mv (.tmp 287), none, 0⟩,
 ⟨some 288, .ext (.tmp 283) 0, none, 0⟩,
 ⟨some 289, .ext (.tmp 283) 1, none, 0⟩,
 ⟨some 32, .mv (.tmp 288), none, 0⟩,
 ⟨some 33, .mv (.tmp 289), none, 0⟩]) <|
 .seq (.ops [
 ⟨some 290, .mv (.tmp 31), none, 0⟩,
 ⟨some 291, .bin .neq (.tmp 290) (.const (.int .i64 0)), none, 0⟩,
 ⟨some 292, .mv (.tmp 291), none, 0⟩,
 ⟨some 293, .mv (.tmp 33), some (292, false), 0⟩,
 ⟨some 294, .bin .neq (.tmp 293) (.const (.int .i64 0)), some (292, false), 0⟩,
 ⟨some 295, .pick (.tmp 292) (.const (.bool true)) (.tmp 294), none, 0⟩,
 ⟨some 296, .mv (.tmp 295), none, 0⟩,
 ⟨some 297, .mv (.tmp 32), some (296, false), 0⟩,
 ⟨some 298, .un .not (.tmp 297), some (296, false), 0⟩,
 ⟨some 299, .pick (.tmp 296) (.const (.bool true)) (.tmp 298), none, 0⟩]) <|
 .cond (.tmp 299)
 (.seq (.ops [
 ⟨some 2, .mv (.const (.bool false)), none, 0⟩]) <|
 .keep [2] <|
 .ret)
 (.skip))
 (.skip))
 (.skip))
 (.skip)) <|
 .seq (.ops [
 ⟨some 300, .mv (.tmp 0), none, 0⟩,
 ⟨some 301, .call k_zz9 [(.tmp 300)], none, 0⟩,
 ⟨some 34, .alloc [.int .i64 0, .int .i64 0, .slice none 0 0], none, 0⟩,
 ⟨none, .store 3 (.tmp 34) (.tmp 301), none, 0⟩]) <|
 .seq (.ops [
 ⟨some 303, .load true 3 (.tmp 34), none, 0⟩,
 ⟨some 304, .call k_zz30 [(.tmp 303)], none, 0⟩,
 ⟨some 302, .mv (.tmp 304), none, 0⟩,
 ⟨some 305, .ext (.tmp 302) 0, none, 0⟩,
 ⟨some 306, .ext (.tmp 302) 1, none, 0⟩,
 ⟨some 35, .mv (.tmp 305), none, 0⟩,
 ⟨some 36, .mv (.tmp 306), none, 0⟩]) <|
 .seq (.ops [
 ⟨some 308, .load true 3 (.tmp 34), none, 0⟩,
 ⟨some 309, .call k_zz35 [(.tmp 308)], none, 0⟩,
 ⟨some 307, .mv (.tmp 309), none, 0⟩,
 ⟨some 310, .ext (.tmp 307) 0, none, 0⟩,
 ⟨some 311, .ext (.tmp 307) 1, none, 0⟩,
 ⟨some 37, .mv (.tmp 310), none, 0⟩,
 ⟨some 38, .mv (.tmp 311), none, 0⟩]) <|
 .seq (.ops [
 ⟨some 312, .mv (.tmp 0), none, 0⟩,
 ⟨some 313, .call k_zz8 [(.tmp 312)], none, 0⟩,
 ⟨some 39, .alloc [.int .i64 0, .int .i64 0, .slice none 0 0], none, 0⟩,
 ⟨none, .store 3 (.tmp 39) (.tmp 313), none, 0⟩]) <|
 .seq (.ops [
 ⟨some 315, .load true 3 (.tmp 39), none, 0⟩,
 ⟨some 316, .call k_zz29 [(.tmp 315)], none, 0⟩,
 ⟨some 314, .mv (.tmp 316), none, 0⟩,
 ⟨some 317, .ext (.tmp 314) 0, none, 0⟩,
 ⟨some 318, .ext (.tmp 314) 1, none, 0⟩,
 ⟨some 40, .mv (.tmp 317), none, 0⟩,
 ⟨some 41, .mv (.tmp 318), none, 0⟩]) <|
 .seq (.ops [
 ⟨some 320, .load true 3 (.tmp 39), none, 0⟩,
 ⟨some 321, .call k_zz34 [(.tmp 320)], none, 0⟩,
 ⟨some 319, .mv (.tmp 321), none, 0⟩,
 ⟨some 322, .ext (.tmp 319) 0, none, 0⟩,
 ⟨some 323, .ext (.tmp 319) 1, none, 0⟩,
 ⟨some 42, .mv (.tmp 322), none, 0⟩,
 ⟨some 43, .mv (.tmp 323), none, 0⟩]) <|
 .seq (.ops [
 ⟨some 325, .mv (.tmp 0), none, 0⟩,
 ⟨some 326, .call k_zz18 [(.tmp 325)], none, 0⟩,
 ⟨some 324, .mv (.tmp 326), none, 0⟩,
 ⟨some 327, .ext (.tmp 324) 0, none, 0⟩,
 ⟨some 328, .ext (.tmp 324) 1, none, 0⟩,
 ⟨some 329, .ext (.tmp 324) 2, none, 0⟩,
 ⟨some 44, .alloc [.int .i64 0, .slice none 0 0], none, 0⟩,
 ⟨some 45, .alloc [.int .i64 0, .slice none 0 0], none, 0⟩,
 ⟨none, .store 2 (.tmp 44) (.tmp 327), none, 0⟩,
 ⟨none, .store 2 (.tmp 45) (.tmp 328), none, 0⟩,
 ⟨some 46, .mv (.tmp 329), none, 0⟩]) <|
 .seq (.ops [
 ⟨some 331, .load true 2 (.tmp 44), none, 0⟩,
 ⟨some 332, .load true 2 (.tmp 45), none, 0⟩,
 ⟨some 333, .mv (.tmp 46), none, 0⟩,
 ⟨some 334, .call k_zz48 [(.tmp 331), (.tmp 332), (.tmp 333)], none, 0⟩,
 ⟨some 330, .mv (.tmp 334), none, 0⟩,
 ⟨some 335, .ext (.tmp 330) 0, none, 0⟩,
 ⟨some 336, .ext (.tmp 330) 1, none, 0⟩,
 ⟨some 47, .mv (.tmp 335), none, 0⟩,
 ⟨some 48, .mv (.tmp 336), none, 0⟩]) <|
 .seq (.ops [
 ⟨some 338, .load true 2 (.tmp 44), none, 0⟩,
 ⟨some 339, .load true 2 (.tmp 45), none, 0⟩,
 ⟨some 340, .mv (.tmp 46), none, 0⟩,
 ⟨some 341, .call k_zz53 [(.tmp 338), (.tmp 339), (.tmp 340)], none, 0⟩,
 ⟨some 337, .mv (.tmp 341), none, 0⟩,
 ⟨some 342, .ext (.tmp 337) 0, none, 0⟩,
 ⟨some 343, .ext (.tmp 337) 1, none, 0⟩,
 ⟨some 49, .mv (.tmp 342), none, 0⟩,
 ⟨some 50, .mv (.tmp 343), none, 0⟩]) <|
 .seq (.ops [
 ⟨some 344, .mv (.tmp 0), none, 0⟩,
 ⟨some 345, .call k_zz6 [(.tmp 344)], none, 0⟩,
 ⟨some 51, .alloc [.int .i64 0, .int .i64 0, .slice none 0 0], none, 0⟩,
 ⟨none, .store 3 (.tmp 51) (.tmp 345), none, 0⟩]) <|
 .seq (.ops [
 ⟨some 347, .load true 3 (.tmp 51), none, 0⟩,
 ⟨some 348, .call k_zz13 [(.tmp 347)], none, 0⟩,
 ⟨some 346, .mv (.tmp 348), none, 0⟩,
 ⟨some 349, .ext (.tmp 346) 0, none, 0⟩,
 ⟨some 350, .ext (.tmp 346) 1, none, 0⟩,
 ⟨some 52, .mv (.tmp 349), none, 0⟩,
 ⟨some 53, .mv (.tmp 350), none, 0⟩]) <|
 .seq (.ops [
 ⟨some 352, .load true 3 (.tmp 51), none, 0⟩,
 ⟨some 353, .call k_zz17 [(.tmp 352)], none, 0⟩,
 ⟨some 351, .mv (.tmp 353), none, 0⟩,
 ⟨some 354, .ext (.tmp 351) 0, none, 0⟩,
 ⟨some 355, .ext (.tmp 351) 1, none, 0⟩,
 ⟨some 54, .mv (.tmp 354), none, 0⟩,
 ⟨some 55, .mv (.tmp 355), none, 0⟩]) <|
 .seq (.ops [
 ⟨some 356, .mv (.tmp 36), none, 0⟩,
 ⟨some 357, .mv (.tmp 38), none, 0⟩,
 ⟨some 358, .bin .eql (.tmp 356) (.tmp 357), none, 0⟩,
 ⟨some 359, .mv (.tmp 358), none, 0⟩,
 ⟨some 360, .mv (.tmp 35), some (359, true), 0⟩,
 ⟨some 361, .mv (.tmp 37), some (359, true), 0⟩,
 ⟨some 362, .bin .eql (.tmp 360) (.tmp 361), some (359, true), 0⟩,
 ⟨some 363, .pick (.tmp 359) (.tmp 362) (.const (.bool false)), none, 0⟩,
 ⟨some 364, .mv (.tmp 363), none, 0⟩,
 ⟨some 365, .mv (.tmp 41), some (364, true), 0⟩,
 ⟨some 366, .mv (.tmp 43), some (364, true), 0⟩,
 ⟨some 367, .bin .eql (.tmp 365) (.tmp 366), some (364, true), 0⟩,
 ⟨some 368, .pick (.tmp 364) (.tmp 367) (.const (.bool false)), none, 0⟩,
 ⟨some 369, .mv (.tmp 368), none, 0⟩,
 ⟨some 370, .mv (.tmp 40), some (369, true), 0⟩,
 ⟨some 371, .mv (.tmp 42), some (369, true), 0⟩,
 ⟨some 372, .bin .eql (.tmp 370) (.tmp 371), some (369, true), 0⟩,
 ⟨some 373, .pick (.tmp 369) (.tmp 372) (.const (.bool false)), none, 0⟩,
 ⟨some 374, .mv (.tmp 373), none, 0⟩,
 ⟨some 375, .mv (.tmp 48), some (374, true), 0⟩,
 ⟨some 376, .mv (.tmp 50), some (374, true), 0⟩,
 ⟨some 377, .bin .eql (.tmp 375) (.tmp 376), some (374, true), 0⟩,
 ⟨some 378, .pick (.tmp 374) (.tmp 377) (.const (.bool false)), none, 0⟩,
 ⟨some 379, .mv (.tmp 378), none, 0⟩,
 ⟨some 380, .mv (.tmp 47), some (379, true), 0⟩,
 ⟨some 381, .mv (.tmp 49), some (379, true), 0⟩,
 ⟨some 382, .beq false (.tmp 380) (.tmp 381), some (379, true), 0⟩,
 ⟨some 383, .pick (.tmp 379) (.tmp 382) (.const (.bool false)), none, 0⟩,
 ⟨some 384, .mv (.tmp 383), none, 0⟩,
 ⟨some 385, .mv (.tmp 53), some (384, true), 0⟩,
 ⟨some 386, .mv (.tmp 55), some (384, true), 0⟩,
 ⟨some 387, .bin .eql (.tmp 385) (.tmp 386), some (384, true), 0⟩,
 ⟨some 388, .pick (.tmp 384) (.tmp 387) (.const (.bool false)), none, 0⟩,
 ⟨some 389, .mv (.tmp 388), none, 0⟩,
 ⟨some 390, .mv (.tmp 52), some (389, true), 0⟩,
 ⟨some 391, .mv (.tmp 54), some (389, true), 0⟩,
 ⟨some 392, .call k_zz40 [(.tmp 390), (.tmp 391)], some (389, true), 0⟩,
 ⟨some 393, .pick (.tmp 389) (.tmp 392) (.const (.bool false)), none, 0⟩,
 ⟨some 2, .mv (.tmp 393), none, 0⟩]) <|
 .keep [2] <|
 .ret⟩
theorem e_zz51 : EntOK Tryd.prog (compD Tryd.prog) k_zz51 i_zz51.vf :=
 ⟨Tryd.f3, Tryd.f3.body.getD .skip, Tryd.func3, by kernel_rfl, by kernel_rfl, by kernel_rfl, by kernel_rfl, by kernel_rfl⟩
/-- loop.example/g01331/laws.big -/
def i_zz84 : FF := ⟨6, [.tmp 2],
 .seq (.ops [
 ⟨some 2, .mv (.const (.bool false)), none, 0⟩]) <|
 .seq (.ops [
 ⟨some 3, .mv (.tmp 0), none, 0⟩,
 ⟨some 4, .len (.tmp 3), none, 0⟩,
 ⟨some 5, .bin .gtr (.tmp 4) (.const (.int .i64 4096)), none, 0⟩,
 ⟨some 2, .mv (.tmp 5), none, 0⟩]) <|
 .keep [2] <|
 .ret⟩
theorem e_zz84 : EntOK Tryd.prog (compD Tryd.prog) k_zz84 i_zz84.vf :=
 ⟨Tryd.f4, Tryd.f4.body.getD .skip, Tryd.func4, by kernel_rfl, by kernel_rfl, by kernel_rfl, by kernel_rfl, by kernel_rfl⟩
/-- loop.example/g01331/spec.DrawLiftOf -/
def i_zz24 : FF := ⟨6, [.cell 2 true 3],
 .seq (.ops [
 ⟨some 2, .alloc [.int .i64 0, .int .i64 0, .slice none 0 0], none, 0⟩]) <|
 .seq (.ops [
 ⟨some 3, .mv (.tmp 0), none, 0⟩,
 ⟨some 4, .call k_zz55 [(.tmp 3)], none, 0⟩,
 ⟨some 5, .call k_zz59 [(.tmp 4)], none, 0⟩,
 ⟨none, .store 3 (.tmp 2) (.tmp 5), none, 0⟩]) <|
 .keep [2] <|
 .ret⟩
theorem e_zz24 : EntOK Tryd.prog (compD Tryd.prog) k_zz24 i_zz24.vf :=
 ⟨Tryd.f5, Tryd.f5.body.getD .skip, Tryd.func5, by kernel_rfl, by kernel_rfl, by kernel_rfl, by kernel_rfl, by kernel_rfl⟩
/-- loop.example/g01331/impl.LiftOf -/
def i_zz63 : FF := ⟨10, [.cell 2 true 2, .tmp 3],
 .seq (.ops [
 ⟨some 1, .box 3 (.tmp 0), none, 0⟩,
 ⟨some 2, .alloc [.int .i64 0, .slice none 0 0], none, 0⟩,
 ⟨some 3, .mv (.const (.int .i64 0)), none, 0⟩]) <|
 .seq (.seq (.ops [
 ⟨some 4, .load true 3 (.tmp 1), none, 0⟩,
 ⟨some 5, .call k_zz62 [(.tmp 4)], none, 0⟩,
 ⟨some 6, .un .not (.tmp 5), none, 0⟩]) <|
 .cond (.tmp 6)
 (.seq (.ops [
 ⟨some 7, .build [.int .i64 0, .slice none 0 0] [], none, 0⟩,
 ⟨none, .store 2 (.tmp 2) (.tmp 7), none, 0⟩,
 ⟨some 3, .mv (.const (.int .i64 1)), none, 0⟩]) <|
 .keep [2, 3] <|
 .ret)
 (.skip)) <|
 .seq (.ops [
 ⟨some 8, .load true 3 (.tmp 1), none, 0⟩,
 ⟨some 9, .call k_zz78 [(.tmp 8)], none, 0⟩,
 ⟨none, .store 2 (.tmp 2) (.tmp 9), none, 0⟩,
 ⟨some 3, .mv (.const (.int .i64 0)), none, 0⟩]) <|
 .keep [2, 3] <|
 .ret⟩
theorem e_zz63 : EntOK Tryd.prog (compD Tryd.prog) k_zz63 i_zz63.vf :=
 ⟨Tryd.f6, Tryd.f6.body.getD .skip, Tryd.func6, by kernel_rfl, by kernel_rfl, by kernel_rfl, by kernel_rfl, by kernel_rfl⟩
/-- loop.example/g01331/spec.LiftOf -/
def i_zz65 : FF := ⟨16, [.cell 2 true 2, .tmp 3],
 .seq (.ops [
 ⟨some 1, .box 3 (.tmp 0), none, 0⟩,
 ⟨some 2, .alloc [.int .i64 0, .slice none 0 0], none, 0⟩,
 ⟨some 3, .mv (.const (.int .i64 0)), none, 0⟩]) <|
 .seq (.seq (.ops [
 ⟨some 6, .load true 3 (.tmp 1), none, 0⟩,
 ⟨some 7, .call k_zz77 [(.tmp 6)], none, 0⟩,
 ⟨some 8, .un .not (.tmp 7), none, 0⟩]) <|
 .cond (.tmp 8)
 (.seq (.ops [
 ⟨some 9, .build [.int .i64 0, .slice none 0 0] [], none, 0⟩,
 ⟨none, .store 2 (.tmp 2) (.tmp 9), none, 0⟩,
 ⟨some 3, .mv (.const (.int .i64 1)), none, 0⟩]) <|
 .keep [2, 3] <|
 .ret)
 (.skip)) <|
 .seq (.ops [
 ⟨some 11, .load true 3 (.tmp 1), none, 0⟩,
 ⟨some 12, .call k_zz60 [(.tmp 11)], none, 0⟩,
 ⟨some 10, .mv (.tmp 12), none, 0⟩,
 ⟨some 13, .ext (.tmp 10) 0, none, 0⟩,
 ⟨some 14, .ext (.tmp 10) 1, none, 0⟩,
 ⟨some 4, .alloc [.int .i64 0, .slice none 0 0], none, 0⟩,
 ⟨none, .store 2 (.tmp 4) (.tmp 13), none, 0⟩,
 ⟨some 5, .mv (.tmp 14), none, 0⟩]) <|
 .seq (.ops [
 ⟨some 15, .load true 2 (.tmp 4), none, 0⟩,
 ⟨none, .store 2 (.tmp 2) (.tmp 15), none, 0⟩,
 ⟨some 3, .mv (.const (.int .i64 0)), none, 0⟩]) <|
 .keep [2, 3] <|
 .ret⟩
theorem e_zz65 : EntOK Tryd.prog (compD Tryd.prog) k_zz65 i_zz65.vf :=
 ⟨Tryd.f7, Tryd.f7.body.getD .skip, Tryd.func7, by kernel_rfl, by kernel_rfl, by kernel_rfl, by kernel_rfl, by kernel_rfl⟩
/-- loop.example/g01331/impl.IsFaithful -/
def i_zz21 : FF := ⟨18, [.tmp 2, .tmp 3],
 .seq (.ops [
 ⟨some 1, .box 3 (.tmp 0), none, 0⟩,
 ⟨some 2, .mv (.const (.bool false)), none, 0⟩,
 ⟨some 3, .mv (.const (.int .i64 0)), none, 0⟩]) <|
 .seq (.seq (.ops [
 ⟨some 4, .load true 3 (.tmp 1), none, 0⟩,
 ⟨some 5, .call k_zz62 [(.tmp 4)], none, 0⟩,
 ⟨some 6, .un .not (.tmp 5), none, 0⟩]) <|
 .cond (.tmp 6)
 (.seq (.ops [
 ⟨some 2, .mv (.const (.bool false)), none, 0⟩,
 ⟨some 3, .mv (.const (.int .i64 1)), none, 0⟩]) <|
 .keep [2, 3] <|
 .ret)
 (.skip)) <|
 .seq (.dops [
 ⟨some 7, .load true 3 (.tmp 1), none, 0⟩,
 ⟨some 8, .call k_zz78 [(.tmp 7)], none, 0⟩,
 ⟨some 9, .call k_zz14 [(.tmp 8)], none, 0⟩,
 ⟨some 10, .len (.tmp 9), none, 0⟩,
 ⟨some 11, .fld 2 (.tmp 1), none, 2⟩,
 ⟨some 12, .load false 1 (.tmp 11), none, 2⟩,
 ⟨some 13, .len (.tmp 12), none, 2⟩,
 ⟨some 14, .fld 1 (.tmp 1), none, 2⟩,
 ⟨some 15, .load false 1 (.tmp 14), none, 2⟩,
 ⟨some 16, .bin .mul (.tmp 13) (.tmp 15), none, 2⟩,
 ⟨some 17, .bin .eql (.tmp 10) (.tmp 16), none, 0⟩,
 ⟨some 2, .mv (.tmp 17), none, 0⟩,
 ⟨some 3, .mv (.const (.int .i64 0)), none, 0⟩]) <|
 .keep [2, 3] <|
 .ret⟩
theorem e_zz21 : EntOK Tryd.prog (compD Tryd.prog) k_zz21 i_zz21.vf :=
 ⟨Tryd.f8, Tryd.f8.body.getD .skip, Tryd.func8, by kernel_rfl, by kernel_rfl, by kernel_rfl, by kernel_rfl, by kernel_rfl⟩
/-- loop.example/g01331/spec.IsFaithful -/
def i_zz25 : FF := ⟨15, [.tmp 2, .tmp 3],
 .seq (.ops [
 ⟨some 1, .box 3 (.tmp 0), none, 0⟩,
 ⟨some 2, .mv (.const (.bool false)), none, 0⟩,
 ⟨some 3, .mv (.const (.int .i64 0)), none, 0⟩]) <|
 .seq (.seq (.ops [
 ⟨some 6, .load true 3 (.tmp 1), none, 0⟩,
 ⟨some 7, .call k_zz77 [(.tmp 6)], none, 0⟩,
 ⟨some 8, .un .not (.tmp 7), none, 0⟩]) <|
 .cond (.tmp 8)
 (.seq (.ops [
 ⟨some 2, .mv (.const (.bool false)), none, 0⟩,
 ⟨some 3, .mv (.const (.int .i64 1)), none, 0⟩]) <|
 .keep [2, 3] <|
 .ret)
 (.skip)) <|
 .seq (.ops [
 ⟨some 10, .load true 3 (.tmp 1), none, 0⟩,
 ⟨some 11, .call k_zz60 [(.tmp 10)], none, 0⟩,
 ⟨some 9, .mv (.tmp 11), none, 0⟩,
 ⟨some 12, .ext (.tmp 9) 0, none, 0⟩,
 ⟨some 13, .ext (.tmp 9) 1, none, 0⟩,
 ⟨some 4, .alloc [.int .i64 0, .slice none 0 0], none, 0⟩,
 ⟨none, .store 2 (.tmp 4) (.tmp 12), none, 0⟩,
 ⟨some 5, .mv (.tmp 13), none, 0⟩]) <|
 .seq (.ops [
 ⟨some 14, .mv (.tmp 5), none, 0⟩,
 ⟨some 2, .mv (.tmp 14), none, 0⟩,
 ⟨some 3, .mv (.const (.int .i64 0)), none, 0⟩]) <|
 .keep [2, 3] <|
 .ret⟩
theorem e_zz25 : EntOK Tryd.prog (compD Tryd.prog) k_zz25 i_zz25.vf :=
 ⟨Tryd.f9, Tryd.f9.body.getD .skip, Tryd.func9, by kernel_rfl, by kernel_rfl, by kernel_rfl, by kernel_rfl, by kernel_rfl⟩
/-- loop.example/g01331/laws.graphs5 -/
def i_zz52 : FF := ⟨17, [.tmp 4],
 .seq (.ops [
 ⟨some 2, .box 2 (.tmp 0), none, 0⟩,
 ⟨some 3, .box 2 (.tmp 1), none, 0⟩,
 ⟨some 4, .mv (.const (.bool false)), none, 0⟩]) <|
 .seq (.ops [
 ⟨some 5, .fld 0 (.tmp 2), none, 0⟩,
 ⟨some 6, .load false 1 (.tmp 5), none, 0⟩,
 ⟨some 7, .fld 0 (.tmp 3), none, 0⟩,
 ⟨some 8, .load false 1 (.tmp 7), none, 0⟩,
 ⟨some 9, .bin .eql (.tmp 6) (.tmp 8), none, 0⟩,
 ⟨some 10, .mv (.tmp 9), none, 0⟩,
 ⟨some 11, .fld 1 (.tmp 2), some (10, true), 0⟩,
 ⟨some 12, .load false 1 (.tmp 11), some (10, true), 0⟩,
 ⟨some 13, .fld 1 (.tmp 3), some (10, true), 0⟩,
 ⟨some 14, .load false 1 (.tmp 13), some (10, true), 0⟩,
 ⟨some 15, .call k_zz40 [(.tmp 12), (.tmp 14)], some (10, true), 0⟩,
 ⟨some 16, .pick (.tmp 10) (.tmp 15) (.const (.bool false)), none, 0⟩,
 ⟨some 4, .mv (.tmp 16), none, 0⟩]) <|
 .keep [4] <|
 .ret⟩
theorem e_zz52 : EntOK Tryd.prog (compD Tryd.prog) k_zz52 i_zz52.vf :=
 ⟨Tryd.f10, Tryd.f10.body.getD .skip, Tryd.func10, by kernel_rfl, by kernel_rfl, by kernel_rfl, by kernel_rfl, by kernel_rfl⟩
/-- loop.example/g01331/impl.IsBase -/
def i_zz62 : FF := ⟨40, [.tmp 2],
 .seq (.ops [
 ⟨some 1, .box 3 (.tmp 0), none, 0⟩,
 ⟨some 2, .mv (.const (.bool false)), none, 0⟩]) <|
 .seq (.seq (.ops [
 ⟨some 3, .fld 0 (.tmp 1), none, 0⟩,
 ⟨some 4, .load false 1 (.tmp 3), none, 0⟩,
 ⟨some 5, .bin .lss (.tmp 4) (.const (.int .i64 1)), none, 0⟩,
 ⟨some 6, .mv (.tmp 5), none, 0⟩,
 ⟨some 7, .fld 0 (.tmp 1), some (6, false), 0⟩,
 ⟨some 8, .load false 1 (.tmp 7), some (6, false), 0⟩,
 ⟨some 9, .bin .gtr (.tmp 8) (.const (.int .i64 10)), some (6, false), 0⟩,
 ⟨some 10, .pick (.tmp 6) (.const (.bool true)) (.tmp 9), none, 0⟩,
 ⟨some 11, .mv (.tmp 10), none, 0⟩,
 ⟨some 12, .fld 1 (.tmp 1), some (11, false), 0⟩,
 ⟨some 13, .load false 1 (.tmp 12), some (11, false), 0⟩,
 ⟨some 14, .bin .lss (.tmp 13) (.const (.int .i64 1)), some (11, false), 0⟩,
 ⟨some 15, .pick (.tmp 11) (.const (.bool true)) (.tmp 14), none, 0⟩,
 ⟨some 16, .mv (.tmp 15), none, 0⟩,
 ⟨some 17, .fld 1 (.tmp 1), some (16, false), 0⟩,
 ⟨some 18, .load false 1 (.tmp 17), some (16, false), 0⟩,
 ⟨some 19, .bin .gtr (.tmp 18) (.const (.int .i64 62)), some (16, false), 0⟩,
 ⟨some 20, .pick (.tmp 16) (.const (.bool true)) (.tmp 19), none, 0⟩,
 ⟨some 21, .mv (.tmp 20), none, 0⟩,
 ⟨some 22, .fld 0 (.tmp 1), some (21, false), 0⟩,
 ⟨some 23, .load false 1 (.tmp 22), some (21, false), 0⟩,
 ⟨some 24, .fld 1 (.tmp 1), some (21, false), 0⟩,
 ⟨some 25, .load false 1 (.tmp 24), some (21, false), 0⟩,
 ⟨some 26, .bin .mul (.tmp 23) (.tmp 25), some (21, false), 0⟩,
 ⟨some 27, .bin .gtr (.tmp 26) (.const (.int .i64 62)), some (21, false), 0⟩,
 ⟨some 28, .pick (.tmp 21) (.const (.bool true)) (.tmp 27), none, 0⟩,
 ⟨some 29, .mv (.tmp 28), none, 0⟩,
 ⟨some 30, .fld 2 (.tmp 1), some (29, false), 0⟩,
 ⟨some 31, .load false 1 (.tmp 30), some (29, false), 0⟩,
 ⟨some 32, .len (.tmp 31), some (29, false), 0⟩,
 ⟨some 33, .bin .gtr (.tmp 32) (.const (.int .i64 16)), some (29, false), 0⟩,
 ⟨some 34, .pick (.tmp 29) (.const (.bool true)) (.tmp 33), none, 0⟩]) <|
 .cond (.tmp 34)
 (.seq (.ops [
 ⟨some 2, .mv (.const (.bool false)), none, 0⟩]) <|
 .keep [2] <|
 .ret)
 (.skip)) <|
 .seq (.ops [
 ⟨some 35, .fld 2 (.tmp 1), none, 0⟩,
 ⟨some 36, .load false 1 (.tmp 35), none, 0⟩,
 ⟨some 37, .mkfn k_zz39 [] [(.tmp 1)], none, 0⟩,
 ⟨some 38, .call k_zz0 [(.tmp 36), (.tmp 37)], none, 0⟩,
 ⟨some 39, .un .not (.tmp 38), none, 0⟩,
 ⟨some 2, .mv (.tmp 39), none, 0⟩]) <|
 .keep [2] <|
 .ret⟩
theorem e_zz62 : EntOK Tryd.prog (compD Tryd.prog) k_zz62 i_zz62.vf :=
 ⟨Tryd.f11, Tryd.f11.body.getD .skip, Tryd.func11, by kernel_rfl, by kernel_rfl, by kernel_rfl, by kernel_rfl, by kernel_rfl⟩
/-- loop.example/g01331/spec.IsBase -/
def i_zz64 : FF := ⟨5, [.tmp 2],
 .seq (.ops [
 ⟨some 1, .box 3 (.tmp 0), none, 0⟩,
 ⟨some 2, .mv (.const (.bool false)), none, 0⟩]) <|
 .seq (.ops [
 ⟨some 3, .load true 3 (.tmp 1), none, 0⟩,
 ⟨some 4, .call k_zz77 [(.tmp 3)], none, 0⟩,
 ⟨some 2, .mv (.tmp 4), none, 0⟩]) <|
 .keep [2] <|
 .ret⟩
theorem e_zz64 : EntOK Tryd.prog (compD Tryd.prog) k_zz64 i_zz64.vf :=
 ⟨Tryd.f12, Tryd.f12.body.getD .skip, Tryd.func12, by kernel_rfl, by kernel_rfl, by kernel_rfl, by kernel_rfl, by kernel_rfl⟩
/-- loop.example/g01331/impl.EdgesOf -/
def i_zz45 : FF := ⟨9, [.tmp 2, .tmp 3],
 .seq (.ops [
 ⟨some 1, .box 2 (.tmp 0), none, 0⟩,
 ⟨some 2, .mv (.const (.slice none 0 0)), none, 0⟩,
 ⟨some 3, .mv (.const (.int .i64 0)), none, 0⟩]) <|
 .seq (.seq (.ops [
 ⟨some 4, .load true 2 (.tmp 1), none, 0⟩,
 ⟨some 5, .call k_zz49 [(.tmp 4)], none, 0⟩,
 ⟨some 6, .un .not (.tmp 5), none, 0⟩]) <|
 .cond (.tmp 6)
 (.seq (.ops [
 ⟨some 2, .mv (.const (.slice none 0 0)), none, 0⟩,
 ⟨some 3, .mv (.const (.int .i64 1)), none, 0⟩]) <|
 .keep [2, 3] <|
 .ret)
 (.skip)) <|
 .seq (.ops [
 ⟨some 7, .load true 2 (.tmp 1), none, 0⟩,
 ⟨some 8, .call k_zz14 [(.tmp 7)], none, 0⟩,
 ⟨some 2, .mv (.tmp 8), none, 0⟩,
 ⟨some 3, .mv (.const (.int .i64 0)), none, 0⟩]) <|
 .keep [2, 3] <|
 .ret⟩
theorem e_zz45 : EntOK Tryd.prog (compD Tryd.prog) k_zz45 i_zz45.vf :=
 ⟨Tryd.f13, Tryd.f13.body.getD .skip, Tryd.func13, by kernel_rfl, by kernel_rfl, by kernel_rfl, by kernel_rfl, by kernel_rfl⟩
/-- loop.example/g01331/impl.LiftParts -/
def i_zz29 : FF := ⟨11, [.tmp 2, .tmp 3],
 .seq (.ops [
 ⟨some 1, .box 3 (.tmp 0), none, 0⟩,
 ⟨some 2, .mv (.const (.int .i64 0)), none, 0⟩,
 ⟨some 3, .mv (.const (.int .i64 0)), none, 0⟩]) <|
 .seq (.seq (.ops [
 ⟨some 4, .load true 3 (.tmp 1), none, 0⟩,
 ⟨some 5, .call k_zz62 [(.tmp 4)], none, 0⟩,
 ⟨some 6, .un .not (.tmp 5), none, 0⟩]) <|
 .cond (.tmp 6)
 (.seq (.ops [
 ⟨some 2, .mv (.const (.int .i64 0)), none, 0⟩,
 ⟨some 3, .mv (.const (.int .i64 1)), none, 0⟩]) <|
 .keep [2, 3] <|
 .ret)
 (.skip)) <|
 .seq (.ops [
 ⟨some 7, .load true 3 (.tmp 1), none, 0⟩,
 ⟨some 8, .call k_zz78 [(.tmp 7)], none, 0⟩,
 ⟨some 9, .call k_zz16 [(.tmp 8)], none, 0⟩,
 ⟨some 10, .len (.tmp 9), none, 0⟩,
 ⟨some 2, .mv (.tmp 10), none, 0⟩,
 ⟨some 3, .mv (.const (.int .i64 0)), none, 0⟩]) <|
 .keep [2, 3] <|
 .ret⟩
theorem e_zz29 : EntOK Tryd.prog (compD Tryd.prog) k_zz29 i_zz29.vf :=
 ⟨Tryd.f14, Tryd.f14.body.getD .skip, Tryd.func14, by kernel_rfl, by kernel_rfl, by kernel_rfl, by kernel_rfl, by kernel_rfl⟩
/-- loop.example/g01331/impl.PartsOf -/
def i_zz50 : FF := ⟨9, [.tmp 2, .tmp 3],
 .seq (.ops [
 ⟨some 1, .box 2 (.tmp 0), none, 0⟩,
 ⟨some 2, .mv (.const (.slice none 0 0)), none, 0⟩,
 ⟨some 3, .mv (.const (.int .i64 0)), none, 0⟩]) <|
 .seq (.seq (.ops [
 ⟨some 4, .load true 2 (.tmp 1), none, 0⟩,
 ⟨some 5, .call k_zz49 [(.tmp 4)], none, 0⟩,
 ⟨some 6, .un .not (.tmp 5), none, 0⟩]) <|
 .cond (.tmp 6)
 (.seq (.ops [
 ⟨some 2, .mv (.const (.slice none 0 0)), none, 0⟩,
 ⟨some 3, .mv (.const (.int .i64 1)), none, 0⟩]) <|
 .keep [2, 3] <|
 .ret)
 (.skip)) <|
 .seq (.ops [
 ⟨some 7, .load true 2 (.tmp 1), none, 0⟩,
 ⟨some 8, .call k_zz16 [(.tmp 7)], none, 0⟩,
 ⟨some 2, .mv (.tmp 8), none, 0⟩,
 ⟨some 3, .mv (.const (.int .i64 0)), none, 0⟩]) <|
 .keep [2, 3] <|
 .ret⟩
theorem e_zz50 : EntOK Tryd.prog (compD Tryd.prog) k_zz50 i_zz50.vf :=
 ⟨Tryd.f15, Tryd.f15.body.getD .skip, Tryd.func15, by kernel_rfl, by kernel_rfl, by kernel_rfl, by kernel_rfl, by kernel_rfl⟩
/-- loop.example/g01331/impl.CoverOfLift -/
def i_zz13_B1 : FC :=
 .seq (.ops [
 ⟨some 16, .bin .lss (.tmp 15) (.tmp 14), none, 0⟩]) <|
 .seq (.cond (.tmp 16)
 (.skip)
 (.keep [4] <|
 .exit 0)) <|
 .seq (.block 1 <|
 .seq (.ops [
 ⟨some 17, .mv (.tmp 15), none, 0⟩,
 ⟨some 5, .mv (.tmp 17), none, 0⟩]) <|
 .ops [
 ⟨some 18, .mv (.tmp 4), none, 0⟩,
 ⟨some 19, .mv (.tmp 5), none, 0⟩,
 ⟨some 20, .fld 1 (.tmp 1), none, 0⟩,
 ⟨some 21, .load false 1 (.tmp 20), none, 0⟩,
 ⟨some 22, .bin .quo (.tmp 19) (.tmp 21), none, 0⟩,
 ⟨some 23, .buildSl 1 [.int .i64 0] [(0, 1, (.tmp 22))] 1, none, 0⟩,
 ⟨some 24, .app 1 8 [.int .i64 0] (.tmp 18) (.tmp 23), none, 0⟩,
 ⟨some 4, .mv (.tmp 24), none, 0⟩]) <|
 .ops [
 ⟨some 25, .bin .add (.tmp 15) (.const (.int .i64 1)), none, 0⟩,
 ⟨some 15, .mv (.tmp 25), none, 0⟩]
def i_zz13 : FF := ⟨27, [.tmp 2, .tmp 3],
 .seq (.ops [
 ⟨some 1, .box 3 (.tmp 0), none, 0⟩,
 ⟨some 2, .mv (.const (.slice none 0 0)), none, 0⟩,
 ⟨some 3, .mv (.const (.int .i64 0)), none, 0⟩]) <|
 .seq (.seq (.ops [
 ⟨some 6, .load true 3 (.tmp 1), none, 0⟩,
 ⟨some 7, .call k_zz62 [(.tmp 6)], none, 0⟩,
 ⟨some 8, .un .not (.tmp 7), none, 0⟩]) <|
 .cond (.tmp 8)
 (.seq (.ops [
 ⟨some 2, .mv (.const (.slice none 0 0)), none, 0⟩,
 ⟨some 3, .mv (.const (.int .i64 1)), none, 0⟩]) <|
 .keep [2, 3] <|
 .ret)
 (.skip)) <|
 .seq (.ops [
 ⟨some 9, .buildSl 1 [] [] 0, none, 0⟩,
 ⟨some 4, .mv (.tmp 9), none, 0⟩]) <|
 .seq (.seq (.ops [
 ⟨some 10, .fld 0 (.tmp 1), none, 0⟩,
 ⟨some 11, .load false 1 (.tmp 10), none, 0⟩,
 ⟨some 12, .fld 1 (.tmp 1), none, 0⟩,
 ⟨some 13, .load false 1 (.tmp 12), none, 0⟩,
 ⟨some 14, .bin .mul (.tmp 11) (.tmp 13), none, 0⟩,
 ⟨some 15, .mv (.const (.int .i64 0)), none, 0⟩]) <|
 .block 0 <|
 .loop [1, 4, 14, 15] i_zz13_B1) <|
 .seq (.ops [
 ⟨some 26, .mv (.tmp 4), none, 0⟩,
 ⟨some 2, .mv (.tmp 26), none, 0⟩,
 ⟨some 3, .mv (.const (.int .i64 0)), none, 0⟩]) <|
 .keep [2, 3] <|
 .ret⟩
theorem e_zz13 : EntOK Tryd.prog (compD Tryd.prog) k_zz13 i_zz13.vf :=
 ⟨Tryd.f16, Tryd.f16.body.getD .skip, Tryd.func16, by kernel_rfl, by kernel_rfl, by kernel_rfl, by kernel_rfl, by kernel_rfl⟩
/-- loop.example/g01331/impl.WalkGirth -/
def i_zz30_B1 : FC :=
 .seq (.ops [
 ⟨some 12, .bin .lss (.tmp 11) (.tmp 10), none, 0⟩]) <|
 .seq (.cond (.tmp 12)
 (.skip)
 (.keep [4] <|
 .exit 0)) <|
 .seq (.block 1 <|
 .seq (.ops [
 ⟨some 13, .mv (.tmp 11), none, 0⟩,
 ⟨some 5, .mv (.tmp 13), none, 0⟩]) <|
 .ops [
 ⟨some 14, .load true 3 (.tmp 1), none, 0⟩,
 ⟨some 15, .mv (.tmp 5), none, 0⟩,
 ⟨some 16, .mv (.tmp 4), none, 0⟩,
 ⟨some 17, .call k_zz32 [(.tmp 14), (.tmp 15), (.tmp 16)], none, 0⟩,
 ⟨some 4, .mv (.tmp 17), none, 0⟩]) <|
 .ops [
 ⟨some 18, .bin .add (.tmp 11) (.const (.int .i64 1)), none, 0⟩,
 ⟨some 11, .mv (.tmp 18), none, 0⟩]
def i_zz30 : FF := ⟨22, [.tmp 2, .tmp 3],
 .seq (.ops [
 ⟨some 1, .box 3 (.tmp 0), none, 0⟩,
 ⟨some 2, .mv (.const (.int .i64 0)), none, 0⟩,
 ⟨some 3, .mv (.const (.int .i64 0)), none, 0⟩]) <|
 .seq (.seq (.ops [
 ⟨some 6, .load true 3 (.tmp 1), none, 0⟩,
 ⟨some 7, .call k_zz62 [(.tmp 6)], none, 0⟩,
 ⟨some 8, .un .not (.tmp 7), none, 0⟩]) <|
 .cond (.tmp 8)
 (.seq (.ops [
 ⟨some 2, .mv (.const (.int .i64 0)), none, 0⟩,
 ⟨some 3, .mv (.const (.int .i64 1)), none, 0⟩]) <|
 .keep [2, 3] <|
 .ret)
 (.skip)) <|
 .seq (.ops [
 ⟨some 4, .mv (.const (.int .i64 15)), none, 0⟩]) <|
 .seq (.seq (.ops [
 ⟨some 9, .load true 3 (.tmp 1), none, 0⟩,
 ⟨some 10, .call k_zz74 [(.tmp 9)], none, 0⟩,
 ⟨some 11, .mv (.const (.int .i64 0)), none, 0⟩]) <|
 .block 0 <|
 .loop [1, 4, 10, 11] i_zz30_B1) <|
 .seq (.seq (.ops [
 ⟨some 19, .mv (.tmp 4), none, 0⟩,
 ⟨some 20, .bin .gtr (.tmp 19) (.const (.int .i64 14)), none, 0⟩]) <|
 .cond (.tmp 20)
 (.seq (.ops [
 ⟨some 2, .mv (.const (.int .i64 0)), none, 0⟩,
 ⟨some 3, .mv (.const (.int .i64 4)), none, 0⟩]) <|
 .keep [2, 3] <|
 .ret)
 (.skip)) <|
 .seq (.ops [
 ⟨some 21, .mv (.tmp 4), none, 0⟩,
 ⟨some 2, .mv (.tmp 21), none, 0⟩,
 ⟨some 3, .mv (.const (.int .i64 0)), none, 0⟩]) <|
 .keep [2, 3] <|
 .ret⟩
theorem e_zz30 : EntOK Tryd.prog (compD Tryd.prog) k_zz30 i_zz30.vf :=
 ⟨Tryd.f17, Tryd.f17.body.getD .skip, Tryd.func17, by kernel_rfl, by kernel_rfl, by kernel_rfl, by kernel_rfl, by kernel_rfl⟩
/-- loop.example/g01331/impl.GirthOf -/
def i_zz46 : FF := ⟨12, [.tmp 2, .tmp 3],
 .seq (.ops [
 ⟨some 1, .box 2 (.tmp 0), none, 0⟩,
 ⟨some 2, .mv (.const (.int .i64 0)), none, 0⟩,
 ⟨some 3, .mv (.const (.int .i64 0)), none, 0⟩]) <|
 .seq (.seq (.ops [
 ⟨some 4, .load true 2 (.tmp 1), none, 0⟩,
 ⟨some 5, .call k_zz49 [(.tmp 4)], none, 0⟩,
 ⟨some 6, .un .not (.tmp 5), none, 0⟩]) <|
 .cond (.tmp 6)
 (.seq (.ops [
 ⟨some 2, .mv (.const (.int .i64 0)), none, 0⟩,
 ⟨some 3, .mv (.const (.int .i64 1)), none, 0⟩]) <|
 .keep [2, 3] <|
 .ret)
 (.skip)) <|
 .seq (.ops [
 ⟨some 7, .load true 2 (.tmp 1), none, 0⟩,
 ⟨some 8, .call k_zz15 [(.tmp 7)], none, 0⟩,
 ⟨some 9, .call k_zz73 [(.tmp 8)], none, 0⟩,
 ⟨some 10, .ext (.tmp 9) 0, none, 0⟩,
 ⟨some 11, .ext (.tmp 9) 1, none, 0⟩,
 ⟨some 2, .mv (.tmp 10), none, 0⟩,
 ⟨some 3, .mv (.tmp 11), none, 0⟩]) <|
 .keep [2, 3] <|
 .ret⟩
theorem e_zz46 : EntOK Tryd.prog (compD Tryd.prog) k_zz46 i_zz46.vf :=
 ⟨Tryd.f18, Tryd.f18.body.getD .skip, Tryd.func18, by kernel_rfl, by kernel_rfl, by kernel_rfl, by kernel_rfl, by kernel_rfl⟩
/-- loop.example/g01331/impl.GraphOf -/
def i_zz47_B1 : FC :=
 .seq (.ops [
 ⟨some 26, .bin .lss (.tmp 25) (.tmp 24), none, 0⟩]) <|
 .seq (.cond (.tmp 26)
 (.skip)
 (.keep [4, 6] <|
 .exit 0)) <|
 .seq (.block 1 <|
 .seq (.ops [
 ⟨some 27, .idx 1 (.tmp 23) (.tmp 25), none, 0⟩,
 ⟨some 28, .load false 1 (.tmp 27), none, 0⟩,
 ⟨some 8, .mv (.tmp 28), none, 0⟩]) <|
 .seq (.seq (.dops [
 ⟨some 29, .mv (.tmp 8), none, 0⟩,
 ⟨some 30, .len (.tmp 29), none, 0⟩,
 ⟨some 31, .bin .neq (.tmp 30) (.const (.int .i64 2)), none, 0⟩,
 ⟨some 32, .mv (.tmp 31), none, 0⟩,
 ⟨some 33, .mv (.tmp 8), some (32, false), 0⟩,
 ⟨some 34, .idx 1 (.tmp 33) (.const (.int .i64 0)), some (32, false), 0⟩,
 ⟨some 35, .load false 1 (.tmp 34), some (32, false), 0⟩,
 ⟨some 36, .bin .lss (.tmp 35) (.const (.int .i64 0)), some (32, false), 0⟩,
 ⟨some 37, .pick (.tmp 32) (.const (.bool true)) (.tmp 36), none, 0⟩,
 ⟨some 38, .mv (.tmp 37), none, 0⟩,
 ⟨some 39, .mv (.tmp 8), some (38, false), 0⟩,
 ⟨some 40, .idx 1 (.tmp 39) (.const (.int .i64 0)), some (38, false), 0⟩,
 ⟨some 41, .load false 1 (.tmp 40), some (38, false), 0⟩,
 ⟨some 42, .mv (.tmp 0), some (38, false), 0⟩,
 ⟨some 43, .bin .geq (.tmp 41) (.tmp 42), some (38, false), 0⟩,
 ⟨some 44, .pick (.tmp 38) (.const (.bool true)) (.tmp 43), none, 0⟩,
 ⟨some 45, .mv (.tmp 44), none, 0⟩,
 ⟨some 46, .mv (.tmp 8), some (45, false), 0⟩,
 ⟨some 47, .idx 1 (.tmp 46) (.const (.int .i64 1)), some (45, false), 0⟩,
 ⟨some 48, .load false 1 (.tmp 47), some (45, false), 0⟩,
 ⟨some 49, .bin .lss (.tmp 48) (.const (.int .i64 0)), some (45, false), 0⟩,
 ⟨some 50, .pick (.tmp 45) (.const (.bool true)) (.tmp 49), none, 0⟩,
 ⟨some 51, .mv (.tmp 50), none, 0⟩,
 ⟨some 52, .mv (.tmp 8), some (51, false), 0⟩,
 ⟨some 53, .idx 1 (.tmp 52) (.const (.int .i64 1)), some (51, false), 0⟩,
 ⟨some 54, .load false 1 (.tmp 53), some (51, false), 0⟩,
 ⟨some 55, .mv (.tmp 0), some (51, false), 0⟩,
 ⟨some 56, .bin .geq (.tmp 54) (.tmp 55), some (51, false), 0⟩,
 ⟨some 57, .pick (.tmp 51) (.const (.bool true)) (.tmp 56), none, 0⟩,
 ⟨some 58, .mv (.tmp 57), none, 0⟩,
 ⟨some 59, .mv (.tmp 8), some (58, false), 0⟩,
 ⟨some 60, .idx 1 (.tmp 59) (.const (.int .i64 0)), some (58, false), 0⟩,
 ⟨some 61, .load false 1 (.tmp 60), some (58, false), 0⟩,
 ⟨some 62, .mv (.tmp 8), some (58, false), 0⟩,
 ⟨some 63, .idx 1 (.tmp 62) (.const (.int .i64 1)), some (58, false), 0⟩,
 ⟨some 64, .load false 1 (.tmp 63), some (58, false), 0⟩,
 ⟨some 65, .bin .eql (.tmp 61) (.tmp 64), some (58, false), 0⟩,
 ⟨some 66, .pick (.tmp 58) (.const (.bool true)) (.tmp 65), none, 0⟩]) <|
 .cond (.tmp 66)
 (.seq (.ops [
 ⟨some 67, .build [.int .i64 0, .slice none 0 0] [], none, 0⟩,
 ⟨none, .store 2 (.tmp 4) (.tmp 67), none, 0⟩,
 ⟨some 5, .mv (.const (.int .i64 2)), none, 0⟩]) <|
 .keep [4, 5] <|
 .ret)
 (.skip)) <|
 .dops [
 ⟨some 68, .load true 2 (.tmp 6), none, 0⟩,
 ⟨some 69, .mv (.tmp 8), none, 0⟩,
 ⟨some 70, .idx 1 (.tmp 69) (.const (.int .i64 0)), none, 0⟩,
 ⟨some 71, .load false 1 (.tmp 70), none, 0⟩,
 ⟨some 72, .mv (.tmp 8), none, 0⟩,
 ⟨some 73, .idx 1 (.tmp 72) (.const (.int .i64 1)), none, 0⟩,
 ⟨some 74, .load false 1 (.tmp 73), none, 0⟩,
 ⟨some 75, .call k_zz28 [(.tmp 68), (.tmp 71), (.tmp 74)], none, 0⟩]) <|
 .ops [
 ⟨some 76, .bin .add (.tmp 25) (.const (.int .i64 1)), none, 0⟩,
 ⟨some 25, .mv (.tmp 76), none, 0⟩]
def i_zz47 : FF := ⟨78, [.cell 4 true 2, .tmp 5],
 .seq (.ops [
 ⟨some 4, .alloc [.int .i64 0, .slice none 0 0], none, 0⟩,
 ⟨some 5, .mv (.const (.int .i64 0)), none, 0⟩]) <|
 .seq (.seq (.ops [
 ⟨some 9, .mv (.tmp 0), none, 0⟩,
 ⟨some 10, .bin .lss (.tmp 9) (.const (.int .i64 1)), none, 0⟩,
 ⟨some 11, .mv (.tmp 10), none, 0⟩,
 ⟨some 12, .mv (.tmp 0), some (11, false), 0⟩,
 ⟨some 13, .bin .gtr (.tmp 12) (.const (.int .i64 62)), some (11, false), 0⟩,
 ⟨some 14, .pick (.tmp 11) (.const (.bool true)) (.tmp 13), none, 0⟩,
 ⟨some 15, .mv (.tmp 14), none, 0⟩,
 ⟨some 16, .mv (.tmp 1), some (15, false), 0⟩,
 ⟨some 17, .len (.tmp 16), some (15, false), 0⟩,
 ⟨some 18, .bin .gtr (.tmp 17) (.const (.int .i64 4000)), some (15, false), 0⟩,
 ⟨some 19, .pick (.tmp 15) (.const (.bool true)) (.tmp 18), none, 0⟩]) <|
 .cond (.tmp 19)
 (.seq (.ops [
 ⟨some 20, .build [.int .i64 0, .slice none 0 0] [], none, 0⟩,
 ⟨none, .store 2 (.tmp 4) (.tmp 20), none, 0⟩,
 ⟨some 5, .mv (.const (.int .i64 2)), none, 0⟩]) <|
 .keep [4, 5] <|
 .ret)
 (.skip)) <|
 .seq (.ops [
 ⟨some 21, .mv (.tmp 0), none, 0⟩,
 ⟨some 22, .call k_zz72 [(.tmp 21)], none, 0⟩,
 ⟨some 6, .alloc [.int .i64 0, .slice none 0 0], none, 0⟩,
 ⟨none, .store 2 (.tmp 6) (.tmp 22), none, 0⟩]) <|
 .seq (.seq (.ops [
 ⟨some 23, .mv (.tmp 1), none, 0⟩,
 ⟨some 24, .len (.tmp 23), none, 0⟩,
 ⟨some 25, .mv (.const (.int .i64 0)), none, 0⟩]) <|
 .block 0 <|
 .loop [0, 4, 6, 23, 24, 25] i_zz47_B1) <|
 .seq (.ops [
 ⟨some 77, .load true 2 (.tmp 6), none, 0⟩,
 ⟨none, .store 2 (.tmp 4) (.tmp 77), none, 0⟩,
 ⟨some 5, .mv (.const (.int .i64 0)), none, 0⟩]) <|
 .keep [4, 5] <|
 .ret⟩
theorem e_zz47 : EntOK Tryd.prog (compD Tryd.prog) k_zz47 i_zz47.vf :=
 ⟨Tryd.f19, Tryd.f19.body.getD .skip, Tryd.func19, by kernel_rfl, by kernel_rfl, by kernel_rfl, by kernel_rfl, by kernel_rfl⟩
/-- loop.example/g01331/impl.IsCover -/
def i_zz48_B1 : FC :=
 .seq (.ops [
 ⟨some 35, .bin .lss (.tmp 34) (.tmp 33), none, 0⟩]) <|
 .seq (.cond (.tmp 35)
 (.skip)
 (.keep [2, 3, 4, 8, 9, 28, 29] <|
 .exit 2)) <|
 .seq (.block 3 <|
 .seq (.ops [
 ⟨some 36, .mv (.tmp 34), none, 0⟩,
 ⟨some 10, .mv (.tmp 36), none, 0⟩]) <|
 .seq (.ops [
 ⟨some 37, .load true 2 (.tmp 3), none, 0⟩,
 ⟨some 38, .mv (.tmp 8), none, 0⟩,
 ⟨some 39, .mv (.tmp 10), none, 0⟩,
 ⟨some 40, .call k_zz27 [(.tmp 37), (.tmp 38), (.tmp 39)], none, 0⟩]) <|
 .cond (.tmp 40)
 (.ops [
 ⟨some 41, .mv (.tmp 9), none, 0⟩,
 ⟨some 42, .mv (.tmp 2), none, 0⟩,
 ⟨some 43, .mv (.tmp 10), none, 0⟩,
 ⟨some 44, .idx 1 (.tmp 42) (.tmp 43), none, 0⟩,
 ⟨some 45, .load false 1 (.tmp 44), none, 0⟩,
 ⟨some 46, .bin .shl (.const (.int .i64 1)) (.tmp 45), none, 0⟩,
 ⟨some 47, .bin .or (.tmp 41) (.tmp 46), none, 0⟩,
 ⟨some 9, .mv (.tmp 47), none, 0⟩])
 (.skip)) <|
 .ops [
 ⟨some 48, .bin .add (.tmp 34) (.const (.int .i64 1)), none, 0⟩,
 ⟨some 34, .mv (.tmp 48), none, 0⟩]
def i_zz48_B2 : FC :=
 .seq (.ops [
 ⟨some 30, .bin .lss (.tmp 29) (.tmp 28), none, 0⟩]) <|
 .seq (.cond (.tmp 30)
 (.skip)
 (.keep [] <|
 .exit 0)) <|
 .seq (.block 1 <|
 .seq (.ops [
 ⟨some 31, .mv (.tmp 29), none, 0⟩,
 ⟨some 8, .mv (.tmp 31), none, 0⟩]) <|
 .seq (.ops [
 ⟨some 9, .mv (.const (.int .i64 0)), none, 0⟩]) <|
 .seq (.seq (.ops [
 ⟨some 32, .fld 0 (.tmp 3), none, 0⟩,
 ⟨some 33, .load false 1 (.tmp 32), none, 0⟩,
 ⟨some 34, .mv (.const (.int .i64 0)), none, 0⟩]) <|
 .block 2 <|
 .loop [2, 3, 4, 8, 9, 28, 29, 33, 34] i_zz48_B1) <|
 .seq (.dops [
 ⟨some 49, .mv (.tmp 9), none, 0⟩,
 ⟨some 50, .fld 1 (.tmp 4), none, 0⟩,
 ⟨some 51, .load false 1 (.tmp 50), none, 0⟩,
 ⟨some 52, .mv (.tmp 2), none, 0⟩,
 ⟨some 53, .mv (.tmp 8), none, 0⟩,
 ⟨some 54, .idx 1 (.tmp 52) (.tmp 53), none, 0⟩,
 ⟨some 55, .load false 1 (.tmp 54), none, 0⟩,
 ⟨some 56, .idx 1 (.tmp 51) (.tmp 55), none, 0⟩,
 ⟨some 57, .load false 1 (.tmp 56), none, 0⟩,
 ⟨some 58, .bin .neq (.tmp 49) (.tmp 57), none, 0⟩,
 ⟨some 59, .mv (.tmp 58), none, 0⟩,
 ⟨some 60, .mv (.tmp 9), some (59, false), 0⟩,
 ⟨some 61, .call k_zz80 [(.tmp 60)], some (59, false), 0⟩,
 ⟨some 62, .load true 2 (.tmp 3), some (59, false), 1⟩,
 ⟨some 63, .mv (.tmp 8), some (59, false), 1⟩,
 ⟨some 64, .call k_zz12 [(.tmp 62), (.tmp 63)], some (59, false), 0⟩,
 ⟨some 65, .bin .neq (.tmp 61) (.tmp 64), some (59, false), 0⟩,
 ⟨some 66, .pick (.tmp 59) (.const (.bool true)) (.tmp 65), none, 0⟩]) <|
 .cond (.tmp 66)
 (.seq (.ops [
 ⟨some 6, .mv (.const (.bool false)), none, 0⟩,
 ⟨some 7, .mv (.const (.int .i64 0)), none, 0⟩]) <|
 .keep [6, 7] <|
 .ret)
 (.skip)) <|
 .ops [
 ⟨some 67, .bin .add (.tmp 29) (.const (.int .i64 1)), none, 0⟩,
 ⟨some 29, .mv (.tmp 67), none, 0⟩]
def i_zz48 : FF := ⟨68, [.tmp 6, .tmp 7],
 .seq (.ops [
 ⟨some 3, .box 2 (.tmp 0), none, 0⟩,
 ⟨some 4, .box 2 (.tmp 1), none, 0⟩,
 ⟨some 6, .mv (.const (.bool false)), none, 0⟩,
 ⟨some 7, .mv (.const (.int .i64 0)), none, 0⟩]) <|
 .seq (.seq (.ops [
 ⟨some 11, .load true 2 (.tmp 3), none, 0⟩,
 ⟨some 12, .load true 2 (.tmp 4), none, 0⟩,
 ⟨some 13, .buildSl 2 [.int .i64 0, .slice none 0 0, .int .i64 0, .slice none 0 0] [(0, 2, (.tmp 11)), (2, 2, (.tmp 12))] 2, none, 0⟩,
 ⟨some 14, .call k_zz31 [(.tmp 13)], none, 0⟩,
 ⟨some 15, .un .not (.tmp 14), none, 0⟩]) <|
 .cond (.tmp 15)
 (.seq (.ops [
 ⟨some 6, .mv (.const (.bool false)), none, 0⟩,
 ⟨some 7, .mv (.const (.int .i64 1)), none, 0⟩]) <|
 .keep [6, 7] <|
 .ret)
 (.skip)) <|
 .seq (.seq (.ops [
 ⟨some 16, .mv (.tmp 2), none, 0⟩,
 ⟨some 17, .len (.tmp 16), none, 0⟩,
 ⟨some 18, .fld 0 (.tmp 3), none, 0⟩,
 ⟨some 19, .load false 1 (.tmp 18), none, 0⟩,
 ⟨some 20, .bin .neq (.tmp 17) (.tmp 19), none, 0⟩,
 ⟨some 21, .mv (.tmp 20), none, 0⟩,
 ⟨some 22, .load true 2 (.tmp 4), some (21, false), 0⟩,
 ⟨some 23, .mv (.tmp 2), some (21, false), 0⟩,
 ⟨some 24, .call k_zz33 [(.tmp 22), (.tmp 23)], some (21, false), 0⟩,
 ⟨some 25, .bin .neq (.tmp 24) (.const (.int .i64 0)), some (21, false), 0⟩,
 ⟨some 26, .pick (.tmp 21) (.const (.bool true)) (.tmp 25), none, 0⟩]) <|
 .cond (.tmp 26)
 (.seq (.ops [
 ⟨some 6, .mv (.const (.bool false)), none, 0⟩,
 ⟨some 7, .mv (.const (.int .i64 2)), none, 0⟩]) <|
 .keep [6, 7] <|
 .ret)
 (.skip)) <|
 .seq (.seq (.ops [
 ⟨some 27, .fld 0 (.tmp 3), none, 0⟩,
 ⟨some 28, .load false 1 (.tmp 27), none, 0⟩,
 ⟨some 29, .mv (.const (.int .i64 0)), none, 0⟩]) <|
 .block 0 <|
 .loop [2, 3, 4, 28, 29] i_zz48_B2) <|
 .seq (.ops [
 ⟨some 6, .mv (.const (.bool true)), none, 0⟩,
 ⟨some 7, .mv (.const (.int .i64 0)), none, 0⟩]) <|
 .keep [6, 7] <|
 .ret⟩
theorem e_zz48 : EntOK Tryd.prog (compD Tryd.prog) k_zz48 i_zz48.vf :=
 ⟨Tryd.f20, Tryd.f20.body.getD .skip, Tryd.func20, by kernel_rfl, by kernel_rfl, by kernel_rfl, by kernel_rfl, by kernel_rfl⟩
/-- loop.example/g01331/spec.DrawWalkGirth -/
def i_zz9 : FF := ⟨6, [.cell 2 true 3],
 .seq (.ops [
 ⟨some 2, .alloc [.int .i64 0, .int .i64 0, .slice none 0 0], none, 0⟩]) <|
 .seq (.ops [
 ⟨some 3, .mv (.tmp 0), none, 0⟩,
 ⟨some 4, .call k_zz55 [(.tmp 3)], none, 0⟩,
 ⟨some 5, .call k_zz59 [(.tmp 4)], none, 0⟩,
 ⟨none, .store 3 (.tmp 2) (.tmp 5), none, 0⟩]) <|
 .keep [2] <|
 .ret⟩
theorem e_zz9 : EntOK Tryd.prog (compD Tryd.prog) k_zz9 i_zz9.vf :=
 ⟨Tryd.f21, Tryd.f21.body.getD .skip, Tryd.func21, by kernel_rfl, by kernel_rfl, by kernel_rfl, by kernel_rfl, by kernel_rfl⟩
/-- loop.example/g01331/spec.WalkGirth -/
def i_zz35 : FF := ⟨13, [.tmp 2, .tmp 3],
 .seq (.ops [
 ⟨some 1, .box 3 (.tmp 0), none, 0⟩,
 ⟨some 2, .mv (.const (.int .i64 0)), none, 0⟩,
 ⟨some 3, .mv (.const (.int .i64 0)), none, 0⟩]) <|
 .seq (.seq (.ops [
 ⟨some 5, .load true 3 (.tmp 1), none, 0⟩,
 ⟨some 6, .call k_zz77 [(.tmp 5)], none, 0⟩,
 ⟨some 7, .un .not (.tmp 6), none, 0⟩]) <|
 .cond (.tmp 7)
 (.seq (.ops [
 ⟨some 2, .mv (.const (.int .i64 0)), none, 0⟩,
 ⟨some 3, .mv (.const (.int .i64 1)), none, 0⟩]) <|
 .keep [2, 3] <|
 .ret)
 (.skip)) <|
 .seq (.ops [
 ⟨some 8, .load true 3 (.tmp 1), none, 0⟩,
 ⟨some 9, .call k_zz38 [(.tmp 8)], none, 0⟩,
 ⟨some 4, .mv (.tmp 9), none, 0⟩]) <|
 .seq (.seq (.ops [
 ⟨some 10, .mv (.tmp 4), none, 0⟩,
 ⟨some 11, .bin .eql (.tmp 10) (.const (.int .i64 0)), none, 0⟩]) <|
 .cond (.tmp 11)
 (.seq (.ops [
 ⟨some 2, .mv (.const (.int .i64 0)), none, 0⟩,
 ⟨some 3, .mv (.const (.int .i64 4)), none, 0⟩]) <|
 .keep [2, 3] <|
 .ret)
 (.skip)) <|
 .seq (.ops [
 ⟨some 12, .mv (.tmp 4), none, 0⟩,
 ⟨some 2, .mv (.tmp 12), none, 0⟩,
 ⟨some 3, .mv (.const (.int .i64 0)), none, 0⟩]) <|
 .keep [2, 3] <|
 .ret⟩
theorem e_zz35 : EntOK Tryd.prog (compD Tryd.prog) k_zz35 i_zz35.vf :=
 ⟨Tryd.f22, Tryd.f22.body.getD .skip, Tryd.func22, by kernel_rfl, by kernel_rfl, by kernel_rfl, by kernel_rfl, by kernel_rfl⟩
/-- loop.example/g01331/spec.DrawLiftParts -/
def i_zz8 : FF := ⟨6, [.cell 2 true 3],
 .seq (.ops [
 ⟨some 2, .alloc [.int .i64 0, .int .i64 0, .slice none 0 0], none, 0⟩]) <|
 .seq (.ops [
 ⟨some 3, .mv (.tmp 0), none, 0⟩,
 ⟨some 4, .call k_zz55 [(.tmp 3)], none, 0⟩,
 ⟨some 5, .call k_zz59 [(.tmp 4)], none, 0⟩,
 ⟨none, .store 3 (.tmp 2) (.tmp 5), none, 0⟩]) <|
 .keep [2] <|
 .ret⟩
theorem e_zz8 : EntOK Tryd.prog (compD Tryd.prog) k_zz8 i_zz8.vf :=
 ⟨Tryd.f23, Tryd.f23.body.getD .skip, Tryd.func23, by kernel_rfl, by kernel_rfl, by kernel_rfl, by kernel_rfl, by kernel_rfl⟩
/-- loop.example/g01331/spec.LiftParts -/
def i_zz34 : FF := ⟨16, [.tmp 2, .tmp 3],
 .seq (.ops [
 ⟨some 1, .box 3 (.tmp 0), none, 0⟩,
 ⟨some 2, .mv (.const (.int .i64 0)), none, 0⟩,
 ⟨some 3, .mv (.const (.int .i64 0)), none, 0⟩]) <|
 .seq (.seq (.ops [
 ⟨some 6, .load true 3 (.tmp 1), none, 0⟩,
 ⟨some 7, .call k_zz77 [(.tmp 6)], none, 0⟩,
 ⟨some 8, .un .not (.tmp 7), none, 0⟩]) <|
 .cond (.tmp 8)
 (.seq (.ops [
 ⟨some 2, .mv (.const (.int .i64 0)), none, 0⟩,
 ⟨some 3, .mv (.const (.int .i64 1)), none, 0⟩]) <|
 .keep [2, 3] <|
 .ret)
 (.skip)) <|
 .seq (.ops [
 ⟨some 10, .load true 3 (.tmp 1), none, 0⟩,
 ⟨some 11, .call k_zz60 [(.tmp 10)], none, 0⟩,
 ⟨some 9, .mv (.tmp 11), none, 0⟩,
 ⟨some 12, .ext (.tmp 9) 0, none, 0⟩,
 ⟨some 13, .ext (.tmp 9) 1, none, 0⟩,
 ⟨some 4, .alloc [.int .i64 0, .slice none 0 0], none, 0⟩,
 ⟨none, .store 2 (.tmp 4) (.tmp 12), none, 0⟩,
 ⟨some 5, .mv (.tmp 13), none, 0⟩]) <|
 .seq (.ops [
 ⟨some 14, .load true 2 (.tmp 4), none, 0⟩,
 ⟨some 15, .call k_zz44 [(.tmp 14)], none, 0⟩,
 ⟨some 2, .mv (.tmp 15), none, 0⟩,
 ⟨some 3, .mv (.const (.int .i64 0)), none, 0⟩]) <|
 .keep [2, 3] <|
 .ret⟩
theorem e_zz34 : EntOK Tryd.prog (compD Tryd.prog) k_zz34 i_zz34.vf :=
 ⟨Tryd.f24, Tryd.f24.body.getD .skip, Tryd.func24, by kernel_rfl, by kernel_rfl, by kernel_rfl, by kernel_rfl, by kernel_rfl⟩
/-- loop.example/g01331/spec.DrawIsCover -/
def i_zz18_B1 : FC :=
 .seq (.seq (.ops [
 ⟨some 43, .mv (.tmp 13), none, 0⟩,
 ⟨some 44, .mv (.tmp 7), none, 0⟩,
 ⟨some 45, .bin .lss (.tmp 43) (.tmp 44), none, 0⟩]) <|
 .cond (.tmp 45)
 (.skip)
 (.keep [2, 3, 5, 6, 7, 8, 9, 10, 11] <|
 .exit 2)) <|
 .seq (.block 3 <|
 .dops [
 ⟨some 48, .load true 2 (.tmp 8), none, 0⟩,
 ⟨some 49, .mv (.tmp 10), none, 0⟩,
 ⟨some 50, .mv (.tmp 11), none, 0⟩,
 ⟨some 51, .idx 1 (.tmp 49) (.tmp 50), none, 0⟩,
 ⟨some 52, .load false 1 (.tmp 51), none, 0⟩,
 ⟨some 53, .idx 1 (.tmp 52) (.const (.int .i64 0)), none, 0⟩,
 ⟨some 54, .load false 1 (.tmp 53), none, 0⟩,
 ⟨some 55, .mv (.tmp 7), none, 0⟩,
 ⟨some 56, .bin .mul (.tmp 54) (.tmp 55), none, 0⟩,
 ⟨some 57, .mv (.tmp 13), none, 0⟩,
 ⟨some 58, .bin .add (.tmp 56) (.tmp 57), none, 0⟩,
 ⟨some 59, .mv (.tmp 10), none, 0⟩,
 ⟨some 60, .mv (.tmp 11), none, 0⟩,
 ⟨some 61, .idx 1 (.tmp 59) (.tmp 60), none, 0⟩,
 ⟨some 62, .load false 1 (.tmp 61), none, 0⟩,
 ⟨some 63, .idx 1 (.tmp 62) (.const (.int .i64 1)), none, 0⟩,
 ⟨some 64, .load false 1 (.tmp 63), none, 0⟩,
 ⟨some 65, .mv (.tmp 7), none, 0⟩,
 ⟨some 66, .bin .mul (.tmp 64) (.tmp 65), none, 0⟩,
 ⟨some 67, .mv (.tmp 13), none, 0⟩,
 ⟨some 68, .mv (.tmp 12), none, 0⟩,
 ⟨some 69, .bin .add (.tmp 67) (.tmp 68), none, 0⟩,
 ⟨some 70, .mv (.tmp 7), none, 0⟩,
 ⟨some 71, .bin .rem (.tmp 69) (.tmp 70), none, 0⟩,
 ⟨some 72, .bin .add (.tmp 66) (.tmp 71), none, 0⟩,
 ⟨some 73, .call k_zz70 [(.tmp 48), (.tmp 58), (.tmp 72)], none, 0⟩]) <|
 .ops [
 ⟨some 46, .mv (.tmp 13), none, 0⟩,
 ⟨some 47, .bin .add (.tmp 46) (.const (.int .i64 1)), none, 0⟩,
 ⟨some 13, .mv (.tmp 47), none, 0⟩]
def i_zz18_B2 : FC :=
 .seq (.seq (.ops [
 ⟨some 34, .mv (.tmp 11), none, 0⟩,
 ⟨some 35, .mv (.tmp 10), none, 0⟩,
 ⟨some 36, .len (.tmp 35), none, 0⟩,
 ⟨some 37, .bin .lss (.tmp 34) (.tmp 36), none, 0⟩]) <|
 .cond (.tmp 37)
 (.skip)
 (.keep [2, 3, 5, 6, 7, 8, 9] <|
 .exit 0)) <|
 .seq (.block 1 <|
 .seq (.ops [
 ⟨some 40, .mv (.tmp 5), none, 0⟩,
 ⟨some 41, .mv (.tmp 7), none, 0⟩,
 ⟨some 42, .call k_zz57 [(.tmp 40), (.tmp 41)], none, 0⟩,
 ⟨some 12, .mv (.tmp 42), none, 0⟩]) <|
 .seq (.ops [
 ⟨some 13, .mv (.const (.int .i64 0)), none, 0⟩]) <|
 .block 2 <|
 .loop [2, 3, 5, 6, 7, 8, 9, 10, 11, 12, 13] i_zz18_B1) <|
 .ops [
 ⟨some 38, .mv (.tmp 11), none, 0⟩,
 ⟨some 39, .bin .add (.tmp 38) (.const (.int .i64 1)), none, 0⟩,
 ⟨some 11, .mv (.tmp 39), none, 0⟩]
def i_zz18_B3 : FC :=
 .seq (.seq (.ops [
 ⟨some 74, .mv (.tmp 14), none, 0⟩,
 ⟨some 75, .fld 0 (.tmp 8), none, 0⟩,
 ⟨some 76, .load false 1 (.tmp 75), none, 0⟩,
 ⟨some 77, .bin .lss (.tmp 74) (.tmp 76), none, 0⟩]) <|
 .cond (.tmp 77)
 (.skip)
 (.keep [2, 3, 5, 6, 8, 9] <|
 .exit 4)) <|
 .seq (.block 5 <|
 .ops [
 ⟨some 80, .mv (.tmp 9), none, 0⟩,
 ⟨some 81, .mv (.tmp 14), none, 0⟩,
 ⟨some 82, .mv (.tmp 7), none, 0⟩,
 ⟨some 83, .bin .quo (.tmp 81) (.tmp 82), none, 0⟩,
 ⟨some 84, .buildSl 1 [.int .i64 0] [(0, 1, (.tmp 83))] 1, none, 0⟩,
 ⟨some 85, .app 1 8 [.int .i64 0] (.tmp 80) (.tmp 84), none, 0⟩,
 ⟨some 9, .mv (.tmp 85), none, 0⟩]) <|
 .ops [
 ⟨some 78, .mv (.tmp 14), none, 0⟩,
 ⟨some 79, .bin .add (.tmp 78) (.const (.int .i64 1)), none, 0⟩,
 ⟨some 14, .mv (.tmp 79), none, 0⟩]
def i_zz18 : FF := ⟨132, [.cell 2 true 2, .cell 3 true 2, .tmp 4],
 .seq (.ops [
 ⟨some 2, .alloc [.int .i64 0, .slice none 0 0], none, 0⟩,
 ⟨some 3, .alloc [.int .i64 0, .slice none 0 0], none, 0⟩,
 ⟨some 4, .mv (.const (.slice none 0 0)), none, 0⟩]) <|
 .seq (.ops [
 ⟨some 16, .mv (.tmp 0), none, 0⟩,
 ⟨some 17, .call k_zz55 [(.tmp 16)], none, 0⟩,
 ⟨some 5, .mv (.tmp 17), none, 0⟩]) <|
 .seq (.ops [
 ⟨some 18, .mv (.tmp 5), none, 0⟩,
 ⟨some 19, .mv (.tmp 5), none, 0⟩,
 ⟨some 20, .call k_zz57 [(.tmp 19), (.const (.int .i64 7))], none, 0⟩,
 ⟨some 21, .bin .add (.const (.int .i64 1)) (.tmp 20), none, 0⟩,
 ⟨some 22, .call k_zz36 [(.tmp 18), (.tmp 21)], none, 0⟩,
 ⟨some 6, .alloc [.int .i64 0, .slice none 0 0], none, 0⟩,
 ⟨none, .store 2 (.tmp 6) (.tmp 22), none, 0⟩]) <|
 .seq (.ops [
 ⟨some 23, .mv (.tmp 5), none, 0⟩,
 ⟨some 24, .buildSl 1 [.int .i64 0, .int .i64 0, .int .i64 0, .int .i64 0] [(0, 1, (.const (.int .i64 1))), (1, 1, (.const (.int .i64 2))), (2, 1, (.const (.int .i64 2))), (3, 1, (.const (.int .i64 3)))] 4, none, 0⟩,
 ⟨some 25, .call k_zz58 [(.tmp 23), (.tmp 24)], none, 0⟩,
 ⟨some 7, .mv (.tmp 25), none, 0⟩]) <|
 .seq (.ops [
 ⟨some 26, .fld 0 (.tmp 6), none, 0⟩,
 ⟨some 27, .load false 1 (.tmp 26), none, 0⟩,
 ⟨some 28, .mv (.tmp 7), none, 0⟩,
 ⟨some 29, .bin .mul (.tmp 27) (.tmp 28), none, 0⟩,
 ⟨some 30, .call k_zz43 [(.tmp 29)], none, 0⟩,
 ⟨some 31, .buildSl 1 [] [] 0, none, 0⟩,
 ⟨some 8, .alloc [.int .i64 0, .slice none 0 0], none, 0⟩,
 ⟨none, .store 2 (.tmp 8) (.tmp 30), none, 0⟩,
 ⟨some 9, .mv (.tmp 31), none, 0⟩]) <|
 .seq (.ops [
 ⟨some 32, .load true 2 (.tmp 6), none, 0⟩,
 ⟨some 33, .call k_zz42 [(.tmp 32)], none, 0⟩,
 ⟨some 10, .mv (.tmp 33), none, 0⟩]) <|
 .seq (.seq (.ops [
 ⟨some 11, .mv (.const (.int .i64 0)), none, 0⟩]) <|
 .block 0 <|
 .loop [2, 3, 5, 6, 7, 8, 9, 10, 11] i_zz18_B2) <|
 .seq (.seq (.ops [
 ⟨some 14, .mv (.const (.int .i64 0)), none, 0⟩]) <|
 .block 4 <|
 .loop [2, 3, 5, 6, 7, 8, 9, 14] i_zz18_B3) <|
 .seq (.seq (.ops [
 ⟨some 86, .mv (.tmp 5), none, 0⟩,
 ⟨some 87, .call k_zz57 [(.tmp 86), (.const (.int .i64 10))], none, 0⟩]) <|
 .block 6 <|
 .seq (.ops [
 ⟨some 89, .bin .eql (.tmp 87) (.const (.int .i64 0)), none, 0⟩,
 ⟨some 88, .mv (.tmp 89), none, 0⟩]) <|
 .cond (.tmp 88)
 (.dops [
 ⟨some 91, .mv (.tmp 5), none, 0⟩,
 ⟨some 92, .fld 0 (.tmp 8), none, 0⟩,
 ⟨some 93, .load false 1 (.tmp 92), none, 0⟩,
 ⟨some 94, .call k_zz57 [(.tmp 91), (.tmp 93)], none, 0⟩,
 ⟨some 95, .mv (.tmp 5), none, 1⟩,
 ⟨some 96, .fld 0 (.tmp 6), none, 1⟩,
 ⟨some 97, .load false 1 (.tmp 96), none, 1⟩,
 ⟨some 98, .buildSl 1 [.int .i64 0, .int .i64 0, .int .i64 0] [(0, 1, (.const (.int .i64 0))), (1, 1, (.const (.int .i64 (-1)))), (2, 1, (.tmp 97))] 3, none, 1⟩,
 ⟨some 99, .call k_zz58 [(.tmp 95), (.tmp 98)], none, 1⟩,
 ⟨some 90, .mv (.tmp 9), none, 3⟩,
 ⟨some 100, .idx 1 (.tmp 90) (.tmp 94), none, 1⟩,
 ⟨none, .store 1 (.tmp 100) (.tmp 99), none, 1⟩])
 (.seq (.ops [
 ⟨some 102, .bin .eql (.tmp 87) (.const (.int .i64 1)), none, 0⟩,
 ⟨some 101, .mv (.tmp 102), none, 0⟩]) <|
 .cond (.tmp 101)
 (.ops [
 ⟨some 103, .mv (.tmp 9), none, 0⟩,
 ⟨some 104, .buildSl 1 [.int .i64 0] [(0, 1, (.const (.int .i64 0)))] 1, none, 0⟩,
 ⟨some 105, .app 1 8 [.int .i64 0] (.tmp 103) (.tmp 104), none, 0⟩,
 ⟨some 9, .mv (.tmp 105), none, 0⟩])
 (.seq (.ops [
 ⟨some 107, .bin .eql (.tmp 87) (.const (.int .i64 2)), none, 0⟩,
 ⟨some 106, .mv (.tmp 107), none, 0⟩]) <|
 .cond (.tmp 106)
 (.seq (.ops [
 ⟨some 108, .load true 2 (.tmp 8), none, 0⟩,
 ⟨some 109, .call k_zz42 [(.tmp 108)], none, 0⟩,
 ⟨some 15, .mv (.tmp 109), none, 0⟩]) <|
 .seq (.ops [
 ⟨some 110, .mv (.tmp 15), none, 0⟩,
 ⟨some 111, .len (.tmp 110), none, 0⟩,
 ⟨some 112, .bin .gtr (.tmp 111) (.const (.int .i64 0)), none, 0⟩]) <|
 .cond (.tmp 112)
 (.dops [
 ⟨some 113, .load true 2 (.tmp 8), none, 0⟩,
 ⟨some 114, .mv (.tmp 15), none, 0⟩,
 ⟨some 115, .idx 1 (.tmp 114) (.const (.int .i64 0)), none, 0⟩,
 ⟨some 116, .load false 1 (.tmp 115), none, 0⟩,
 ⟨some 117, .idx 1 (.tmp 116) (.const (.int .i64 0)), none, 0⟩,
 ⟨some 118, .load false 1 (.tmp 117), none, 0⟩,
 ⟨some 119, .mv (.tmp 15), none, 0⟩,
 ⟨some 120, .idx 1 (.tmp 119) (.const (.int .i64 0)), none, 0⟩,
 ⟨some 121, .load false 1 (.tmp 120), none, 0⟩,
 ⟨some 122, .idx 1 (.tmp 121) (.const (.int .i64 1)), none, 0⟩,
 ⟨some 123, .load false 1 (.tmp 122), none, 0⟩,
 ⟨some 124, .call k_zz67 [(.tmp 113), (.tmp 118), (.tmp 123)], none, 0⟩,
 ⟨none, .store 2 (.tmp 8) (.tmp 124), none, 0⟩])
 (.skip))
 (.skip)))) <|
 .seq (.dops [
 ⟨some 125, .mv (.tmp 5), none, 0⟩,
 ⟨some 126, .load true 2 (.tmp 8), none, 0⟩,
 ⟨some 127, .call k_zz66 [(.tmp 125), (.tmp 126)], none, 0⟩,
 ⟨some 128, .mv (.tmp 5), none, 1⟩,
 ⟨some 129, .load true 2 (.tmp 6), none, 1⟩,
 ⟨some 130, .call k_zz66 [(.tmp 128), (.tmp 129)], none, 0⟩,
 ⟨none, .store 2 (.tmp 2) (.tmp 127), none, 0⟩,
 ⟨none, .store 2 (.tmp 3) (.tmp 130), none, 0⟩,
 ⟨some 131, .mv (.tmp 9), none, 4⟩,
 ⟨some 4, .mv (.tmp 131), none, 0⟩]) <|
 .keep [2, 3, 4] <|
 .ret⟩
theorem e_zz18 : EntOK Tryd.prog (compD Tryd.prog) k_zz18 i_zz18.vf :=
 ⟨Tryd.f25, Tryd.f25.body.getD .skip, Tryd.func25, by kernel_rfl, by kernel_rfl, by kernel_rfl, by kernel_rfl, by kernel_rfl⟩
/-- loop.example/g01331/spec.IsCover -/
def i_zz53_B1 : FC :=
 .seq (.seq (.ops [
 ⟨some 27, .mv (.tmp 8), none, 0⟩,
 ⟨some 28, .mv (.tmp 2), none, 0⟩,
 ⟨some 29, .len (.tmp 28), none, 0⟩,
 ⟨some 30, .bin .lss (.tmp 27) (.tmp 29), none, 0⟩]) <|
 .cond (.tmp 30)
 (.skip)
 (.keep [2, 3, 4] <|
 .exit 0)) <|
 .seq (.block 1 <|
 .seq (.dops [
 ⟨some 33, .mv (.tmp 2), none, 0⟩,
 ⟨some 34, .mv (.tmp 8), none, 0⟩,
 ⟨some 35, .idx 1 (.tmp 33) (.tmp 34), none, 0⟩,
 ⟨some 36, .load false 1 (.tmp 35), none, 0⟩,
 ⟨some 37, .fld 0 (.tmp 4), none, 0⟩,
 ⟨some 38, .load false 1 (.tmp 37), none, 0⟩,
 ⟨some 39, .bin .sub (.tmp 38) (.const (.int .i64 1)), none, 0⟩,
 ⟨some 40, .call k_zz75 [(.tmp 36), (.const (.int .i64 0)), (.tmp 39)], none, 0⟩,
 ⟨some 41, .un .not (.tmp 40), none, 0⟩]) <|
 .cond (.tmp 41)
 (.seq (.ops [
 ⟨some 6, .mv (.const (.bool false)), none, 0⟩,
 ⟨some 7, .mv (.const (.int .i64 2)), none, 0⟩]) <|
 .keep [6, 7] <|
 .ret)
 (.skip)) <|
 .ops [
 ⟨some 31, .mv (.tmp 8), none, 0⟩,
 ⟨some 32, .bin .add (.tmp 31) (.const (.int .i64 1)), none, 0⟩,
 ⟨some 8, .mv (.tmp 32), none, 0⟩]
def i_zz53_B2 : FC :=
 .seq (.seq (.ops [
 ⟨some 51, .mv (.tmp 12), none, 0⟩,
 ⟨some 52, .mv (.tmp 10), none, 0⟩,
 ⟨some 53, .len (.tmp 52), none, 0⟩,
 ⟨some 54, .bin .lss (.tmp 51) (.tmp 53), none, 0⟩]) <|
 .cond (.tmp 54)
 (.skip)
 (.keep [2, 3, 4, 9, 11] <|
 .exit 4)) <|
 .seq (.block 5 <|
 .seq (.ops [
 ⟨some 57, .mv (.tmp 2), none, 0⟩,
 ⟨some 58, .mv (.tmp 10), none, 0⟩,
 ⟨some 59, .mv (.tmp 12), none, 0⟩,
 ⟨some 60, .idx 1 (.tmp 58) (.tmp 59), none, 0⟩,
 ⟨some 61, .load false 1 (.tmp 60), none, 0⟩,
 ⟨some 62, .idx 1 (.tmp 57) (.tmp 61), none, 0⟩,
 ⟨some 63, .load false 1 (.tmp 62), none, 0⟩,
 ⟨some 64, .conv .u64 (.tmp 63), none, 0⟩,
 ⟨some 65, .bin .shl (.const (.int .i64 1)) (.tmp 64), none, 0⟩,
 ⟨some 13, .mv (.tmp 65), none, 0⟩]) <|
 .seq (.seq (.ops [
 ⟨some 66, .mv (.tmp 11), none, 0⟩,
 ⟨some 67, .mv (.tmp 13), none, 0⟩,
 ⟨some 68, .bin .and (.tmp 66) (.tmp 67), none, 0⟩,
 ⟨some 69, .bin .neq (.tmp 68) (.const (.int .i64 0)), none, 0⟩]) <|
 .cond (.tmp 69)
 (.seq (.ops [
 ⟨some 6, .mv (.const (.bool false)), none, 0⟩,
 ⟨some 7, .mv (.const (.int .i64 0)), none, 0⟩]) <|
 .keep [6, 7] <|
 .ret)
 (.skip)) <|
 .ops [
 ⟨some 70, .mv (.tmp 11), none, 0⟩,
 ⟨some 71, .mv (.tmp 13), none, 0⟩,
 ⟨some 72, .bin .or (.tmp 70) (.tmp 71), none, 0⟩,
 ⟨some 11, .mv (.tmp 72), none, 0⟩]) <|
 .ops [
 ⟨some 55, .mv (.tmp 12), none, 0⟩,
 ⟨some 56, .bin .add (.tmp 55) (.const (.int .i64 1)), none, 0⟩,
 ⟨some 12, .mv (.tmp 56), none, 0⟩]
def i_zz53_B3 : FC :=
 .seq (.seq (.ops [
 ⟨some 42, .mv (.tmp 9), none, 0⟩,
 ⟨some 43, .fld 0 (.tmp 3), none, 0⟩,
 ⟨some 44, .load false 1 (.tmp 43), none, 0⟩,
 ⟨some 45, .bin .lss (.tmp 42) (.tmp 44), none, 0⟩]) <|
 .cond (.tmp 45)
 (.skip)
 (.keep [] <|
 .exit 2)) <|
 .seq (.block 3 <|
 .seq (.ops [
 ⟨some 48, .load true 2 (.tmp 3), none, 0⟩,
 ⟨some 49, .mv (.tmp 9), none, 0⟩,
 ⟨some 50, .call k_zz10 [(.tmp 48), (.tmp 49)], none, 0⟩,
 ⟨some 10, .mv (.tmp 50), none, 0⟩,
 ⟨some 11, .mv (.const (.int .i64 0)), none, 0⟩]) <|
 .seq (.seq (.ops [
 ⟨some 12, .mv (.const (.int .i64 0)), none, 0⟩]) <|
 .block 4 <|
 .loop [2, 3, 4, 9, 10, 11, 12] i_zz53_B2) <|
 .seq (.dops [
 ⟨some 73, .mv (.tmp 11), none, 0⟩,
 ⟨some 74, .fld 1 (.tmp 4), none, 0⟩,
 ⟨some 75, .load false 1 (.tmp 74), none, 0⟩,
 ⟨some 76, .mv (.tmp 2), none, 0⟩,
 ⟨some 77, .mv (.tmp 9), none, 0⟩,
 ⟨some 78, .idx 1 (.tmp 76) (.tmp 77), none, 0⟩,
 ⟨some 79, .load false 1 (.tmp 78), none, 0⟩,
 ⟨some 80, .idx 1 (.tmp 75) (.tmp 79), none, 0⟩,
 ⟨some 81, .load false 1 (.tmp 80), none, 0⟩,
 ⟨some 82, .bin .neq (.tmp 73) (.tmp 81), none, 0⟩]) <|
 .cond (.tmp 82)
 (.seq (.ops [
 ⟨some 6, .mv (.const (.bool false)), none, 0⟩,
 ⟨some 7, .mv (.const (.int .i64 0)), none, 0⟩]) <|
 .keep [6, 7] <|
 .ret)
 (.skip)) <|
 .ops [
 ⟨some 46, .mv (.tmp 9), none, 0⟩,
 ⟨some 47, .bin .add (.tmp 46) (.const (.int .i64 1)), none, 0⟩,
 ⟨some 9, .mv (.tmp 47), none, 0⟩]
def i_zz53 : FF := ⟨83, [.tmp 6, .tmp 7],
 .seq (.ops [
 ⟨some 3, .box 2 (.tmp 0), none, 0⟩,
 ⟨some 4, .box 2 (.tmp 1), none, 0⟩,
 ⟨some 6, .mv (.const (.bool false)), none, 0⟩,
 ⟨some 7, .mv (.const (.int .i64 0)), none, 0⟩]) <|
 .seq (.seq (.ops [
 ⟨some 14, .load true 2 (.tmp 3), none, 0⟩,
 ⟨some 15, .call k_zz76 [(.tmp 14)], none, 0⟩,
 ⟨some 16, .un .not (.tmp 15), none, 0⟩,
 ⟨some 17, .mv (.tmp 16), none, 0⟩,
 ⟨some 18, .load true 2 (.tmp 4), some (17, false), 0⟩,
 ⟨some 19, .call k_zz76 [(.tmp 18)], some (17, false), 0⟩,
 ⟨some 20, .un .not (.tmp 19), some (17, false), 0⟩,
 ⟨some 21, .pick (.tmp 17) (.const (.bool true)) (.tmp 20), none, 0⟩]) <|
 .cond (.tmp 21)
 (.seq (.ops [
 ⟨some 6, .mv (.const (.bool false)), none, 0⟩,
 ⟨some 7, .mv (.const (.int .i64 1)), none, 0⟩]) <|
 .keep [6, 7] <|
 .ret)
 (.skip)) <|
 .seq (.seq (.ops [
 ⟨some 22, .mv (.tmp 2), none, 0⟩,
 ⟨some 23, .len (.tmp 22), none, 0⟩,
 ⟨some 24, .fld 0 (.tmp 3), none, 0⟩,
 ⟨some 25, .load false 1 (.tmp 24), none, 0⟩,
 ⟨some 26, .bin .neq (.tmp 23) (.tmp 25), none, 0⟩]) <|
 .cond (.tmp 26)
 (.seq (.ops [
 ⟨some 6, .mv (.const (.bool false)), none, 0⟩,
 ⟨some 7, .mv (.const (.int .i64 2)), none, 0⟩]) <|
 .keep [6, 7] <|
 .ret)
 (.skip)) <|
 .seq (.seq (.ops [
 ⟨some 8, .mv (.const (.int .i64 0)), none, 0⟩]) <|
 .block 0 <|
 .loop [2, 3, 4, 8] i_zz53_B1) <|
 .seq (.seq (.ops [
 ⟨some 9, .mv (.const (.int .i64 0)), none, 0⟩]) <|
 .block 2 <|
 .loop [2, 3, 4, 9] i_zz53_B3) <|
 .seq (.ops [
 ⟨some 6, .mv (.const (.bool true)), none, 0⟩,
 ⟨some 7, .mv (.const (.int .i64 0)), none, 0⟩]) <|
 .keep [6, 7] <|
 .ret⟩
theorem e_zz53 : EntOK Tryd.prog (compD Tryd.prog) k_zz53 i_zz53.vf :=
 ⟨Tryd.f26, Tryd.f26.body.getD .skip, Tryd.func26, by kernel_rfl, by kernel_rfl, by kernel_rfl, by kernel_rfl, by kernel_rfl⟩
/-- loop.example/g01331/spec.DrawCoverOfLift -/
def i_zz6 : FF := ⟨6, [.cell 2 true 3],
 .seq (.ops [
 ⟨some 2, .alloc [.int .i64 0, .int .i64 0, .slice none 0 0], none, 0⟩]) <|
 .seq (.ops [
 ⟨some 3, .mv (.tmp 0), none, 0⟩,
 ⟨some 4, .call k_zz55 [(.tmp 3)], none, 0⟩,
 ⟨some 5, .call k_zz59 [(.tmp 4)], none, 0⟩,
 ⟨none, .store 3 (.tmp 2) (.tmp 5), none, 0⟩]) <|
 .keep [2] <|
 .ret⟩
theorem e_zz6 : EntOK Tryd.prog (compD Tryd.prog) k_zz6 i_zz6.vf :=
 ⟨Tryd.f27, Tryd.f27.body.getD .skip, Tryd.func27, by kernel_rfl, by kernel_rfl, by kernel_rfl, by kernel_rfl, by kernel_rfl⟩
/-- loop.example/g01331/spec.CoverOfLift -/
def i_zz17_B1 : FC :=
 .seq (.seq (.ops [
 ⟨some 10, .mv (.tmp 5), none, 0⟩,
 ⟨some 11, .fld 0 (.tmp 1), none, 0⟩,
 ⟨some 12, .load false 1 (.tmp 11), none, 0⟩,
 ⟨some 13, .fld 1 (.tmp 1), none, 0⟩,
 ⟨some 14, .load false 1 (.tmp 13), none, 0⟩,
 ⟨some 15, .bin .mul (.tmp 12) (.tmp 14), none, 0⟩,
 ⟨some 16, .bin .lss (.tmp 10) (.tmp 15), none, 0⟩]) <|
 .cond (.tmp 16)
 (.skip)
 (.keep [4] <|
 .exit 0)) <|
 .seq (.block 1 <|
 .ops [
 ⟨some 19, .mv (.tmp 4), none, 0⟩,
 ⟨some 20, .mv (.tmp 5), none, 0⟩,
 ⟨some 21, .fld 1 (.tmp 1), none, 0⟩,
 ⟨some 22, .load false 1 (.tmp 21), none, 0⟩,
 ⟨some 23, .bin .quo (.tmp 20) (.tmp 22), none, 0⟩,
 ⟨some 24, .buildSl 1 [.int .i64 0] [(0, 1, (.tmp 23))] 1, none, 0⟩,
 ⟨some 25, .app 1 8 [.int .i64 0] (.tmp 19) (.tmp 24), none, 0⟩,
 ⟨some 4, .mv (.tmp 25), none, 0⟩]) <|
 .ops [
 ⟨some 17, .mv (.tmp 5), none, 0⟩,
 ⟨some 18, .bin .add (.tmp 17) (.const (.int .i64 1)), none, 0⟩,
 ⟨some 5, .mv (.tmp 18), none, 0⟩]
def i_zz17 : FF := ⟨27, [.tmp 2, .tmp 3],
 .seq (.ops [
 ⟨some 1, .box 3 (.tmp 0), none, 0⟩,
 ⟨some 2, .mv (.const (.slice none 0 0)), none, 0⟩,
 ⟨some 3, .mv (.const (.int .i64 0)), none, 0⟩]) <|
 .seq (.seq (.ops [
 ⟨some 6, .load true 3 (.tmp 1), none, 0⟩,
 ⟨some 7, .call k_zz77 [(.tmp 6)], none, 0⟩,
 ⟨some 8, .un .not (.tmp 7), none, 0⟩]) <|
 .cond (.tmp 8)
 (.seq (.ops [
 ⟨some 2, .mv (.const (.slice none 0 0)), none, 0⟩,
 ⟨some 3, .mv (.const (.int .i64 1)), none, 0⟩]) <|
 .keep [2, 3] <|
 .ret)
 (.skip)) <|
 .seq (.ops [
 ⟨some 9, .buildSl 1 [] [] 0, none, 0⟩,
 ⟨some 4, .mv (.tmp 9), none, 0⟩]) <|
 .seq (.seq (.ops [
 ⟨some 5, .mv (.const (.int .i64 0)), none, 0⟩]) <|
 .block 0 <|
 .loop [1, 4, 5] i_zz17_B1) <|
 .seq (.ops [
 ⟨some 26, .mv (.tmp 4), none, 0⟩,
 ⟨some 2, .mv (.tmp 26), none, 0⟩,
 ⟨some 3, .mv (.const (.int .i64 0)), none, 0⟩]) <|
 .keep [2, 3] <|
 .ret⟩
theorem e_zz17 : EntOK Tryd.prog (compD Tryd.prog) k_zz17 i_zz17.vf :=
 ⟨Tryd.f28, Tryd.f28.body.getD .skip, Tryd.func28, by kernel_rfl, by kernel_rfl, by kernel_rfl, by kernel_rfl, by kernel_rfl⟩
/-- loop.example/g01331/laws.likeInts -/
def i_zz40_B1 : FC :=
 .seq (.seq (.ops [
 ⟨some 11, .mv (.tmp 5), none, 0⟩,
 ⟨some 12, .mv (.tmp 0), none, 0⟩,
 ⟨some 13, .len (.tmp 12), none, 0⟩,
 ⟨some 14, .bin .lss (.tmp 11) (.tmp 13), none, 0⟩]) <|
 .cond (.tmp 14)
 (.skip)
 (.keep [] <|
 .exit 0)) <|
 .seq (.block 1 <|
 .seq (.dops [
 ⟨some 17, .mv (.tmp 0), none, 0⟩,
 ⟨some 18, .mv (.tmp 5), none, 0⟩,
 ⟨some 19, .idx 1 (.tmp 17) (.tmp 18), none, 0⟩,
 ⟨some 20, .load false 1 (.tmp 19), none, 0⟩,
 ⟨some 21, .mv (.tmp 1), none, 0⟩,
 ⟨some 22, .mv (.tmp 5), none, 0⟩,
 ⟨some 23, .idx 1 (.tmp 21) (.tmp 22), none, 0⟩,
 ⟨some 24, .load false 1 (.tmp 23), none, 0⟩,
 ⟨some 25, .bin .neq (.tmp 20) (.tmp 24), none, 0⟩]) <|
 .cond (.tmp 25)
 (.seq (.ops [
 ⟨some 4, .mv (.const (.bool false)), none, 0⟩]) <|
 .keep [4] <|
 .ret)
 (.skip)) <|
 .ops [
 ⟨some 15, .mv (.tmp 5), none, 0⟩,
 ⟨some 16, .bin .add (.tmp 15) (.const (.int .i64 1)), none, 0⟩,
 ⟨some 5, .mv (.tmp 16), none, 0⟩]
def i_zz40 : FF := ⟨26, [.tmp 4],
 .seq (.ops [
 ⟨some 4, .mv (.const (.bool false)), none, 0⟩]) <|
 .seq (.seq (.ops [
 ⟨some 6, .mv (.tmp 0), none, 0⟩,
 ⟨some 7, .len (.tmp 6), none, 0⟩,
 ⟨some 8, .mv (.tmp 1), none, 0⟩,
 ⟨some 9, .len (.tmp 8), none, 0⟩,
 ⟨some 10, .bin .neq (.tmp 7) (.tmp 9), none, 0⟩]) <|
 .cond (.tmp 10)
 (.seq (.ops [
 ⟨some 4, .mv (.const (.bool false)), none, 0⟩]) <|
 .keep [4] <|
 .ret)
 (.skip)) <|
 .seq (.seq (.ops [
 ⟨some 5, .mv (.const (.int .i64 0)), none, 0⟩]) <|
 .block 0 <|
 .loop [0, 1, 5] i_zz40_B1) <|
 .seq (.ops [
 ⟨some 4, .mv (.const (.bool true)), none, 0⟩]) <|
 .keep [4] <|
 .ret⟩
theorem e_zz40 : EntOK Tryd.prog (compD Tryd.prog) k_zz40 i_zz40.vf :=
 ⟨Tryd.f29, Tryd.f29.body.getD .skip, Tryd.func29, by kernel_rfl, by kernel_rfl, by kernel_rfl, by kernel_rfl, by kernel_rfl⟩
/-- loop.example/g01331/spec.l03Draw -/
def i_zz59 : FF := ⟨7, [.cell 2 true 3],
 .seq (.ops [
 ⟨some 2, .alloc [.int .i64 0, .int .i64 0, .slice none 0 0], none, 0⟩]) <|
 .seq (.ops [
 ⟨some 3, .mv (.tmp 0), none, 0⟩,
 ⟨some 4, .mv (.tmp 0), none, 0⟩,
 ⟨some 5, .call k_zz37 [(.tmp 4)], none, 0⟩,
 ⟨some 6, .call k_zz71 [(.tmp 3), (.tmp 5)], none, 0⟩,
 ⟨none, .store 3 (.tmp 2) (.tmp 6), none, 0⟩]) <|
 .keep [2] <|
 .ret⟩
theorem e_zz59 : EntOK Tryd.prog (compD Tryd.prog) k_zz59 i_zz59.vf :=
 ⟨Tryd.f30, Tryd.f30.body.getD .skip, Tryd.func30, by kernel_rfl, by kernel_rfl, by kernel_rfl, by kernel_rfl, by kernel_rfl⟩
/-- loop.example/g01331/spec.l01From -/
def i_zz55_B1 : FC :=
 .seq (.seq (.ops [
 ⟨some 12, .mv (.tmp 4), none, 0⟩,
 ⟨some 13, .mv (.tmp 0), none, 0⟩,
 ⟨some 14, .len (.tmp 13), none, 0⟩,
 ⟨some 15, .bin .lss (.tmp 12) (.tmp 14), none, 0⟩,
 ⟨some 16, .mv (.tmp 15), none, 0⟩,
 ⟨some 17, .mv (.tmp 4), some (16, true), 0⟩,
 ⟨some 18, .bin .lss (.tmp 17) (.const (.int .i64 4096)), some (16, true), 0⟩,
 ⟨some 19, .pick (.tmp 16) (.tmp 18) (.const (.bool false)), none, 0⟩]) <|
 .cond (.tmp 19)
 (.skip)
 (.keep [3] <|
 .exit 0)) <|
 .seq (.block 1 <|
 .dops [
 ⟨some 22, .mv (.tmp 3), none, 0⟩,
 ⟨some 23, .mv (.tmp 3), none, 0⟩,
 ⟨some 24, .nilchk (.tmp 23), none, 0⟩,
 ⟨some 25, .fld 2 (.tmp 24), none, 0⟩,
 ⟨some 26, .load false 1 (.tmp 25), none, 0⟩,
 ⟨some 27, .bin .mul (.tmp 26) (.const (.int .u64 1099511628211)), none, 0⟩,
 ⟨some 28, .mv (.tmp 0), none, 0⟩,
 ⟨some 29, .mv (.tmp 4), none, 0⟩,
 ⟨some 30, .idx 1 (.tmp 28) (.tmp 29), none, 0⟩,
 ⟨some 31, .load false 1 (.tmp 30), none, 0⟩,
 ⟨some 32, .conv .u64 (.tmp 31), none, 0⟩,
 ⟨some 33, .bin .add (.tmp 27) (.tmp 32), none, 0⟩,
 ⟨some 34, .bin .add (.tmp 33) (.const (.int .u64 157)), none, 0⟩,
 ⟨some 35, .nilchk (.tmp 22), none, 0⟩,
 ⟨some 36, .fld 2 (.tmp 35), none, 0⟩,
 ⟨none, .store 1 (.tmp 36) (.tmp 34), none, 0⟩]) <|
 .ops [
 ⟨some 20, .mv (.tmp 4), none, 0⟩,
 ⟨some 21, .bin .add (.tmp 20) (.const (.int .i64 1)), none, 0⟩,
 ⟨some 4, .mv (.tmp 21), none, 0⟩]
def i_zz55 : FF := ⟨38, [.tmp 2],
 .seq (.ops [
 ⟨some 2, .mv (.const (.pointer none)), none, 0⟩]) <|
 .seq (.ops [
 ⟨some 5, .mv (.tmp 0), none, 0⟩,
 ⟨some 6, .mv (.tmp 0), none, 0⟩,
 ⟨some 7, .len (.tmp 6), none, 0⟩,
 ⟨some 8, .conv .u64 (.tmp 7), none, 0⟩,
 ⟨some 9, .bin .add (.const (.int .u64 13311)) (.tmp 8), none, 0⟩,
 ⟨some 10, .build [.slice none 0 0, .int .i64 0, .int .u64 0] [(0, 1, (.tmp 5)), (2, 1, (.tmp 9))], none, 0⟩,
 ⟨some 11, .box 3 (.tmp 10), none, 0⟩,
 ⟨some 3, .mv (.tmp 11), none, 0⟩]) <|
 .seq (.seq (.ops [
 ⟨some 4, .mv (.const (.int .i64 0)), none, 0⟩]) <|
 .block 0 <|
 .loop [0, 3, 4] i_zz55_B1) <|
 .seq (.ops [
 ⟨some 37, .mv (.tmp 3), none, 0⟩,
 ⟨some 2, .mv (.tmp 37), none, 0⟩]) <|
 .keep [2] <|
 .ret⟩
theorem e_zz55 : EntOK Tryd.prog (compD Tryd.prog) k_zz55 i_zz55.vf :=
 ⟨Tryd.f31, Tryd.f31.body.getD .skip, Tryd.func31, by kernel_rfl, by kernel_rfl, by kernel_rfl, by kernel_rfl, by kernel_rfl⟩
/-- loop.example/g01331/impl.lift -/
def i_zz78_B1 : FC :=
 .seq (.ops [
 ⟨some 24, .bin .lss (.tmp 23) (.tmp 22), none, 0⟩]) <|
 .seq (.cond (.tmp 24)
 (.skip)
 (.keep [2, 3, 4, 16, 17, 18] <|
 .exit 2)) <|
 .seq (.block 3 <|
 .seq (.ops [
 ⟨some 25, .mv (.tmp 23), none, 0⟩,
 ⟨some 7, .mv (.tmp 25), none, 0⟩]) <|
 .dops [
 ⟨some 26, .load true 2 (.tmp 4), none, 0⟩,
 ⟨some 27, .fld 0 (.tmp 6), none, 0⟩,
 ⟨some 28, .load false 1 (.tmp 27), none, 0⟩,
 ⟨some 29, .mv (.tmp 3), none, 0⟩,
 ⟨some 30, .bin .mul (.tmp 28) (.tmp 29), none, 0⟩,
 ⟨some 31, .mv (.tmp 7), none, 0⟩,
 ⟨some 32, .bin .add (.tmp 30) (.tmp 31), none, 0⟩,
 ⟨some 33, .fld 1 (.tmp 6), none, 0⟩,
 ⟨some 34, .load false 1 (.tmp 33), none, 0⟩,
 ⟨some 35, .mv (.tmp 3), none, 0⟩,
 ⟨some 36, .bin .mul (.tmp 34) (.tmp 35), none, 0⟩,
 ⟨some 37, .mv (.tmp 7), none, 0⟩,
 ⟨some 38, .fld 2 (.tmp 6), none, 0⟩,
 ⟨some 39, .load false 1 (.tmp 38), none, 0⟩,
 ⟨some 40, .bin .add (.tmp 37) (.tmp 39), none, 0⟩,
 ⟨some 41, .mv (.tmp 3), none, 0⟩,
 ⟨some 42, .bin .rem (.tmp 40) (.tmp 41), none, 0⟩,
 ⟨some 43, .bin .add (.tmp 36) (.tmp 42), none, 0⟩,
 ⟨some 44, .call k_zz28 [(.tmp 26), (.tmp 32), (.tmp 43)], none, 0⟩]) <|
 .ops [
 ⟨some 45, .bin .add (.tmp 23) (.const (.int .i64 1)), none, 0⟩,
 ⟨some 23, .mv (.tmp 45), none, 0⟩]
def i_zz78_B2 : FC :=
 .seq (.ops [
 ⟨some 19, .bin .lss (.tmp 18) (.tmp 17), none, 0⟩]) <|
 .seq (.cond (.tmp 19)
 (.skip)
 (.keep [2, 4] <|
 .exit 0)) <|
 .seq (.block 1 <|
 .seq (.ops [
 ⟨some 20, .idx 3 (.tmp 16) (.tmp 18), none, 0⟩,
 ⟨some 21, .load true 3 (.tmp 20), none, 0⟩,
 ⟨some 6, .alloc [.int .i64 0, .int .i64 0, .int .i64 0], none, 0⟩,
 ⟨none, .store 3 (.tmp 6) (.tmp 21), none, 0⟩]) <|
 .seq (.ops [
 ⟨some 22, .mv (.tmp 3), none, 0⟩,
 ⟨some 23, .mv (.const (.int .i64 0)), none, 0⟩]) <|
 .block 2 <|
 .loop [2, 3, 4, 6, 16, 17, 18, 22, 23] i_zz78_B1) <|
 .ops [
 ⟨some 46, .bin .add (.tmp 18) (.const (.int .i64 1)), none, 0⟩,
 ⟨some 18, .mv (.tmp 46), none, 0⟩]
def i_zz78 : FF := ⟨48, [.cell 2 true 2],
 .seq (.ops [
 ⟨some 1, .box 3 (.tmp 0), none, 0⟩,
 ⟨some 2, .alloc [.int .i64 0, .slice none 0 0], none, 0⟩]) <|
 .seq (.ops [
 ⟨some 8, .fld 1 (.tmp 1), none, 0⟩,
 ⟨some 9, .load false 1 (.tmp 8), none, 0⟩,
 ⟨some 3, .mv (.tmp 9), none, 0⟩]) <|
 .seq (.ops [
 ⟨some 10, .fld 0 (.tmp 1), none, 0⟩,
 ⟨some 11, .load false 1 (.tmp 10), none, 0⟩,
 ⟨some 12, .mv (.tmp 3), none, 0⟩,
 ⟨some 13, .bin .mul (.tmp 11) (.tmp 12), none, 0⟩,
 ⟨some 14, .call k_zz72 [(.tmp 13)], none, 0⟩,
 ⟨some 4, .alloc [.int .i64 0, .slice none 0 0], none, 0⟩,
 ⟨none, .store 2 (.tmp 4) (.tmp 14), none, 0⟩]) <|
 .seq (.seq (.ops [
 ⟨some 15, .fld 2 (.tmp 1), none, 0⟩,
 ⟨some 16, .load false 1 (.tmp 15), none, 0⟩,
 ⟨some 17, .len (.tmp 16), none, 0⟩,
 ⟨some 18, .mv (.const (.int .i64 0)), none, 0⟩]) <|
 .block 0 <|
 .loop [2, 3, 4, 16, 17, 18] i_zz78_B2) <|
 .seq (.ops [
 ⟨some 47, .load true 2 (.tmp 4), none, 0⟩,
 ⟨none, .store 2 (.tmp 2) (.tmp 47), none, 0⟩]) <|
 .keep [2] <|
 .ret⟩
theorem e_zz78 : EntOK Tryd.prog (compD Tryd.prog) k_zz78 i_zz78.vf :=
 ⟨Tryd.f32, Tryd.f32.body.getD .skip, Tryd.func32, by kernel_rfl, by kernel_rfl, by kernel_rfl, by kernel_rfl, by kernel_rfl⟩
/-- loop.example/g01331/spec.l03Is -/
def i_zz77_B1 : FC :=
 .seq (.seq (.ops [
 ⟨some 29, .mv (.tmp 3), none, 0⟩,
 ⟨some 30, .fld 2 (.tmp 1), none, 0⟩,
 ⟨some 31, .load false 1 (.tmp 30), none, 0⟩,
 ⟨some 32, .len (.tmp 31), none, 0⟩,
 ⟨some 33, .bin .lss (.tmp 29) (.tmp 32), none, 0⟩]) <|
 .cond (.tmp 33)
 (.skip)
 (.keep [] <|
 .exit 0)) <|
 .seq (.block 1 <|
 .seq (.ops [
 ⟨some 36, .fld 2 (.tmp 1), none, 0⟩,
 ⟨some 37, .load false 1 (.tmp 36), none, 0⟩,
 ⟨some 38, .mv (.tmp 3), none, 0⟩,
 ⟨some 39, .idx 3 (.tmp 37) (.tmp 38), none, 0⟩,
 ⟨some 40, .load true 3 (.tmp 39), none, 0⟩,
 ⟨some 4, .alloc [.int .i64 0, .int .i64 0, .int .i64 0], none, 0⟩,
 ⟨none, .store 3 (.tmp 4) (.tmp 40), none, 0⟩]) <|
 .seq (.ops [
 ⟨some 41, .fld 0 (.tmp 4), none, 0⟩,
 ⟨some 42, .load false 1 (.tmp 41), none, 0⟩,
 ⟨some 43, .fld 0 (.tmp 1), none, 0⟩,
 ⟨some 44, .load false 1 (.tmp 43), none, 0⟩,
 ⟨some 45, .bin .sub (.tmp 44) (.const (.int .i64 1)), none, 0⟩,
 ⟨some 46, .call k_zz75 [(.tmp 42), (.const (.int .i64 0)), (.tmp 45)], none, 0⟩,
 ⟨some 47, .un .not (.tmp 46), none, 0⟩,
 ⟨some 48, .mv (.tmp 47), none, 0⟩,
 ⟨some 49, .fld 1 (.tmp 4), some (48, false), 0⟩,
 ⟨some 50, .load false 1 (.tmp 49), some (48, false), 0⟩,
 ⟨some 51, .fld 0 (.tmp 1), some (48, false), 0⟩,
 ⟨some 52, .load false 1 (.tmp 51), some (48, false), 0⟩,
 ⟨some 53, .bin .sub (.tmp 52) (.const (.int .i64 1)), some (48, false), 0⟩,
 ⟨some 54, .call k_zz75 [(.tmp 50), (.const (.int .i64 0)), (.tmp 53)], some (48, false), 0⟩,
 ⟨some 55, .un .not (.tmp 54), some (48, false), 0⟩,
 ⟨some 56, .pick (.tmp 48) (.const (.bool true)) (.tmp 55), none, 0⟩,
 ⟨some 57, .mv (.tmp 56), none, 0⟩,
 ⟨some 58, .fld 2 (.tmp 4), some (57, false), 0⟩,
 ⟨some 59, .load false 1 (.tmp 58), some (57, false), 0⟩,
 ⟨some 60, .fld 1 (.tmp 1), some (57, false), 0⟩,
 ⟨some 61, .load false 1 (.tmp 60), some (57, false), 0⟩,
 ⟨some 62, .bin .sub (.tmp 61) (.const (.int .i64 1)), some (57, false), 0⟩,
 ⟨some 63, .call k_zz75 [(.tmp 59), (.const (.int .i64 0)), (.tmp 62)], some (57, false), 0⟩,
 ⟨some 64, .un .not (.tmp 63), some (57, false), 0⟩,
 ⟨some 65, .pick (.tmp 57) (.const (.bool true)) (.tmp 64), none, 0⟩]) <|
 .cond (.tmp 65)
 (.seq (.ops [
 ⟨some 2, .mv (.const (.bool false)), none, 0⟩]) <|
 .keep [2] <|
 .ret)
 (.skip)) <|
 .ops [
 ⟨some 34, .mv (.tmp 3), none, 0⟩,
 ⟨some 35, .bin .add (.tmp 34) (.const (.int .i64 1)), none, 0⟩,
 ⟨some 3, .mv (.tmp 35), none, 0⟩]
def i_zz77 : FF := ⟨66, [.tmp 2],
 .seq (.ops [
 ⟨some 1, .box 3 (.tmp 0), none, 0⟩,
 ⟨some 2, .mv (.const (.bool false)), none, 0⟩]) <|
 .seq (.seq (.ops [
 ⟨some 5, .fld 0 (.tmp 1), none, 0⟩,
 ⟨some 6, .load false 1 (.tmp 5), none, 0⟩,
 ⟨some 7, .call k_zz75 [(.tmp 6), (.const (.int .i64 1)), (.const (.int .i64 10))], none, 0⟩,
 ⟨some 8, .un .not (.tmp 7), none, 0⟩,
 ⟨some 9, .mv (.tmp 8), none, 0⟩,
 ⟨some 10, .fld 1 (.tmp 1), some (9, false), 0⟩,
 ⟨some 11, .load false 1 (.tmp 10), some (9, false), 0⟩,
 ⟨some 12, .call k_zz75 [(.tmp 11), (.const (.int .i64 1)), (.const (.int .i64 62))], some (9, false), 0⟩,
 ⟨some 13, .un .not (.tmp 12), some (9, false), 0⟩,
 ⟨some 14, .pick (.tmp 9) (.const (.bool true)) (.tmp 13), none, 0⟩,
 ⟨some 15, .mv (.tmp 14), none, 0⟩,
 ⟨some 16, .fld 0 (.tmp 1), some (15, false), 0⟩,
 ⟨some 17, .load false 1 (.tmp 16), some (15, false), 0⟩,
 ⟨some 18, .fld 1 (.tmp 1), some (15, false), 0⟩,
 ⟨some 19, .load false 1 (.tmp 18), some (15, false), 0⟩,
 ⟨some 20, .bin .mul (.tmp 17) (.tmp 19), some (15, false), 0⟩,
 ⟨some 21, .bin .gtr (.tmp 20) (.const (.int .i64 62)), some (15, false), 0⟩,
 ⟨some 22, .pick (.tmp 15) (.const (.bool true)) (.tmp 21), none, 0⟩,
 ⟨some 23, .mv (.tmp 22), none, 0⟩,
 ⟨some 24, .fld 2 (.tmp 1), some (23, false), 0⟩,
 ⟨some 25, .load false 1 (.tmp 24), some (23, false), 0⟩,
 ⟨some 26, .len (.tmp 25), some (23, false), 0⟩,
 ⟨some 27, .bin .gtr (.tmp 26) (.const (.int .i64 16)), some (23, false), 0⟩,
 ⟨some 28, .pick (.tmp 23) (.const (.bool true)) (.tmp 27), none, 0⟩]) <|
 .cond (.tmp 28)
 (.seq (.ops [
 ⟨some 2, .mv (.const (.bool false)), none, 0⟩]) <|
 .keep [2] <|
 .ret)
 (.skip)) <|
 .seq (.seq (.ops [
 ⟨some 3, .mv (.const (.int .i64 0)), none, 0⟩]) <|
 .block 0 <|
 .loop [1, 3] i_zz77_B1) <|
 .seq (.ops [
 ⟨some 2, .mv (.const (.bool true)), none, 0⟩]) <|
 .keep [2] <|
 .ret⟩
theorem e_zz77 : EntOK Tryd.prog (compD Tryd.prog) k_zz77 i_zz77.vf :=
 ⟨Tryd.f33, Tryd.f33.body.getD .skip, Tryd.func33, by kernel_rfl, by kernel_rfl, by kernel_rfl, by kernel_rfl, by kernel_rfl⟩
/-- loop.example/g01331/spec.l03Lift -/
def i_zz60_B1 : FC :=
 .seq (.seq (.ops [
 ⟨some 29, .mv (.tmp 8), none, 0⟩,
 ⟨some 30, .fld 1 (.tmp 1), none, 0⟩,
 ⟨some 31, .load false 1 (.tmp 30), none, 0⟩,
 ⟨some 32, .bin .lss (.tmp 29) (.tmp 31), none, 0⟩]) <|
 .cond (.tmp 32)
 (.skip)
 (.keep [1, 2, 4, 5, 6] <|
 .exit 2)) <|
 .seq (.block 3 <|
 .seq (.dops [
 ⟨some 35, .fld 0 (.tmp 7), none, 0⟩,
 ⟨some 36, .load false 1 (.tmp 35), none, 0⟩,
 ⟨some 37, .fld 1 (.tmp 1), none, 0⟩,
 ⟨some 38, .load false 1 (.tmp 37), none, 0⟩,
 ⟨some 39, .bin .mul (.tmp 36) (.tmp 38), none, 0⟩,
 ⟨some 40, .mv (.tmp 8), none, 0⟩,
 ⟨some 41, .bin .add (.tmp 39) (.tmp 40), none, 0⟩,
 ⟨some 42, .fld 1 (.tmp 7), none, 0⟩,
 ⟨some 43, .load false 1 (.tmp 42), none, 0⟩,
 ⟨some 44, .fld 1 (.tmp 1), none, 0⟩,
 ⟨some 45, .load false 1 (.tmp 44), none, 0⟩,
 ⟨some 46, .bin .mul (.tmp 43) (.tmp 45), none, 0⟩,
 ⟨some 47, .mv (.tmp 8), none, 0⟩,
 ⟨some 48, .fld 2 (.tmp 7), none, 0⟩,
 ⟨some 49, .load false 1 (.tmp 48), none, 0⟩,
 ⟨some 50, .bin .add (.tmp 47) (.tmp 49), none, 0⟩,
 ⟨some 51, .fld 1 (.tmp 1), none, 0⟩,
 ⟨some 52, .load false 1 (.tmp 51), none, 0⟩,
 ⟨some 53, .bin .rem (.tmp 50) (.tmp 52), none, 0⟩,
 ⟨some 54, .bin .add (.tmp 46) (.tmp 53), none, 0⟩,
 ⟨some 9, .mv (.tmp 41), none, 0⟩,
 ⟨some 10, .mv (.tmp 54), none, 0⟩]) <|
 .seq (.seq (.ops [
 ⟨some 55, .mv (.tmp 9), none, 0⟩,
 ⟨some 56, .mv (.tmp 10), none, 0⟩,
 ⟨some 57, .bin .eql (.tmp 55) (.tmp 56), none, 0⟩,
 ⟨some 58, .mv (.tmp 57), none, 0⟩,
 ⟨some 59, .load true 2 (.tmp 4), some (58, false), 0⟩,
 ⟨some 60, .mv (.tmp 9), some (58, false), 0⟩,
 ⟨some 61, .mv (.tmp 10), some (58, false), 0⟩,
 ⟨some 62, .call k_zz68 [(.tmp 59), (.tmp 60), (.tmp 61)], some (58, false), 0⟩,
 ⟨some 63, .pick (.tmp 58) (.const (.bool true)) (.tmp 62), none, 0⟩]) <|
 .cond (.tmp 63)
 (.ops [
 ⟨some 5, .mv (.const (.bool false)), none, 0⟩])
 (.skip)) <|
 .seq (.ops [
 ⟨some 64, .mv (.tmp 9), none, 0⟩,
 ⟨some 65, .mv (.tmp 10), none, 0⟩,
 ⟨some 66, .bin .neq (.tmp 64) (.tmp 65), none, 0⟩]) <|
 .cond (.tmp 66)
 (.ops [
 ⟨some 67, .load true 2 (.tmp 4), none, 0⟩,
 ⟨some 68, .mv (.tmp 9), none, 0⟩,
 ⟨some 69, .mv (.tmp 10), none, 0⟩,
 ⟨some 70, .call k_zz70 [(.tmp 67), (.tmp 68), (.tmp 69)], none, 0⟩])
 (.skip)) <|
 .ops [
 ⟨some 33, .mv (.tmp 8), none, 0⟩,
 ⟨some 34, .bin .add (.tmp 33) (.const (.int .i64 1)), none, 0⟩,
 ⟨some 8, .mv (.tmp 34), none, 0⟩]
def i_zz60_B2 : FC :=
 .seq (.seq (.ops [
 ⟨some 17, .mv (.tmp 6), none, 0⟩,
 ⟨some 18, .fld 2 (.tmp 1), none, 0⟩,
 ⟨some 19, .load false 1 (.tmp 18), none, 0⟩,
 ⟨some 20, .len (.tmp 19), none, 0⟩,
 ⟨some 21, .bin .lss (.tmp 17) (.tmp 20), none, 0⟩]) <|
 .cond (.tmp 21)
 (.skip)
 (.keep [2, 4, 5] <|
 .exit 0)) <|
 .seq (.block 1 <|
 .seq (.ops [
 ⟨some 24, .fld 2 (.tmp 1), none, 0⟩,
 ⟨some 25, .load false 1 (.tmp 24), none, 0⟩,
 ⟨some 26, .mv (.tmp 6), none, 0⟩,
 ⟨some 27, .idx 3 (.tmp 25) (.tmp 26), none, 0⟩,
 ⟨some 28, .load true 3 (.tmp 27), none, 0⟩,
 ⟨some 7, .alloc [.int .i64 0, .int .i64 0, .int .i64 0], none, 0⟩,
 ⟨none, .store 3 (.tmp 7) (.tmp 28), none, 0⟩]) <|
 .seq (.ops [
 ⟨some 8, .mv (.const (.int .i64 0)), none, 0⟩]) <|
 .block 2 <|
 .loop [1, 2, 4, 5, 6, 7, 8] i_zz60_B1) <|
 .ops [
 ⟨some 22, .mv (.tmp 6), none, 0⟩,
 ⟨some 23, .bin .add (.tmp 22) (.const (.int .i64 1)), none, 0⟩,
 ⟨some 6, .mv (.tmp 23), none, 0⟩]
def i_zz60 : FF := ⟨73, [.cell 2 true 2, .tmp 3],
 .seq (.ops [
 ⟨some 1, .box 3 (.tmp 0), none, 0⟩,
 ⟨some 2, .alloc [.int .i64 0, .slice none 0 0], none, 0⟩,
 ⟨some 3, .mv (.const (.bool false)), none, 0⟩]) <|
 .seq (.ops [
 ⟨some 11, .fld 0 (.tmp 1), none, 0⟩,
 ⟨some 12, .load false 1 (.tmp 11), none, 0⟩,
 ⟨some 13, .fld 1 (.tmp 1), none, 0⟩,
 ⟨some 14, .load false 1 (.tmp 13), none, 0⟩,
 ⟨some 15, .bin .mul (.tmp 12) (.tmp 14), none, 0⟩,
 ⟨some 16, .call k_zz43 [(.tmp 15)], none, 0⟩,
 ⟨some 4, .alloc [.int .i64 0, .slice none 0 0], none, 0⟩,
 ⟨none, .store 2 (.tmp 4) (.tmp 16), none, 0⟩,
 ⟨some 5, .mv (.const (.bool true)), none, 0⟩]) <|
 .seq (.seq (.ops [
 ⟨some 6, .mv (.const (.int .i64 0)), none, 0⟩]) <|
 .block 0 <|
 .loop [1, 2, 4, 5, 6] i_zz60_B2) <|
 .seq (.ops [
 ⟨some 71, .load true 2 (.tmp 4), none, 0⟩,
 ⟨some 72, .mv (.tmp 5), none, 0⟩,
 ⟨none, .store 2 (.tmp 2) (.tmp 71), none, 0⟩,
 ⟨some 3, .mv (.tmp 72), none, 0⟩]) <|
 .keep [2, 3] <|
 .ret⟩
theorem e_zz60 : EntOK Tryd.prog (compD Tryd.prog) k_zz60 i_zz60.vf :=
 ⟨Tryd.f34, Tryd.f34.body.getD .skip, Tryd.func34, by kernel_rfl, by kernel_rfl, by kernel_rfl, by kernel_rfl, by kernel_rfl⟩
def i_zz14_B1 : FC :=
 .seq (.ops [
 ⟨some 21, .bin .lss (.tmp 20) (.tmp 19), none, 0⟩]) <|
 .seq (.cond (.tmp 21)
 (.skip)
 (.keep [1, 3, 9, 10] <|
 .exit 2)) <|
 .seq (.block 3 <|
 .seq (.ops [
 ⟨some 22, .idx 1 (.tmp 18) (.tmp 20), none, 0⟩,
 ⟨some 23, .load false 1 (.tmp 22), none, 0⟩,
 ⟨some 6, .mv (.tmp 23), none, 0⟩]) <|
 .seq (.ops [
 ⟨some 24, .mv (.tmp 6), none, 0⟩,
 ⟨some 25, .mv (.tmp 4), none, 0⟩,
 ⟨some 26, .bin .gtr (.tmp 24) (.tmp 25), none, 0⟩]) <|
 .cond (.tmp 26)
 (.ops [
 ⟨some 27, .mv (.tmp 3), none, 0⟩,
 ⟨some 28, .mv (.tmp 4), none, 0⟩,
 ⟨some 29, .mv (.tmp 6), none, 0⟩,
 ⟨some 30, .buildSl 1 [.int .i64 0, .int .i64 0] [(0, 1, (.tmp 28)), (1, 1, (.tmp 29))] 2, none, 0⟩,
 ⟨some 31, .buildSl 1 [.slice none 0 0] [(0, 1, (.tmp 30))] 1, none, 0⟩,
 ⟨some 32, .app 1 24 [.slice none 0 0] (.tmp 27) (.tmp 31), none, 0⟩,
 ⟨some 3, .mv (.tmp 32), none, 0⟩])
 (.skip)) <|
 .ops [
 ⟨some 33, .bin .add (.tmp 20) (.const (.int .i64 1)), none, 0⟩,
 ⟨some 20, .mv (.tmp 33), none, 0⟩]
def i_zz14_B2 : FC :=
 .seq (.ops [
 ⟨some 11, .bin .lss (.tmp 10) (.tmp 9), none, 0⟩]) <|
 .seq (.cond (.tmp 11)
 (.skip)
 (.keep [3] <|
 .exit 0)) <|
 .seq (.block 1 <|
 .seq (.ops [
 ⟨some 12, .mv (.tmp 10), none, 0⟩,
 ⟨some 4, .mv (.tmp 12), none, 0⟩]) <|
 .seq (.ops [
 ⟨some 13, .fld 1 (.tmp 1), none, 0⟩,
 ⟨some 14, .load false 1 (.tmp 13), none, 0⟩,
 ⟨some 15, .mv (.tmp 4), none, 0⟩,
 ⟨some 16, .idx 1 (.tmp 14) (.tmp 15), none, 0⟩,
 ⟨some 17, .load false 1 (.tmp 16), none, 0⟩,
 ⟨some 18, .call k_zz79 [(.tmp 17)], none, 0⟩,
 ⟨some 19, .len (.tmp 18), none, 0⟩,
 ⟨some 20, .mv (.const (.int .i64 0)), none, 0⟩]) <|
 .block 2 <|
 .loop [1, 3, 4, 9, 10, 18, 19, 20] i_zz14_B1) <|
 .ops [
 ⟨some 34, .bin .add (.tmp 10) (.const (.int .i64 1)), none, 0⟩,
 ⟨some 10, .mv (.tmp 34), none, 0⟩]
def i_zz14 : FF := ⟨36, [.tmp 2],
 .seq (.ops [
 ⟨some 1, .box 2 (.tmp 0), none, 0⟩,
 ⟨some 2, .mv (.const (.slice none 0 0)), none, 0⟩]) <|
 .seq (.ops [
 ⟨some 7, .buildSl 1 [] [] 0, none, 0⟩,
 ⟨some 3, .mv (.tmp 7), none, 0⟩]) <|
 .seq (.seq (.ops [
 ⟨some 8, .fld 0 (.tmp 1), none, 0⟩,
 ⟨some 9, .load false 1 (.tmp 8), none, 0⟩,
 ⟨some 10, .mv (.const (.int .i64 0)), none, 0⟩]) <|
 .block 0 <|
 .loop [1, 3, 9, 10] i_zz14_B2) <|
 .seq (.ops [
 ⟨some 35, .mv (.tmp 3), none, 0⟩,
 ⟨some 2, .mv (.tmp 35), none, 0⟩]) <|
 .keep [2] <|
 .ret⟩
theorem e_zz14 : EntOK Tryd.prog (compD Tryd.prog) k_zz14 i_zz14.vf :=
 ⟨Tryd.f35, Tryd.f35.body.getD .skip, Tryd.func35, by kernel_rfl, by kernel_rfl, by kernel_rfl, by kernel_rfl, by kernel_rfl⟩
/-- slices.ContainsFunc[[]loop.example/g01331/impl.Arc,loop.example/g01331/impl.Arc] -/
def i_zz0 : FF := ⟨9, [.tmp 4],
 .seq (.ops [
 ⟨some 4, .mv (.const (.bool false)), none, 0⟩]) <|
 .seq (.ops [
 ⟨some 5, .mv (.tmp 0), none, 0⟩,
 ⟨some 6, .mv (.tmp 1), none, 0⟩,
 ⟨some 7, .call k_zz1 [(.tmp 5), (.tmp 6)], none, 0⟩,
 ⟨some 8, .bin .geq (.tmp 7) (.const (.int .i64 0)), none, 0⟩,
 ⟨some 4, .mv (.tmp 8), none, 0⟩]) <|
 .keep [4] <|
 .ret⟩
theorem e_zz0 : EntOK Tryd.prog (compD Tryd.prog) k_zz0 i_zz0.vf :=
 ⟨Tryd.f36, Tryd.f36.body.getD .skip, Tryd.func36, by kernel_rfl, by kernel_rfl, by kernel_rfl, by kernel_rfl, by kernel_rfl⟩
/-- loop.example/g01331/impl.IsBase$1 -/
def i_zz39 : FF := ⟨38, [.tmp 3],
 .seq (.ops [
 ⟨some 2, .box 3 (.tmp 0), none, 0⟩,
 ⟨some 3, .mv (.const (.bool false)), none, 0⟩]) <|
 .seq (.ops [
 ⟨some 4, .fld 0 (.tmp 2), none, 0⟩,
 ⟨some 5, .load false 1 (.tmp 4), none, 0⟩,
 ⟨some 6, .bin .lss (.tmp 5) (.const (.int .i64 0)), none, 0⟩,
 ⟨some 7, .mv (.tmp 6), none, 0⟩,
 ⟨some 8, .fld 0 (.tmp 2), some (7, false), 0⟩,
 ⟨some 9, .load false 1 (.tmp 8), some (7, false), 0⟩,
 ⟨some 10, .fld 0 (.tmp 1), some (7, false), 0⟩,
 ⟨some 11, .load false 1 (.tmp 10), some (7, false), 0⟩,
 ⟨some 12, .bin .geq (.tmp 9) (.tmp 11), some (7, false), 0⟩,
 ⟨some 13, .pick (.tmp 7) (.const (.bool true)) (.tmp 12), none, 0⟩,
 ⟨some 14, .mv (.tmp 13), none, 0⟩,
 ⟨some 15, .fld 1 (.tmp 2), some (14, false), 0⟩,
 ⟨some 16, .load false 1 (.tmp 15), some (14, false), 0⟩,
 ⟨some 17, .bin .lss (.tmp 16) (.const (.int .i64 0)), some (14, false), 0⟩,
 ⟨some 18, .pick (.tmp 14) (.const (.bool true)) (.tmp 17), none, 0⟩,
 ⟨some 19, .mv (.tmp 18), none, 0⟩,
 ⟨some 20, .fld 1 (.tmp 2), some (19, false), 0⟩,
 ⟨some 21, .load false 1 (.tmp 20), some (19, false), 0⟩,
 ⟨some 22, .fld 0 (.tmp 1), some (19, false), 0⟩,
 ⟨some 23, .load false 1 (.tmp 22), some (19, false), 0⟩,
 ⟨some 24, .bin .geq (.tmp 21) (.tmp 23), some (19, false), 0⟩,
 ⟨some 25, .pick (.tmp 19) (.const (.bool true)) (.tmp 24), none, 0⟩,
 ⟨some 26, .mv (.tmp 25), none, 0⟩,
 ⟨some 27, .fld 2 (.tmp 2), some (26, false), 0⟩,
 ⟨some 28, .load false 1 (.tmp 27), some (26, false), 0⟩,
 ⟨some 29, .bin .lss (.tmp 28) (.const (.int .i64 0)), some (26, false), 0⟩,
 ⟨some 30, .pick (.tmp 26) (.const (.bool true)) (.tmp 29), none, 0⟩,
 ⟨some 31, .mv (.tmp 30), none, 0⟩,
 ⟨some 32, .fld 2 (.tmp 2), some (31, false), 0⟩,
 ⟨some 33, .load false 1 (.tmp 32), some (31, false), 0⟩,
 ⟨some 34, .fld 1 (.tmp 1), some (31, false), 0⟩,
 ⟨some 35, .load false 1 (.tmp 34), some (31, false), 0⟩,
 ⟨some 36, .bin .geq (.tmp 33) (.tmp 35), some (31, false), 0⟩,
 ⟨some 37, .pick (.tmp 31) (.const (.bool true)) (.tmp 36), none, 0⟩,
 ⟨some 3, .mv (.tmp 37), none, 0⟩]) <|
 .keep [3] <|
 .ret⟩
theorem e_zz39 : EntOK Tryd.prog (compD Tryd.prog) k_zz39 i_zz39.vf :=
 ⟨Tryd.f37, Tryd.f37.body.getD .skip, Tryd.func37, by kernel_rfl, by kernel_rfl, by kernel_rfl, by kernel_rfl, by kernel_rfl⟩
/-- loop.example/g01331/impl.IsGraph -/
def i_zz49_B1 : FC :=
 .seq (.ops [
 ⟨some 47, .bin .lss (.tmp 46) (.tmp 45), none, 0⟩]) <|
 .seq (.cond (.tmp 47)
 (.skip)
 (.keep [1, 3, 23, 24, 25] <|
 .exit 2)) <|
 .seq (.block 3 <|
 .seq (.ops [
 ⟨some 48, .mv (.tmp 46), none, 0⟩,
 ⟨some 6, .mv (.tmp 48), none, 0⟩]) <|
 .seq (.dops [
 ⟨some 49, .mv (.tmp 5), none, 0⟩,
 ⟨some 50, .mv (.tmp 6), none, 0⟩,
 ⟨some 51, .bin .shr (.tmp 49) (.tmp 50), none, 0⟩,
 ⟨some 52, .bin .and (.tmp 51) (.const (.int .i64 1)), none, 0⟩,
 ⟨some 53, .fld 1 (.tmp 1), none, 0⟩,
 ⟨some 54, .load false 1 (.tmp 53), none, 0⟩,
 ⟨some 55, .mv (.tmp 6), none, 0⟩,
 ⟨some 56, .idx 1 (.tmp 54) (.tmp 55), none, 0⟩,
 ⟨some 57, .load false 1 (.tmp 56), none, 0⟩,
 ⟨some 58, .mv (.tmp 4), none, 0⟩,
 ⟨some 59, .bin .shr (.tmp 57) (.tmp 58), none, 0⟩,
 ⟨some 60, .bin .and (.tmp 59) (.const (.int .i64 1)), none, 0⟩,
 ⟨some 61, .bin .neq (.tmp 52) (.tmp 60), none, 0⟩]) <|
 .cond (.tmp 61)
 (.seq (.ops [
 ⟨some 2, .mv (.const (.bool false)), none, 0⟩]) <|
 .keep [2] <|
 .ret)
 (.skip)) <|
 .ops [
 ⟨some 62, .bin .add (.tmp 46) (.const (.int .i64 1)), none, 0⟩,
 ⟨some 46, .mv (.tmp 62), none, 0⟩]
def i_zz49_B2 : FC :=
 .seq (.ops [
 ⟨some 26, .bin .lss (.tmp 25) (.tmp 24), none, 0⟩]) <|
 .seq (.cond (.tmp 26)
 (.skip)
 (.keep [] <|
 .exit 0)) <|
 .seq (.block 1 <|
 .seq (.ops [
 ⟨some 27, .mv (.tmp 25), none, 0⟩,
 ⟨some 28, .idx 1 (.tmp 23) (.tmp 25), none, 0⟩,
 ⟨some 29, .load false 1 (.tmp 28), none, 0⟩,
 ⟨some 4, .mv (.tmp 27), none, 0⟩,
 ⟨some 5, .mv (.tmp 29), none, 0⟩]) <|
 .seq (.seq (.ops [
 ⟨some 30, .mv (.tmp 5), none, 0⟩,
 ⟨some 31, .bin .lss (.tmp 30) (.const (.int .i64 0)), none, 0⟩,
 ⟨some 32, .mv (.tmp 31), none, 0⟩,
 ⟨some 33, .mv (.tmp 5), some (32, false), 0⟩,
 ⟨some 34, .mv (.tmp 3), some (32, false), 0⟩,
 ⟨some 35, .bin .shl (.const (.int .i64 1)) (.tmp 34), some (32, false), 0⟩,
 ⟨some 36, .bin .geq (.tmp 33) (.tmp 35), some (32, false), 0⟩,
 ⟨some 37, .pick (.tmp 32) (.const (.bool true)) (.tmp 36), none, 0⟩,
 ⟨some 38, .mv (.tmp 37), none, 0⟩,
 ⟨some 39, .mv (.tmp 5), some (38, false), 0⟩,
 ⟨some 40, .mv (.tmp 4), some (38, false), 0⟩,
 ⟨some 41, .bin .shr (.tmp 39) (.tmp 40), some (38, false), 0⟩,
 ⟨some 42, .bin .and (.tmp 41) (.const (.int .i64 1)), some (38, false), 0⟩,
 ⟨some 43, .bin .eql (.tmp 42) (.const (.int .i64 1)), some (38, false), 0⟩,
 ⟨some 44, .pick (.tmp 38) (.const (.bool true)) (.tmp 43), none, 0⟩]) <|
 .cond (.tmp 44)
 (.seq (.ops [
 ⟨some 2, .mv (.const (.bool false)), none, 0⟩]) <|
 .keep [2] <|
 .ret)
 (.skip)) <|
 .seq (.ops [
 ⟨some 45, .mv (.tmp 3), none, 0⟩,
 ⟨some 46, .mv (.const (.int .i64 0)), none, 0⟩]) <|
 .block 2 <|
 .loop [1, 3, 4, 5, 23, 24, 25, 45, 46] i_zz49_B1) <|
 .ops [
 ⟨some 63, .bin .add (.tmp 25) (.const (.int .i64 1)), none, 0⟩,
 ⟨some 25, .mv (.tmp 63), none, 0⟩]
def i_zz49 : FF := ⟨64, [.tmp 2],
 .seq (.ops [
 ⟨some 1, .box 2 (.tmp 0), none, 0⟩,
 ⟨some 2, .mv (.const (.bool false)), none, 0⟩]) <|
 .seq (.ops [
 ⟨some 7, .fld 0 (.tmp 1), none, 0⟩,
 ⟨some 8, .load false 1 (.tmp 7), none, 0⟩,
 ⟨some 3, .mv (.tmp 8), none, 0⟩]) <|
 .seq (.seq (.ops [
 ⟨some 9, .mv (.tmp 3), none, 0⟩,
 ⟨some 10, .bin .lss (.tmp 9) (.const (.int .i64 1)), none, 0⟩,
 ⟨some 11, .mv (.tmp 10), none, 0⟩,
 ⟨some 12, .mv (.tmp 3), some (11, false), 0⟩,
 ⟨some 13, .bin .gtr (.tmp 12) (.const (.int .i64 62)), some (11, false), 0⟩,
 ⟨some 14, .pick (.tmp 11) (.const (.bool true)) (.tmp 13), none, 0⟩,
 ⟨some 15, .mv (.tmp 14), none, 0⟩,
 ⟨some 16, .fld 1 (.tmp 1), some (15, false), 0⟩,
 ⟨some 17, .load false 1 (.tmp 16), some (15, false), 0⟩,
 ⟨some 18, .len (.tmp 17), some (15, false), 0⟩,
 ⟨some 19, .mv (.tmp 3), some (15, false), 0⟩,
 ⟨some 20, .bin .neq (.tmp 18) (.tmp 19), some (15, false), 0⟩,
 ⟨some 21, .pick (.tmp 15) (.const (.bool true)) (.tmp 20), none, 0⟩]) <|
 .cond (.tmp 21)
 (.seq (.ops [
 ⟨some 2, .mv (.const (.bool false)), none, 0⟩]) <|
 .keep [2] <|
 .ret)
 (.skip)) <|
 .seq (.seq (.ops [
 ⟨some 22, .fld 1 (.tmp 1), none, 0⟩,
 ⟨some 23, .load false 1 (.tmp 22), none, 0⟩,
 ⟨some 24, .len (.tmp 23), none, 0⟩,
 ⟨some 25, .mv (.const (.int .i64 0)), none, 0⟩]) <|
 .block 0 <|
 .loop [1, 3, 23, 24, 25] i_zz49_B2) <|
 .seq (.ops [
 ⟨some 2, .mv (.const (.bool true)), none, 0⟩]) <|
 .keep [2] <|
 .ret⟩
theorem e_zz49 : EntOK Tryd.prog (compD Tryd.prog) k_zz49 i_zz49.vf :=
 ⟨Tryd.f38, Tryd.f38.body.getD .skip, Tryd.func38, by kernel_rfl, by kernel_rfl, by kernel_rfl, by kernel_rfl, by kernel_rfl⟩
def i_zz16_B1 : FC :=
 .seq (.seq (.ops [
 ⟨some 10, .mv (.tmp 4), none, 0⟩,
 ⟨some 11, .bin .neq (.tmp 10) (.const (.int .i64 0)), none, 0⟩]) <|
 .cond (.tmp 11)
 (.skip)
 (.keep [3] <|
 .exit 0)) <|
 .block 1 <|
 .seq (.dops [
 ⟨some 13, .mv (.tmp 4), none, 0⟩,
 ⟨some 14, .call k_zz79 [(.tmp 13)], none, 0⟩,
 ⟨some 12, .load true 2 (.tmp 1), none, 1⟩,
 ⟨some 15, .idx 1 (.tmp 14) (.const (.int .i64 0)), none, 0⟩,
 ⟨some 16, .load false 1 (.tmp 15), none, 0⟩,
 ⟨some 17, .call k_zz19 [(.tmp 12), (.tmp 16)], none, 0⟩,
 ⟨some 5, .mv (.tmp 17), none, 0⟩]) <|
 .seq (.ops [
 ⟨some 18, .mv (.tmp 3), none, 0⟩,
 ⟨some 19, .mv (.tmp 5), none, 0⟩,
 ⟨some 20, .call k_zz79 [(.tmp 19)], none, 0⟩,
 ⟨some 21, .buildSl 1 [.slice none 0 0] [(0, 1, (.tmp 20))] 1, none, 0⟩,
 ⟨some 22, .app 1 24 [.slice none 0 0] (.tmp 18) (.tmp 21), none, 0⟩,
 ⟨some 3, .mv (.tmp 22), none, 0⟩]) <|
 .ops [
 ⟨some 23, .mv (.tmp 4), none, 0⟩,
 ⟨some 24, .mv (.tmp 5), none, 0⟩,
 ⟨some 25, .bin .andNot (.tmp 23) (.tmp 24), none, 0⟩,
 ⟨some 4, .mv (.tmp 25), none, 0⟩]
def i_zz16 : FF := ⟨27, [.tmp 2],
 .seq (.ops [
 ⟨some 1, .box 2 (.tmp 0), none, 0⟩,
 ⟨some 2, .mv (.const (.slice none 0 0)), none, 0⟩]) <|
 .seq (.ops [
 ⟨some 6, .buildSl 1 [] [] 0, none, 0⟩,
 ⟨some 7, .fld 0 (.tmp 1), none, 0⟩,
 ⟨some 8, .load false 1 (.tmp 7), none, 0⟩,
 ⟨some 9, .call k_zz82 [(.tmp 8)], none, 0⟩,
 ⟨some 3, .mv (.tmp 6), none, 0⟩,
 ⟨some 4, .mv (.tmp 9), none, 0⟩]) <|
 .seq (.block 0 <|
 .loop [1, 3, 4] i_zz16_B1) <|
 .seq (.ops [
 ⟨some 26, .mv (.tmp 3), none, 0⟩,
 ⟨some 2, .mv (.tmp 26), none, 0⟩]) <|
 .keep [2] <|
 .ret⟩
theorem e_zz16 : EntOK Tryd.prog (compD Tryd.prog) k_zz16 i_zz16.vf :=
 ⟨Tryd.f39, Tryd.f39.body.getD .skip, Tryd.func39, by kernel_rfl, by kernel_rfl, by kernel_rfl, by kernel_rfl, by kernel_rfl⟩
/-- loop.example/g01331/impl.steps -/
def i_zz74 : FF := ⟨7, [.tmp 2],
 .seq (.ops [
 ⟨some 1, .box 3 (.tmp 0), none, 0⟩,
 ⟨some 2, .mv (.const (.int .i64 0)), none, 0⟩]) <|
 .seq (.ops [
 ⟨some 3, .fld 2 (.tmp 1), none, 0⟩,
 ⟨some 4, .load false 1 (.tmp 3), none, 0⟩,
 ⟨some 5, .len (.tmp 4), none, 0⟩,
 ⟨some 6, .bin .mul (.const (.int .i64 2)) (.tmp 5), none, 0⟩,
 ⟨some 2, .mv (.tmp 6), none, 0⟩]) <|
 .keep [2] <|
 .ret⟩
theorem e_zz74 : EntOK Tryd.prog (compD Tryd.prog) k_zz74 i_zz74.vf :=
 ⟨Tryd.f40, Tryd.f40.body.getD .skip, Tryd.func40, by kernel_rfl, by kernel_rfl, by kernel_rfl, by kernel_rfl, by kernel_rfl⟩
/-- loop.example/g01331/impl.girthFrom -/
def i_zz32_B1 : FC :=
 .seq (.ops [
 ⟨some 52, .bin .lss (.tmp 51) (.tmp 50), none, 0⟩]) <|
 .seq (.cond (.tmp 52)
 (.skip)
 (.keep [1, 2, 3, 7, 8, 11, 12] <|
 .exit 2)) <|
 .seq (.block 3 <|
 .seq (.ops [
 ⟨some 53, .mv (.tmp 51), none, 0⟩,
 ⟨some 54, .idx 1 (.tmp 49) (.tmp 51), none, 0⟩,
 ⟨some 55, .load false 1 (.tmp 54), none, 0⟩,
 ⟨some 13, .mv (.tmp 53), none, 0⟩,
 ⟨some 14, .mv (.tmp 55), none, 0⟩]) <|
 .seq (.ops [
 ⟨some 57, .load true 3 (.tmp 3), none, 0⟩,
 ⟨some 58, .mv (.tmp 13), none, 0⟩,
 ⟨some 59, .call k_zz81 [(.tmp 57), (.tmp 58)], none, 0⟩,
 ⟨some 56, .mv (.tmp 59), none, 0⟩,
 ⟨some 60, .ext (.tmp 56) 0, none, 0⟩,
 ⟨some 61, .ext (.tmp 56) 1, none, 0⟩,
 ⟨some 62, .ext (.tmp 56) 2, none, 0⟩,
 ⟨some 15, .mv (.tmp 60), none, 0⟩,
 ⟨some 16, .mv (.tmp 61), none, 0⟩,
 ⟨some 17, .mv (.tmp 62), none, 0⟩]) <|
 .seq (.ops [
 ⟨some 63, .mv (.tmp 16), none, 0⟩,
 ⟨some 64, .mv (.tmp 8), none, 0⟩,
 ⟨some 65, .bin .eql (.tmp 63) (.tmp 64), none, 0⟩,
 ⟨some 66, .mv (.tmp 65), none, 0⟩,
 ⟨some 67, .mv (.tmp 14), some (66, true), 0⟩,
 ⟨some 68, .bin .and (.tmp 67) (.const (.int .i64 1)), some (66, true), 0⟩,
 ⟨some 69, .bin .eql (.tmp 68) (.const (.int .i64 1)), some (66, true), 0⟩,
 ⟨some 70, .pick (.tmp 66) (.tmp 69) (.const (.bool false)), none, 0⟩,
 ⟨some 71, .mv (.tmp 70), none, 0⟩,
 ⟨some 72, .mv (.tmp 13), some (71, true), 0⟩,
 ⟨some 73, .bin .xor (.tmp 72) (.const (.int .i64 1)), some (71, true), 0⟩,
 ⟨some 74, .mv (.tmp 1), some (71, true), 0⟩,
 ⟨some 75, .bin .neq (.tmp 73) (.tmp 74), some (71, true), 0⟩,
 ⟨some 76, .pick (.tmp 71) (.tmp 75) (.const (.bool false)), none, 0⟩]) <|
 .cond (.tmp 76)
 (.seq (.ops [
 ⟨some 77, .mv (.tmp 12), none, 0⟩,
 ⟨some 6, .mv (.tmp 77), none, 0⟩]) <|
 .keep [6] <|
 .ret)
 (.skip)) <|
 .ops [
 ⟨some 78, .bin .add (.tmp 51) (.const (.int .i64 1)), none, 0⟩,
 ⟨some 51, .mv (.tmp 78), none, 0⟩]
def i_zz32_B2 : FC :=
 .seq (.ops [
 ⟨some 99, .bin .lss (.tmp 98) (.tmp 97), none, 0⟩]) <|
 .seq (.cond (.tmp 99)
 (.skip)
 (.keep [1, 2, 3, 7, 8, 12, 18, 81, 82, 83] <|
 .exit 6)) <|
 .seq (.block 7 <|
 .seq (.ops [
 ⟨some 100, .mv (.tmp 98), none, 0⟩,
 ⟨some 24, .mv (.tmp 100), none, 0⟩]) <|
 .seq (.ops [
 ⟨some 102, .load true 3 (.tmp 3), none, 0⟩,
 ⟨some 103, .mv (.tmp 24), none, 0⟩,
 ⟨some 104, .call k_zz81 [(.tmp 102), (.tmp 103)], none, 0⟩,
 ⟨some 101, .mv (.tmp 104), none, 0⟩,
 ⟨some 105, .ext (.tmp 101) 0, none, 0⟩,
 ⟨some 106, .ext (.tmp 101) 1, none, 0⟩,
 ⟨some 107, .ext (.tmp 101) 2, none, 0⟩,
 ⟨some 25, .mv (.tmp 105), none, 0⟩,
 ⟨some 26, .mv (.tmp 106), none, 0⟩,
 ⟨some 27, .mv (.tmp 107), none, 0⟩]) <|
 .seq (.ops [
 ⟨some 108, .mv (.tmp 25), none, 0⟩,
 ⟨some 109, .mv (.tmp 22), none, 0⟩,
 ⟨some 110, .bin .eql (.tmp 108) (.tmp 109), none, 0⟩,
 ⟨some 111, .mv (.tmp 110), none, 0⟩,
 ⟨some 112, .mv (.tmp 24), some (111, true), 0⟩,
 ⟨some 113, .mv (.tmp 19), some (111, true), 0⟩,
 ⟨some 114, .bin .xor (.tmp 113) (.const (.int .i64 1)), some (111, true), 0⟩,
 ⟨some 115, .bin .neq (.tmp 112) (.tmp 114), some (111, true), 0⟩,
 ⟨some 116, .pick (.tmp 111) (.tmp 115) (.const (.bool false)), none, 0⟩]) <|
 .cond (.tmp 116)
 (.dops [
 ⟨some 131, .fld 1 (.tmp 3), none, 0⟩,
 ⟨some 132, .load false 1 (.tmp 131), none, 0⟩,
 ⟨some 133, .call k_zz82 [(.tmp 132)], none, 0⟩,
 ⟨some 117, .mv (.tmp 18), none, 1⟩,
 ⟨some 118, .mv (.tmp 24), none, 1⟩,
 ⟨some 119, .idx 1 (.tmp 117) (.tmp 118), none, 1⟩,
 ⟨some 120, .load false 1 (.tmp 119), none, 1⟩,
 ⟨some 121, .mv (.tmp 20), none, 1⟩,
 ⟨some 122, .mv (.tmp 27), none, 1⟩,
 ⟨some 123, .bin .shl (.tmp 121) (.tmp 122), none, 1⟩,
 ⟨some 124, .mv (.tmp 20), none, 1⟩,
 ⟨some 125, .fld 1 (.tmp 3), none, 1⟩,
 ⟨some 126, .load false 1 (.tmp 125), none, 1⟩,
 ⟨some 127, .mv (.tmp 27), none, 1⟩,
 ⟨some 128, .bin .sub (.tmp 126) (.tmp 127), none, 1⟩,
 ⟨some 129, .bin .shr (.tmp 124) (.tmp 128), none, 1⟩,
 ⟨some 130, .bin .or (.tmp 123) (.tmp 129), none, 1⟩,
 ⟨some 134, .bin .and (.tmp 130) (.tmp 133), none, 0⟩,
 ⟨some 135, .bin .or (.tmp 120) (.tmp 134), none, 0⟩,
 ⟨some 136, .idx 1 (.tmp 117) (.tmp 118), none, 0⟩,
 ⟨none, .store 1 (.tmp 136) (.tmp 135), none, 0⟩])
 (.skip)) <|
 .ops [
 ⟨some 137, .bin .add (.tmp 98) (.const (.int .i64 1)), none, 0⟩,
 ⟨some 98, .mv (.tmp 137), none, 0⟩]
def i_zz32_B3 : FC :=
 .seq (.ops [
 ⟨some 84, .bin .lss (.tmp 83) (.tmp 82), none, 0⟩]) <|
 .seq (.cond (.tmp 84)
 (.skip)
 (.keep [1, 2, 3, 7, 8, 12, 18] <|
 .exit 4)) <|
 .seq (.block 5 <|
 .seq (.ops [
 ⟨some 85, .mv (.tmp 83), none, 0⟩,
 ⟨some 86, .idx 1 (.tmp 81) (.tmp 83), none, 0⟩,
 ⟨some 87, .load false 1 (.tmp 86), none, 0⟩,
 ⟨some 19, .mv (.tmp 85), none, 0⟩,
 ⟨some 20, .mv (.tmp 87), none, 0⟩]) <|
 .seq (.seq (.ops [
 ⟨some 88, .mv (.tmp 20), none, 0⟩,
 ⟨some 89, .bin .eql (.tmp 88) (.const (.int .i64 0)), none, 0⟩]) <|
 .cond (.tmp 89)
 (.keep [1, 2, 3, 7, 8, 12, 18, 81, 82, 83] <|
 .exit 5)
 (.skip)) <|
 .seq (.ops [
 ⟨some 91, .load true 3 (.tmp 3), none, 0⟩,
 ⟨some 92, .mv (.tmp 19), none, 0⟩,
 ⟨some 93, .call k_zz81 [(.tmp 91), (.tmp 92)], none, 0⟩,
 ⟨some 90, .mv (.tmp 93), none, 0⟩,
 ⟨some 94, .ext (.tmp 90) 0, none, 0⟩,
 ⟨some 95, .ext (.tmp 90) 1, none, 0⟩,
 ⟨some 96, .ext (.tmp 90) 2, none, 0⟩,
 ⟨some 21, .mv (.tmp 94), none, 0⟩,
 ⟨some 22, .mv (.tmp 95), none, 0⟩,
 ⟨some 23, .mv (.tmp 96), none, 0⟩]) <|
 .seq (.ops [
 ⟨some 97, .mv (.tmp 7), none, 0⟩,
 ⟨some 98, .mv (.const (.int .i64 0)), none, 0⟩]) <|
 .block 6 <|
 .loop [1, 2, 3, 7, 8, 12, 18, 19, 20, 22, 81, 82, 83, 97, 98] i_zz32_B2) <|
 .ops [
 ⟨some 138, .bin .add (.tmp 83) (.const (.int .i64 1)), none, 0⟩,
 ⟨some 83, .mv (.tmp 138), none, 0⟩]
def i_zz32_B4 : FC :=
 .seq (.seq (.ops [
 ⟨some 44, .mv (.tmp 12), none, 0⟩,
 ⟨some 45, .mv (.tmp 2), none, 0⟩,
 ⟨some 46, .bin .lss (.tmp 44) (.tmp 45), none, 0⟩]) <|
 .cond (.tmp 46)
 (.skip)
 (.keep [2] <|
 .exit 0)) <|
 .seq (.block 1 <|
 .seq (.seq (.ops [
 ⟨some 49, .mv (.tmp 11), none, 0⟩,
 ⟨some 50, .len (.tmp 49), none, 0⟩,
 ⟨some 51, .mv (.const (.int .i64 0)), none, 0⟩]) <|
 .block 2 <|
 .loop [1, 2, 3, 7, 8, 11, 12, 49, 50, 51] i_zz32_B1) <|
 .seq (.ops [
 ⟨some 79, .mv (.tmp 7), none, 0⟩,
 ⟨some 80, .mkSl 1 [.int .i64 0] 8 (.tmp 79) (.tmp 79), none, 0⟩,
 ⟨some 18, .mv (.tmp 80), none, 0⟩]) <|
 .seq (.seq (.ops [
 ⟨some 81, .mv (.tmp 11), none, 0⟩,
 ⟨some 82, .len (.tmp 81), none, 0⟩,
 ⟨some 83, .mv (.const (.int .i64 0)), none, 0⟩]) <|
 .block 4 <|
 .loop [1, 2, 3, 7, 8, 12, 18, 81, 82, 83] i_zz32_B3) <|
 .ops [
 ⟨some 139, .mv (.tmp 18), none, 0⟩,
 ⟨some 11, .mv (.tmp 139), none, 0⟩]) <|
 .ops [
 ⟨some 47, .mv (.tmp 12), none, 0⟩,
 ⟨some 48, .bin .add (.tmp 47) (.const (.int .i64 1)), none, 0⟩,
 ⟨some 12, .mv (.tmp 48), none, 0⟩]
def i_zz32 : FF := ⟨141, [.tmp 6],
 .seq (.ops [
 ⟨some 3, .box 3 (.tmp 0), none, 0⟩,
 ⟨some 6, .mv (.const (.int .i64 0)), none, 0⟩]) <|
 .seq (.ops [
 ⟨some 28, .load true 3 (.tmp 3), none, 0⟩,
 ⟨some 29, .call k_zz74 [(.tmp 28)], none, 0⟩,
 ⟨some 7, .mv (.tmp 29), none, 0⟩]) <|
 .seq (.ops [
 ⟨some 31, .load true 3 (.tmp 3), none, 0⟩,
 ⟨some 32, .mv (.tmp 1), none, 0⟩,
 ⟨some 33, .call k_zz81 [(.tmp 31), (.tmp 32)], none, 0⟩,
 ⟨some 30, .mv (.tmp 33), none, 0⟩,
 ⟨some 34, .ext (.tmp 30) 0, none, 0⟩,
 ⟨some 35, .ext (.tmp 30) 1, none, 0⟩,
 ⟨some 36, .ext (.tmp 30) 2, none, 0⟩,
 ⟨some 8, .mv (.tmp 34), none, 0⟩,
 ⟨some 9, .mv (.tmp 35), none, 0⟩,
 ⟨some 10, .mv (.tmp 36), none, 0⟩]) <|
 .seq (.ops [
 ⟨some 37, .mv (.tmp 7), none, 0⟩,
 ⟨some 38, .mkSl 1 [.int .i64 0] 8 (.tmp 37) (.tmp 37), none, 0⟩,
 ⟨some 11, .mv (.tmp 38), none, 0⟩]) <|
 .seq (.ops [
 ⟨some 39, .mv (.tmp 11), none, 0⟩,
 ⟨some 40, .mv (.tmp 1), none, 0⟩,
 ⟨some 41, .mv (.tmp 10), none, 0⟩,
 ⟨some 42, .bin .shl (.const (.int .i64 1)) (.tmp 41), none, 0⟩,
 ⟨some 43, .idx 1 (.tmp 39) (.tmp 40), none, 0⟩,
 ⟨none, .store 1 (.tmp 43) (.tmp 42), none, 0⟩]) <|
 .seq (.seq (.ops [
 ⟨some 12, .mv (.const (.int .i64 1)), none, 0⟩]) <|
 .block 0 <|
 .loop [1, 2, 3, 7, 8, 11, 12] i_zz32_B4) <|
 .seq (.ops [
 ⟨some 140, .mv (.tmp 2), none, 0⟩,
 ⟨some 6, .mv (.tmp 140), none, 0⟩]) <|
 .keep [6] <|
 .ret⟩
theorem e_zz32 : EntOK Tryd.prog (compD Tryd.prog) k_zz32 i_zz32.vf :=
 ⟨Tryd.f41, Tryd.f41.body.getD .skip, Tryd.func41, by kernel_rfl, by kernel_rfl, by kernel_rfl, by kernel_rfl, by kernel_rfl⟩
/-- loop.example/g01331/impl.found -/
def i_zz73 : FF := ⟨7, [.tmp 2, .tmp 3],
 .seq (.ops [
 ⟨some 2, .mv (.const (.int .i64 0)), none, 0⟩,
 ⟨some 3, .mv (.const (.int .i64 0)), none, 0⟩]) <|
 .seq (.seq (.ops [
 ⟨some 4, .mv (.tmp 0), none, 0⟩,
 ⟨some 5, .bin .eql (.tmp 4) (.const (.int .i64 0)), none, 0⟩]) <|
 .cond (.tmp 5)
 (.seq (.ops [
 ⟨some 2, .mv (.const (.int .i64 0)), none, 0⟩,
 ⟨some 3, .mv (.const (.int .i64 4)), none, 0⟩]) <|
 .keep [2, 3] <|
 .ret)
 (.skip)) <|
 .seq (.ops [
 ⟨some 6, .mv (.tmp 0), none, 0⟩,
 ⟨some 2, .mv (.tmp 6), none, 0⟩,
 ⟨some 3, .mv (.const (.int .i64 0)), none, 0⟩]) <|
 .keep [2, 3] <|
 .ret⟩
theorem e_zz73 : EntOK Tryd.prog (compD Tryd.prog) k_zz73 i_zz73.vf :=
 ⟨Tryd.f42, Tryd.f42.body.getD .skip, Tryd.func42, by kernel_rfl, by kernel_rfl, by kernel_rfl, by kernel_rfl, by kernel_rfl⟩
def i_zz15_B1 : FC :=
 .seq (.ops [
 ⟨some 9, .bin .lss (.tmp 8) (.tmp 7), none, 0⟩]) <|
 .seq (.cond (.tmp 9)
 (.skip)
 (.keep [3] <|
 .exit 0)) <|
 .seq (.block 1 <|
 .seq (.ops [
 ⟨some 10, .mv (.tmp 8), none, 0⟩,
 ⟨some 4, .mv (.tmp 10), none, 0⟩]) <|
 .seq (.ops [
 ⟨some 11, .load true 2 (.tmp 1), none, 0⟩,
 ⟨some 12, .mv (.tmp 4), none, 0⟩,
 ⟨some 13, .call k_zz7 [(.tmp 11), (.tmp 12)], none, 0⟩,
 ⟨some 5, .mv (.tmp 13), none, 0⟩]) <|
 .seq (.ops [
 ⟨some 14, .mv (.tmp 5), none, 0⟩,
 ⟨some 15, .bin .gtr (.tmp 14) (.const (.int .i64 0)), none, 0⟩,
 ⟨some 16, .mv (.tmp 15), none, 0⟩,
 ⟨some 17, .mv (.tmp 3), some (16, true), 0⟩,
 ⟨some 18, .bin .eql (.tmp 17) (.const (.int .i64 0)), some (16, true), 0⟩,
 ⟨some 19, .mv (.tmp 18), some (16, true), 0⟩,
 ⟨some 20, .mv (.tmp 5), some (19, false), 0⟩,
 ⟨some 21, .mv (.tmp 3), some (19, false), 0⟩,
 ⟨some 22, .bin .lss (.tmp 20) (.tmp 21), some (19, false), 0⟩,
 ⟨some 23, .pick (.tmp 19) (.const (.bool true)) (.tmp 22), some (16, true), 0⟩,
 ⟨some 24, .pick (.tmp 16) (.tmp 23) (.const (.bool false)), none, 0⟩]) <|
 .cond (.tmp 24)
 (.ops [
 ⟨some 25, .mv (.tmp 5), none, 0⟩,
 ⟨some 3, .mv (.tmp 25), none, 0⟩])
 (.skip)) <|
 .ops [
 ⟨some 26, .bin .add (.tmp 8) (.const (.int .i64 1)), none, 0⟩,
 ⟨some 8, .mv (.tmp 26), none, 0⟩]
def i_zz15 : FF := ⟨28, [.tmp 2],
 .seq (.ops [
 ⟨some 1, .box 2 (.tmp 0), none, 0⟩,
 ⟨some 2, .mv (.const (.int .i64 0)), none, 0⟩]) <|
 .seq (.ops [
 ⟨some 3, .mv (.const (.int .i64 0)), none, 0⟩]) <|
 .seq (.seq (.ops [
 ⟨some 6, .fld 0 (.tmp 1), none, 0⟩,
 ⟨some 7, .load false 1 (.tmp 6), none, 0⟩,
 ⟨some 8, .mv (.const (.int .i64 0)), none, 0⟩]) <|
 .block 0 <|
 .loop [1, 3, 7, 8] i_zz15_B1) <|
 .seq (.ops [
 ⟨some 27, .mv (.tmp 3), none, 0⟩,
 ⟨some 2, .mv (.tmp 27), none, 0⟩]) <|
 .keep [2] <|
 .ret⟩
theorem e_zz15 : EntOK Tryd.prog (compD Tryd.prog) k_zz15 i_zz15.vf :=
 ⟨Tryd.f43, Tryd.f43.body.getD .skip, Tryd.func43, by kernel_rfl, by kernel_rfl, by kernel_rfl, by kernel_rfl, by kernel_rfl⟩
/-- loop.example/g01331/impl.empty -/
def i_zz72 : FF := ⟨7, [.cell 2 true 2],
 .seq (.ops [
 ⟨some 2, .alloc [.int .i64 0, .slice none 0 0], none, 0⟩]) <|
 .seq (.ops [
 ⟨some 3, .mv (.tmp 0), none, 0⟩,
 ⟨some 4, .mv (.tmp 0), none, 0⟩,
 ⟨some 5, .mkSl 1 [.int .i64 0] 8 (.tmp 4) (.tmp 4), none, 0⟩,
 ⟨some 6, .build [.int .i64 0, .slice none 0 0] [(0, 1, (.tmp 3)), (1, 1, (.tmp 5))], none, 0⟩,
 ⟨none, .store 2 (.tmp 2) (.tmp 6), none, 0⟩]) <|
 .keep [2] <|
 .ret⟩
theorem e_zz72 : EntOK Tryd.prog (compD Tryd.prog) k_zz72 i_zz72.vf :=
 ⟨Tryd.f44, Tryd.f44.body.getD .skip, Tryd.func44, by kernel_rfl, by kernel_rfl, by kernel_rfl, by kernel_rfl, by kernel_rfl⟩
def i_zz28 : FF := ⟨27, [],
 .seq (.ops [
 ⟨some 3, .box 2 (.tmp 0), none, 0⟩]) <|
 .seq (.ops [
 ⟨some 6, .mv (.tmp 1), none, 0⟩,
 ⟨some 7, .mv (.tmp 2), none, 0⟩,
 ⟨some 8, .bin .neq (.tmp 6) (.tmp 7), none, 0⟩]) <|
 .cond (.tmp 8)
 (.seq (.dops [
 ⟨some 9, .fld 1 (.tmp 3), none, 0⟩,
 ⟨some 10, .load false 1 (.tmp 9), none, 0⟩,
 ⟨some 11, .mv (.tmp 1), none, 0⟩,
 ⟨some 12, .idx 1 (.tmp 10) (.tmp 11), none, 0⟩,
 ⟨some 13, .load false 1 (.tmp 12), none, 0⟩,
 ⟨some 14, .mv (.tmp 2), none, 0⟩,
 ⟨some 15, .bin .shl (.const (.int .i64 1)) (.tmp 14), none, 0⟩,
 ⟨some 16, .bin .or (.tmp 13) (.tmp 15), none, 0⟩,
 ⟨some 17, .idx 1 (.tmp 10) (.tmp 11), none, 0⟩,
 ⟨none, .store 1 (.tmp 17) (.tmp 16), none, 0⟩]) <|
 .dops [
 ⟨some 18, .fld 1 (.tmp 3), none, 0⟩,
 ⟨some 19, .load false 1 (.tmp 18), none, 0⟩,
 ⟨some 20, .mv (.tmp 2), none, 0⟩,
 ⟨some 21, .idx 1 (.tmp 19) (.tmp 20), none, 0⟩,
 ⟨some 22, .load false 1 (.tmp 21), none, 0⟩,
 ⟨some 23, .mv (.tmp 1), none, 0⟩,
 ⟨some 24, .bin .shl (.const (.int .i64 1)) (.tmp 23), none, 0⟩,
 ⟨some 25, .bin .or (.tmp 22) (.tmp 24), none, 0⟩,
 ⟨some 26, .idx 1 (.tmp 19) (.tmp 20), none, 0⟩,
 ⟨none, .store 1 (.tmp 26) (.tmp 25), none, 0⟩])
 (.skip)⟩
theorem e_zz28 : EntOK Tryd.prog (compD Tryd.prog) k_zz28 i_zz28.vf :=
 ⟨Tryd.f45, Tryd.f45.body.getD .skip, Tryd.func45, by kernel_rfl, by kernel_rfl, by kernel_rfl, by kernel_rfl, by kernel_rfl⟩
/-- loop.example/g01331/impl.areGraphs -/
def i_zz31_B1 : FC :=
 .seq (.ops [
 ⟨some 8, .bin .lss (.tmp 7) (.tmp 6), none, 0⟩]) <|
 .seq (.cond (.tmp 8)
 (.skip)
 (.keep [] <|
 .exit 0)) <|
 .seq (.block 1 <|
 .seq (.ops [
 ⟨some 9, .idx 2 (.tmp 5) (.tmp 7), none, 0⟩,
 ⟨some 10, .load true 2 (.tmp 9), none, 0⟩,
 ⟨some 4, .alloc [.int .i64 0, .slice none 0 0], none, 0⟩,
 ⟨none, .store 2 (.tmp 4) (.tmp 10), none, 0⟩]) <|
 .seq (.ops [
 ⟨some 11, .load true 2 (.tmp 4), none, 0⟩,
 ⟨some 12, .call k_zz49 [(.tmp 11)], none, 0⟩,
 ⟨some 13, .un .not (.tmp 12), none, 0⟩]) <|
 .cond (.tmp 13)
 (.seq (.ops [
 ⟨some 2, .mv (.const (.bool false)), none, 0⟩]) <|
 .keep [2] <|
 .ret)
 (.skip)) <|
 .ops [
 ⟨some 14, .bin .add (.tmp 7) (.const (.int .i64 1)), none, 0⟩,
 ⟨some 7, .mv (.tmp 14), none, 0⟩]
def i_zz31 : FF := ⟨15, [.tmp 2],
 .seq (.ops [
 ⟨some 2, .mv (.const (.bool false)), none, 0⟩]) <|
 .seq (.seq (.ops [
 ⟨some 5, .mv (.tmp 0), none, 0⟩,
 ⟨some 6, .len (.tmp 5), none, 0⟩,
 ⟨some 7, .mv (.const (.int .i64 0)), none, 0⟩]) <|
 .block 0 <|
 .loop [5, 6, 7] i_zz31_B1) <|
 .seq (.ops [
 ⟨some 2, .mv (.const (.bool true)), none, 0⟩]) <|
 .keep [2] <|
 .ret⟩
theorem e_zz31 : EntOK Tryd.prog (compD Tryd.prog) k_zz31 i_zz31.vf :=
 ⟨Tryd.f46, Tryd.f46.body.getD .skip, Tryd.func46, by kernel_rfl, by kernel_rfl, by kernel_rfl, by kernel_rfl, by kernel_rfl⟩
/-- loop.example/g01331/impl.graphCode -/
def i_zz33_B1 : FC :=
 .seq (.ops [
 ⟨some 13, .bin .lss (.tmp 12) (.tmp 11), none, 0⟩]) <|
 .seq (.cond (.tmp 13)
 (.skip)
 (.keep [] <|
 .exit 0)) <|
 .seq (.block 1 <|
 .seq (.ops [
 ⟨some 14, .idx 1 (.tmp 10) (.tmp 12), none, 0⟩,
 ⟨some 15, .load false 1 (.tmp 14), none, 0⟩,
 ⟨some 6, .mv (.tmp 15), none, 0⟩]) <|
 .seq (.ops [
 ⟨some 16, .mv (.tmp 6), none, 0⟩,
 ⟨some 17, .bin .lss (.tmp 16) (.const (.int .i64 0)), none, 0⟩,
 ⟨some 18, .mv (.tmp 17), none, 0⟩,
 ⟨some 19, .mv (.tmp 6), some (18, false), 0⟩,
 ⟨some 20, .fld 0 (.tmp 2), some (18, false), 0⟩,
 ⟨some 21, .load false 1 (.tmp 20), some (18, false), 0⟩,
 ⟨some 22, .bin .geq (.tmp 19) (.tmp 21), some (18, false), 0⟩,
 ⟨some 23, .pick (.tmp 18) (.const (.bool true)) (.tmp 22), none, 0⟩]) <|
 .cond (.tmp 23)
 (.seq (.ops [
 ⟨some 4, .mv (.const (.int .i64 2)), none, 0⟩]) <|
 .keep [4] <|
 .ret)
 (.skip)) <|
 .ops [
 ⟨some 24, .bin .add (.tmp 12) (.const (.int .i64 1)), none, 0⟩,
 ⟨some 12, .mv (.tmp 24), none, 0⟩]
def i_zz33 : FF := ⟨25, [.tmp 4],
 .seq (.ops [
 ⟨some 2, .box 2 (.tmp 0), none, 0⟩,
 ⟨some 4, .mv (.const (.int .i64 0)), none, 0⟩]) <|
 .seq (.seq (.ops [
 ⟨some 7, .load true 2 (.tmp 2), none, 0⟩,
 ⟨some 8, .call k_zz49 [(.tmp 7)], none, 0⟩,
 ⟨some 9, .un .not (.tmp 8), none, 0⟩]) <|
 .cond (.tmp 9)
 (.seq (.ops [
 ⟨some 4, .mv (.const (.int .i64 1)), none, 0⟩]) <|
 .keep [4] <|
 .ret)
 (.skip)) <|
 .seq (.seq (.ops [
 ⟨some 10, .mv (.tmp 1), none, 0⟩,
 ⟨some 11, .len (.tmp 10), none, 0⟩,
 ⟨some 12, .mv (.const (.int .i64 0)), none, 0⟩]) <|
 .block 0 <|
 .loop [2, 10, 11, 12] i_zz33_B1) <|
 .seq (.ops [
 ⟨some 4, .mv (.const (.int .i64 0)), none, 0⟩]) <|
 .keep [4] <|
 .ret⟩
theorem e_zz33 : EntOK Tryd.prog (compD Tryd.prog) k_zz33 i_zz33.vf :=
 ⟨Tryd.f47, Tryd.f47.body.getD .skip, Tryd.func47, by kernel_rfl, by kernel_rfl, by kernel_rfl, by kernel_rfl, by kernel_rfl⟩
def i_zz27 : FF := ⟨16, [.tmp 6],
 .seq (.ops [
 ⟨some 3, .box 2 (.tmp 0), none, 0⟩,
 ⟨some 6, .mv (.const (.bool false)), none, 0⟩]) <|
 .seq (.ops [
 ⟨some 7, .fld 1 (.tmp 3), none, 0⟩,
 ⟨some 8, .load false 1 (.tmp 7), none, 0⟩,
 ⟨some 9, .mv (.tmp 1), none, 0⟩,
 ⟨some 10, .idx 1 (.tmp 8) (.tmp 9), none, 0⟩,
 ⟨some 11, .load false 1 (.tmp 10), none, 0⟩,
 ⟨some 12, .mv (.tmp 2), none, 0⟩,
 ⟨some 13, .bin .shr (.tmp 11) (.tmp 12), none, 0⟩,
 ⟨some 14, .bin .and (.tmp 13) (.const (.int .i64 1)), none, 0⟩,
 ⟨some 15, .bin .eql (.tmp 14) (.const (.int .i64 1)), none, 0⟩,
 ⟨some 6, .mv (.tmp 15), none, 0⟩]) <|
 .keep [6] <|
 .ret⟩
theorem e_zz27 : EntOK Tryd.prog (compD Tryd.prog) k_zz27 i_zz27.vf :=
 ⟨Tryd.f48, Tryd.f48.body.getD .skip, Tryd.func48, by kernel_rfl, by kernel_rfl, by kernel_rfl, by kernel_rfl, by kernel_rfl⟩
/-- loop.example/g01331/impl.size -/
def i_zz80 : FF := ⟨6, [.tmp 2],
 .seq (.ops [
 ⟨some 2, .mv (.const (.int .i64 0)), none, 0⟩]) <|
 .seq (.ops [
 ⟨some 3, .mv (.tmp 0), none, 0⟩,
 ⟨some 4, .conv .u64 (.tmp 3), none, 0⟩,
 ⟨some 5, .call k_zz4 [(.tmp 4)], none, 0⟩,
 ⟨some 2, .mv (.tmp 5), none, 0⟩]) <|
 .keep [2] <|
 .ret⟩
theorem e_zz80 : EntOK Tryd.prog (compD Tryd.prog) k_zz80 i_zz80.vf :=
 ⟨Tryd.f49, Tryd.f49.body.getD .skip, Tryd.func49, by kernel_rfl, by kernel_rfl, by kernel_rfl, by kernel_rfl, by kernel_rfl⟩
def i_zz12 : FF := ⟨11, [.tmp 4],
 .seq (.ops [
 ⟨some 2, .box 2 (.tmp 0), none, 0⟩,
 ⟨some 4, .mv (.const (.int .i64 0)), none, 0⟩]) <|
 .seq (.ops [
 ⟨some 5, .fld 1 (.tmp 2), none, 0⟩,
 ⟨some 6, .load false 1 (.tmp 5), none, 0⟩,
 ⟨some 7, .mv (.tmp 1), none, 0⟩,
 ⟨some 8, .idx 1 (.tmp 6) (.tmp 7), none, 0⟩,
 ⟨some 9, .load false 1 (.tmp 8), none, 0⟩,
 ⟨some 10, .call k_zz80 [(.tmp 9)], none, 0⟩,
 ⟨some 4, .mv (.tmp 10), none, 0⟩]) <|
 .keep [4] <|
 .ret⟩
theorem e_zz12 : EntOK Tryd.prog (compD Tryd.prog) k_zz12 i_zz12.vf :=
 ⟨Tryd.f50, Tryd.f50.body.getD .skip, Tryd.func50, by kernel_rfl, by kernel_rfl, by kernel_rfl, by kernel_rfl, by kernel_rfl⟩
/-- loop.example/g01331/spec.l03Levels -/
def i_zz38_B1 : FC :=
 .seq (.seq (.ops [
 ⟨some 117, .mv (.tmp 21), none, 0⟩,
 ⟨some 118, .mv (.tmp 3), none, 0⟩,
 ⟨some 119, .bin .lss (.tmp 117) (.tmp 118), none, 0⟩]) <|
 .cond (.tmp 119)
 (.skip)
 (.keep [1, 3, 4, 5, 6, 7, 10, 11, 12, 13, 14] <|
 .exit 6)) <|
 .seq (.block 7 <|
 .seq (.ops [
 ⟨some 123, .load true 3 (.tmp 1), none, 0⟩,
 ⟨some 124, .mv (.tmp 21), none, 0⟩,
 ⟨some 125, .call k_zz61 [(.tmp 123), (.tmp 124)], none, 0⟩,
 ⟨some 122, .mv (.tmp 125), none, 0⟩,
 ⟨some 126, .ext (.tmp 122) 0, none, 0⟩,
 ⟨some 127, .ext (.tmp 122) 1, none, 0⟩,
 ⟨some 128, .ext (.tmp 122) 2, none, 0⟩,
 ⟨some 22, .mv (.tmp 126), none, 0⟩,
 ⟨some 23, .mv (.tmp 127), none, 0⟩,
 ⟨some 24, .mv (.tmp 128), none, 0⟩]) <|
 .seq (.ops [
 ⟨some 129, .mv (.tmp 22), none, 0⟩,
 ⟨some 130, .mv (.tmp 18), none, 0⟩,
 ⟨some 131, .bin .eql (.tmp 129) (.tmp 130), none, 0⟩,
 ⟨some 132, .mv (.tmp 131), none, 0⟩,
 ⟨some 133, .mv (.tmp 21), some (132, true), 0⟩,
 ⟨some 134, .mv (.tmp 20), some (132, true), 0⟩,
 ⟨some 135, .bin .neq (.tmp 133) (.tmp 134), some (132, true), 0⟩,
 ⟨some 136, .pick (.tmp 132) (.tmp 135) (.const (.bool false)), none, 0⟩]) <|
 .cond (.tmp 136)
 (.ops [
 ⟨some 137, .mv (.tmp 12), none, 0⟩,
 ⟨some 138, .mv (.tmp 21), none, 0⟩,
 ⟨some 139, .mv (.tmp 4), none, 0⟩,
 ⟨some 140, .bin .mul (.tmp 138) (.tmp 139), none, 0⟩,
 ⟨some 141, .mv (.tmp 16), none, 0⟩,
 ⟨some 142, .mv (.tmp 24), none, 0⟩,
 ⟨some 143, .bin .add (.tmp 141) (.tmp 142), none, 0⟩,
 ⟨some 144, .mv (.tmp 4), none, 0⟩,
 ⟨some 145, .bin .rem (.tmp 143) (.tmp 144), none, 0⟩,
 ⟨some 146, .bin .add (.tmp 140) (.tmp 145), none, 0⟩,
 ⟨some 147, .idx 1 (.tmp 137) (.tmp 146), none, 0⟩,
 ⟨none, .store 1 (.tmp 147) (.const (.bool true)), none, 0⟩])
 (.skip)) <|
 .ops [
 ⟨some 120, .mv (.tmp 21), none, 0⟩,
 ⟨some 121, .bin .add (.tmp 120) (.const (.int .i64 1)), none, 0⟩,
 ⟨some 21, .mv (.tmp 121), none, 0⟩]
def i_zz38_B2 : FC :=
 .seq (.seq (.ops [
 ⟨some 71, .mv (.tmp 14), none, 0⟩,
 ⟨some 72, .mv (.tmp 3), none, 0⟩,
 ⟨some 73, .mv (.tmp 4), none, 0⟩,
 ⟨some 74, .bin .mul (.tmp 72) (.tmp 73), none, 0⟩,
 ⟨some 75, .bin .lss (.tmp 71) (.tmp 74), none, 0⟩]) <|
 .cond (.tmp 75)
 (.skip)
 (.keep [1, 3, 4, 5, 6, 7, 11, 12, 13] <|
 .exit 4)) <|
 .seq (.block 5 <|
 .seq (.seq (.ops [
 ⟨some 78, .mv (.tmp 10), none, 0⟩,
 ⟨some 79, .mv (.tmp 14), none, 0⟩,
 ⟨some 80, .idx 1 (.tmp 78) (.tmp 79), none, 0⟩,
 ⟨some 81, .load false 1 (.tmp 80), none, 0⟩,
 ⟨some 82, .un .not (.tmp 81), none, 0⟩]) <|
 .cond (.tmp 82)
 (.keep [1, 3, 4, 5, 6, 7, 10, 11, 12, 13, 14] <|
 .exit 5)
 (.skip)) <|
 .seq (.dops [
 ⟨some 83, .mv (.tmp 14), none, 0⟩,
 ⟨some 84, .mv (.tmp 4), none, 0⟩,
 ⟨some 85, .bin .quo (.tmp 83) (.tmp 84), none, 0⟩,
 ⟨some 86, .mv (.tmp 14), none, 0⟩,
 ⟨some 87, .mv (.tmp 4), none, 0⟩,
 ⟨some 88, .bin .rem (.tmp 86) (.tmp 87), none, 0⟩,
 ⟨some 15, .mv (.tmp 85), none, 0⟩,
 ⟨some 16, .mv (.tmp 88), none, 0⟩]) <|
 .seq (.ops [
 ⟨some 90, .load true 3 (.tmp 1), none, 0⟩,
 ⟨some 91, .mv (.tmp 15), none, 0⟩,
 ⟨some 92, .call k_zz61 [(.tmp 90), (.tmp 91)], none, 0⟩,
 ⟨some 89, .mv (.tmp 92), none, 0⟩,
 ⟨some 93, .ext (.tmp 89) 0, none, 0⟩,
 ⟨some 94, .ext (.tmp 89) 1, none, 0⟩,
 ⟨some 95, .ext (.tmp 89) 2, none, 0⟩,
 ⟨some 17, .mv (.tmp 93), none, 0⟩,
 ⟨some 18, .mv (.tmp 94), none, 0⟩,
 ⟨some 19, .mv (.tmp 95), none, 0⟩]) <|
 .seq (.ops [
 ⟨some 96, .mv (.tmp 15), none, 0⟩,
 ⟨some 97, .bin .add (.tmp 96) (.const (.int .i64 1)), none, 0⟩,
 ⟨some 98, .mv (.tmp 15), none, 0⟩,
 ⟨some 99, .bin .rem (.tmp 98) (.const (.int .i64 2)), none, 0⟩,
 ⟨some 100, .bin .mul (.const (.int .i64 2)) (.tmp 99), none, 0⟩,
 ⟨some 101, .bin .sub (.tmp 97) (.tmp 100), none, 0⟩,
 ⟨some 20, .mv (.tmp 101), none, 0⟩]) <|
 .seq (.ops [
 ⟨some 102, .mv (.tmp 13), none, 0⟩,
 ⟨some 103, .mv (.tmp 102), none, 0⟩,
 ⟨some 104, .mv (.tmp 18), some (103, false), 0⟩,
 ⟨some 105, .mv (.tmp 7), some (103, false), 0⟩,
 ⟨some 106, .bin .eql (.tmp 104) (.tmp 105), some (103, false), 0⟩,
 ⟨some 107, .mv (.tmp 106), some (103, false), 0⟩,
 ⟨some 108, .mv (.tmp 16), some (107, true), 0⟩,
 ⟨some 109, .bin .eql (.tmp 108) (.const (.int .i64 0)), some (107, true), 0⟩,
 ⟨some 110, .pick (.tmp 107) (.tmp 109) (.const (.bool false)), some (103, false), 0⟩,
 ⟨some 111, .mv (.tmp 110), some (103, false), 0⟩,
 ⟨some 112, .mv (.tmp 20), some (111, true), 0⟩,
 ⟨some 113, .mv (.tmp 6), some (111, true), 0⟩,
 ⟨some 114, .bin .neq (.tmp 112) (.tmp 113), some (111, true), 0⟩,
 ⟨some 115, .pick (.tmp 111) (.tmp 114) (.const (.bool false)), some (103, false), 0⟩,
 ⟨some 116, .pick (.tmp 103) (.const (.bool true)) (.tmp 115), none, 0⟩,
 ⟨some 13, .mv (.tmp 116), none, 0⟩]) <|
 .seq (.ops [
 ⟨some 21, .mv (.const (.int .i64 0)), none, 0⟩]) <|
 .block 6 <|
 .loop [1, 3, 4, 5, 6, 7, 10, 11, 12, 13, 14, 16, 18, 20, 21] i_zz38_B1) <|
 .ops [
 ⟨some 76, .mv (.tmp 14), none, 0⟩,
 ⟨some 77, .bin .add (.tmp 76) (.const (.int .i64 1)), none, 0⟩,
 ⟨some 14, .mv (.tmp 77), none, 0⟩]
def i_zz38_B3 : FC :=
 .seq (.seq (.ops [
 ⟨some 54, .mv (.tmp 11), none, 0⟩,
 ⟨some 55, .bin .leq (.tmp 54) (.const (.int .i64 14)), none, 0⟩,
 ⟨some 56, .mv (.tmp 55), none, 0⟩,
 ⟨some 57, .mv (.tmp 5), some (56, true), 0⟩,
 ⟨some 58, .bin .eql (.tmp 57) (.const (.int .i64 0)), some (56, true), 0⟩,
 ⟨some 59, .mv (.tmp 58), some (56, true), 0⟩,
 ⟨some 60, .mv (.tmp 11), some (59, false), 0⟩,
 ⟨some 61, .mv (.tmp 5), some (59, false), 0⟩,
 ⟨some 62, .bin .lss (.tmp 60) (.tmp 61), some (59, false), 0⟩,
 ⟨some 63, .pick (.tmp 59) (.const (.bool true)) (.tmp 62), some (56, true), 0⟩,
 ⟨some 64, .pick (.tmp 56) (.tmp 63) (.const (.bool false)), none, 0⟩]) <|
 .cond (.tmp 64)
 (.skip)
 (.keep [1, 3, 4, 5, 6] <|
 .exit 2)) <|
 .seq (.block 3 <|
 .seq (.ops [
 ⟨some 67, .mv (.tmp 3), none, 0⟩,
 ⟨some 68, .mv (.tmp 4), none, 0⟩,
 ⟨some 69, .bin .mul (.tmp 67) (.tmp 68), none, 0⟩,
 ⟨some 70, .mkSl 1 [.bool false] 1 (.tmp 69) (.tmp 69), none, 0⟩,
 ⟨some 12, .mv (.tmp 70), none, 0⟩,
 ⟨some 13, .mv (.const (.bool false)), none, 0⟩]) <|
 .seq (.seq (.ops [
 ⟨some 14, .mv (.const (.int .i64 0)), none, 0⟩]) <|
 .block 4 <|
 .loop [1, 3, 4, 5, 6, 7, 10, 11, 12, 13, 14] i_zz38_B2) <|
 .seq (.seq (.ops [
 ⟨some 148, .mv (.tmp 13), none, 0⟩]) <|
 .cond (.tmp 148)
 (.seq (.ops [
 ⟨some 149, .mv (.tmp 11), none, 0⟩,
 ⟨some 5, .mv (.tmp 149), none, 0⟩]) <|
 .keep [1, 3, 4, 5, 6] <|
 .exit 2)
 (.skip)) <|
 .ops [
 ⟨some 150, .mv (.tmp 12), none, 0⟩,
 ⟨some 10, .mv (.tmp 150), none, 0⟩]) <|
 .ops [
 ⟨some 65, .mv (.tmp 11), none, 0⟩,
 ⟨some 66, .bin .add (.tmp 65) (.const (.int .i64 1)), none, 0⟩,
 ⟨some 11, .mv (.tmp 66), none, 0⟩]
def i_zz38_B4 : FC :=
 .seq (.seq (.ops [
 ⟨some 31, .mv (.tmp 6), none, 0⟩,
 ⟨some 32, .mv (.tmp 3), none, 0⟩,
 ⟨some 33, .bin .lss (.tmp 31) (.tmp 32), none, 0⟩]) <|
 .cond (.tmp 33)
 (.skip)
 (.keep [5] <|
 .exit 0)) <|
 .seq (.block 1 <|
 .seq (.ops [
 ⟨some 37, .load true 3 (.tmp 1), none, 0⟩,
 ⟨some 38, .mv (.tmp 6), none, 0⟩,
 ⟨some 39, .call k_zz61 [(.tmp 37), (.tmp 38)], none, 0⟩,
 ⟨some 36, .mv (.tmp 39), none, 0⟩,
 ⟨some 40, .ext (.tmp 36) 0, none, 0⟩,
 ⟨some 41, .ext (.tmp 36) 1, none, 0⟩,
 ⟨some 42, .ext (.tmp 36) 2, none, 0⟩,
 ⟨some 7, .mv (.tmp 40), none, 0⟩,
 ⟨some 8, .mv (.tmp 41), none, 0⟩,
 ⟨some 9, .mv (.tmp 42), none, 0⟩]) <|
 .seq (.ops [
 ⟨some 43, .mv (.tmp 3), none, 0⟩,
 ⟨some 44, .mv (.tmp 4), none, 0⟩,
 ⟨some 45, .bin .mul (.tmp 43) (.tmp 44), none, 0⟩,
 ⟨some 46, .mkSl 1 [.bool false] 1 (.tmp 45) (.tmp 45), none, 0⟩,
 ⟨some 10, .mv (.tmp 46), none, 0⟩]) <|
 .seq (.ops [
 ⟨some 47, .mv (.tmp 10), none, 0⟩,
 ⟨some 48, .mv (.tmp 6), none, 0⟩,
 ⟨some 49, .mv (.tmp 4), none, 0⟩,
 ⟨some 50, .bin .mul (.tmp 48) (.tmp 49), none, 0⟩,
 ⟨some 51, .mv (.tmp 9), none, 0⟩,
 ⟨some 52, .bin .add (.tmp 50) (.tmp 51), none, 0⟩,
 ⟨some 53, .idx 1 (.tmp 47) (.tmp 52), none, 0⟩,
 ⟨none, .store 1 (.tmp 53) (.const (.bool true)), none, 0⟩]) <|
 .seq (.ops [
 ⟨some 11, .mv (.const (.int .i64 1)), none, 0⟩]) <|
 .block 2 <|
 .loop [1, 3, 4, 5, 6, 7, 10, 11] i_zz38_B3) <|
 .ops [
 ⟨some 34, .mv (.tmp 6), none, 0⟩,
 ⟨some 35, .bin .add (.tmp 34) (.const (.int .i64 1)), none, 0⟩,
 ⟨some 6, .mv (.tmp 35), none, 0⟩]
def i_zz38 : FF := ⟨152, [.tmp 2],
 .seq (.ops [
 ⟨some 1, .box 3 (.tmp 0), none, 0⟩,
 ⟨some 2, .mv (.const (.int .i64 0)), none, 0⟩]) <|
 .seq (.dops [
 ⟨some 25, .fld 2 (.tmp 1), none, 0⟩,
 ⟨some 26, .load false 1 (.tmp 25), none, 0⟩,
 ⟨some 27, .len (.tmp 26), none, 0⟩,
 ⟨some 28, .bin .mul (.const (.int .i64 2)) (.tmp 27), none, 0⟩,
 ⟨some 29, .fld 1 (.tmp 1), none, 0⟩,
 ⟨some 30, .load false 1 (.tmp 29), none, 0⟩,
 ⟨some 3, .mv (.tmp 28), none, 0⟩,
 ⟨some 4, .mv (.tmp 30), none, 0⟩,
 ⟨some 5, .mv (.const (.int .i64 0)), none, 0⟩]) <|
 .seq (.seq (.ops [
 ⟨some 6, .mv (.const (.int .i64 0)), none, 0⟩]) <|
 .block 0 <|
 .loop [1, 3, 4, 5, 6] i_zz38_B4) <|
 .seq (.ops [
 ⟨some 151, .mv (.tmp 5), none, 0⟩,
 ⟨some 2, .mv (.tmp 151), none, 0⟩]) <|
 .keep [2] <|
 .ret⟩
theorem e_zz38 : EntOK Tryd.prog (compD Tryd.prog) k_zz38 i_zz38.vf :=
 ⟨Tryd.f51, Tryd.f51.body.getD .skip, Tryd.func51, by kernel_rfl, by kernel_rfl, by kernel_rfl, by kernel_rfl, by kernel_rfl⟩
/-- loop.example/g01331/spec.l01Parts -/
def i_zz44_B1 : FC :=
 .seq (.seq (.ops [
 ⟨some 8, .mv (.tmp 5), none, 0⟩,
 ⟨some 9, .fld 0 (.tmp 1), none, 0⟩,
 ⟨some 10, .load false 1 (.tmp 9), none, 0⟩,
 ⟨some 11, .bin .lss (.tmp 8) (.tmp 10), none, 0⟩]) <|
 .cond (.tmp 11)
 (.skip)
 (.keep [4] <|
 .exit 0)) <|
 .seq (.block 1 <|
 .seq (.ops [
 ⟨some 14, .mv (.tmp 3), none, 0⟩,
 ⟨some 15, .mv (.tmp 5), none, 0⟩,
 ⟨some 16, .idx 1 (.tmp 14) (.tmp 15), none, 0⟩,
 ⟨some 17, .load false 1 (.tmp 16), none, 0⟩,
 ⟨some 18, .mv (.tmp 5), none, 0⟩,
 ⟨some 19, .bin .eql (.tmp 17) (.tmp 18), none, 0⟩]) <|
 .cond (.tmp 19)
 (.ops [
 ⟨some 20, .mv (.tmp 4), none, 0⟩,
 ⟨some 21, .bin .add (.tmp 20) (.const (.int .i64 1)), none, 0⟩,
 ⟨some 4, .mv (.tmp 21), none, 0⟩])
 (.skip)) <|
 .ops [
 ⟨some 12, .mv (.tmp 5), none, 0⟩,
 ⟨some 13, .bin .add (.tmp 12) (.const (.int .i64 1)), none, 0⟩,
 ⟨some 5, .mv (.tmp 13), none, 0⟩]
def i_zz44 : FF := ⟨23, [.tmp 2],
 .seq (.ops [
 ⟨some 1, .box 2 (.tmp 0), none, 0⟩,
 ⟨some 2, .mv (.const (.int .i64 0)), none, 0⟩]) <|
 .seq (.ops [
 ⟨some 6, .load true 2 (.tmp 1), none, 0⟩,
 ⟨some 7, .call k_zz26 [(.tmp 6)], none, 0⟩,
 ⟨some 3, .mv (.tmp 7), none, 0⟩,
 ⟨some 4, .mv (.const (.int .i64 0)), none, 0⟩]) <|
 .seq (.seq (.ops [
 ⟨some 5, .mv (.const (.int .i64 0)), none, 0⟩]) <|
 .block 0 <|
 .loop [1, 3, 4, 5] i_zz44_B1) <|
 .seq (.ops [
 ⟨some 22, .mv (.tmp 4), none, 0⟩,
 ⟨some 2, .mv (.tmp 22), none, 0⟩]) <|
 .keep [2] <|
 .ret⟩
theorem e_zz44 : EntOK Tryd.prog (compD Tryd.prog) k_zz44 i_zz44.vf :=
 ⟨Tryd.f52, Tryd.f52.body.getD .skip, Tryd.func52, by kernel_rfl, by kernel_rfl, by kernel_rfl, by kernel_rfl, by kernel_rfl⟩
/-- loop.example/g01331/spec.l01DrawOf -/
def i_zz36_B1 : FC :=
 .seq (.seq (.ops [
 ⟨some 20, .mv (.tmp 8), none, 0⟩,
 ⟨some 21, .mv (.tmp 7), none, 0⟩,
 ⟨some 22, .bin .lss (.tmp 20) (.tmp 21), none, 0⟩]) <|
 .cond (.tmp 22)
 (.skip)
 (.keep [0, 1, 4, 5, 6, 7] <|
 .exit 2)) <|
 .seq (.block 3 <|
 .seq (.ops [
 ⟨some 25, .mv (.tmp 0), none, 0⟩,
 ⟨some 26, .mv (.tmp 1), none, 0⟩,
 ⟨some 27, .call k_zz57 [(.tmp 25), (.tmp 26)], none, 0⟩,
 ⟨some 28, .mv (.tmp 6), none, 0⟩,
 ⟨some 29, .bin .lss (.tmp 27) (.tmp 28), none, 0⟩]) <|
 .cond (.tmp 29)
 (.ops [
 ⟨some 30, .load true 2 (.tmp 5), none, 0⟩,
 ⟨some 31, .mv (.tmp 7), none, 0⟩,
 ⟨some 32, .mv (.tmp 8), none, 0⟩,
 ⟨some 33, .call k_zz70 [(.tmp 30), (.tmp 31), (.tmp 32)], none, 0⟩])
 (.skip)) <|
 .ops [
 ⟨some 23, .mv (.tmp 8), none, 0⟩,
 ⟨some 24, .bin .add (.tmp 23) (.const (.int .i64 1)), none, 0⟩,
 ⟨some 8, .mv (.tmp 24), none, 0⟩]
def i_zz36_B2 : FC :=
 .seq (.seq (.ops [
 ⟨some 15, .mv (.tmp 7), none, 0⟩,
 ⟨some 16, .mv (.tmp 1), none, 0⟩,
 ⟨some 17, .bin .lss (.tmp 15) (.tmp 16), none, 0⟩]) <|
 .cond (.tmp 17)
 (.skip)
 (.keep [4, 5] <|
 .exit 0)) <|
 .seq (.block 1 <|
 .seq (.ops [
 ⟨some 8, .mv (.const (.int .i64 0)), none, 0⟩]) <|
 .block 2 <|
 .loop [0, 1, 4, 5, 6, 7, 8] i_zz36_B1) <|
 .ops [
 ⟨some 18, .mv (.tmp 7), none, 0⟩,
 ⟨some 19, .bin .add (.tmp 18) (.const (.int .i64 1)), none, 0⟩,
 ⟨some 7, .mv (.tmp 19), none, 0⟩]
def i_zz36 : FF := ⟨35, [.cell 4 true 2],
 .seq (.ops [
 ⟨some 4, .alloc [.int .i64 0, .slice none 0 0], none, 0⟩]) <|
 .seq (.ops [
 ⟨some 9, .mv (.tmp 1), none, 0⟩,
 ⟨some 10, .call k_zz43 [(.tmp 9)], none, 0⟩,
 ⟨some 11, .mv (.tmp 0), none, 0⟩,
 ⟨some 12, .mv (.tmp 1), none, 0⟩,
 ⟨some 13, .buildSl 1 [.int .i64 0, .int .i64 0, .int .i64 0, .int .i64 0, .int .i64 0] [(0, 1, (.const (.int .i64 1))), (1, 1, (.const (.int .i64 2))), (2, 1, (.const (.int .i64 3))), (3, 1, (.const (.int .i64 4))), (4, 1, (.tmp 12))] 5, none, 0⟩,
 ⟨some 14, .call k_zz58 [(.tmp 11), (.tmp 13)], none, 0⟩,
 ⟨some 5, .alloc [.int .i64 0, .slice none 0 0], none, 0⟩,
 ⟨none, .store 2 (.tmp 5) (.tmp 10), none, 0⟩,
 ⟨some 6, .mv (.tmp 14), none, 0⟩]) <|
 .seq (.seq (.ops [
 ⟨some 7, .mv (.const (.int .i64 0)), none, 0⟩]) <|
 .block 0 <|
 .loop [0, 1, 4, 5, 6, 7] i_zz36_B2) <|
 .seq (.ops [
 ⟨some 34, .load true 2 (.tmp 5), none, 0⟩,
 ⟨none, .store 2 (.tmp 4) (.tmp 34), none, 0⟩]) <|
 .keep [4] <|
 .ret⟩
theorem e_zz36 : EntOK Tryd.prog (compD Tryd.prog) k_zz36 i_zz36.vf :=
 ⟨Tryd.f53, Tryd.f53.body.getD .skip, Tryd.func53, by kernel_rfl, by kernel_rfl, by kernel_rfl, by kernel_rfl, by kernel_rfl⟩
/-- loop.example/g01331/spec.l01Next -/
def i_zz57 : FF := ⟨58, [.tmp 4],
 .seq (.ops [
 ⟨some 4, .mv (.const (.int .i64 0)), none, 0⟩]) <|
 .seq (.seq (.ops [
 ⟨some 6, .mv (.tmp 1), none, 0⟩,
 ⟨some 7, .bin .lss (.tmp 6) (.const (.int .i64 1)), none, 0⟩]) <|
 .cond (.tmp 7)
 (.seq (.ops [
 ⟨some 4, .mv (.const (.int .i64 0)), none, 0⟩]) <|
 .keep [4] <|
 .ret)
 (.skip)) <|
 .seq (.ops [
 ⟨some 8, .mv (.tmp 0), none, 0⟩,
 ⟨some 9, .mv (.tmp 0), none, 0⟩,
 ⟨some 10, .nilchk (.tmp 9), none, 0⟩,
 ⟨some 11, .fld 2 (.tmp 10), none, 0⟩,
 ⟨some 12, .load false 1 (.tmp 11), none, 0⟩,
 ⟨some 13, .bin .mul (.tmp 12) (.const (.int .u64 6364136223846793005)), none, 0⟩,
 ⟨some 14, .bin .add (.tmp 13) (.const (.int .u64 1442695040888963407)), none, 0⟩,
 ⟨some 15, .nilchk (.tmp 8), none, 0⟩,
 ⟨some 16, .fld 2 (.tmp 15), none, 0⟩,
 ⟨none, .store 1 (.tmp 16) (.tmp 14), none, 0⟩]) <|
 .seq (.ops [
 ⟨some 17, .mv (.tmp 0), none, 0⟩,
 ⟨some 18, .nilchk (.tmp 17), none, 0⟩,
 ⟨some 19, .fld 2 (.tmp 18), none, 0⟩,
 ⟨some 20, .load false 1 (.tmp 19), none, 0⟩,
 ⟨some 21, .bin .shr (.tmp 20) (.const (.int .u64 33)), none, 0⟩,
 ⟨some 22, .bin .and (.tmp 21) (.const (.int .u64 16777215)), none, 0⟩,
 ⟨some 23, .conv .i64 (.tmp 22), none, 0⟩,
 ⟨some 5, .mv (.tmp 23), none, 0⟩]) <|
 .seq (.seq (.dops [
 ⟨some 24, .mv (.tmp 0), none, 0⟩,
 ⟨some 25, .nilchk (.tmp 24), none, 0⟩,
 ⟨some 26, .fld 1 (.tmp 25), none, 0⟩,
 ⟨some 27, .load false 1 (.tmp 26), none, 0⟩,
 ⟨some 28, .mv (.tmp 0), none, 0⟩,
 ⟨some 29, .nilchk (.tmp 28), none, 0⟩,
 ⟨some 30, .fld 0 (.tmp 29), none, 0⟩,
 ⟨some 31, .load false 1 (.tmp 30), none, 0⟩,
 ⟨some 32, .len (.tmp 31), none, 0⟩,
 ⟨some 33, .bin .lss (.tmp 27) (.tmp 32), none, 0⟩]) <|
 .cond (.tmp 33)
 (.seq (.dops [
 ⟨some 34, .mv (.tmp 5), none, 0⟩,
 ⟨some 35, .mv (.tmp 0), none, 0⟩,
 ⟨some 36, .nilchk (.tmp 35), none, 0⟩,
 ⟨some 37, .fld 0 (.tmp 36), none, 0⟩,
 ⟨some 38, .load false 1 (.tmp 37), none, 0⟩,
 ⟨some 39, .mv (.tmp 0), none, 0⟩,
 ⟨some 40, .nilchk (.tmp 39), none, 0⟩,
 ⟨some 41, .fld 1 (.tmp 40), none, 0⟩,
 ⟨some 42, .load false 1 (.tmp 41), none, 0⟩,
 ⟨some 43, .idx 1 (.tmp 38) (.tmp 42), none, 0⟩,
 ⟨some 44, .load false 1 (.tmp 43), none, 0⟩,
 ⟨some 45, .conv .i64 (.tmp 44), none, 0⟩,
 ⟨some 46, .bin .add (.tmp 34) (.tmp 45), none, 0⟩,
 ⟨some 5, .mv (.tmp 46), none, 0⟩]) <|
 .ops [
 ⟨some 47, .mv (.tmp 0), none, 0⟩,
 ⟨some 48, .mv (.tmp 0), none, 0⟩,
 ⟨some 49, .nilchk (.tmp 48), none, 0⟩,
 ⟨some 50, .fld 1 (.tmp 49), none, 0⟩,
 ⟨some 51, .load false 1 (.tmp 50), none, 0⟩,
 ⟨some 52, .bin .add (.tmp 51) (.const (.int .i64 1)), none, 0⟩,
 ⟨some 53, .nilchk (.tmp 47), none, 0⟩,
 ⟨some 54, .fld 1 (.tmp 53), none, 0⟩,
 ⟨none, .store 1 (.tmp 54) (.tmp 52), none, 0⟩])
 (.skip)) <|
 .seq (.ops [
 ⟨some 55, .mv (.tmp 5), none, 0⟩,
 ⟨some 56, .mv (.tmp 1), none, 0⟩,
 ⟨some 57, .bin .rem (.tmp 55) (.tmp 56), none, 0⟩,
 ⟨some 4, .mv (.tmp 57), none, 0⟩]) <|
 .keep [4] <|
 .ret⟩
theorem e_zz57 : EntOK Tryd.prog (compD Tryd.prog) k_zz57 i_zz57.vf :=
 ⟨Tryd.f54, Tryd.f54.body.getD .skip, Tryd.func54, by kernel_rfl, by kernel_rfl, by kernel_rfl, by kernel_rfl, by kernel_rfl⟩
/-- loop.example/g01331/spec.l01Pick -/
def i_zz58 : FF := ⟨12, [.tmp 4],
 .seq (.ops [
 ⟨some 4, .mv (.const (.int .i64 0)), none, 0⟩]) <|
 .seq (.ops [
 ⟨some 5, .mv (.tmp 1), none, 0⟩,
 ⟨some 6, .mv (.tmp 0), none, 0⟩,
 ⟨some 7, .mv (.tmp 1), none, 0⟩,
 ⟨some 8, .len (.tmp 7), none, 0⟩,
 ⟨some 9, .call k_zz57 [(.tmp 6), (.tmp 8)], none, 0⟩,
 ⟨some 10, .idx 1 (.tmp 5) (.tmp 9), none, 0⟩,
 ⟨some 11, .load false 1 (.tmp 10), none, 0⟩,
 ⟨some 4, .mv (.tmp 11), none, 0⟩]) <|
 .keep [4] <|
 .ret⟩
theorem e_zz58 : EntOK Tryd.prog (compD Tryd.prog) k_zz58 i_zz58.vf :=
 ⟨Tryd.f55, Tryd.f55.body.getD .skip, Tryd.func55, by kernel_rfl, by kernel_rfl, by kernel_rfl, by kernel_rfl, by kernel_rfl⟩
/-- loop.example/g01331/spec.l01Empty -/
def i_zz43 : FF := ⟨7, [.cell 2 true 2],
 .seq (.ops [
 ⟨some 2, .alloc [.int .i64 0, .slice none 0 0], none, 0⟩]) <|
 .seq (.ops [
 ⟨some 3, .mv (.tmp 0), none, 0⟩,
 ⟨some 4, .mv (.tmp 0), none, 0⟩,
 ⟨some 5, .mkSl 1 [.int .i64 0] 8 (.tmp 4) (.tmp 4), none, 0⟩,
 ⟨some 6, .build [.int .i64 0, .slice none 0 0] [(0, 1, (.tmp 3)), (1, 1, (.tmp 5))], none, 0⟩,
 ⟨none, .store 2 (.tmp 2) (.tmp 6), none, 0⟩]) <|
 .keep [2] <|
 .ret⟩
theorem e_zz43 : EntOK Tryd.prog (compD Tryd.prog) k_zz43 i_zz43.vf :=
 ⟨Tryd.f56, Tryd.f56.body.getD .skip, Tryd.func56, by kernel_rfl, by kernel_rfl, by kernel_rfl, by kernel_rfl, by kernel_rfl⟩
/-- loop.example/g01331/spec.l01Edges -/
def i_zz42_B1 : FC :=
 .seq (.seq (.ops [
 ⟨some 15, .mv (.tmp 5), none, 0⟩,
 ⟨some 16, .fld 0 (.tmp 1), none, 0⟩,
 ⟨some 17, .load false 1 (.tmp 16), none, 0⟩,
 ⟨some 18, .bin .lss (.tmp 15) (.tmp 17), none, 0⟩]) <|
 .cond (.tmp 18)
 (.skip)
 (.keep [1, 3, 4] <|
 .exit 2)) <|
 .seq (.block 3 <|
 .seq (.ops [
 ⟨some 21, .load true 2 (.tmp 1), none, 0⟩,
 ⟨some 22, .mv (.tmp 4), none, 0⟩,
 ⟨some 23, .mv (.tmp 5), none, 0⟩,
 ⟨some 24, .call k_zz68 [(.tmp 21), (.tmp 22), (.tmp 23)], none, 0⟩]) <|
 .cond (.tmp 24)
 (.ops [
 ⟨some 25, .mv (.tmp 3), none, 0⟩,
 ⟨some 26, .mv (.tmp 4), none, 0⟩,
 ⟨some 27, .mv (.tmp 5), none, 0⟩,
 ⟨some 28, .buildSl 1 [.int .i64 0, .int .i64 0] [(0, 1, (.tmp 26)), (1, 1, (.tmp 27))] 2, none, 0⟩,
 ⟨some 29, .buildSl 1 [.slice none 0 0] [(0, 1, (.tmp 28))] 1, none, 0⟩,
 ⟨some 30, .app 1 24 [.slice none 0 0] (.tmp 25) (.tmp 29), none, 0⟩,
 ⟨some 3, .mv (.tmp 30), none, 0⟩])
 (.skip)) <|
 .ops [
 ⟨some 19, .mv (.tmp 5), none, 0⟩,
 ⟨some 20, .bin .add (.tmp 19) (.const (.int .i64 1)), none, 0⟩,
 ⟨some 5, .mv (.tmp 20), none, 0⟩]
def i_zz42_B2 : FC :=
 .seq (.seq (.ops [
 ⟨some 7, .mv (.tmp 4), none, 0⟩,
 ⟨some 8, .fld 0 (.tmp 1), none, 0⟩,
 ⟨some 9, .load false 1 (.tmp 8), none, 0⟩,
 ⟨some 10, .bin .lss (.tmp 7) (.tmp 9), none, 0⟩]) <|
 .cond (.tmp 10)
 (.skip)
 (.keep [3] <|
 .exit 0)) <|
 .seq (.block 1 <|
 .seq (.ops [
 ⟨some 13, .mv (.tmp 4), none, 0⟩,
 ⟨some 14, .bin .add (.tmp 13) (.const (.int .i64 1)), none, 0⟩,
 ⟨some 5, .mv (.tmp 14), none, 0⟩]) <|
 .block 2 <|
 .loop [1, 3, 4, 5] i_zz42_B1) <|
 .ops [
 ⟨some 11, .mv (.tmp 4), none, 0⟩,
 ⟨some 12, .bin .add (.tmp 11) (.const (.int .i64 1)), none, 0⟩,
 ⟨some 4, .mv (.tmp 12), none, 0⟩]
def i_zz42 : FF := ⟨32, [.tmp 2],
 .seq (.ops [
 ⟨some 1, .box 2 (.tmp 0), none, 0⟩,
 ⟨some 2, .mv (.const (.slice none 0 0)), none, 0⟩]) <|
 .seq (.ops [
 ⟨some 6, .buildSl 1 [] [] 0, none, 0⟩,
 ⟨some 3, .mv (.tmp 6), none, 0⟩]) <|
 .seq (.seq (.ops [
 ⟨some 4, .mv (.const (.int .i64 0)), none, 0⟩]) <|
 .block 0 <|
 .loop [1, 3, 4] i_zz42_B2) <|
 .seq (.ops [
 ⟨some 31, .mv (.tmp 3), none, 0⟩,
 ⟨some 2, .mv (.tmp 31), none, 0⟩]) <|
 .keep [2] <|
 .ret⟩
theorem e_zz42 : EntOK Tryd.prog (compD Tryd.prog) k_zz42 i_zz42.vf :=
 ⟨Tryd.f57, Tryd.f57.body.getD .skip, Tryd.func57, by kernel_rfl, by kernel_rfl, by kernel_rfl, by kernel_rfl, by kernel_rfl⟩
/-- loop.example/g01331/spec.l01Put -/
def i_zz70 : FF := ⟨32, [],
 .seq (.ops [
 ⟨some 3, .box 2 (.tmp 0), none, 0⟩]) <|
 .seq (.dops [
 ⟨some 6, .fld 1 (.tmp 3), none, 0⟩,
 ⟨some 7, .load false 1 (.tmp 6), none, 0⟩,
 ⟨some 8, .mv (.tmp 1), none, 0⟩,
 ⟨some 9, .fld 1 (.tmp 3), none, 0⟩,
 ⟨some 10, .load false 1 (.tmp 9), none, 0⟩,
 ⟨some 11, .mv (.tmp 1), none, 0⟩,
 ⟨some 12, .idx 1 (.tmp 10) (.tmp 11), none, 0⟩,
 ⟨some 13, .load false 1 (.tmp 12), none, 0⟩,
 ⟨some 14, .mv (.tmp 2), none, 0⟩,
 ⟨some 15, .conv .u64 (.tmp 14), none, 0⟩,
 ⟨some 16, .bin .shl (.const (.int .i64 1)) (.tmp 15), none, 0⟩,
 ⟨some 17, .bin .or (.tmp 13) (.tmp 16), none, 0⟩,
 ⟨some 18, .idx 1 (.tmp 7) (.tmp 8), none, 0⟩,
 ⟨none, .store 1 (.tmp 18) (.tmp 17), none, 0⟩]) <|
 .dops [
 ⟨some 19, .fld 1 (.tmp 3), none, 0⟩,
 ⟨some 20, .load false 1 (.tmp 19), none, 0⟩,
 ⟨some 21, .mv (.tmp 2), none, 0⟩,
 ⟨some 22, .fld 1 (.tmp 3), none, 0⟩,
 ⟨some 23, .load false 1 (.tmp 22), none, 0⟩,
 ⟨some 24, .mv (.tmp 2), none, 0⟩,
 ⟨some 25, .idx 1 (.tmp 23) (.tmp 24), none, 0⟩,
 ⟨some 26, .load false 1 (.tmp 25), none, 0⟩,
 ⟨some 27, .mv (.tmp 1), none, 0⟩,
 ⟨some 28, .conv .u64 (.tmp 27), none, 0⟩,
 ⟨some 29, .bin .shl (.const (.int .i64 1)) (.tmp 28), none, 0⟩,
 ⟨some 30, .bin .or (.tmp 26) (.tmp 29), none, 0⟩,
 ⟨some 31, .idx 1 (.tmp 20) (.tmp 21), none, 0⟩,
 ⟨none, .store 1 (.tmp 31) (.tmp 30), none, 0⟩]⟩
theorem e_zz70 : EntOK Tryd.prog (compD Tryd.prog) k_zz70 i_zz70.vf :=
 ⟨Tryd.f58, Tryd.f58.body.getD .skip, Tryd.func58, by kernel_rfl, by kernel_rfl, by kernel_rfl, by kernel_rfl, by kernel_rfl⟩
/-- loop.example/g01331/spec.l01Cut -/
def i_zz67 : FF := ⟨39, [.cell 6 true 2],
 .seq (.ops [
 ⟨some 3, .box 2 (.tmp 0), none, 0⟩,
 ⟨some 6, .alloc [.int .i64 0, .slice none 0 0], none, 0⟩]) <|
 .seq (.ops [
 ⟨some 8, .load true 2 (.tmp 3), none, 0⟩,
 ⟨some 9, .mv (.tmp 1), none, 0⟩,
 ⟨some 10, .mv (.tmp 2), none, 0⟩,
 ⟨some 11, .call k_zz56 [(.tmp 8), (.tmp 9), (.tmp 10)], none, 0⟩,
 ⟨some 7, .alloc [.int .i64 0, .slice none 0 0], none, 0⟩,
 ⟨none, .store 2 (.tmp 7) (.tmp 11), none, 0⟩]) <|
 .seq (.dops [
 ⟨some 12, .fld 1 (.tmp 7), none, 0⟩,
 ⟨some 13, .load false 1 (.tmp 12), none, 0⟩,
 ⟨some 14, .mv (.tmp 1), none, 0⟩,
 ⟨some 15, .fld 1 (.tmp 7), none, 0⟩,
 ⟨some 16, .load false 1 (.tmp 15), none, 0⟩,
 ⟨some 17, .mv (.tmp 1), none, 0⟩,
 ⟨some 18, .idx 1 (.tmp 16) (.tmp 17), none, 0⟩,
 ⟨some 19, .load false 1 (.tmp 18), none, 0⟩,
 ⟨some 20, .mv (.tmp 2), none, 0⟩,
 ⟨some 21, .conv .u64 (.tmp 20), none, 0⟩,
 ⟨some 22, .bin .shl (.const (.int .i64 1)) (.tmp 21), none, 0⟩,
 ⟨some 23, .bin .sub (.tmp 19) (.tmp 22), none, 0⟩,
 ⟨some 24, .idx 1 (.tmp 13) (.tmp 14), none, 0⟩,
 ⟨none, .store 1 (.tmp 24) (.tmp 23), none, 0⟩]) <|
 .seq (.dops [
 ⟨some 25, .fld 1 (.tmp 7), none, 0⟩,
 ⟨some 26, .load false 1 (.tmp 25), none, 0⟩,
 ⟨some 27, .mv (.tmp 2), none, 0⟩,
 ⟨some 28, .fld 1 (.tmp 7), none, 0⟩,
 ⟨some 29, .load false 1 (.tmp 28), none, 0⟩,
 ⟨some 30, .mv (.tmp 2), none, 0⟩,
 ⟨some 31, .idx 1 (.tmp 29) (.tmp 30), none, 0⟩,
 ⟨some 32, .load false 1 (.tmp 31), none, 0⟩,
 ⟨some 33, .mv (.tmp 1), none, 0⟩,
 ⟨some 34, .conv .u64 (.tmp 33), none, 0⟩,
 ⟨some 35, .bin .shl (.const (.int .i64 1)) (.tmp 34), none, 0⟩,
 ⟨some 36, .bin .sub (.tmp 32) (.tmp 35), none, 0⟩,
 ⟨some 37, .idx 1 (.tmp 26) (.tmp 27), none, 0⟩,
 ⟨none, .store 1 (.tmp 37) (.tmp 36), none, 0⟩]) <|
 .seq (.ops [
 ⟨some 38, .load true 2 (.tmp 7), none, 0⟩,
 ⟨none, .store 2 (.tmp 6) (.tmp 38), none, 0⟩]) <|
 .keep [6] <|
 .ret⟩
theorem e_zz67 : EntOK Tryd.prog (compD Tryd.prog) k_zz67 i_zz67.vf :=
 ⟨Tryd.f59, Tryd.f59.body.getD .skip, Tryd.func59, by kernel_rfl, by kernel_rfl, by kernel_rfl, by kernel_rfl, by kernel_rfl⟩
/-- loop.example/g01331/spec.l01Bad -/
def i_zz66 : FF := ⟨46, [.cell 4 true 2],
 .seq (.ops [
 ⟨some 3, .box 2 (.tmp 1), none, 0⟩,
 ⟨some 4, .alloc [.int .i64 0, .slice none 0 0], none, 0⟩]) <|
 .seq (.ops [
 ⟨some 6, .fld 1 (.tmp 3), none, 0⟩,
 ⟨some 7, .load false 1 (.tmp 6), none, 0⟩,
 ⟨some 8, .call k_zz69 [(.tmp 7)], none, 0⟩,
 ⟨some 5, .mv (.tmp 8), none, 0⟩]) <|
 .seq (.seq (.ops [
 ⟨some 9, .mv (.tmp 0), none, 0⟩,
 ⟨some 10, .call k_zz57 [(.tmp 9), (.const (.int .i64 50))], none, 0⟩]) <|
 .block 0 <|
 .seq (.ops [
 ⟨some 13, .bin .eql (.tmp 10) (.const (.int .i64 0)), none, 0⟩,
 ⟨some 12, .mv (.tmp 13), none, 0⟩]) <|
 .cond (.tmp 12)
 (.seq (.ops [
 ⟨some 14, .mv (.tmp 0), none, 0⟩,
 ⟨some 15, .fld 0 (.tmp 3), none, 0⟩,
 ⟨some 16, .load false 1 (.tmp 15), none, 0⟩,
 ⟨some 17, .bin .add (.tmp 16) (.const (.int .i64 1)), none, 0⟩,
 ⟨some 18, .buildSl 1 [.int .i64 0, .int .i64 0, .int .i64 0, .int .i64 0] [(0, 1, (.const (.int .i64 0))), (1, 1, (.const (.int .i64 63))), (2, 1, (.const (.int .i64 (-1)))), (3, 1, (.tmp 17))] 4, none, 0⟩,
 ⟨some 19, .call k_zz58 [(.tmp 14), (.tmp 18)], none, 0⟩,
 ⟨some 20, .mv (.tmp 5), none, 0⟩,
 ⟨some 21, .build [.int .i64 0, .slice none 0 0] [(0, 1, (.tmp 19)), (1, 1, (.tmp 20))], none, 0⟩,
 ⟨none, .store 2 (.tmp 4) (.tmp 21), none, 0⟩]) <|
 .keep [4] <|
 .ret)
 (.seq (.ops [
 ⟨some 23, .bin .eql (.tmp 10) (.const (.int .i64 1)), none, 0⟩,
 ⟨some 22, .mv (.tmp 23), none, 0⟩]) <|
 .cond (.tmp 22)
 (.dops [
 ⟨some 25, .mv (.tmp 0), none, 0⟩,
 ⟨some 26, .fld 0 (.tmp 3), none, 0⟩,
 ⟨some 27, .load false 1 (.tmp 26), none, 0⟩,
 ⟨some 28, .call k_zz57 [(.tmp 25), (.tmp 27)], none, 0⟩,
 ⟨some 29, .mv (.tmp 0), none, 1⟩,
 ⟨some 30, .fld 0 (.tmp 3), none, 1⟩,
 ⟨some 31, .load false 1 (.tmp 30), none, 1⟩,
 ⟨some 32, .conv .u64 (.tmp 31), none, 1⟩,
 ⟨some 33, .bin .shl (.const (.int .i64 1)) (.tmp 32), none, 1⟩,
 ⟨some 34, .buildSl 1 [.int .i64 0, .int .i64 0, .int .i64 0, .int .i64 0, .int .i64 0] [(0, 1, (.const (.int .i64 (-1)))), (1, 1, (.const (.int .i64 1))), (2, 1, (.const (.int .i64 2))), (3, 1, (.const (.int .i64 4611686018427387904))), (4, 1, (.tmp 33))] 5, none, 1⟩,
 ⟨some 35, .call k_zz58 [(.tmp 29), (.tmp 34)], none, 1⟩,
 ⟨some 24, .mv (.tmp 5), none, 3⟩,
 ⟨some 36, .idx 1 (.tmp 24) (.tmp 28), none, 1⟩,
 ⟨none, .store 1 (.tmp 36) (.tmp 35), none, 1⟩])
 (.seq (.ops [
 ⟨some 38, .bin .eql (.tmp 10) (.const (.int .i64 2)), none, 0⟩,
 ⟨some 37, .mv (.tmp 38), none, 0⟩]) <|
 .cond (.tmp 37)
 (.ops [
 ⟨some 39, .mv (.tmp 5), none, 0⟩,
 ⟨some 40, .buildSl 1 [.int .i64 0] [(0, 1, (.const (.int .i64 0)))] 1, none, 0⟩,
 ⟨some 41, .app 1 8 [.int .i64 0] (.tmp 39) (.tmp 40), none, 0⟩,
 ⟨some 5, .mv (.tmp 41), none, 0⟩])
 (.seq (.ops [
 ⟨some 11, .load true 2 (.tmp 3), none, 0⟩,
 ⟨none, .store 2 (.tmp 4) (.tmp 11), none, 0⟩]) <|
 .keep [4] <|
 .ret)))) <|
 .seq (.ops [
 ⟨some 42, .fld 0 (.tmp 3), none, 0⟩,
 ⟨some 43, .load false 1 (.tmp 42), none, 0⟩,
 ⟨some 44, .mv (.tmp 5), none, 0⟩,
 ⟨some 45, .build [.int .i64 0, .slice none 0 0] [(0, 1, (.tmp 43)), (1, 1, (.tmp 44))], none, 0⟩,
 ⟨none, .store 2 (.tmp 4) (.tmp 45), none, 0⟩]) <|
 .keep [4] <|
 .ret⟩
theorem e_zz66 : EntOK Tryd.prog (compD Tryd.prog) k_zz66 i_zz66.vf :=
 ⟨Tryd.f60, Tryd.f60.body.getD .skip, Tryd.func60, by kernel_rfl, by kernel_rfl, by kernel_rfl, by kernel_rfl, by kernel_rfl⟩
/-- loop.example/g01331/spec.l01Is -/
def i_zz76_B1 : FC :=
 .seq (.seq (.ops [
 ⟨some 18, .mv (.tmp 3), none, 0⟩,
 ⟨some 19, .fld 0 (.tmp 1), none, 0⟩,
 ⟨some 20, .load false 1 (.tmp 19), none, 0⟩,
 ⟨some 21, .bin .lss (.tmp 18) (.tmp 20), none, 0⟩]) <|
 .cond (.tmp 21)
 (.skip)
 (.keep [1] <|
 .exit 0)) <|
 .seq (.block 1 <|
 .seq (.dops [
 ⟨some 24, .fld 1 (.tmp 1), none, 0⟩,
 ⟨some 25, .load false 1 (.tmp 24), none, 0⟩,
 ⟨some 26, .mv (.tmp 3), none, 0⟩,
 ⟨some 27, .idx 1 (.tmp 25) (.tmp 26), none, 0⟩,
 ⟨some 28, .load false 1 (.tmp 27), none, 0⟩,
 ⟨some 29, .fld 0 (.tmp 1), none, 0⟩,
 ⟨some 30, .load false 1 (.tmp 29), none, 0⟩,
 ⟨some 31, .conv .u64 (.tmp 30), none, 0⟩,
 ⟨some 32, .bin .shl (.const (.int .i64 1)) (.tmp 31), none, 0⟩,
 ⟨some 33, .bin .sub (.tmp 32) (.const (.int .i64 1)), none, 0⟩,
 ⟨some 34, .call k_zz75 [(.tmp 28), (.const (.int .i64 0)), (.tmp 33)], none, 0⟩,
 ⟨some 35, .un .not (.tmp 34), none, 0⟩,
 ⟨some 36, .mv (.tmp 35), none, 0⟩,
 ⟨some 37, .load true 2 (.tmp 1), some (36, false), 0⟩,
 ⟨some 38, .mv (.tmp 3), some (36, false), 0⟩,
 ⟨some 39, .mv (.tmp 3), some (36, false), 0⟩,
 ⟨some 40, .call k_zz68 [(.tmp 37), (.tmp 38), (.tmp 39)], some (36, false), 0⟩,
 ⟨some 41, .pick (.tmp 36) (.const (.bool true)) (.tmp 40), none, 0⟩]) <|
 .cond (.tmp 41)
 (.seq (.ops [
 ⟨some 2, .mv (.const (.bool false)), none, 0⟩]) <|
 .keep [2] <|
 .ret)
 (.skip)) <|
 .ops [
 ⟨some 22, .mv (.tmp 3), none, 0⟩,
 ⟨some 23, .bin .add (.tmp 22) (.const (.int .i64 1)), none, 0⟩,
 ⟨some 3, .mv (.tmp 23), none, 0⟩]
def i_zz76_B2 : FC :=
 .seq (.seq (.ops [
 ⟨some 48, .mv (.tmp 5), none, 0⟩,
 ⟨some 49, .mv (.tmp 4), none, 0⟩,
 ⟨some 50, .bin .lss (.tmp 48) (.tmp 49), none, 0⟩]) <|
 .cond (.tmp 50)
 (.skip)
 (.keep [1, 4] <|
 .exit 4)) <|
 .seq (.block 5 <|
 .seq (.dops [
 ⟨some 53, .load true 2 (.tmp 1), none, 0⟩,
 ⟨some 54, .mv (.tmp 4), none, 0⟩,
 ⟨some 55, .mv (.tmp 5), none, 0⟩,
 ⟨some 56, .call k_zz68 [(.tmp 53), (.tmp 54), (.tmp 55)], none, 0⟩,
 ⟨some 57, .load true 2 (.tmp 1), none, 1⟩,
 ⟨some 58, .mv (.tmp 5), none, 1⟩,
 ⟨some 59, .mv (.tmp 4), none, 1⟩,
 ⟨some 60, .call k_zz68 [(.tmp 57), (.tmp 58), (.tmp 59)], none, 0⟩,
 ⟨some 61, .beq true (.tmp 56) (.tmp 60), none, 0⟩]) <|
 .cond (.tmp 61)
 (.seq (.ops [
 ⟨some 2, .mv (.const (.bool false)), none, 0⟩]) <|
 .keep [2] <|
 .ret)
 (.skip)) <|
 .ops [
 ⟨some 51, .mv (.tmp 5), none, 0⟩,
 ⟨some 52, .bin .add (.tmp 51) (.const (.int .i64 1)), none, 0⟩,
 ⟨some 5, .mv (.tmp 52), none, 0⟩]
def i_zz76_B3 : FC :=
 .seq (.seq (.ops [
 ⟨some 42, .mv (.tmp 4), none, 0⟩,
 ⟨some 43, .fld 0 (.tmp 1), none, 0⟩,
 ⟨some 44, .load false 1 (.tmp 43), none, 0⟩,
 ⟨some 45, .bin .lss (.tmp 42) (.tmp 44), none, 0⟩]) <|
 .cond (.tmp 45)
 (.skip)
 (.keep [] <|
 .exit 2)) <|
 .seq (.block 3 <|
 .seq (.ops [
 ⟨some 5, .mv (.const (.int .i64 0)), none, 0⟩]) <|
 .block 4 <|
 .loop [1, 4, 5] i_zz76_B2) <|
 .ops [
 ⟨some 46, .mv (.tmp 4), none, 0⟩,
 ⟨some 47, .bin .add (.tmp 46) (.const (.int .i64 1)), none, 0⟩,
 ⟨some 4, .mv (.tmp 47), none, 0⟩]
def i_zz76 : FF := ⟨62, [.tmp 2],
 .seq (.ops [
 ⟨some 1, .box 2 (.tmp 0), none, 0⟩,
 ⟨some 2, .mv (.const (.bool false)), none, 0⟩]) <|
 .seq (.seq (.ops [
 ⟨some 6, .fld 0 (.tmp 1), none, 0⟩,
 ⟨some 7, .load false 1 (.tmp 6), none, 0⟩,
 ⟨some 8, .call k_zz75 [(.tmp 7), (.const (.int .i64 1)), (.const (.int .i64 62))], none, 0⟩,
 ⟨some 9, .un .not (.tmp 8), none, 0⟩,
 ⟨some 10, .mv (.tmp 9), none, 0⟩,
 ⟨some 11, .fld 1 (.tmp 1), some (10, false), 0⟩,
 ⟨some 12, .load false 1 (.tmp 11), some (10, false), 0⟩,
 ⟨some 13, .len (.tmp 12), some (10, false), 0⟩,
 ⟨some 14, .fld 0 (.tmp 1), some (10, false), 0⟩,
 ⟨some 15, .load false 1 (.tmp 14), some (10, false), 0⟩,
 ⟨some 16, .bin .neq (.tmp 13) (.tmp 15), some (10, false), 0⟩,
 ⟨some 17, .pick (.tmp 10) (.const (.bool true)) (.tmp 16), none, 0⟩]) <|
 .cond (.tmp 17)
 (.seq (.ops [
 ⟨some 2, .mv (.const (.bool false)), none, 0⟩]) <|
 .keep [2] <|
 .ret)
 (.skip)) <|
 .seq (.seq (.ops [
 ⟨some 3, .mv (.const (.int .i64 0)), none, 0⟩]) <|
 .block 0 <|
 .loop [1, 3] i_zz76_B1) <|
 .seq (.seq (.ops [
 ⟨some 4, .mv (.const (.int .i64 0)), none, 0⟩]) <|
 .block 2 <|
 .loop [1, 4] i_zz76_B3) <|
 .seq (.ops [
 ⟨some 2, .mv (.const (.bool true)), none, 0⟩]) <|
 .keep [2] <|
 .ret⟩
theorem e_zz76 : EntOK Tryd.prog (compD Tryd.prog) k_zz76 i_zz76.vf :=
 ⟨Tryd.f61, Tryd.f61.body.getD .skip, Tryd.func61, by kernel_rfl, by kernel_rfl, by kernel_rfl, by kernel_rfl, by kernel_rfl⟩
/-- loop.example/g01331/spec.l01In -/
def i_zz75 : FF := ⟨15, [.tmp 6],
 .seq (.ops [
 ⟨some 6, .mv (.const (.bool false)), none, 0⟩]) <|
 .seq (.ops [
 ⟨some 7, .mv (.tmp 0), none, 0⟩,
 ⟨some 8, .mv (.tmp 1), none, 0⟩,
 ⟨some 9, .bin .geq (.tmp 7) (.tmp 8), none, 0⟩,
 ⟨some 10, .mv (.tmp 9), none, 0⟩,
 ⟨some 11, .mv (.tmp 0), some (10, true), 0⟩,
 ⟨some 12, .mv (.tmp 2), some (10, true), 0⟩,
 ⟨some 13, .bin .leq (.tmp 11) (.tmp 12), some (10, true), 0⟩,
 ⟨some 14, .pick (.tmp 10) (.tmp 13) (.const (.bool false)), none, 0⟩,
 ⟨some 6, .mv (.tmp 14), none, 0⟩]) <|
 .keep [6] <|
 .ret⟩
theorem e_zz75 : EntOK Tryd.prog (compD Tryd.prog) k_zz75 i_zz75.vf :=
 ⟨Tryd.f62, Tryd.f62.body.getD .skip, Tryd.func62, by kernel_rfl, by kernel_rfl, by kernel_rfl, by kernel_rfl, by kernel_rfl⟩
/-- loop.example/g01331/spec.l01Neighbours -/
def i_zz10_B1 : FC :=
 .seq (.seq (.ops [
 ⟨some 8, .mv (.tmp 6), none, 0⟩,
 ⟨some 9, .fld 0 (.tmp 2), none, 0⟩,
 ⟨some 10, .load false 1 (.tmp 9), none, 0⟩,
 ⟨some 11, .bin .lss (.tmp 8) (.tmp 10), none, 0⟩]) <|
 .cond (.tmp 11)
 (.skip)
 (.keep [5] <|
 .exit 0)) <|
 .seq (.block 1 <|
 .seq (.ops [
 ⟨some 14, .load true 2 (.tmp 2), none, 0⟩,
 ⟨some 15, .mv (.tmp 1), none, 0⟩,
 ⟨some 16, .mv (.tmp 6), none, 0⟩,
 ⟨some 17, .call k_zz68 [(.tmp 14), (.tmp 15), (.tmp 16)], none, 0⟩]) <|
 .cond (.tmp 17)
 (.ops [
 ⟨some 18, .mv (.tmp 5), none, 0⟩,
 ⟨some 19, .mv (.tmp 6), none, 0⟩,
 ⟨some 20, .buildSl 1 [.int .i64 0] [(0, 1, (.tmp 19))] 1, none, 0⟩,
 ⟨some 21, .app 1 8 [.int .i64 0] (.tmp 18) (.tmp 20), none, 0⟩,
 ⟨some 5, .mv (.tmp 21), none, 0⟩])
 (.skip)) <|
 .ops [
 ⟨some 12, .mv (.tmp 6), none, 0⟩,
 ⟨some 13, .bin .add (.tmp 12) (.const (.int .i64 1)), none, 0⟩,
 ⟨some 6, .mv (.tmp 13), none, 0⟩]
def i_zz10 : FF := ⟨23, [.tmp 4],
 .seq (.ops [
 ⟨some 2, .box 2 (.tmp 0), none, 0⟩,
 ⟨some 4, .mv (.const (.slice none 0 0)), none, 0⟩]) <|
 .seq (.ops [
 ⟨some 7, .buildSl 1 [] [] 0, none, 0⟩,
 ⟨some 5, .mv (.tmp 7), none, 0⟩]) <|
 .seq (.seq (.ops [
 ⟨some 6, .mv (.const (.int .i64 0)), none, 0⟩]) <|
 .block 0 <|
 .loop [1, 2, 5, 6] i_zz10_B1) <|
 .seq (.ops [
 ⟨some 22, .mv (.tmp 5), none, 0⟩,
 ⟨some 4, .mv (.tmp 22), none, 0⟩]) <|
 .keep [4] <|
 .ret⟩
theorem e_zz10 : EntOK Tryd.prog (compD Tryd.prog) k_zz10 i_zz10.vf :=
 ⟨Tryd.f63, Tryd.f63.body.getD .skip, Tryd.func63, by kernel_rfl, by kernel_rfl, by kernel_rfl, by kernel_rfl, by kernel_rfl⟩
/-- loop.example/g01331/spec.l03Bad -/
def i_zz71_B1 : FC :=
 .seq (.seq (.ops [
 ⟨some 46, .mv (.tmp 5), none, 0⟩,
 ⟨some 47, .len (.tmp 46), none, 0⟩,
 ⟨some 48, .bin .leq (.tmp 47) (.const (.int .i64 16)), none, 0⟩]) <|
 .cond (.tmp 48)
 (.skip)
 (.keep [3, 4, 5] <|
 .exit 1)) <|
 .block 2 <|
 .ops [
 ⟨some 49, .mv (.tmp 5), none, 0⟩,
 ⟨some 50, .build [.int .i64 0, .int .i64 0, .int .i64 0] [], none, 0⟩,
 ⟨some 51, .buildSl 3 [.int .i64 0, .int .i64 0, .int .i64 0] [(0, 3, (.tmp 50))] 1, none, 0⟩,
 ⟨some 52, .app 3 24 [.int .i64 0, .int .i64 0, .int .i64 0] (.tmp 49) (.tmp 51), none, 0⟩,
 ⟨some 5, .mv (.tmp 52), none, 0⟩]
def i_zz71 : FF := ⟨56, [.cell 4 true 3],
 .seq (.ops [
 ⟨some 3, .box 3 (.tmp 1), none, 0⟩,
 ⟨some 4, .alloc [.int .i64 0, .int .i64 0, .slice none 0 0], none, 0⟩]) <|
 .seq (.seq (.ops [
 ⟨some 6, .mv (.tmp 0), none, 0⟩,
 ⟨some 7, .call k_zz57 [(.tmp 6), (.const (.int .i64 50))], none, 0⟩]) <|
 .block 0 <|
 .seq (.ops [
 ⟨some 9, .bin .eql (.tmp 7) (.const (.int .i64 0)), none, 0⟩,
 ⟨some 8, .mv (.tmp 9), none, 0⟩]) <|
 .cond (.tmp 8)
 (.ops [
 ⟨some 10, .mv (.tmp 0), none, 0⟩,
 ⟨some 11, .buildSl 1 [.int .i64 0, .int .i64 0, .int .i64 0] [(0, 1, (.const (.int .i64 0))), (1, 1, (.const (.int .i64 11))), (2, 1, (.const (.int .i64 (-1))))] 3, none, 0⟩,
 ⟨some 12, .call k_zz58 [(.tmp 10), (.tmp 11)], none, 0⟩,
 ⟨some 13, .fld 0 (.tmp 3), none, 0⟩,
 ⟨none, .store 1 (.tmp 13) (.tmp 12), none, 0⟩])
 (.seq (.ops [
 ⟨some 15, .bin .eql (.tmp 7) (.const (.int .i64 1)), none, 0⟩,
 ⟨some 14, .mv (.tmp 15), none, 0⟩]) <|
 .cond (.tmp 14)
 (.ops [
 ⟨some 16, .mv (.tmp 0), none, 0⟩,
 ⟨some 17, .buildSl 1 [.int .i64 0, .int .i64 0, .int .i64 0] [(0, 1, (.const (.int .i64 0))), (1, 1, (.const (.int .i64 63))), (2, 1, (.const (.int .i64 62)))] 3, none, 0⟩,
 ⟨some 18, .call k_zz58 [(.tmp 16), (.tmp 17)], none, 0⟩,
 ⟨some 19, .fld 1 (.tmp 3), none, 0⟩,
 ⟨none, .store 1 (.tmp 19) (.tmp 18), none, 0⟩])
 (.seq (.ops [
 ⟨some 21, .bin .eql (.tmp 7) (.const (.int .i64 2)), none, 0⟩,
 ⟨some 20, .mv (.tmp 21), none, 0⟩]) <|
 .cond (.tmp 20)
 (.dops [
 ⟨some 22, .buildSl 3 [] [] 0, none, 0⟩,
 ⟨some 23, .fld 2 (.tmp 3), none, 1⟩,
 ⟨some 24, .load false 1 (.tmp 23), none, 1⟩,
 ⟨some 25, .app 3 24 [.int .i64 0, .int .i64 0, .int .i64 0] (.tmp 22) (.tmp 24), none, 1⟩,
 ⟨some 26, .mv (.tmp 0), none, 2⟩,
 ⟨some 27, .fld 0 (.tmp 3), none, 2⟩,
 ⟨some 28, .load false 1 (.tmp 27), none, 2⟩,
 ⟨some 29, .buildSl 1 [.int .i64 0, .int .i64 0, .int .i64 0] [(0, 1, (.const (.int .i64 0))), (1, 1, (.tmp 28)), (2, 1, (.const (.int .i64 (-1))))] 3, none, 2⟩,
 ⟨some 30, .call k_zz58 [(.tmp 26), (.tmp 29)], none, 2⟩,
 ⟨some 31, .mv (.tmp 0), none, 4⟩,
 ⟨some 32, .fld 1 (.tmp 3), none, 4⟩,
 ⟨some 33, .load false 1 (.tmp 32), none, 4⟩,
 ⟨some 34, .buildSl 1 [.int .i64 0, .int .i64 0, .int .i64 0] [(0, 1, (.tmp 33)), (1, 1, (.const (.int .i64 (-1)))), (2, 1, (.const (.int .i64 0)))] 3, none, 4⟩,
 ⟨some 35, .call k_zz58 [(.tmp 31), (.tmp 34)], none, 3⟩,
 ⟨some 36, .build [.int .i64 0, .int .i64 0, .int .i64 0] [(0, 1, (.tmp 30)), (1, 1, (.const (.int .i64 0))), (2, 1, (.tmp 35))], none, 3⟩,
 ⟨some 37, .buildSl 3 [.int .i64 0, .int .i64 0, .int .i64 0] [(0, 3, (.tmp 36))] 1, none, 3⟩,
 ⟨some 38, .app 3 24 [.int .i64 0, .int .i64 0, .int .i64 0] (.tmp 25) (.tmp 37), none, 4⟩,
 ⟨some 39, .fld 2 (.tmp 3), none, 4⟩,
 ⟨none, .store 1 (.tmp 39) (.tmp 38), none, 4⟩])
 (.seq (.ops [
 ⟨some 41, .bin .eql (.tmp 7) (.const (.int .i64 3)), none, 0⟩,
 ⟨some 40, .mv (.tmp 41), none, 0⟩]) <|
 .cond (.tmp 40)
 (.seq (.ops [
 ⟨some 42, .buildSl 3 [] [] 0, none, 0⟩,
 ⟨some 43, .fld 2 (.tmp 3), none, 0⟩,
 ⟨some 44, .load false 1 (.tmp 43), none, 0⟩,
 ⟨some 45, .app 3 24 [.int .i64 0, .int .i64 0, .int .i64 0] (.tmp 42) (.tmp 44), none, 0⟩,
 ⟨some 5, .mv (.tmp 45), none, 0⟩]) <|
 .seq (.block 1 <|
 .loop [3, 4, 5] i_zz71_B1) <|
 .ops [
 ⟨some 53, .mv (.tmp 5), none, 0⟩,
 ⟨some 54, .fld 2 (.tmp 3), none, 0⟩,
 ⟨none, .store 1 (.tmp 54) (.tmp 53), none, 0⟩])
 (.skip))))) <|
 .seq (.ops [
 ⟨some 55, .load true 3 (.tmp 3), none, 0⟩,
 ⟨none, .store 3 (.tmp 4) (.tmp 55), none, 0⟩]) <|
 .keep [4] <|
 .ret⟩
theorem e_zz71 : EntOK Tryd.prog (compD Tryd.prog) k_zz71 i_zz71.vf :=
 ⟨Tryd.f64, Tryd.f64.body.getD .skip, Tryd.func64, by kernel_rfl, by kernel_rfl, by kernel_rfl, by kernel_rfl, by kernel_rfl⟩
/-- loop.example/g01331/spec.l03DrawOf -/
def i_zz37_B1 : FC :=
 .seq (.seq (.ops [
 ⟨some 37, .mv (.tmp 4), none, 0⟩,
 ⟨some 38, .fld 0 (.tmp 3), none, 0⟩,
 ⟨some 39, .load false 1 (.tmp 38), none, 0⟩,
 ⟨some 40, .bin .lss (.tmp 37) (.tmp 39), none, 0⟩]) <|
 .cond (.tmp 40)
 (.skip)
 (.keep [0, 2, 3] <|
 .exit 0)) <|
 .seq (.block 1 <|
 .dops [
 ⟨some 49, .mv (.tmp 0), none, 0⟩,
 ⟨some 50, .fld 1 (.tmp 3), none, 0⟩,
 ⟨some 51, .load false 1 (.tmp 50), none, 0⟩,
 ⟨some 52, .call k_zz57 [(.tmp 49), (.tmp 51)], none, 0⟩,
 ⟨some 53, .buildSl 1 [.int .i64 0, .int .i64 0, .int .i64 0] [(0, 1, (.const (.int .i64 0))), (1, 1, (.const (.int .i64 0))), (2, 1, (.tmp 52))] 3, none, 0⟩,
 ⟨some 48, .mv (.tmp 0), none, 2⟩,
 ⟨some 54, .call k_zz58 [(.tmp 48), (.tmp 53)], none, 0⟩,
 ⟨some 45, .mv (.tmp 4), none, 3⟩,
 ⟨some 46, .bin .sub (.tmp 45) (.const (.int .i64 1)), none, 3⟩,
 ⟨some 47, .mv (.tmp 4), none, 3⟩,
 ⟨some 55, .build [.int .i64 0, .int .i64 0, .int .i64 0] [(0, 1, (.tmp 46)), (1, 1, (.tmp 47)), (2, 1, (.tmp 54))], none, 0⟩,
 ⟨some 56, .buildSl 3 [.int .i64 0, .int .i64 0, .int .i64 0] [(0, 3, (.tmp 55))] 1, none, 0⟩,
 ⟨some 43, .fld 2 (.tmp 3), none, 4⟩,
 ⟨some 44, .load false 1 (.tmp 43), none, 4⟩,
 ⟨some 57, .app 3 24 [.int .i64 0, .int .i64 0, .int .i64 0] (.tmp 44) (.tmp 56), none, 0⟩,
 ⟨some 58, .fld 2 (.tmp 3), none, 0⟩,
 ⟨none, .store 1 (.tmp 58) (.tmp 57), none, 0⟩]) <|
 .ops [
 ⟨some 41, .mv (.tmp 4), none, 0⟩,
 ⟨some 42, .bin .add (.tmp 41) (.const (.int .i64 1)), none, 0⟩,
 ⟨some 4, .mv (.tmp 42), none, 0⟩]
def i_zz37_B2 : FC :=
 .seq (.seq (.ops [
 ⟨some 64, .mv (.tmp 5), none, 0⟩,
 ⟨some 65, .bin .gtr (.tmp 64) (.const (.int .i64 0)), none, 0⟩,
 ⟨some 66, .mv (.tmp 65), none, 0⟩,
 ⟨some 67, .fld 2 (.tmp 3), some (66, true), 0⟩,
 ⟨some 68, .load false 1 (.tmp 67), some (66, true), 0⟩,
 ⟨some 69, .len (.tmp 68), some (66, true), 0⟩,
 ⟨some 70, .bin .lss (.tmp 69) (.const (.int .i64 16)), some (66, true), 0⟩,
 ⟨some 71, .pick (.tmp 66) (.tmp 70) (.const (.bool false)), none, 0⟩]) <|
 .cond (.tmp 71)
 (.skip)
 (.keep [0, 2, 3] <|
 .exit 2)) <|
 .seq (.block 3 <|
 .dops [
 ⟨some 76, .mv (.tmp 0), none, 0⟩,
 ⟨some 77, .fld 0 (.tmp 3), none, 0⟩,
 ⟨some 78, .load false 1 (.tmp 77), none, 0⟩,
 ⟨some 79, .call k_zz57 [(.tmp 76), (.tmp 78)], none, 0⟩,
 ⟨some 80, .mv (.tmp 0), none, 1⟩,
 ⟨some 81, .fld 0 (.tmp 3), none, 1⟩,
 ⟨some 82, .load false 1 (.tmp 81), none, 1⟩,
 ⟨some 83, .call k_zz57 [(.tmp 80), (.tmp 82)], none, 0⟩,
 ⟨some 84, .mv (.tmp 0), none, 2⟩,
 ⟨some 85, .fld 1 (.tmp 3), none, 2⟩,
 ⟨some 86, .load false 1 (.tmp 85), none, 2⟩,
 ⟨some 87, .call k_zz57 [(.tmp 84), (.tmp 86)], none, 0⟩,
 ⟨some 88, .build [.int .i64 0, .int .i64 0, .int .i64 0] [(0, 1, (.tmp 79)), (1, 1, (.tmp 83)), (2, 1, (.tmp 87))], none, 0⟩,
 ⟨some 89, .buildSl 3 [.int .i64 0, .int .i64 0, .int .i64 0] [(0, 3, (.tmp 88))] 1, none, 0⟩,
 ⟨some 74, .fld 2 (.tmp 3), none, 4⟩,
 ⟨some 75, .load false 1 (.tmp 74), none, 4⟩,
 ⟨some 90, .app 3 24 [.int .i64 0, .int .i64 0, .int .i64 0] (.tmp 75) (.tmp 89), none, 0⟩,
 ⟨some 91, .fld 2 (.tmp 3), none, 0⟩,
 ⟨none, .store 1 (.tmp 91) (.tmp 90), none, 0⟩]) <|
 .ops [
 ⟨some 72, .mv (.tmp 5), none, 0⟩,
 ⟨some 73, .bin .sub (.tmp 72) (.const (.int .i64 1)), none, 0⟩,
 ⟨some 5, .mv (.tmp 73), none, 0⟩]
def i_zz37 : FF := ⟨101, [.cell 2 true 3],
 .seq (.ops [
 ⟨some 2, .alloc [.int .i64 0, .int .i64 0, .slice none 0 0], none, 0⟩]) <|
 .seq (.ops [
 ⟨some 6, .mv (.tmp 0), none, 0⟩,
 ⟨some 7, .buildSl 1 [.int .i64 0, .int .i64 0, .int .i64 0, .int .i64 0, .int .i64 0, .int .i64 0, .int .i64 0, .int .i64 0] [(0, 1, (.const (.int .i64 1))), (1, 1, (.const (.int .i64 1))), (2, 1, (.const (.int .i64 2))), (3, 1, (.const (.int .i64 2))), (4, 1, (.const (.int .i64 3))), (5, 1, (.const (.int .i64 4))), (6, 1, (.const (.int .i64 6))), (7, 1, (.const (.int .i64 10)))] 8, none, 0⟩,
 ⟨some 8, .call k_zz58 [(.tmp 6), (.tmp 7)], none, 0⟩,
 ⟨some 9, .buildSl 3 [] [] 0, none, 0⟩,
 ⟨some 10, .build [.int .i64 0, .int .i64 0, .slice none 0 0] [(0, 1, (.tmp 8)), (2, 1, (.tmp 9))], none, 0⟩,
 ⟨some 3, .alloc [.int .i64 0, .int .i64 0, .slice none 0 0], none, 0⟩,
 ⟨none, .store 3 (.tmp 3) (.tmp 10), none, 0⟩]) <|
 .seq (.dops [
 ⟨some 13, .fld 0 (.tmp 3), none, 0⟩,
 ⟨some 14, .load false 1 (.tmp 13), none, 0⟩,
 ⟨some 15, .bin .quo (.const (.int .i64 62)) (.tmp 14), none, 0⟩,
 ⟨some 16, .fld 0 (.tmp 3), none, 0⟩,
 ⟨some 17, .load false 1 (.tmp 16), none, 0⟩,
 ⟨some 18, .bin .quo (.const (.int .i64 62)) (.tmp 17), none, 0⟩,
 ⟨some 19, .buildSl 1 [.int .i64 0, .int .i64 0, .int .i64 0] [(0, 1, (.const (.int .i64 5))), (1, 1, (.tmp 15)), (2, 1, (.tmp 18))] 3, none, 0⟩,
 ⟨some 12, .mv (.tmp 0), none, 1⟩,
 ⟨some 20, .call k_zz58 [(.tmp 12), (.tmp 19)], none, 0⟩,
 ⟨some 11, .mv (.tmp 0), none, 2⟩,
 ⟨some 21, .call k_zz57 [(.tmp 11), (.tmp 20)], none, 0⟩,
 ⟨some 22, .bin .add (.const (.int .i64 1)) (.tmp 21), none, 0⟩,
 ⟨some 23, .fld 1 (.tmp 3), none, 0⟩,
 ⟨none, .store 1 (.tmp 23) (.tmp 22), none, 0⟩]) <|
 .seq (.seq (.ops [
 ⟨some 24, .fld 0 (.tmp 3), none, 0⟩,
 ⟨some 25, .load false 1 (.tmp 24), none, 0⟩,
 ⟨some 26, .fld 1 (.tmp 3), none, 0⟩,
 ⟨some 27, .load false 1 (.tmp 26), none, 0⟩,
 ⟨some 28, .bin .mul (.tmp 25) (.tmp 27), none, 0⟩,
 ⟨some 29, .bin .gtr (.tmp 28) (.const (.int .i64 62)), none, 0⟩]) <|
 .cond (.tmp 29)
 (.ops [
 ⟨some 30, .fld 0 (.tmp 3), none, 0⟩,
 ⟨some 31, .load false 1 (.tmp 30), none, 0⟩,
 ⟨some 32, .bin .quo (.const (.int .i64 62)) (.tmp 31), none, 0⟩,
 ⟨some 33, .fld 1 (.tmp 3), none, 0⟩,
 ⟨none, .store 1 (.tmp 33) (.tmp 32), none, 0⟩])
 (.skip)) <|
 .seq (.seq (.ops [
 ⟨some 34, .mv (.tmp 0), none, 0⟩,
 ⟨some 35, .call k_zz57 [(.tmp 34), (.const (.int .i64 3))], none, 0⟩,
 ⟨some 36, .bin .gtr (.tmp 35) (.const (.int .i64 0)), none, 0⟩]) <|
 .cond (.tmp 36)
 (.seq (.ops [
 ⟨some 4, .mv (.const (.int .i64 1)), none, 0⟩]) <|
 .block 0 <|
 .loop [0, 2, 3, 4] i_zz37_B1)
 (.skip)) <|
 .seq (.seq (.ops [
 ⟨some 59, .mv (.tmp 0), none, 0⟩,
 ⟨some 60, .mv (.tmp 0), none, 0⟩,
 ⟨some 61, .buildSl 1 [.int .i64 0, .int .i64 0, .int .i64 0] [(0, 1, (.const (.int .i64 3))), (1, 1, (.const (.int .i64 5))), (2, 1, (.const (.int .i64 7)))] 3, none, 0⟩,
 ⟨some 62, .call k_zz58 [(.tmp 60), (.tmp 61)], none, 0⟩,
 ⟨some 63, .call k_zz57 [(.tmp 59), (.tmp 62)], none, 0⟩,
 ⟨some 5, .mv (.tmp 63), none, 0⟩]) <|
 .block 2 <|
 .loop [0, 2, 3, 5] i_zz37_B2) <|
 .seq (.seq (.ops [
 ⟨some 92, .mv (.tmp 0), none, 0⟩,
 ⟨some 93, .call k_zz57 [(.tmp 92), (.const (.int .i64 12))], none, 0⟩,
 ⟨some 94, .bin .eql (.tmp 93) (.const (.int .i64 0)), none, 0⟩]) <|
 .cond (.tmp 94)
 (.seq (.ops [
 ⟨some 95, .build [.int .i64 0, .int .i64 0, .int .i64 0] [(0, 1, (.const (.int .i64 0))), (1, 1, (.const (.int .i64 0))), (2, 1, (.const (.int .i64 1)))], none, 0⟩,
 ⟨some 96, .build [.int .i64 0, .int .i64 0, .int .i64 0] [(0, 1, (.const (.int .i64 0))), (1, 1, (.const (.int .i64 1))), (2, 1, (.const (.int .i64 0)))], none, 0⟩,
 ⟨some 97, .build [.int .i64 0, .int .i64 0, .int .i64 0] [(0, 1, (.const (.int .i64 1))), (1, 1, (.const (.int .i64 1))), (2, 1, (.const (.int .i64 2)))], none, 0⟩,
 ⟨some 98, .buildSl 3 [.int .i64 0, .int .i64 0, .int .i64 0, .int .i64 0, .int .i64 0, .int .i64 0, .int .i64 0, .int .i64 0, .int .i64 0] [(0, 3, (.tmp 95)), (3, 3, (.tmp 96)), (6, 3, (.tmp 97))] 3, none, 0⟩,
 ⟨some 99, .build [.int .i64 0, .int .i64 0, .slice none 0 0] [(0, 1, (.const (.int .i64 2))), (1, 1, (.const (.int .i64 5))), (2, 1, (.tmp 98))], none, 0⟩,
 ⟨none, .store 3 (.tmp 2) (.tmp 99), none, 0⟩]) <|
 .keep [2] <|
 .ret)
 (.skip)) <|
 .seq (.ops [
 ⟨some 100, .load true 3 (.tmp 3), none, 0⟩,
 ⟨none, .store 3 (.tmp 2) (.tmp 100), none, 0⟩]) <|
 .keep [2] <|
 .ret⟩
theorem e_zz37 : EntOK Tryd.prog (compD Tryd.prog) k_zz37 i_zz37.vf :=
 ⟨Tryd.f65, Tryd.f65.body.getD .skip, Tryd.func65, by kernel_rfl, by kernel_rfl, by kernel_rfl, by kernel_rfl, by kernel_rfl⟩
/-- loop.example/g01331/spec.l01Has -/
def i_zz68 : FF := ⟨17, [.tmp 6],
 .seq (.ops [
 ⟨some 3, .box 2 (.tmp 0), none, 0⟩,
 ⟨some 6, .mv (.const (.bool false)), none, 0⟩]) <|
 .seq (.ops [
 ⟨some 7, .fld 1 (.tmp 3), none, 0⟩,
 ⟨some 8, .load false 1 (.tmp 7), none, 0⟩,
 ⟨some 9, .mv (.tmp 1), none, 0⟩,
 ⟨some 10, .idx 1 (.tmp 8) (.tmp 9), none, 0⟩,
 ⟨some 11, .load false 1 (.tmp 10), none, 0⟩,
 ⟨some 12, .mv (.tmp 2), none, 0⟩,
 ⟨some 13, .conv .u64 (.tmp 12), none, 0⟩,
 ⟨some 14, .bin .shr (.tmp 11) (.tmp 13), none, 0⟩,
 ⟨some 15, .bin .and (.tmp 14) (.const (.int .i64 1)), none, 0⟩,
 ⟨some 16, .bin .eql (.tmp 15) (.const (.int .i64 1)), none, 0⟩,
 ⟨some 6, .mv (.tmp 16), none, 0⟩]) <|
 .keep [6] <|
 .ret⟩
theorem e_zz68 : EntOK Tryd.prog (compD Tryd.prog) k_zz68 i_zz68.vf :=
 ⟨Tryd.f66, Tryd.f66.body.getD .skip, Tryd.func66, by kernel_rfl, by kernel_rfl, by kernel_rfl, by kernel_rfl, by kernel_rfl⟩
/-- loop.example/g01331/impl.list -/
def i_zz79_B1 : FC :=
 .seq (.seq (.ops [
 ⟨some 5, .mv (.tmp 0), none, 0⟩,
 ⟨some 6, .bin .neq (.tmp 5) (.const (.int .i64 0)), none, 0⟩]) <|
 .cond (.tmp 6)
 (.skip)
 (.keep [3] <|
 .exit 0)) <|
 .seq (.block 1 <|
 .ops [
 ⟨some 11, .mv (.tmp 3), none, 0⟩,
 ⟨some 12, .mv (.tmp 0), none, 0⟩,
 ⟨some 13, .conv .u64 (.tmp 12), none, 0⟩,
 ⟨some 14, .call k_math_bits_TrailingZeros64 [(.tmp 13)], none, 0⟩,
 ⟨some 15, .buildSl 1 [.int .i64 0] [(0, 1, (.tmp 14))] 1, none, 0⟩,
 ⟨some 16, .app 1 8 [.int .i64 0] (.tmp 11) (.tmp 15), none, 0⟩,
 ⟨some 3, .mv (.tmp 16), none, 0⟩]) <|
 .ops [
 ⟨some 7, .mv (.tmp 0), none, 0⟩,
 ⟨some 8, .mv (.tmp 0), none, 0⟩,
 ⟨some 9, .bin .sub (.tmp 8) (.const (.int .i64 1)), none, 0⟩,
 ⟨some 10, .bin .and (.tmp 7) (.tmp 9), none, 0⟩,
 ⟨some 0, .mv (.tmp 10), none, 0⟩]
def i_zz79 : FF := ⟨18, [.tmp 2],
 .seq (.ops [
 ⟨some 2, .mv (.const (.slice none 0 0)), none, 0⟩]) <|
 .seq (.ops [
 ⟨some 4, .buildSl 1 [] [] 0, none, 0⟩,
 ⟨some 3, .mv (.tmp 4), none, 0⟩]) <|
 .seq (.block 0 <|
 .loop [0, 3] i_zz79_B1) <|
 .seq (.ops [
 ⟨some 17, .mv (.tmp 3), none, 0⟩,
 ⟨some 2, .mv (.tmp 17), none, 0⟩]) <|
 .keep [2] <|
 .ret⟩
theorem e_zz79 : EntOK Tryd.prog (compD Tryd.prog) k_zz79 i_zz79.vf :=
 ⟨Tryd.f67, Tryd.f67.body.getD .skip, Tryd.func67, by kernel_rfl, by kernel_rfl, by kernel_rfl, by kernel_rfl, by kernel_rfl⟩
end

end Go.Proofs.YtbomdghbblakoaaDoor.Zv

