/- Part C of the proof: ZwIr1. Conditions: none. -/
import Derived.Test.YtbilmoahcnllmaaGreatDoorProg
import Derived.Test.YtbilmoahcnllmaaGreatDoorZpB
set_option linter.unusedSimpArgs false
set_option linter.unusedVariables false
set_option linter.unusedSectionVars false
namespace Go.Proofs.YtbilmoahcnllmaaGreatDoor.Zv
/- The functions' intermediate form. -/
section
open Go
def k_math_bits_TrailingZeros64 : Nat := 112
def k_zz42 : Nat := 3
def k_zz99 : Nat := 5
def k_zz31 : Nat := 6
def k_zz54 : Nat := 7
def k_zz58 : Nat := 8
def k_zz26 : Nat := 9
def k_zz30 : Nat := 10
def k_zz76 : Nat := 11
def k_zz29 : Nat := 12
def k_zz51 : Nat := 13
def k_zz47 : Nat := 14
def k_zz85 : Nat := 15
def k_zz86 : Nat := 16
def k_zz39 : Nat := 17
def k_zz74 : Nat := 18
def k_zz77 : Nat := 19
def k_zz41 : Nat := 20
def k_zz92 : Nat := 38
def k_zz75 : Nat := 39
def k_zz37 : Nat := 40
def k_zz52 : Nat := 41
def k_zz83 : Nat := 42
def k_zz84 : Nat := 43
def k_zz49 : Nat := 44
def k_zz21 : Nat := 45
def k_zz61 : Nat := 46
def k_zz63 : Nat := 47
def k_zz73 : Nat := 48
def k_zz16 : Nat := 49
def k_zz18 : Nat := 50
def k_zz17 : Nat := 51
def k_zz62 : Nat := 52
def k_zz93 : Nat := 53
def k_zz36 : Nat := 54
def k_zz53 : Nat := 55
def k_zz27 : Nat := 56
def k_zz72 : Nat := 57
def k_zz79 : Nat := 58
def k_zz38 : Nat := 59
def k_zz59 : Nat := 60
def k_zz67 : Nat := 61
def k_zz90 : Nat := 62
def k_zz82 : Nat := 63
def k_zz80 : Nat := 64
def k_zz22 : Nat := 65
def k_zz95 : Nat := 66
def k_zz94 : Nat := 67
def k_zz91 : Nat := 68
def k_zz56 : Nat := 69
def k_zz28 : Nat := 70
def k_zz81 : Nat := 71
def k_zz97 : Nat := 75
def k_zz98 : Nat := 82
def k_zz96 : Nat := 86
def k_zz71 : Nat := 90
def k_zz78 : Nat := 95
def k_zz87 : Nat := 96
def k_zz55 : Nat := 97
def k_zz57 : Nat := 98
def k_zz66 : Nat := 99
def k_zz12 : Nat := 100
def k_zz64 : Nat := 101
def k_zz33 : Nat := 102
def k_zz89 : Nat := 103
def k_zz15 : Nat := 104
def k_zz88 : Nat := 105
def k_zz34 : Nat := 106
def k_zz7 : Nat := 107
def k_zz23 : Nat := 108
def k_zz19 : Nat := 109
def k_zz25 : Nat := 113
def k_zz60 : Nat := 114
def k_zz4 : Nat := 120
def k_zz10 : Nat := 121
def k_zz3 : Nat := 122
def k_zz6 : Nat := 123
def k_zz5 : Nat := 124
def k_zz0 : Nat := 125
def k_zz50 : Nat := 126
def k_zz2 : Nat := 127
def k_zz8 : Nat := 128
def k_zz43 : Nat := 129
def k_zz44 : Nat := 130
def k_zz65 : Nat := 131
def k_zz9 : Nat := 132
def k_zz40 : Nat := 141
def k_zz70 : Nat := 142
def k_zz69 : Nat := 143
def k_zz68 : Nat := 144
def k_zz48 : Nat := 145
def k_zz35 : Nat := 146
def k_zz11 : Nat := 147
def k_zz20 : Nat := 148
def k_zz24 : Nat := 149
def k_zz1 : Nat := 150
def k_zz13 : Nat := 151
def k_zz45 : Nat := 152
def k_zz46 : Nat := 153
def k_zz32 : Nat := 157
def k_zz14 : Nat := 158
/-- loop.example/g01331/laws.FnProducts -/
def i_zz42_B1 : FC :=
 .seq (.seq (.ops [
 ⟨some 110, .mv (.tmp 17), none, 0⟩,
 ⟨some 111, .fld 0 (.tmp 4), none, 0⟩,
 ⟨some 112, .load false 1 (.tmp 111), none, 0⟩,
 ⟨some 113, .bin .lss (.tmp 110) (.tmp 112), none, 0⟩]) <|
 .cond (.tmp 113)
 (.skip)
 (.keep [0, 3, 4, 5, 9, 10, 13, 14, 15, 16] <|
 .exit 2)) <|
 .seq (.block 3 <|
 .ops [
 ⟨some 116, .mv (.tmp 15), none, 0⟩,
 ⟨some 117, .mv (.tmp 17), none, 0⟩,
 ⟨some 118, .fld 0 (.tmp 3), none, 0⟩,
 ⟨some 119, .load false 1 (.tmp 118), none, 0⟩,
 ⟨some 120, .bin .mul (.tmp 117) (.tmp 119), none, 0⟩,
 ⟨some 121, .mv (.tmp 16), none, 0⟩,
 ⟨some 122, .bin .add (.tmp 120) (.tmp 121), none, 0⟩,
 ⟨some 123, .buildSl 1 [.int .i64 0] [(0, 1, (.tmp 122))] 1, none, 0⟩,
 ⟨some 124, .app 1 8 [.int .i64 0] (.tmp 116) (.tmp 123), none, 0⟩,
 ⟨some 15, .mv (.tmp 124), none, 0⟩]) <|
 .ops [
 ⟨some 114, .mv (.tmp 17), none, 0⟩,
 ⟨some 115, .bin .add (.tmp 114) (.const (.int .i64 1)), none, 0⟩,
 ⟨some 17, .mv (.tmp 115), none, 0⟩]
def i_zz42_B2 : FC :=
 .seq (.seq (.ops [
 ⟨some 104, .mv (.tmp 16), none, 0⟩,
 ⟨some 105, .fld 0 (.tmp 3), none, 0⟩,
 ⟨some 106, .load false 1 (.tmp 105), none, 0⟩,
 ⟨some 107, .bin .lss (.tmp 104) (.tmp 106), none, 0⟩]) <|
 .cond (.tmp 107)
 (.skip)
 (.keep [0, 3, 4, 5, 9, 10, 13, 14, 15] <|
 .exit 0)) <|
 .seq (.block 1 <|
 .seq (.ops [
 ⟨some 17, .mv (.const (.int .i64 0)), none, 0⟩]) <|
 .block 2 <|
 .loop [0, 3, 4, 5, 9, 10, 13, 14, 15, 16, 17] i_zz42_B1) <|
 .ops [
 ⟨some 108, .mv (.tmp 16), none, 0⟩,
 ⟨some 109, .bin .add (.tmp 108) (.const (.int .i64 1)), none, 0⟩,
 ⟨some 16, .mv (.tmp 109), none, 0⟩]
def i_zz42_B3 : FC :=
 .seq (.seq (.ops [
 ⟨some 189, .mv (.tmp 29), none, 0⟩,
 ⟨some 190, .mv (.tmp 22), none, 0⟩,
 ⟨some 191, .len (.tmp 190), none, 0⟩,
 ⟨some 192, .bin .lss (.tmp 189) (.tmp 191), none, 0⟩]) <|
 .cond (.tmp 192)
 (.skip)
 (.keep [0, 20, 22, 24, 26, 28] <|
 .exit 6)) <|
 .seq (.block 7 <|
 .seq (.dops [
 ⟨some 195, .mv (.tmp 24), none, 0⟩,
 ⟨some 196, .mv (.tmp 28), none, 0⟩,
 ⟨some 197, .mv (.tmp 22), none, 0⟩,
 ⟨some 198, .len (.tmp 197), none, 0⟩,
 ⟨some 199, .bin .mul (.tmp 196) (.tmp 198), none, 0⟩,
 ⟨some 200, .mv (.tmp 29), none, 0⟩,
 ⟨some 201, .bin .add (.tmp 199) (.tmp 200), none, 0⟩,
 ⟨some 202, .idx 1 (.tmp 195) (.tmp 201), none, 0⟩,
 ⟨some 203, .load false 1 (.tmp 202), none, 0⟩,
 ⟨some 204, .mv (.tmp 20), none, 0⟩,
 ⟨some 205, .mv (.tmp 28), none, 0⟩,
 ⟨some 206, .idx 1 (.tmp 204) (.tmp 205), none, 0⟩,
 ⟨some 207, .load false 1 (.tmp 206), none, 0⟩,
 ⟨some 208, .mv (.tmp 22), none, 0⟩,
 ⟨some 209, .mv (.tmp 29), none, 0⟩,
 ⟨some 210, .idx 1 (.tmp 208) (.tmp 209), none, 0⟩,
 ⟨some 211, .load false 1 (.tmp 210), none, 0⟩,
 ⟨some 212, .bin .add (.tmp 207) (.tmp 211), none, 0⟩,
 ⟨some 213, .bin .neq (.tmp 203) (.tmp 212), none, 0⟩,
 ⟨some 214, .mv (.tmp 213), none, 0⟩,
 ⟨some 215, .mv (.tmp 26), some (214, false), 0⟩,
 ⟨some 216, .mv (.tmp 28), some (214, false), 0⟩,
 ⟨some 217, .mv (.tmp 22), some (214, false), 0⟩,
 ⟨some 218, .len (.tmp 217), some (214, false), 0⟩,
 ⟨some 219, .bin .mul (.tmp 216) (.tmp 218), some (214, false), 0⟩,
 ⟨some 220, .mv (.tmp 29), some (214, false), 0⟩,
 ⟨some 221, .bin .add (.tmp 219) (.tmp 220), some (214, false), 0⟩,
 ⟨some 222, .idx 1 (.tmp 215) (.tmp 221), some (214, false), 0⟩,
 ⟨some 223, .load false 1 (.tmp 222), some (214, false), 0⟩,
 ⟨some 224, .mv (.tmp 20), some (214, false), 0⟩,
 ⟨some 225, .mv (.tmp 28), some (214, false), 0⟩,
 ⟨some 226, .idx 1 (.tmp 224) (.tmp 225), some (214, false), 0⟩,
 ⟨some 227, .load false 1 (.tmp 226), some (214, false), 0⟩,
 ⟨some 228, .mv (.tmp 22), some (214, false), 0⟩,
 ⟨some 229, .mv (.tmp 29), some (214, false), 0⟩,
 ⟨some 230, .idx 1 (.tmp 228) (.tmp 229), some (214, false), 0⟩,
 ⟨some 231, .load false 1 (.tmp 230), some (214, false), 0⟩,
 ⟨some 232, .bin .mul (.tmp 227) (.tmp 231), some (214, false), 0⟩,
 ⟨some 233, .bin .neq (.tmp 223) (.tmp 232), some (214, false), 0⟩,
 ⟨some 234, .pick (.tmp 214) (.const (.bool true)) (.tmp 233), none, 0⟩]) <|
 .cond (.tmp 234)
 (.seq (.ops [
 ⟨some 2, .mv (.const (.bool false)), none, 0⟩]) <|
 .keep [2] <|
 .ret)
 (.skip)) <|
 .ops [
 ⟨some 193, .mv (.tmp 29), none, 0⟩,
 ⟨some 194, .bin .add (.tmp 193) (.const (.int .i64 1)), none, 0⟩,
 ⟨some 29, .mv (.tmp 194), none, 0⟩]
def i_zz42_B4 : FC :=
 .seq (.seq (.ops [
 ⟨some 183, .mv (.tmp 28), none, 0⟩,
 ⟨some 184, .mv (.tmp 20), none, 0⟩,
 ⟨some 185, .len (.tmp 184), none, 0⟩,
 ⟨some 186, .bin .lss (.tmp 183) (.tmp 185), none, 0⟩]) <|
 .cond (.tmp 186)
 (.skip)
 (.keep [0] <|
 .exit 4)) <|
 .seq (.block 5 <|
 .seq (.ops [
 ⟨some 29, .mv (.const (.int .i64 0)), none, 0⟩]) <|
 .block 6 <|
 .loop [0, 20, 22, 24, 26, 28, 29] i_zz42_B3) <|
 .ops [
 ⟨some 187, .mv (.tmp 28), none, 0⟩,
 ⟨some 188, .bin .add (.tmp 187) (.const (.int .i64 1)), none, 0⟩,
 ⟨some 28, .mv (.tmp 188), none, 0⟩]
def i_zz42_B5 : FC :=
 .seq (.seq (.ops [
 ⟨some 303, .mv (.tmp 43), none, 0⟩,
 ⟨some 304, .fld 1 (.tmp 35), none, 0⟩,
 ⟨some 305, .load false 1 (.tmp 304), none, 0⟩,
 ⟨some 306, .len (.tmp 305), none, 0⟩,
 ⟨some 307, .bin .lss (.tmp 303) (.tmp 306), none, 0⟩]) <|
 .cond (.tmp 307)
 (.skip)
 (.keep [] <|
 .exit 8)) <|
 .seq (.block 9 <|
 .seq (.dops [
 ⟨some 310, .fld 1 (.tmp 37), none, 0⟩,
 ⟨some 311, .load false 1 (.tmp 310), none, 0⟩,
 ⟨some 312, .mv (.tmp 43), none, 0⟩,
 ⟨some 313, .idx 1 (.tmp 311) (.tmp 312), none, 0⟩,
 ⟨some 314, .load false 1 (.tmp 313), none, 0⟩,
 ⟨some 315, .fld 1 (.tmp 35), none, 0⟩,
 ⟨some 316, .load false 1 (.tmp 315), none, 0⟩,
 ⟨some 317, .mv (.tmp 43), none, 0⟩,
 ⟨some 318, .idx 1 (.tmp 316) (.tmp 317), none, 0⟩,
 ⟨some 319, .load false 1 (.tmp 318), none, 0⟩,
 ⟨some 320, .bin .and (.tmp 314) (.tmp 319), none, 0⟩,
 ⟨some 321, .fld 1 (.tmp 35), none, 0⟩,
 ⟨some 322, .load false 1 (.tmp 321), none, 0⟩,
 ⟨some 323, .mv (.tmp 43), none, 0⟩,
 ⟨some 324, .idx 1 (.tmp 322) (.tmp 323), none, 0⟩,
 ⟨some 325, .load false 1 (.tmp 324), none, 0⟩,
 ⟨some 326, .bin .neq (.tmp 320) (.tmp 325), none, 0⟩]) <|
 .cond (.tmp 326)
 (.seq (.ops [
 ⟨some 2, .mv (.const (.bool false)), none, 0⟩]) <|
 .keep [2] <|
 .ret)
 (.skip)) <|
 .ops [
 ⟨some 308, .mv (.tmp 43), none, 0⟩,
 ⟨some 309, .bin .add (.tmp 308) (.const (.int .i64 1)), none, 0⟩,
 ⟨some 43, .mv (.tmp 309), none, 0⟩]
def i_zz42 : FF := ⟨327, [.tmp 2],
 .seq (.ops [
 ⟨some 2, .mv (.const (.bool false)), none, 0⟩]) <|
 .seq (.seq (.ops [
 ⟨some 44, .mv (.tmp 0), none, 0⟩,
 ⟨some 45, .call k_zz99 [(.tmp 44)], none, 0⟩]) <|
 .cond (.tmp 45)
 (.seq (.ops [
 ⟨some 2, .mv (.const (.bool true)), none, 0⟩]) <|
 .keep [2] <|
 .ret)
 (.skip)) <|
 .seq (.ops [
 ⟨some 47, .mv (.tmp 0), none, 0⟩,
 ⟨some 48, .call k_zz31 [(.tmp 47)], none, 0⟩,
 ⟨some 46, .mv (.tmp 48), none, 0⟩,
 ⟨some 49, .ext (.tmp 46) 0, none, 0⟩,
 ⟨some 50, .ext (.tmp 46) 1, none, 0⟩,
 ⟨some 3, .alloc [.int .i64 0, .slice none 0 0], none, 0⟩,
 ⟨some 4, .alloc [.int .i64 0, .slice none 0 0], none, 0⟩,
 ⟨none, .store 2 (.tmp 3) (.tmp 49), none, 0⟩,
 ⟨none, .store 2 (.tmp 4) (.tmp 50), none, 0⟩]) <|
 .seq (.ops [
 ⟨some 52, .load true 2 (.tmp 3), none, 0⟩,
 ⟨some 53, .load true 2 (.tmp 4), none, 0⟩,
 ⟨some 54, .call k_zz54 [(.tmp 52), (.tmp 53)], none, 0⟩,
 ⟨some 51, .mv (.tmp 54), none, 0⟩,
 ⟨some 55, .ext (.tmp 51) 0, none, 0⟩,
 ⟨some 56, .ext (.tmp 51) 1, none, 0⟩,
 ⟨some 5, .alloc [.int .i64 0, .slice none 0 0], none, 0⟩,
 ⟨none, .store 2 (.tmp 5) (.tmp 55), none, 0⟩,
 ⟨some 6, .mv (.tmp 56), none, 0⟩]) <|
 .seq (.ops [
 ⟨some 58, .load true 2 (.tmp 3), none, 0⟩,
 ⟨some 59, .load true 2 (.tmp 4), none, 0⟩,
 ⟨some 60, .call k_zz58 [(.tmp 58), (.tmp 59)], none, 0⟩,
 ⟨some 57, .mv (.tmp 60), none, 0⟩,
 ⟨some 61, .ext (.tmp 57) 0, none, 0⟩,
 ⟨some 62, .ext (.tmp 57) 1, none, 0⟩,
 ⟨some 7, .alloc [.int .i64 0, .slice none 0 0], none, 0⟩,
 ⟨none, .store 2 (.tmp 7) (.tmp 61), none, 0⟩,
 ⟨some 8, .mv (.tmp 62), none, 0⟩]) <|
 .seq (.ops [
 ⟨some 64, .load true 2 (.tmp 3), none, 0⟩,
 ⟨some 65, .load true 2 (.tmp 4), none, 0⟩,
 ⟨some 66, .call k_zz26 [(.tmp 64), (.tmp 65)], none, 0⟩,
 ⟨some 63, .mv (.tmp 66), none, 0⟩,
 ⟨some 67, .ext (.tmp 63) 0, none, 0⟩,
 ⟨some 68, .ext (.tmp 63) 1, none, 0⟩,
 ⟨some 9, .alloc [.int .i64 0, .slice none 0 0], none, 0⟩,
 ⟨none, .store 2 (.tmp 9) (.tmp 67), none, 0⟩,
 ⟨some 10, .mv (.tmp 68), none, 0⟩]) <|
 .seq (.ops [
 ⟨some 70, .load true 2 (.tmp 3), none, 0⟩,
 ⟨some 71, .load true 2 (.tmp 4), none, 0⟩,
 ⟨some 72, .call k_zz30 [(.tmp 70), (.tmp 71)], none, 0⟩,
 ⟨some 69, .mv (.tmp 72), none, 0⟩,
 ⟨some 73, .ext (.tmp 69) 0, none, 0⟩,
 ⟨some 74, .ext (.tmp 69) 1, none, 0⟩,
 ⟨some 11, .alloc [.int .i64 0, .slice none 0 0], none, 0⟩,
 ⟨none, .store 2 (.tmp 11) (.tmp 73), none, 0⟩,
 ⟨some 12, .mv (.tmp 74), none, 0⟩]) <|
 .seq (.seq (.ops [
 ⟨some 75, .mv (.tmp 6), none, 0⟩,
 ⟨some 76, .mv (.tmp 8), none, 0⟩,
 ⟨some 77, .bin .neq (.tmp 75) (.tmp 76), none, 0⟩,
 ⟨some 78, .mv (.tmp 77), none, 0⟩,
 ⟨some 79, .load true 2 (.tmp 5), some (78, false), 0⟩,
 ⟨some 80, .load true 2 (.tmp 7), some (78, false), 0⟩,
 ⟨some 81, .call k_zz76 [(.tmp 79), (.tmp 80)], some (78, false), 0⟩,
 ⟨some 82, .un .not (.tmp 81), some (78, false), 0⟩,
 ⟨some 83, .pick (.tmp 78) (.const (.bool true)) (.tmp 82), none, 0⟩,
 ⟨some 84, .mv (.tmp 83), none, 0⟩,
 ⟨some 85, .mv (.tmp 10), some (84, false), 0⟩,
 ⟨some 86, .mv (.tmp 12), some (84, false), 0⟩,
 ⟨some 87, .bin .neq (.tmp 85) (.tmp 86), some (84, false), 0⟩,
 ⟨some 88, .pick (.tmp 84) (.const (.bool true)) (.tmp 87), none, 0⟩,
 ⟨some 89, .mv (.tmp 88), none, 0⟩,
 ⟨some 90, .load true 2 (.tmp 9), some (89, false), 0⟩,
 ⟨some 91, .load true 2 (.tmp 11), some (89, false), 0⟩,
 ⟨some 92, .call k_zz76 [(.tmp 90), (.tmp 91)], some (89, false), 0⟩,
 ⟨some 93, .un .not (.tmp 92), some (89, false), 0⟩,
 ⟨some 94, .pick (.tmp 89) (.const (.bool true)) (.tmp 93), none, 0⟩]) <|
 .cond (.tmp 94)
 (.seq (.ops [
 ⟨some 2, .mv (.const (.bool false)), none, 0⟩]) <|
 .keep [2] <|
 .ret)
 (.skip)) <|
 .seq (.seq (.ops [
 ⟨some 95, .mv (.tmp 6), none, 0⟩,
 ⟨some 96, .bin .eql (.tmp 95) (.const (.int .i64 0)), none, 0⟩]) <|
 .cond (.tmp 96)
 (.seq (.ops [
 ⟨some 98, .load true 2 (.tmp 4), none, 0⟩,
 ⟨some 99, .load true 2 (.tmp 3), none, 0⟩,
 ⟨some 100, .call k_zz54 [(.tmp 98), (.tmp 99)], none, 0⟩,
 ⟨some 97, .mv (.tmp 100), none, 0⟩,
 ⟨some 101, .ext (.tmp 97) 0, none, 0⟩,
 ⟨some 102, .ext (.tmp 97) 1, none, 0⟩,
 ⟨some 13, .alloc [.int .i64 0, .slice none 0 0], none, 0⟩,
 ⟨none, .store 2 (.tmp 13) (.tmp 101), none, 0⟩,
 ⟨some 14, .mv (.tmp 102), none, 0⟩]) <|
 .seq (.ops [
 ⟨some 103, .buildSl 1 [] [] 0, none, 0⟩,
 ⟨some 15, .mv (.tmp 103), none, 0⟩]) <|
 .seq (.seq (.ops [
 ⟨some 16, .mv (.const (.int .i64 0)), none, 0⟩]) <|
 .block 0 <|
 .loop [0, 3, 4, 5, 9, 10, 13, 14, 15, 16] i_zz42_B2) <|
 .seq (.ops [
 ⟨some 126, .load true 2 (.tmp 5), none, 0⟩,
 ⟨some 127, .mv (.tmp 15), none, 0⟩,
 ⟨some 128, .call k_zz29 [(.tmp 126), (.tmp 127)], none, 0⟩,
 ⟨some 125, .mv (.tmp 128), none, 0⟩,
 ⟨some 129, .ext (.tmp 125) 0, none, 0⟩,
 ⟨some 130, .ext (.tmp 125) 1, none, 0⟩,
 ⟨some 18, .alloc [.int .i64 0, .slice none 0 0], none, 0⟩,
 ⟨none, .store 2 (.tmp 18) (.tmp 129), none, 0⟩,
 ⟨some 19, .mv (.tmp 130), none, 0⟩]) <|
 .seq (.ops [
 ⟨some 132, .load true 2 (.tmp 3), none, 0⟩,
 ⟨some 133, .call k_zz51 [(.tmp 132)], none, 0⟩,
 ⟨some 131, .mv (.tmp 133), none, 0⟩,
 ⟨some 134, .ext (.tmp 131) 0, none, 0⟩,
 ⟨some 135, .ext (.tmp 131) 1, none, 0⟩,
 ⟨some 20, .mv (.tmp 134), none, 0⟩,
 ⟨some 21, .mv (.tmp 135), none, 0⟩]) <|
 .seq (.ops [
 ⟨some 137, .load true 2 (.tmp 4), none, 0⟩,
 ⟨some 138, .call k_zz51 [(.tmp 137)], none, 0⟩,
 ⟨some 136, .mv (.tmp 138), none, 0⟩,
 ⟨some 139, .ext (.tmp 136) 0, none, 0⟩,
 ⟨some 140, .ext (.tmp 136) 1, none, 0⟩,
 ⟨some 22, .mv (.tmp 139), none, 0⟩,
 ⟨some 23, .mv (.tmp 140), none, 0⟩]) <|
 .seq (.ops [
 ⟨some 142, .load true 2 (.tmp 5), none, 0⟩,
 ⟨some 143, .call k_zz51 [(.tmp 142)], none, 0⟩,
 ⟨some 141, .mv (.tmp 143), none, 0⟩,
 ⟨some 144, .ext (.tmp 141) 0, none, 0⟩,
 ⟨some 145, .ext (.tmp 141) 1, none, 0⟩,
 ⟨some 24, .mv (.tmp 144), none, 0⟩,
 ⟨some 25, .mv (.tmp 145), none, 0⟩]) <|
 .seq (.ops [
 ⟨some 147, .load true 2 (.tmp 9), none, 0⟩,
 ⟨some 148, .call k_zz51 [(.tmp 147)], none, 0⟩,
 ⟨some 146, .mv (.tmp 148), none, 0⟩,
 ⟨some 149, .ext (.tmp 146) 0, none, 0⟩,
 ⟨some 150, .ext (.tmp 146) 1, none, 0⟩,
 ⟨some 26, .mv (.tmp 149), none, 0⟩,
 ⟨some 27, .mv (.tmp 150), none, 0⟩]) <|
 .seq (.seq (.ops [
 ⟨some 151, .mv (.tmp 14), none, 0⟩,
 ⟨some 152, .bin .neq (.tmp 151) (.const (.int .i64 0)), none, 0⟩,
 ⟨some 153, .mv (.tmp 152), none, 0⟩,
 ⟨some 154, .mv (.tmp 19), some (153, false), 0⟩,
 ⟨some 155, .bin .neq (.tmp 154) (.const (.int .i64 0)), some (153, false), 0⟩,
 ⟨some 156, .pick (.tmp 153) (.const (.bool true)) (.tmp 155), none, 0⟩,
 ⟨some 157, .mv (.tmp 156), none, 0⟩,
 ⟨some 158, .mv (.tmp 21), some (157, false), 0⟩,
 ⟨some 159, .bin .neq (.tmp 158) (.const (.int .i64 0)), some (157, false), 0⟩,
 ⟨some 160, .pick (.tmp 157) (.const (.bool true)) (.tmp 159), none, 0⟩,
 ⟨some 161, .mv (.tmp 160), none, 0⟩,
 ⟨some 162, .mv (.tmp 23), some (161, false), 0⟩,
 ⟨some 163, .bin .neq (.tmp 162) (.const (.int .i64 0)), some (161, false), 0⟩,
 ⟨some 164, .pick (.tmp 161) (.const (.bool true)) (.tmp 163), none, 0⟩,
 ⟨some 165, .mv (.tmp 164), none, 0⟩,
 ⟨some 166, .mv (.tmp 25), some (165, false), 0⟩,
 ⟨some 167, .bin .neq (.tmp 166) (.const (.int .i64 0)), some (165, false), 0⟩,
 ⟨some 168, .pick (.tmp 165) (.const (.bool true)) (.tmp 167), none, 0⟩,
 ⟨some 169, .mv (.tmp 168), none, 0⟩,
 ⟨some 170, .mv (.tmp 27), some (169, false), 0⟩,
 ⟨some 171, .bin .neq (.tmp 170) (.const (.int .i64 0)), some (169, false), 0⟩,
 ⟨some 172, .pick (.tmp 169) (.const (.bool true)) (.tmp 171), none, 0⟩,
 ⟨some 173, .mv (.tmp 172), none, 0⟩,
 ⟨some 174, .mv (.tmp 10), some (173, false), 0⟩,
 ⟨some 175, .bin .neq (.tmp 174) (.const (.int .i64 0)), some (173, false), 0⟩,
 ⟨some 176, .pick (.tmp 173) (.const (.bool true)) (.tmp 175), none, 0⟩,
 ⟨some 177, .mv (.tmp 176), none, 0⟩,
 ⟨some 178, .load true 2 (.tmp 18), some (177, false), 0⟩,
 ⟨some 179, .load true 2 (.tmp 13), some (177, false), 0⟩,
 ⟨some 180, .call k_zz76 [(.tmp 178), (.tmp 179)], some (177, false), 0⟩,
 ⟨some 181, .un .not (.tmp 180), some (177, false), 0⟩,
 ⟨some 182, .pick (.tmp 177) (.const (.bool true)) (.tmp 181), none, 0⟩]) <|
 .cond (.tmp 182)
 (.seq (.ops [
 ⟨some 2, .mv (.const (.bool false)), none, 0⟩]) <|
 .keep [2] <|
 .ret)
 (.skip)) <|
 .seq (.ops [
 ⟨some 28, .mv (.const (.int .i64 0)), none, 0⟩]) <|
 .block 4 <|
 .loop [0, 20, 22, 24, 26, 28] i_zz42_B4)
 (.skip)) <|
 .seq (.ops [
 ⟨some 235, .mv (.tmp 0), none, 0⟩,
 ⟨some 236, .call k_zz47 [(.tmp 235)], none, 0⟩,
 ⟨some 30, .alloc [.int .i64 0, .slice none 0 0], none, 0⟩,
 ⟨none, .store 2 (.tmp 30) (.tmp 236), none, 0⟩]) <|
 .seq (.ops [
 ⟨some 238, .load true 2 (.tmp 30), none, 0⟩,
 ⟨some 239, .call k_zz85 [(.tmp 238)], none, 0⟩,
 ⟨some 237, .mv (.tmp 239), none, 0⟩,
 ⟨some 240, .ext (.tmp 237) 0, none, 0⟩,
 ⟨some 241, .ext (.tmp 237) 1, none, 0⟩,
 ⟨some 31, .alloc [.int .i64 0, .slice none 0 0], none, 0⟩,
 ⟨none, .store 2 (.tmp 31) (.tmp 240), none, 0⟩,
 ⟨some 32, .mv (.tmp 241), none, 0⟩]) <|
 .seq (.ops [
 ⟨some 243, .load true 2 (.tmp 30), none, 0⟩,
 ⟨some 244, .call k_zz86 [(.tmp 243)], none, 0⟩,
 ⟨some 242, .mv (.tmp 244), none, 0⟩,
 ⟨some 245, .ext (.tmp 242) 0, none, 0⟩,
 ⟨some 246, .ext (.tmp 242) 1, none, 0⟩,
 ⟨some 33, .alloc [.int .i64 0, .slice none 0 0], none, 0⟩,
 ⟨none, .store 2 (.tmp 33) (.tmp 245), none, 0⟩,
 ⟨some 34, .mv (.tmp 246), none, 0⟩]) <|
 .seq (.ops [
 ⟨some 248, .mv (.tmp 0), none, 0⟩,
 ⟨some 249, .call k_zz39 [(.tmp 248)], none, 0⟩,
 ⟨some 247, .mv (.tmp 249), none, 0⟩,
 ⟨some 250, .ext (.tmp 247) 0, none, 0⟩,
 ⟨some 251, .ext (.tmp 247) 1, none, 0⟩,
 ⟨some 35, .alloc [.int .i64 0, .slice none 0 0], none, 0⟩,
 ⟨none, .store 2 (.tmp 35) (.tmp 250), none, 0⟩,
 ⟨some 36, .mv (.tmp 251), none, 0⟩]) <|
 .seq (.ops [
 ⟨some 253, .load true 2 (.tmp 35), none, 0⟩,
 ⟨some 254, .mv (.tmp 36), none, 0⟩,
 ⟨some 255, .call k_zz74 [(.tmp 253), (.tmp 254)], none, 0⟩,
 ⟨some 252, .mv (.tmp 255), none, 0⟩,
 ⟨some 256, .ext (.tmp 252) 0, none, 0⟩,
 ⟨some 257, .ext (.tmp 252) 1, none, 0⟩,
 ⟨some 37, .alloc [.int .i64 0, .slice none 0 0], none, 0⟩,
 ⟨none, .store 2 (.tmp 37) (.tmp 256), none, 0⟩,
 ⟨some 38, .mv (.tmp 257), none, 0⟩]) <|
 .seq (.ops [
 ⟨some 259, .load true 2 (.tmp 35), none, 0⟩,
 ⟨some 260, .mv (.tmp 36), none, 0⟩,
 ⟨some 261, .call k_zz77 [(.tmp 259), (.tmp 260)], none, 0⟩,
 ⟨some 258, .mv (.tmp 261), none, 0⟩,
 ⟨some 262, .ext (.tmp 258) 0, none, 0⟩,
 ⟨some 263, .ext (.tmp 258) 1, none, 0⟩,
 ⟨some 39, .alloc [.int .i64 0, .slice none 0 0], none, 0⟩,
 ⟨none, .store 2 (.tmp 39) (.tmp 262), none, 0⟩,
 ⟨some 40, .mv (.tmp 263), none, 0⟩]) <|
 .seq (.seq (.ops [
 ⟨some 264, .mv (.tmp 32), none, 0⟩,
 ⟨some 265, .mv (.tmp 34), none, 0⟩,
 ⟨some 266, .bin .neq (.tmp 264) (.tmp 265), none, 0⟩,
 ⟨some 267, .mv (.tmp 266), none, 0⟩,
 ⟨some 268, .load true 2 (.tmp 31), some (267, false), 0⟩,
 ⟨some 269, .load true 2 (.tmp 33), some (267, false), 0⟩,
 ⟨some 270, .call k_zz76 [(.tmp 268), (.tmp 269)], some (267, false), 0⟩,
 ⟨some 271, .un .not (.tmp 270), some (267, false), 0⟩,
 ⟨some 272, .pick (.tmp 267) (.const (.bool true)) (.tmp 271), none, 0⟩,
 ⟨some 273, .mv (.tmp 272), none, 0⟩,
 ⟨some 274, .mv (.tmp 38), some (273, false), 0⟩,
 ⟨some 275, .mv (.tmp 40), some (273, false), 0⟩,
 ⟨some 276, .bin .neq (.tmp 274) (.tmp 275), some (273, false), 0⟩,
 ⟨some 277, .pick (.tmp 273) (.const (.bool true)) (.tmp 276), none, 0⟩,
 ⟨some 278, .mv (.tmp 277), none, 0⟩,
 ⟨some 279, .load true 2 (.tmp 37), some (278, false), 0⟩,
 ⟨some 280, .load true 2 (.tmp 39), some (278, false), 0⟩,
 ⟨some 281, .call k_zz76 [(.tmp 279), (.tmp 280)], some (278, false), 0⟩,
 ⟨some 282, .un .not (.tmp 281), some (278, false), 0⟩,
 ⟨some 283, .pick (.tmp 278) (.const (.bool true)) (.tmp 282), none, 0⟩]) <|
 .cond (.tmp 283)
 (.seq (.ops [
 ⟨some 2, .mv (.const (.bool false)), none, 0⟩]) <|
 .keep [2] <|
 .ret)
 (.skip)) <|
 .seq (.seq (.ops [
 ⟨some 284, .mv (.tmp 32), none, 0⟩,
 ⟨some 285, .bin .eql (.tmp 284) (.const (.int .i64 0)), none, 0⟩]) <|
 .cond (.tmp 285)
 (.seq (.ops [
 ⟨some 287, .load true 2 (.tmp 31), none, 0⟩,
 ⟨some 288, .fld 0 (.tmp 30), none, 0⟩,
 ⟨some 289, .load false 1 (.tmp 288), none, 0⟩,
 ⟨some 290, .call k_zz41 [(.tmp 287), (.tmp 289)], none, 0⟩,
 ⟨some 286, .mv (.tmp 290), none, 0⟩,
 ⟨some 291, .ext (.tmp 286) 0, none, 0⟩,
 ⟨some 292, .ext (.tmp 286) 1, none, 0⟩,
 ⟨some 41, .alloc [.int .i64 0, .slice none 0 0], none, 0⟩,
 ⟨none, .store 2 (.tmp 41) (.tmp 291), none, 0⟩,
 ⟨some 42, .mv (.tmp 292), none, 0⟩]) <|
 .seq (.ops [
 ⟨some 293, .mv (.tmp 42), none, 0⟩,
 ⟨some 294, .bin .neq (.tmp 293) (.const (.int .i64 0)), none, 0⟩,
 ⟨some 295, .mv (.tmp 294), none, 0⟩,
 ⟨some 296, .load true 2 (.tmp 41), some (295, false), 0⟩,
 ⟨some 297, .load true 2 (.tmp 30), some (295, false), 0⟩,
 ⟨some 298, .call k_zz76 [(.tmp 296), (.tmp 297)], some (295, false), 0⟩,
 ⟨some 299, .un .not (.tmp 298), some (295, false), 0⟩,
 ⟨some 300, .pick (.tmp 295) (.const (.bool true)) (.tmp 299), none, 0⟩]) <|
 .cond (.tmp 300)
 (.seq (.ops [
 ⟨some 2, .mv (.const (.bool false)), none, 0⟩]) <|
 .keep [2] <|
 .ret)
 (.skip))
 (.skip)) <|
 .seq (.seq (.ops [
 ⟨some 301, .mv (.tmp 38), none, 0⟩,
 ⟨some 302, .bin .eql (.tmp 301) (.const (.int .i64 0)), none, 0⟩]) <|
 .cond (.tmp 302)
 (.seq (.ops [
 ⟨some 43, .mv (.const (.int .i64 0)), none, 0⟩]) <|
 .block 8 <|
 .loop [35, 37, 43] i_zz42_B5)
 (.skip)) <|
 .seq (.ops [
 ⟨some 2, .mv (.const (.bool true)), none, 0⟩]) <|
 .keep [2] <|
 .ret⟩
theorem e_zz42 : EntOK Tryz.prog (compD Tryz.prog) k_zz42 i_zz42.vf :=
 ⟨Tryz.f3, Tryz.f3.body.getD .skip, Tryz.func3, by kernel_rfl, by kernel_rfl, by kernel_rfl, by kernel_rfl, by kernel_rfl⟩
/-- loop.example/g01331/laws.big -/
def i_zz99 : FF := ⟨6, [.tmp 2],
 .seq (.ops [
 ⟨some 2, .mv (.const (.bool false)), none, 0⟩]) <|
 .seq (.ops [
 ⟨some 3, .mv (.tmp 0), none, 0⟩,
 ⟨some 4, .len (.tmp 3), none, 0⟩,
 ⟨some 5, .bin .gtr (.tmp 4) (.const (.int .i64 4096)), none, 0⟩,
 ⟨some 2, .mv (.tmp 5), none, 0⟩]) <|
 .keep [2] <|
 .ret⟩
theorem e_zz99 : EntOK Tryz.prog (compD Tryz.prog) k_zz99 i_zz99.vf :=
 ⟨Tryz.f5, Tryz.f5.body.getD .skip, Tryz.func5, by kernel_rfl, by kernel_rfl, by kernel_rfl, by kernel_rfl, by kernel_rfl⟩
/-- loop.example/g01331/spec.DrawProductOf -/
def i_zz31 : FF := ⟨13, [.cell 2 true 2, .cell 3 true 2],
 .seq (.ops [
 ⟨some 2, .alloc [.int .i64 0, .slice none 0 0], none, 0⟩,
 ⟨some 3, .alloc [.int .i64 0, .slice none 0 0], none, 0⟩]) <|
 .seq (.ops [
 ⟨some 7, .mv (.tmp 0), none, 0⟩,
 ⟨some 8, .call k_zz92 [(.tmp 7)], none, 0⟩,
 ⟨some 6, .mv (.tmp 8), none, 0⟩,
 ⟨some 9, .ext (.tmp 6) 0, none, 0⟩,
 ⟨some 10, .ext (.tmp 6) 1, none, 0⟩,
 ⟨some 4, .alloc [.int .i64 0, .slice none 0 0], none, 0⟩,
 ⟨some 5, .alloc [.int .i64 0, .slice none 0 0], none, 0⟩,
 ⟨none, .store 2 (.tmp 4) (.tmp 9), none, 0⟩,
 ⟨none, .store 2 (.tmp 5) (.tmp 10), none, 0⟩]) <|
 .seq (.dops [
 ⟨some 11, .load true 2 (.tmp 4), none, 0⟩,
 ⟨none, .store 2 (.tmp 2) (.tmp 11), none, 0⟩,
 ⟨some 12, .load true 2 (.tmp 5), none, 1⟩,
 ⟨none, .store 2 (.tmp 3) (.tmp 12), none, 0⟩]) <|
 .keep [2, 3] <|
 .ret⟩
theorem e_zz31 : EntOK Tryz.prog (compD Tryz.prog) k_zz31 i_zz31.vf :=
 ⟨Tryz.f6, Tryz.f6.body.getD .skip, Tryz.func6, by kernel_rfl, by kernel_rfl, by kernel_rfl, by kernel_rfl, by kernel_rfl⟩
/-- loop.example/g01331/impl.ProductOf -/
def i_zz54 : FF := ⟨12, [.cell 4 true 2, .tmp 5],
 .seq (.ops [
 ⟨some 2, .box 2 (.tmp 0), none, 0⟩,
 ⟨some 3, .box 2 (.tmp 1), none, 0⟩,
 ⟨some 4, .alloc [.int .i64 0, .slice none 0 0], none, 0⟩,
 ⟨some 5, .mv (.const (.int .i64 0)), none, 0⟩]) <|
 .seq (.ops [
 ⟨some 6, .load true 2 (.tmp 2), none, 0⟩,
 ⟨some 7, .load true 2 (.tmp 3), none, 0⟩,
 ⟨some 8, .mkfn k_zz37 [] [(.tmp 3), (.tmp 2)], none, 0⟩,
 ⟨some 9, .call k_zz75 [(.tmp 6), (.tmp 7), (.tmp 8)], none, 0⟩,
 ⟨some 10, .ext (.tmp 9) 0, none, 0⟩,
 ⟨some 11, .ext (.tmp 9) 1, none, 0⟩,
 ⟨none, .store 2 (.tmp 4) (.tmp 10), none, 0⟩,
 ⟨some 5, .mv (.tmp 11), none, 0⟩]) <|
 .keep [4, 5] <|
 .ret⟩
theorem e_zz54 : EntOK Tryz.prog (compD Tryz.prog) k_zz54 i_zz54.vf :=
 ⟨Tryz.f7, Tryz.f7.body.getD .skip, Tryz.func7, by kernel_rfl, by kernel_rfl, by kernel_rfl, by kernel_rfl, by kernel_rfl⟩
/-- loop.example/g01331/spec.ProductOf -/
def i_zz58 : FF := ⟨29, [.cell 4 true 2, .tmp 5],
 .seq (.ops [
 ⟨some 2, .box 2 (.tmp 0), none, 0⟩,
 ⟨some 3, .box 2 (.tmp 1), none, 0⟩,
 ⟨some 4, .alloc [.int .i64 0, .slice none 0 0], none, 0⟩,
 ⟨some 5, .mv (.const (.int .i64 0)), none, 0⟩]) <|
 .seq (.seq (.ops [
 ⟨some 8, .load true 2 (.tmp 2), none, 0⟩,
 ⟨some 9, .load true 2 (.tmp 3), none, 0⟩,
 ⟨some 10, .buildSl 2 [.int .i64 0, .slice none 0 0, .int .i64 0, .slice none 0 0] [(0, 2, (.tmp 8)), (2, 2, (.tmp 9))] 2, none, 0⟩,
 ⟨some 11, .call k_zz83 [(.tmp 10)], none, 0⟩,
 ⟨some 6, .mv (.tmp 11), none, 0⟩]) <|
 .seq (.ops [
 ⟨some 12, .mv (.tmp 6), none, 0⟩,
 ⟨some 13, .bin .neq (.tmp 12) (.const (.int .i64 0)), none, 0⟩]) <|
 .cond (.tmp 13)
 (.seq (.ops [
 ⟨some 14, .build [.int .i64 0, .slice none 0 0] [], none, 0⟩,
 ⟨some 15, .mv (.tmp 6), none, 0⟩,
 ⟨none, .store 2 (.tmp 4) (.tmp 14), none, 0⟩,
 ⟨some 5, .mv (.tmp 15), none, 0⟩]) <|
 .keep [4, 5] <|
 .ret)
 (.skip)) <|
 .seq (.seq (.ops [
 ⟨some 16, .fld 0 (.tmp 2), none, 0⟩,
 ⟨some 17, .load false 1 (.tmp 16), none, 0⟩,
 ⟨some 18, .fld 0 (.tmp 3), none, 0⟩,
 ⟨some 19, .load false 1 (.tmp 18), none, 0⟩,
 ⟨some 20, .bin .mul (.tmp 17) (.tmp 19), none, 0⟩,
 ⟨some 21, .call k_zz84 [(.tmp 20)], none, 0⟩,
 ⟨some 7, .mv (.tmp 21), none, 0⟩]) <|
 .seq (.ops [
 ⟨some 22, .mv (.tmp 7), none, 0⟩,
 ⟨some 23, .bin .neq (.tmp 22) (.const (.int .i64 0)), none, 0⟩]) <|
 .cond (.tmp 23)
 (.seq (.ops [
 ⟨some 24, .build [.int .i64 0, .slice none 0 0] [], none, 0⟩,
 ⟨some 25, .mv (.tmp 7), none, 0⟩,
 ⟨none, .store 2 (.tmp 4) (.tmp 24), none, 0⟩,
 ⟨some 5, .mv (.tmp 25), none, 0⟩]) <|
 .keep [4, 5] <|
 .ret)
 (.skip)) <|
 .seq (.ops [
 ⟨some 26, .load true 2 (.tmp 2), none, 0⟩,
 ⟨some 27, .load true 2 (.tmp 3), none, 0⟩,
 ⟨some 28, .call k_zz49 [(.tmp 26), (.tmp 27)], none, 0⟩,
 ⟨none, .store 2 (.tmp 4) (.tmp 28), none, 0⟩,
 ⟨some 5, .mv (.const (.int .i64 0)), none, 0⟩]) <|
 .keep [4, 5] <|
 .ret⟩
theorem e_zz58 : EntOK Tryz.prog (compD Tryz.prog) k_zz58 i_zz58.vf :=
 ⟨Tryz.f8, Tryz.f8.body.getD .skip, Tryz.func8, by kernel_rfl, by kernel_rfl, by kernel_rfl, by kernel_rfl, by kernel_rfl⟩
/-- loop.example/g01331/impl.DirectProduct -/
def i_zz26 : FF := ⟨12, [.cell 4 true 2, .tmp 5],
 .seq (.ops [
 ⟨some 2, .box 2 (.tmp 0), none, 0⟩,
 ⟨some 3, .box 2 (.tmp 1), none, 0⟩,
 ⟨some 4, .alloc [.int .i64 0, .slice none 0 0], none, 0⟩,
 ⟨some 5, .mv (.const (.int .i64 0)), none, 0⟩]) <|
 .seq (.ops [
 ⟨some 6, .load true 2 (.tmp 2), none, 0⟩,
 ⟨some 7, .load true 2 (.tmp 3), none, 0⟩,
 ⟨some 8, .mkfn k_zz21 [] [(.tmp 2), (.tmp 3)], none, 0⟩,
 ⟨some 9, .call k_zz75 [(.tmp 6), (.tmp 7), (.tmp 8)], none, 0⟩,
 ⟨some 10, .ext (.tmp 9) 0, none, 0⟩,
 ⟨some 11, .ext (.tmp 9) 1, none, 0⟩,
 ⟨none, .store 2 (.tmp 4) (.tmp 10), none, 0⟩,
 ⟨some 5, .mv (.tmp 11), none, 0⟩]) <|
 .keep [4, 5] <|
 .ret⟩
theorem e_zz26 : EntOK Tryz.prog (compD Tryz.prog) k_zz26 i_zz26.vf :=
 ⟨Tryz.f9, Tryz.f9.body.getD .skip, Tryz.func9, by kernel_rfl, by kernel_rfl, by kernel_rfl, by kernel_rfl, by kernel_rfl⟩
/-- loop.example/g01331/spec.DirectProduct -/
def i_zz30 : FF := ⟨29, [.cell 4 true 2, .tmp 5],
 .seq (.ops [
 ⟨some 2, .box 2 (.tmp 0), none, 0⟩,
 ⟨some 3, .box 2 (.tmp 1), none, 0⟩,
 ⟨some 4, .alloc [.int .i64 0, .slice none 0 0], none, 0⟩,
 ⟨some 5, .mv (.const (.int .i64 0)), none, 0⟩]) <|
 .seq (.seq (.ops [
 ⟨some 8, .load true 2 (.tmp 2), none, 0⟩,
 ⟨some 9, .load true 2 (.tmp 3), none, 0⟩,
 ⟨some 10, .buildSl 2 [.int .i64 0, .slice none 0 0, .int .i64 0, .slice none 0 0] [(0, 2, (.tmp 8)), (2, 2, (.tmp 9))] 2, none, 0⟩,
 ⟨some 11, .call k_zz83 [(.tmp 10)], none, 0⟩,
 ⟨some 6, .mv (.tmp 11), none, 0⟩]) <|
 .seq (.ops [
 ⟨some 12, .mv (.tmp 6), none, 0⟩,
 ⟨some 13, .bin .neq (.tmp 12) (.const (.int .i64 0)), none, 0⟩]) <|
 .cond (.tmp 13)
 (.seq (.ops [
 ⟨some 14, .build [.int .i64 0, .slice none 0 0] [], none, 0⟩,
 ⟨some 15, .mv (.tmp 6), none, 0⟩,
 ⟨none, .store 2 (.tmp 4) (.tmp 14), none, 0⟩,
 ⟨some 5, .mv (.tmp 15), none, 0⟩]) <|
 .keep [4, 5] <|
 .ret)
 (.skip)) <|
 .seq (.seq (.ops [
 ⟨some 16, .fld 0 (.tmp 2), none, 0⟩,
 ⟨some 17, .load false 1 (.tmp 16), none, 0⟩,
 ⟨some 18, .fld 0 (.tmp 3), none, 0⟩,
 ⟨some 19, .load false 1 (.tmp 18), none, 0⟩,
 ⟨some 20, .bin .mul (.tmp 17) (.tmp 19), none, 0⟩,
 ⟨some 21, .call k_zz84 [(.tmp 20)], none, 0⟩,
 ⟨some 7, .mv (.tmp 21), none, 0⟩]) <|
 .seq (.ops [
 ⟨some 22, .mv (.tmp 7), none, 0⟩,
 ⟨some 23, .bin .neq (.tmp 22) (.const (.int .i64 0)), none, 0⟩]) <|
 .cond (.tmp 23)
 (.seq (.ops [
 ⟨some 24, .build [.int .i64 0, .slice none 0 0] [], none, 0⟩,
 ⟨some 25, .mv (.tmp 7), none, 0⟩,
 ⟨none, .store 2 (.tmp 4) (.tmp 24), none, 0⟩,
 ⟨some 5, .mv (.tmp 25), none, 0⟩]) <|
 .keep [4, 5] <|
 .ret)
 (.skip)) <|
 .seq (.ops [
 ⟨some 26, .load true 2 (.tmp 2), none, 0⟩,
 ⟨some 27, .load true 2 (.tmp 3), none, 0⟩,
 ⟨some 28, .call k_zz61 [(.tmp 26), (.tmp 27)], none, 0⟩,
 ⟨none, .store 2 (.tmp 4) (.tmp 28), none, 0⟩,
 ⟨some 5, .mv (.const (.int .i64 0)), none, 0⟩]) <|
 .keep [4, 5] <|
 .ret⟩
theorem e_zz30 : EntOK Tryz.prog (compD Tryz.prog) k_zz30 i_zz30.vf :=
 ⟨Tryz.f10, Tryz.f10.body.getD .skip, Tryz.func10, by kernel_rfl, by kernel_rfl, by kernel_rfl, by kernel_rfl, by kernel_rfl⟩
/-- loop.example/g01331/laws.graphs5 -/
def i_zz76 : FF := ⟨17, [.tmp 4],
 .seq (.ops [
 ⟨some 2, .box 2 (.tmp 0), none, 0⟩,
 ⟨some 3, .box 2 (.tmp 1), none, 0⟩,
 ⟨some 4, .mv (.const (.bool false)), none, 0⟩]) <|
 .seq (.ops [
 ⟨some 5, .fld 0 (.tmp 2), none, 0⟩,
 ⟨some 6, .load false 1 (.tmp 5), none, 0⟩,
 ⟨some 7, .fld 0 (.tmp 3), none, 0⟩,
 ⟨some 8, .load false 1 (.tmp 7), none, 0⟩,
 ⟨some 9, .bin .eql (.tmp 6) (.tmp 8), none, 0⟩,
 ⟨some 10, .mv (.tmp 9), none, 0⟩,
 ⟨some 11, .fld 1 (.tmp 2), some (10, true), 0⟩,
 ⟨some 12, .load false 1 (.tmp 11), some (10, true), 0⟩,
 ⟨some 13, .fld 1 (.tmp 3), some (10, true), 0⟩,
 ⟨some 14, .load false 1 (.tmp 13), some (10, true), 0⟩,
 ⟨some 15, .call k_zz63 [(.tmp 12), (.tmp 14)], some (10, true), 0⟩,
 ⟨some 16, .pick (.tmp 10) (.tmp 15) (.const (.bool false)), none, 0⟩,
 ⟨some 4, .mv (.tmp 16), none, 0⟩]) <|
 .keep [4] <|
 .ret⟩
theorem e_zz76 : EntOK Tryz.prog (compD Tryz.prog) k_zz76 i_zz76.vf :=
 ⟨Tryz.f11, Tryz.f11.body.getD .skip, Tryz.func11, by kernel_rfl, by kernel_rfl, by kernel_rfl, by kernel_rfl, by kernel_rfl⟩
/-- loop.example/g01331/impl.RenumberGraph -/
def i_zz29_B1 : FC :=
 .seq (.ops [
 ⟨some 32, .bin .lss (.tmp 31) (.tmp 30), none, 0⟩]) <|
 .seq (.cond (.tmp 32)
 (.skip)
 (.keep [4, 7] <|
 .exit 0)) <|
 .seq (.block 1 <|
 .seq (.ops [
 ⟨some 33, .idx 1 (.tmp 29) (.tmp 31), none, 0⟩,
 ⟨some 34, .load false 1 (.tmp 33), none, 0⟩,
 ⟨some 9, .mv (.tmp 34), none, 0⟩]) <|
 .dops [
 ⟨some 35, .load true 2 (.tmp 7), none, 0⟩,
 ⟨some 36, .mv (.tmp 1), none, 0⟩,
 ⟨some 37, .mv (.tmp 9), none, 0⟩,
 ⟨some 38, .idx 1 (.tmp 37) (.const (.int .i64 0)), none, 0⟩,
 ⟨some 39, .load false 1 (.tmp 38), none, 0⟩,
 ⟨some 40, .idx 1 (.tmp 36) (.tmp 39), none, 0⟩,
 ⟨some 41, .load false 1 (.tmp 40), none, 0⟩,
 ⟨some 42, .mv (.tmp 1), none, 0⟩,
 ⟨some 43, .mv (.tmp 9), none, 0⟩,
 ⟨some 44, .idx 1 (.tmp 43) (.const (.int .i64 1)), none, 0⟩,
 ⟨some 45, .load false 1 (.tmp 44), none, 0⟩,
 ⟨some 46, .idx 1 (.tmp 42) (.tmp 45), none, 0⟩,
 ⟨some 47, .load false 1 (.tmp 46), none, 0⟩,
 ⟨some 48, .call k_zz53 [(.tmp 35), (.tmp 41), (.tmp 47)], none, 0⟩]) <|
 .ops [
 ⟨some 49, .bin .add (.tmp 31) (.const (.int .i64 1)), none, 0⟩,
 ⟨some 31, .mv (.tmp 49), none, 0⟩]
def i_zz29 : FF := ⟨51, [.cell 4 true 2, .tmp 5],
 .seq (.ops [
 ⟨some 2, .box 2 (.tmp 0), none, 0⟩,
 ⟨some 4, .alloc [.int .i64 0, .slice none 0 0], none, 0⟩,
 ⟨some 5, .mv (.const (.int .i64 0)), none, 0⟩]) <|
 .seq (.seq (.ops [
 ⟨some 10, .load true 2 (.tmp 2), none, 0⟩,
 ⟨some 11, .call k_zz73 [(.tmp 10)], none, 0⟩,
 ⟨some 12, .un .not (.tmp 11), none, 0⟩]) <|
 .cond (.tmp 12)
 (.seq (.ops [
 ⟨some 13, .build [.int .i64 0, .slice none 0 0] [], none, 0⟩,
 ⟨none, .store 2 (.tmp 4) (.tmp 13), none, 0⟩,
 ⟨some 5, .mv (.const (.int .i64 1)), none, 0⟩]) <|
 .keep [4, 5] <|
 .ret)
 (.skip)) <|
 .seq (.ops [
 ⟨some 14, .mv (.tmp 1), none, 0⟩,
 ⟨some 15, .call k_zz16 [(.tmp 14)], none, 0⟩,
 ⟨some 6, .mv (.tmp 15), none, 0⟩]) <|
 .seq (.ops [
 ⟨some 16, .mv (.tmp 6), none, 0⟩,
 ⟨some 17, .call k_zz18 [(.tmp 16)], none, 0⟩]) <|
 .seq (.seq (.ops [
 ⟨some 18, .mv (.tmp 6), none, 0⟩,
 ⟨some 19, .fld 0 (.tmp 2), none, 0⟩,
 ⟨some 20, .load false 1 (.tmp 19), none, 0⟩,
 ⟨some 21, .call k_zz62 [(.tmp 20)], none, 0⟩,
 ⟨some 22, .call k_zz17 [(.tmp 18), (.tmp 21)], none, 0⟩,
 ⟨some 23, .un .not (.tmp 22), none, 0⟩]) <|
 .cond (.tmp 23)
 (.seq (.ops [
 ⟨some 24, .build [.int .i64 0, .slice none 0 0] [], none, 0⟩,
 ⟨none, .store 2 (.tmp 4) (.tmp 24), none, 0⟩,
 ⟨some 5, .mv (.const (.int .i64 2)), none, 0⟩]) <|
 .keep [4, 5] <|
 .ret)
 (.skip)) <|
 .seq (.ops [
 ⟨some 25, .fld 0 (.tmp 2), none, 0⟩,
 ⟨some 26, .load false 1 (.tmp 25), none, 0⟩,
 ⟨some 27, .call k_zz93 [(.tmp 26)], none, 0⟩,
 ⟨some 7, .alloc [.int .i64 0, .slice none 0 0], none, 0⟩,
 ⟨none, .store 2 (.tmp 7) (.tmp 27), none, 0⟩]) <|
 .seq (.seq (.ops [
 ⟨some 28, .load true 2 (.tmp 2), none, 0⟩,
 ⟨some 29, .call k_zz36 [(.tmp 28)], none, 0⟩,
 ⟨some 30, .len (.tmp 29), none, 0⟩,
 ⟨some 31, .mv (.const (.int .i64 0)), none, 0⟩]) <|
 .block 0 <|
 .loop [1, 4, 7, 29, 30, 31] i_zz29_B1) <|
 .seq (.ops [
 ⟨some 50, .load true 2 (.tmp 7), none, 0⟩,
 ⟨none, .store 2 (.tmp 4) (.tmp 50), none, 0⟩,
 ⟨some 5, .mv (.const (.int .i64 0)), none, 0⟩]) <|
 .keep [4, 5] <|
 .ret⟩
theorem e_zz29 : EntOK Tryz.prog (compD Tryz.prog) k_zz29 i_zz29.vf :=
 ⟨Tryz.f12, Tryz.f12.body.getD .skip, Tryz.func12, by kernel_rfl, by kernel_rfl, by kernel_rfl, by kernel_rfl, by kernel_rfl⟩
/-- loop.example/g01331/impl.DegreesOf -/
def i_zz51 : FF := ⟨9, [.tmp 2, .tmp 3],
 .seq (.ops [
 ⟨some 1, .box 2 (.tmp 0), none, 0⟩,
 ⟨some 2, .mv (.const (.slice none 0 0)), none, 0⟩,
 ⟨some 3, .mv (.const (.int .i64 0)), none, 0⟩]) <|
 .seq (.seq (.ops [
 ⟨some 4, .load true 2 (.tmp 1), none, 0⟩,
 ⟨some 5, .call k_zz73 [(.tmp 4)], none, 0⟩,
 ⟨some 6, .un .not (.tmp 5), none, 0⟩]) <|
 .cond (.tmp 6)
 (.seq (.ops [
 ⟨some 2, .mv (.const (.slice none 0 0)), none, 0⟩,
 ⟨some 3, .mv (.const (.int .i64 1)), none, 0⟩]) <|
 .keep [2, 3] <|
 .ret)
 (.skip)) <|
 .seq (.ops [
 ⟨some 7, .load true 2 (.tmp 1), none, 0⟩,
 ⟨some 8, .call k_zz27 [(.tmp 7)], none, 0⟩,
 ⟨some 2, .mv (.tmp 8), none, 0⟩,
 ⟨some 3, .mv (.const (.int .i64 0)), none, 0⟩]) <|
 .keep [2, 3] <|
 .ret⟩
theorem e_zz51 : EntOK Tryz.prog (compD Tryz.prog) k_zz51 i_zz51.vf :=
 ⟨Tryz.f13, Tryz.f13.body.getD .skip, Tryz.func13, by kernel_rfl, by kernel_rfl, by kernel_rfl, by kernel_rfl, by kernel_rfl⟩
/-- loop.example/g01331/spec.DrawConeOf -/
def i_zz47 : FF := ⟨6, [.cell 2 true 2],
 .seq (.ops [
 ⟨some 2, .alloc [.int .i64 0, .slice none 0 0], none, 0⟩]) <|
 .seq (.ops [
 ⟨some 3, .mv (.tmp 0), none, 0⟩,
 ⟨some 4, .call k_zz79 [(.tmp 3)], none, 0⟩,
 ⟨some 5, .call k_zz72 [(.tmp 4)], none, 0⟩,
 ⟨none, .store 2 (.tmp 2) (.tmp 5), none, 0⟩]) <|
 .keep [2] <|
 .ret⟩
theorem e_zz47 : EntOK Tryz.prog (compD Tryz.prog) k_zz47 i_zz47.vf :=
 ⟨Tryz.f14, Tryz.f14.body.getD .skip, Tryz.func14, by kernel_rfl, by kernel_rfl, by kernel_rfl, by kernel_rfl, by kernel_rfl⟩
/-- loop.example/g01331/impl.ConeOf -/
def i_zz85_B1 : FC :=
 .seq (.ops [
 ⟨some 31, .bin .lss (.tmp 30) (.tmp 29), none, 0⟩]) <|
 .seq (.cond (.tmp 31)
 (.skip)
 (.keep [2, 5] <|
 .exit 0)) <|
 .seq (.block 1 <|
 .seq (.ops [
 ⟨some 32, .mv (.tmp 30), none, 0⟩,
 ⟨some 6, .mv (.tmp 32), none, 0⟩]) <|
 .ops [
 ⟨some 33, .load true 2 (.tmp 5), none, 0⟩,
 ⟨some 34, .mv (.tmp 6), none, 0⟩,
 ⟨some 35, .fld 0 (.tmp 1), none, 0⟩,
 ⟨some 36, .load false 1 (.tmp 35), none, 0⟩,
 ⟨some 37, .call k_zz53 [(.tmp 33), (.tmp 34), (.tmp 36)], none, 0⟩]) <|
 .ops [
 ⟨some 38, .bin .add (.tmp 30) (.const (.int .i64 1)), none, 0⟩,
 ⟨some 30, .mv (.tmp 38), none, 0⟩]
def i_zz85 : FF := ⟨40, [.cell 2 true 2, .tmp 3],
 .seq (.ops [
 ⟨some 1, .box 2 (.tmp 0), none, 0⟩,
 ⟨some 2, .alloc [.int .i64 0, .slice none 0 0], none, 0⟩,
 ⟨some 3, .mv (.const (.int .i64 0)), none, 0⟩]) <|
 .seq (.seq (.ops [
 ⟨some 7, .load true 2 (.tmp 1), none, 0⟩,
 ⟨some 8, .call k_zz73 [(.tmp 7)], none, 0⟩,
 ⟨some 9, .un .not (.tmp 8), none, 0⟩]) <|
 .cond (.tmp 9)
 (.seq (.ops [
 ⟨some 10, .build [.int .i64 0, .slice none 0 0] [], none, 0⟩,
 ⟨none, .store 2 (.tmp 2) (.tmp 10), none, 0⟩,
 ⟨some 3, .mv (.const (.int .i64 1)), none, 0⟩]) <|
 .keep [2, 3] <|
 .ret)
 (.skip)) <|
 .seq (.seq (.ops [
 ⟨some 11, .fld 0 (.tmp 1), none, 0⟩,
 ⟨some 12, .load false 1 (.tmp 11), none, 0⟩,
 ⟨some 13, .bin .add (.tmp 12) (.const (.int .i64 1)), none, 0⟩,
 ⟨some 14, .call k_zz38 [(.tmp 13)], none, 0⟩,
 ⟨some 4, .mv (.tmp 14), none, 0⟩]) <|
 .seq (.ops [
 ⟨some 15, .mv (.tmp 4), none, 0⟩,
 ⟨some 16, .bin .neq (.tmp 15) (.const (.int .i64 0)), none, 0⟩]) <|
 .cond (.tmp 16)
 (.seq (.ops [
 ⟨some 17, .build [.int .i64 0, .slice none 0 0] [], none, 0⟩,
 ⟨some 18, .mv (.tmp 4), none, 0⟩,
 ⟨none, .store 2 (.tmp 2) (.tmp 17), none, 0⟩,
 ⟨some 3, .mv (.tmp 18), none, 0⟩]) <|
 .keep [2, 3] <|
 .ret)
 (.skip)) <|
 .seq (.ops [
 ⟨some 19, .fld 0 (.tmp 1), none, 0⟩,
 ⟨some 20, .load false 1 (.tmp 19), none, 0⟩,
 ⟨some 21, .bin .add (.tmp 20) (.const (.int .i64 1)), none, 0⟩,
 ⟨some 22, .call k_zz93 [(.tmp 21)], none, 0⟩,
 ⟨some 5, .alloc [.int .i64 0, .slice none 0 0], none, 0⟩,
 ⟨none, .store 2 (.tmp 5) (.tmp 22), none, 0⟩]) <|
 .seq (.ops [
 ⟨some 23, .fld 1 (.tmp 5), none, 0⟩,
 ⟨some 24, .load false 1 (.tmp 23), none, 0⟩,
 ⟨some 25, .fld 1 (.tmp 1), none, 0⟩,
 ⟨some 26, .load false 1 (.tmp 25), none, 0⟩,
 ⟨some 27, .cpy 1 (.tmp 24) (.tmp 26), none, 0⟩]) <|
 .seq (.seq (.ops [
 ⟨some 28, .fld 0 (.tmp 1), none, 0⟩,
 ⟨some 29, .load false 1 (.tmp 28), none, 0⟩,
 ⟨some 30, .mv (.const (.int .i64 0)), none, 0⟩]) <|
 .block 0 <|
 .loop [1, 2, 5, 29, 30] i_zz85_B1) <|
 .seq (.ops [
 ⟨some 39, .load true 2 (.tmp 5), none, 0⟩,
 ⟨none, .store 2 (.tmp 2) (.tmp 39), none, 0⟩,
 ⟨some 3, .mv (.const (.int .i64 0)), none, 0⟩]) <|
 .keep [2, 3] <|
 .ret⟩
theorem e_zz85 : EntOK Tryz.prog (compD Tryz.prog) k_zz85 i_zz85.vf :=
 ⟨Tryz.f15, Tryz.f15.body.getD .skip, Tryz.func15, by kernel_rfl, by kernel_rfl, by kernel_rfl, by kernel_rfl, by kernel_rfl⟩
/-- loop.example/g01331/spec.ConeOf -/
def i_zz86_B1 : FC :=
 .seq (.seq (.ops [
 ⟨some 26, .mv (.tmp 7), none, 0⟩,
 ⟨some 27, .fld 0 (.tmp 1), none, 0⟩,
 ⟨some 28, .load false 1 (.tmp 27), none, 0⟩,
 ⟨some 29, .bin .lss (.tmp 26) (.tmp 28), none, 0⟩]) <|
 .cond (.tmp 29)
 (.skip)
 (.keep [2, 6] <|
 .exit 0)) <|
 .seq (.block 1 <|
 .ops [
 ⟨some 32, .load true 2 (.tmp 6), none, 0⟩,
 ⟨some 33, .mv (.tmp 7), none, 0⟩,
 ⟨some 34, .fld 0 (.tmp 1), none, 0⟩,
 ⟨some 35, .load false 1 (.tmp 34), none, 0⟩,
 ⟨some 36, .call k_zz90 [(.tmp 32), (.tmp 33), (.tmp 35)], none, 0⟩]) <|
 .ops [
 ⟨some 30, .mv (.tmp 7), none, 0⟩,
 ⟨some 31, .bin .add (.tmp 30) (.const (.int .i64 1)), none, 0⟩,
 ⟨some 7, .mv (.tmp 31), none, 0⟩]
def i_zz86 : FF := ⟨38, [.cell 2 true 2, .tmp 3],
 .seq (.ops [
 ⟨some 1, .box 2 (.tmp 0), none, 0⟩,
 ⟨some 2, .alloc [.int .i64 0, .slice none 0 0], none, 0⟩,
 ⟨some 3, .mv (.const (.int .i64 0)), none, 0⟩]) <|
 .seq (.seq (.ops [
 ⟨some 8, .load true 2 (.tmp 1), none, 0⟩,
 ⟨some 9, .buildSl 2 [.int .i64 0, .slice none 0 0] [(0, 2, (.tmp 8))] 1, none, 0⟩,
 ⟨some 10, .call k_zz83 [(.tmp 9)], none, 0⟩,
 ⟨some 4, .mv (.tmp 10), none, 0⟩]) <|
 .seq (.ops [
 ⟨some 11, .mv (.tmp 4), none, 0⟩,
 ⟨some 12, .bin .neq (.tmp 11) (.const (.int .i64 0)), none, 0⟩]) <|
 .cond (.tmp 12)
 (.seq (.ops [
 ⟨some 13, .build [.int .i64 0, .slice none 0 0] [], none, 0⟩,
 ⟨some 14, .mv (.tmp 4), none, 0⟩,
 ⟨none, .store 2 (.tmp 2) (.tmp 13), none, 0⟩,
 ⟨some 3, .mv (.tmp 14), none, 0⟩]) <|
 .keep [2, 3] <|
 .ret)
 (.skip)) <|
 .seq (.seq (.ops [
 ⟨some 15, .fld 0 (.tmp 1), none, 0⟩,
 ⟨some 16, .load false 1 (.tmp 15), none, 0⟩,
 ⟨some 17, .bin .add (.tmp 16) (.const (.int .i64 1)), none, 0⟩,
 ⟨some 18, .call k_zz84 [(.tmp 17)], none, 0⟩,
 ⟨some 5, .mv (.tmp 18), none, 0⟩]) <|
 .seq (.ops [
 ⟨some 19, .mv (.tmp 5), none, 0⟩,
 ⟨some 20, .bin .neq (.tmp 19) (.const (.int .i64 0)), none, 0⟩]) <|
 .cond (.tmp 20)
 (.seq (.ops [
 ⟨some 21, .build [.int .i64 0, .slice none 0 0] [], none, 0⟩,
 ⟨some 22, .mv (.tmp 5), none, 0⟩,
 ⟨none, .store 2 (.tmp 2) (.tmp 21), none, 0⟩,
 ⟨some 3, .mv (.tmp 22), none, 0⟩]) <|
 .keep [2, 3] <|
 .ret)
 (.skip)) <|
 .seq (.dops [
 ⟨some 24, .call k_zz67 [(.const (.int .i64 1))], none, 0⟩,
 ⟨some 23, .load true 2 (.tmp 1), none, 1⟩,
 ⟨some 25, .call k_zz59 [(.tmp 23), (.tmp 24)], none, 0⟩,
 ⟨some 6, .alloc [.int .i64 0, .slice none 0 0], none, 2⟩,
 ⟨none, .store 2 (.tmp 6) (.tmp 25), none, 1⟩]) <|
 .seq (.seq (.ops [
 ⟨some 7, .mv (.const (.int .i64 0)), none, 0⟩]) <|
 .block 0 <|
 .loop [1, 2, 6, 7] i_zz86_B1) <|
 .seq (.ops [
 ⟨some 37, .load true 2 (.tmp 6), none, 0⟩,
 ⟨none, .store 2 (.tmp 2) (.tmp 37), none, 0⟩,
 ⟨some 3, .mv (.const (.int .i64 0)), none, 0⟩]) <|
 .keep [2, 3] <|
 .ret⟩
theorem e_zz86 : EntOK Tryz.prog (compD Tryz.prog) k_zz86 i_zz86.vf :=
 ⟨Tryz.f16, Tryz.f16.body.getD .skip, Tryz.func16, by kernel_rfl, by kernel_rfl, by kernel_rfl, by kernel_rfl, by kernel_rfl⟩
/-- loop.example/g01331/spec.DrawPowerOf -/
def i_zz39 : FF := ⟨17, [.cell 2 true 2, .tmp 3],
 .seq (.ops [
 ⟨some 2, .alloc [.int .i64 0, .slice none 0 0], none, 0⟩,
 ⟨some 3, .mv (.const (.int .i64 0)), none, 0⟩]) <|
 .seq (.ops [
 ⟨some 6, .mv (.tmp 0), none, 0⟩,
 ⟨some 7, .call k_zz79 [(.tmp 6)], none, 0⟩,
 ⟨some 4, .mv (.tmp 7), none, 0⟩]) <|
 .seq (.ops [
 ⟨some 8, .mv (.tmp 4), none, 0⟩,
 ⟨some 9, .call k_zz72 [(.tmp 8)], none, 0⟩,
 ⟨some 5, .alloc [.int .i64 0, .slice none 0 0], none, 0⟩,
 ⟨none, .store 2 (.tmp 5) (.tmp 9), none, 0⟩]) <|
 .seq (.dops [
 ⟨some 12, .mv (.tmp 4), none, 0⟩,
 ⟨some 13, .call k_zz80 [(.tmp 12), (.const (.int .i64 60))], none, 0⟩,
 ⟨some 14, .bin .add (.const (.int .i64 1)) (.tmp 13), none, 0⟩,
 ⟨some 15, .buildSl 1 [.int .i64 0, .int .i64 0, .int .i64 0, .int .i64 0, .int .i64 0, .int .i64 0] [(0, 1, (.const (.int .i64 1))), (1, 1, (.const (.int .i64 2))), (2, 1, (.const (.int .i64 2))), (3, 1, (.const (.int .i64 3))), (4, 1, (.const (.int .i64 4))), (5, 1, (.tmp 14))] 6, none, 0⟩,
 ⟨some 11, .mv (.tmp 4), none, 2⟩,
 ⟨some 16, .call k_zz82 [(.tmp 11), (.tmp 15)], none, 0⟩,
 ⟨some 10, .load true 2 (.tmp 5), none, 3⟩,
 ⟨none, .store 2 (.tmp 2) (.tmp 10), none, 0⟩,
 ⟨some 3, .mv (.tmp 16), none, 0⟩]) <|
 .keep [2, 3] <|
 .ret⟩
theorem e_zz39 : EntOK Tryz.prog (compD Tryz.prog) k_zz39 i_zz39.vf :=
 ⟨Tryz.f17, Tryz.f17.body.getD .skip, Tryz.func17, by kernel_rfl, by kernel_rfl, by kernel_rfl, by kernel_rfl, by kernel_rfl⟩
/-- loop.example/g01331/impl.PowerOf -/
def i_zz74_B1 : FC :=
 .seq (.ops [
 ⟨some 36, .bin .lss (.tmp 35) (.tmp 34), none, 0⟩]) <|
 .seq (.cond (.tmp 36)
 (.skip)
 (.keep [1, 2, 4, 6, 27, 28] <|
 .exit 3)) <|
 .seq (.block 4 <|
 .seq (.ops [
 ⟨some 37, .mv (.tmp 35), none, 0⟩,
 ⟨some 38, .idx 1 (.tmp 33) (.tmp 35), none, 0⟩,
 ⟨some 39, .load false 1 (.tmp 38), none, 0⟩,
 ⟨some 8, .mv (.tmp 37), none, 0⟩,
 ⟨some 9, .mv (.tmp 39), none, 0⟩]) <|
 .seq (.ops [
 ⟨some 40, .mv (.tmp 9), none, 0⟩,
 ⟨some 41, .bin .gtr (.tmp 40) (.const (.int .i64 0)), none, 0⟩,
 ⟨some 42, .mv (.tmp 41), none, 0⟩,
 ⟨some 43, .mv (.tmp 9), some (42, true), 0⟩,
 ⟨some 44, .mv (.tmp 1), some (42, true), 0⟩,
 ⟨some 45, .bin .leq (.tmp 43) (.tmp 44), some (42, true), 0⟩,
 ⟨some 46, .pick (.tmp 42) (.tmp 45) (.const (.bool false)), none, 0⟩]) <|
 .cond (.tmp 46)
 (.ops [
 ⟨some 47, .load true 2 (.tmp 6), none, 0⟩,
 ⟨some 48, .mv (.tmp 7), none, 0⟩,
 ⟨some 49, .mv (.tmp 8), none, 0⟩,
 ⟨some 50, .call k_zz53 [(.tmp 47), (.tmp 48), (.tmp 49)], none, 0⟩])
 (.skip)) <|
 .ops [
 ⟨some 51, .bin .add (.tmp 35) (.const (.int .i64 1)), none, 0⟩,
 ⟨some 35, .mv (.tmp 51), none, 0⟩]
def i_zz74_B2 : FC :=
 .seq (.ops [
 ⟨some 29, .bin .lss (.tmp 28) (.tmp 27), none, 0⟩]) <|
 .seq (.cond (.tmp 29)
 (.skip)
 (.keep [4, 6] <|
 .exit 1)) <|
 .seq (.block 2 <|
 .seq (.ops [
 ⟨some 30, .mv (.tmp 28), none, 0⟩,
 ⟨some 7, .mv (.tmp 30), none, 0⟩]) <|
 .seq (.ops [
 ⟨some 31, .load true 2 (.tmp 2), none, 0⟩,
 ⟨some 32, .mv (.tmp 7), none, 0⟩,
 ⟨some 33, .call k_zz22 [(.tmp 31), (.tmp 32)], none, 0⟩,
 ⟨some 34, .len (.tmp 33), none, 0⟩,
 ⟨some 35, .mv (.const (.int .i64 0)), none, 0⟩]) <|
 .block 3 <|
 .loop [1, 2, 4, 6, 7, 27, 28, 33, 34, 35] i_zz74_B1) <|
 .ops [
 ⟨some 52, .bin .add (.tmp 28) (.const (.int .i64 1)), none, 0⟩,
 ⟨some 28, .mv (.tmp 52), none, 0⟩]
def i_zz74 : FF := ⟨54, [.cell 4 true 2, .tmp 5],
 .seq (.ops [
 ⟨some 2, .box 2 (.tmp 0), none, 0⟩,
 ⟨some 4, .alloc [.int .i64 0, .slice none 0 0], none, 0⟩,
 ⟨some 5, .mv (.const (.int .i64 0)), none, 0⟩]) <|
 .seq (.block 0 <|
 .seq (.ops [
 ⟨some 11, .load true 2 (.tmp 2), none, 0⟩,
 ⟨some 12, .call k_zz73 [(.tmp 11)], none, 0⟩,
 ⟨some 13, .un .not (.tmp 12), none, 0⟩,
 ⟨some 10, .mv (.tmp 13), none, 0⟩]) <|
 .cond (.tmp 10)
 (.seq (.ops [
 ⟨some 14, .build [.int .i64 0, .slice none 0 0] [], none, 0⟩,
 ⟨none, .store 2 (.tmp 4) (.tmp 14), none, 0⟩,
 ⟨some 5, .mv (.const (.int .i64 1)), none, 0⟩]) <|
 .keep [4, 5] <|
 .ret)
 (.seq (.ops [
 ⟨some 16, .mv (.tmp 1), none, 0⟩,
 ⟨some 17, .bin .lss (.tmp 16) (.const (.int .i64 1)), none, 0⟩,
 ⟨some 18, .mv (.tmp 17), none, 0⟩,
 ⟨some 19, .mv (.tmp 1), some (18, false), 0⟩,
 ⟨some 20, .bin .gtr (.tmp 19) (.const (.int .i64 61)), some (18, false), 0⟩,
 ⟨some 21, .pick (.tmp 18) (.const (.bool true)) (.tmp 20), none, 0⟩,
 ⟨some 15, .mv (.tmp 21), none, 0⟩]) <|
 .cond (.tmp 15)
 (.seq (.ops [
 ⟨some 22, .build [.int .i64 0, .slice none 0 0] [], none, 0⟩,
 ⟨none, .store 2 (.tmp 4) (.tmp 22), none, 0⟩,
 ⟨some 5, .mv (.const (.int .i64 2)), none, 0⟩]) <|
 .keep [4, 5] <|
 .ret)
 (.skip))) <|
 .seq (.ops [
 ⟨some 23, .fld 0 (.tmp 2), none, 0⟩,
 ⟨some 24, .load false 1 (.tmp 23), none, 0⟩,
 ⟨some 25, .call k_zz93 [(.tmp 24)], none, 0⟩,
 ⟨some 6, .alloc [.int .i64 0, .slice none 0 0], none, 0⟩,
 ⟨none, .store 2 (.tmp 6) (.tmp 25), none, 0⟩]) <|
 .seq (.seq (.ops [
 ⟨some 26, .fld 0 (.tmp 2), none, 0⟩,
 ⟨some 27, .load false 1 (.tmp 26), none, 0⟩,
 ⟨some 28, .mv (.const (.int .i64 0)), none, 0⟩]) <|
 .block 1 <|
 .loop [1, 2, 4, 6, 27, 28] i_zz74_B2) <|
 .seq (.ops [
 ⟨some 53, .load true 2 (.tmp 6), none, 0⟩,
 ⟨none, .store 2 (.tmp 4) (.tmp 53), none, 0⟩,
 ⟨some 5, .mv (.const (.int .i64 0)), none, 0⟩]) <|
 .keep [4, 5] <|
 .ret⟩
theorem e_zz74 : EntOK Tryz.prog (compD Tryz.prog) k_zz74 i_zz74.vf :=
 ⟨Tryz.f18, Tryz.f18.body.getD .skip, Tryz.func18, by kernel_rfl, by kernel_rfl, by kernel_rfl, by kernel_rfl, by kernel_rfl⟩
/-- loop.example/g01331/spec.PowerOf -/
def i_zz77_B1 : FC :=
 .seq (.seq (.ops [
 ⟨some 29, .mv (.tmp 8), none, 0⟩,
 ⟨some 30, .mv (.tmp 7), none, 0⟩,
 ⟨some 31, .bin .lss (.tmp 29) (.tmp 30), none, 0⟩]) <|
 .cond (.tmp 31)
 (.skip)
 (.keep [1, 2, 4, 6, 7] <|
 .exit 3)) <|
 .seq (.block 4 <|
 .seq (.ops [
 ⟨some 34, .load true 2 (.tmp 2), none, 0⟩,
 ⟨some 35, .mv (.tmp 7), none, 0⟩,
 ⟨some 36, .mv (.tmp 8), none, 0⟩,
 ⟨some 37, .call k_zz91 [(.tmp 34), (.tmp 35), (.tmp 36)], none, 0⟩,
 ⟨some 9, .mv (.tmp 37), none, 0⟩]) <|
 .seq (.ops [
 ⟨some 38, .mv (.tmp 9), none, 0⟩,
 ⟨some 39, .bin .geq (.tmp 38) (.const (.int .i64 0)), none, 0⟩,
 ⟨some 40, .mv (.tmp 39), none, 0⟩,
 ⟨some 41, .mv (.tmp 9), some (40, true), 0⟩,
 ⟨some 42, .mv (.tmp 1), some (40, true), 0⟩,
 ⟨some 43, .bin .leq (.tmp 41) (.tmp 42), some (40, true), 0⟩,
 ⟨some 44, .pick (.tmp 40) (.tmp 43) (.const (.bool false)), none, 0⟩]) <|
 .cond (.tmp 44)
 (.ops [
 ⟨some 45, .load true 2 (.tmp 6), none, 0⟩,
 ⟨some 46, .mv (.tmp 7), none, 0⟩,
 ⟨some 47, .mv (.tmp 8), none, 0⟩,
 ⟨some 48, .call k_zz90 [(.tmp 45), (.tmp 46), (.tmp 47)], none, 0⟩])
 (.skip)) <|
 .ops [
 ⟨some 32, .mv (.tmp 8), none, 0⟩,
 ⟨some 33, .bin .add (.tmp 32) (.const (.int .i64 1)), none, 0⟩,
 ⟨some 8, .mv (.tmp 33), none, 0⟩]
def i_zz77_B2 : FC :=
 .seq (.seq (.ops [
 ⟨some 23, .mv (.tmp 7), none, 0⟩,
 ⟨some 24, .fld 0 (.tmp 2), none, 0⟩,
 ⟨some 25, .load false 1 (.tmp 24), none, 0⟩,
 ⟨some 26, .bin .lss (.tmp 23) (.tmp 25), none, 0⟩]) <|
 .cond (.tmp 26)
 (.skip)
 (.keep [4, 6] <|
 .exit 1)) <|
 .seq (.block 2 <|
 .seq (.ops [
 ⟨some 8, .mv (.const (.int .i64 0)), none, 0⟩]) <|
 .block 3 <|
 .loop [1, 2, 4, 6, 7, 8] i_zz77_B1) <|
 .ops [
 ⟨some 27, .mv (.tmp 7), none, 0⟩,
 ⟨some 28, .bin .add (.tmp 27) (.const (.int .i64 1)), none, 0⟩,
 ⟨some 7, .mv (.tmp 28), none, 0⟩]
def i_zz77 : FF := ⟨50, [.cell 4 true 2, .tmp 5],
 .seq (.ops [
 ⟨some 2, .box 2 (.tmp 0), none, 0⟩,
 ⟨some 4, .alloc [.int .i64 0, .slice none 0 0], none, 0⟩,
 ⟨some 5, .mv (.const (.int .i64 0)), none, 0⟩]) <|
 .seq (.block 0 <|
 .seq (.ops [
 ⟨some 11, .load true 2 (.tmp 2), none, 0⟩,
 ⟨some 12, .call k_zz95 [(.tmp 11)], none, 0⟩,
 ⟨some 13, .un .not (.tmp 12), none, 0⟩,
 ⟨some 10, .mv (.tmp 13), none, 0⟩]) <|
 .cond (.tmp 10)
 (.seq (.ops [
 ⟨some 14, .build [.int .i64 0, .slice none 0 0] [], none, 0⟩,
 ⟨none, .store 2 (.tmp 4) (.tmp 14), none, 0⟩,
 ⟨some 5, .mv (.const (.int .i64 1)), none, 0⟩]) <|
 .keep [4, 5] <|
 .ret)
 (.seq (.ops [
 ⟨some 16, .mv (.tmp 1), none, 0⟩,
 ⟨some 17, .call k_zz94 [(.tmp 16), (.const (.int .i64 1)), (.const (.int .i64 61))], none, 0⟩,
 ⟨some 18, .un .not (.tmp 17), none, 0⟩,
 ⟨some 15, .mv (.tmp 18), none, 0⟩]) <|
 .cond (.tmp 15)
 (.seq (.ops [
 ⟨some 19, .build [.int .i64 0, .slice none 0 0] [], none, 0⟩,
 ⟨none, .store 2 (.tmp 4) (.tmp 19), none, 0⟩,
 ⟨some 5, .mv (.const (.int .i64 2)), none, 0⟩]) <|
 .keep [4, 5] <|
 .ret)
 (.skip))) <|
 .seq (.ops [
 ⟨some 20, .fld 0 (.tmp 2), none, 0⟩,
 ⟨some 21, .load false 1 (.tmp 20), none, 0⟩,
 ⟨some 22, .call k_zz67 [(.tmp 21)], none, 0⟩,
 ⟨some 6, .alloc [.int .i64 0, .slice none 0 0], none, 0⟩,
 ⟨none, .store 2 (.tmp 6) (.tmp 22), none, 0⟩]) <|
 .seq (.seq (.ops [
 ⟨some 7, .mv (.const (.int .i64 0)), none, 0⟩]) <|
 .block 1 <|
 .loop [1, 2, 4, 6, 7] i_zz77_B2) <|
 .seq (.ops [
 ⟨some 49, .load true 2 (.tmp 6), none, 0⟩,
 ⟨none, .store 2 (.tmp 4) (.tmp 49), none, 0⟩,
 ⟨some 5, .mv (.const (.int .i64 0)), none, 0⟩]) <|
 .keep [4, 5] <|
 .ret⟩
theorem e_zz77 : EntOK Tryz.prog (compD Tryz.prog) k_zz77 i_zz77.vf :=
 ⟨Tryz.f19, Tryz.f19.body.getD .skip, Tryz.func19, by kernel_rfl, by kernel_rfl, by kernel_rfl, by kernel_rfl, by kernel_rfl⟩
/-- loop.example/g01331/impl.TakeVertex -/
def i_zz41 : FF := ⟨22, [.cell 4 true 2, .tmp 5],
 .seq (.ops [
 ⟨some 2, .box 2 (.tmp 0), none, 0⟩,
 ⟨some 4, .alloc [.int .i64 0, .slice none 0 0], none, 0⟩,
 ⟨some 5, .mv (.const (.int .i64 0)), none, 0⟩]) <|
 .seq (.seq (.ops [
 ⟨some 7, .load true 2 (.tmp 2), none, 0⟩,
 ⟨some 8, .mv (.tmp 1), none, 0⟩,
 ⟨some 9, .buildSl 1 [.int .i64 0] [(0, 1, (.tmp 8))] 1, none, 0⟩,
 ⟨some 10, .call k_zz56 [(.tmp 7), (.tmp 9)], none, 0⟩,
 ⟨some 6, .mv (.tmp 10), none, 0⟩]) <|
 .seq (.ops [
 ⟨some 11, .mv (.tmp 6), none, 0⟩,
 ⟨some 12, .bin .neq (.tmp 11) (.const (.int .i64 0)), none, 0⟩]) <|
 .cond (.tmp 12)
 (.seq (.ops [
 ⟨some 13, .build [.int .i64 0, .slice none 0 0] [], none, 0⟩,
 ⟨some 14, .mv (.tmp 6), none, 0⟩,
 ⟨none, .store 2 (.tmp 4) (.tmp 13), none, 0⟩,
 ⟨some 5, .mv (.tmp 14), none, 0⟩]) <|
 .keep [4, 5] <|
 .ret)
 (.skip)) <|
 .seq (.seq (.ops [
 ⟨some 15, .fld 0 (.tmp 2), none, 0⟩,
 ⟨some 16, .load false 1 (.tmp 15), none, 0⟩,
 ⟨some 17, .bin .eql (.tmp 16) (.const (.int .i64 1)), none, 0⟩]) <|
 .cond (.tmp 17)
 (.seq (.ops [
 ⟨some 18, .build [.int .i64 0, .slice none 0 0] [], none, 0⟩,
 ⟨none, .store 2 (.tmp 4) (.tmp 18), none, 0⟩,
 ⟨some 5, .mv (.const (.int .i64 3)), none, 0⟩]) <|
 .keep [4, 5] <|
 .ret)
 (.skip)) <|
 .seq (.ops [
 ⟨some 19, .load true 2 (.tmp 2), none, 0⟩,
 ⟨some 20, .mv (.tmp 1), none, 0⟩,
 ⟨some 21, .call k_zz28 [(.tmp 19), (.tmp 20)], none, 0⟩,
 ⟨none, .store 2 (.tmp 4) (.tmp 21), none, 0⟩,
 ⟨some 5, .mv (.const (.int .i64 0)), none, 0⟩]) <|
 .keep [4, 5] <|
 .ret⟩
theorem e_zz41 : EntOK Tryz.prog (compD Tryz.prog) k_zz41 i_zz41.vf :=
 ⟨Tryz.f20, Tryz.f20.body.getD .skip, Tryz.func20, by kernel_rfl, by kernel_rfl, by kernel_rfl, by kernel_rfl, by kernel_rfl⟩
/-- loop.example/g01331/spec.l09Two -/
def i_zz92 : FF := ⟨24, [.cell 2 true 2, .cell 3 true 2],
 .seq (.ops [
 ⟨some 2, .alloc [.int .i64 0, .slice none 0 0], none, 0⟩,
 ⟨some 3, .alloc [.int .i64 0, .slice none 0 0], none, 0⟩]) <|
 .seq (.ops [
 ⟨some 7, .mv (.tmp 0), none, 0⟩,
 ⟨some 8, .call k_zz79 [(.tmp 7)], none, 0⟩,
 ⟨some 4, .mv (.tmp 8), none, 0⟩]) <|
 .seq (.ops [
 ⟨some 9, .mv (.tmp 4), none, 0⟩,
 ⟨some 10, .call k_zz71 [(.tmp 9)], none, 0⟩,
 ⟨some 11, .mv (.tmp 4), none, 0⟩,
 ⟨some 12, .call k_zz71 [(.tmp 11)], none, 0⟩,
 ⟨some 5, .alloc [.int .i64 0, .slice none 0 0], none, 0⟩,
 ⟨some 6, .alloc [.int .i64 0, .slice none 0 0], none, 0⟩,
 ⟨none, .store 2 (.tmp 5) (.tmp 10), none, 0⟩,
 ⟨none, .store 2 (.tmp 6) (.tmp 12), none, 0⟩]) <|
 .seq (.seq (.ops [
 ⟨some 13, .mv (.tmp 4), none, 0⟩,
 ⟨some 14, .call k_zz81 [(.tmp 13), (.const (.int .i64 8))], none, 0⟩,
 ⟨some 15, .bin .eql (.tmp 14) (.const (.int .i64 0)), none, 0⟩]) <|
 .cond (.tmp 15)
 (.ops [
 ⟨some 16, .mv (.tmp 4), none, 0⟩,
 ⟨some 17, .call k_zz78 [(.tmp 16)], none, 0⟩,
 ⟨none, .store 2 (.tmp 6) (.tmp 17), none, 0⟩])
 (.skip)) <|
 .seq (.dops [
 ⟨some 18, .mv (.tmp 4), none, 0⟩,
 ⟨some 19, .load true 2 (.tmp 5), none, 0⟩,
 ⟨some 20, .call k_zz87 [(.tmp 18), (.tmp 19)], none, 0⟩,
 ⟨some 21, .mv (.tmp 4), none, 1⟩,
 ⟨some 22, .load true 2 (.tmp 6), none, 1⟩,
 ⟨some 23, .call k_zz87 [(.tmp 21), (.tmp 22)], none, 0⟩,
 ⟨none, .store 2 (.tmp 2) (.tmp 20), none, 0⟩,
 ⟨none, .store 2 (.tmp 3) (.tmp 23), none, 0⟩]) <|
 .keep [2, 3] <|
 .ret⟩
theorem e_zz92 : EntOK Tryz.prog (compD Tryz.prog) k_zz92 i_zz92.vf :=
 ⟨Tryz.f38, Tryz.f38.body.getD .skip, Tryz.func38, by kernel_rfl, by kernel_rfl, by kernel_rfl, by kernel_rfl, by kernel_rfl⟩
/-- loop.example/g01331/impl.product -/
def i_zz75 : FF := ⟨33, [.cell 6 true 2, .tmp 7],
 .seq (.ops [
 ⟨some 3, .box 2 (.tmp 0), none, 0⟩,
 ⟨some 4, .box 2 (.tmp 1), none, 0⟩,
 ⟨some 5, .box 1 (.tmp 2), none, 0⟩,
 ⟨some 6, .alloc [.int .i64 0, .slice none 0 0], none, 0⟩,
 ⟨some 7, .mv (.const (.int .i64 0)), none, 0⟩]) <|
 .seq (.seq (.ops [
 ⟨some 10, .load true 2 (.tmp 3), none, 0⟩,
 ⟨some 11, .load true 2 (.tmp 4), none, 0⟩,
 ⟨some 12, .buildSl 2 [.int .i64 0, .slice none 0 0, .int .i64 0, .slice none 0 0] [(0, 2, (.tmp 10)), (2, 2, (.tmp 11))] 2, none, 0⟩,
 ⟨some 13, .call k_zz55 [(.tmp 12)], none, 0⟩,
 ⟨some 14, .un .not (.tmp 13), none, 0⟩]) <|
 .cond (.tmp 14)
 (.seq (.ops [
 ⟨some 15, .build [.int .i64 0, .slice none 0 0] [], none, 0⟩,
 ⟨none, .store 2 (.tmp 6) (.tmp 15), none, 0⟩,
 ⟨some 7, .mv (.const (.int .i64 1)), none, 0⟩]) <|
 .keep [6, 7] <|
 .ret)
 (.skip)) <|
 .seq (.ops [
 ⟨some 16, .fld 0 (.tmp 4), none, 0⟩,
 ⟨some 17, .load false 1 (.tmp 16), none, 0⟩,
 ⟨some 8, .alloc [.int .i64 0], none, 0⟩,
 ⟨none, .store 1 (.tmp 8) (.tmp 17), none, 0⟩]) <|
 .seq (.seq (.ops [
 ⟨some 18, .fld 0 (.tmp 3), none, 0⟩,
 ⟨some 19, .load false 1 (.tmp 18), none, 0⟩,
 ⟨some 20, .load false 1 (.tmp 8), none, 0⟩,
 ⟨some 21, .bin .mul (.tmp 19) (.tmp 20), none, 0⟩,
 ⟨some 22, .call k_zz38 [(.tmp 21)], none, 0⟩,
 ⟨some 9, .mv (.tmp 22), none, 0⟩]) <|
 .seq (.ops [
 ⟨some 23, .mv (.tmp 9), none, 0⟩,
 ⟨some 24, .bin .neq (.tmp 23) (.const (.int .i64 0)), none, 0⟩]) <|
 .cond (.tmp 24)
 (.seq (.ops [
 ⟨some 25, .build [.int .i64 0, .slice none 0 0] [], none, 0⟩,
 ⟨some 26, .mv (.tmp 9), none, 0⟩,
 ⟨none, .store 2 (.tmp 6) (.tmp 25), none, 0⟩,
 ⟨some 7, .mv (.tmp 26), none, 0⟩]) <|
 .keep [6, 7] <|
 .ret)
 (.skip)) <|
 .seq (.ops [
 ⟨some 27, .fld 0 (.tmp 3), none, 0⟩,
 ⟨some 28, .load false 1 (.tmp 27), none, 0⟩,
 ⟨some 29, .load false 1 (.tmp 8), none, 0⟩,
 ⟨some 30, .bin .mul (.tmp 28) (.tmp 29), none, 0⟩,
 ⟨some 31, .mkfn k_zz57 [] [(.tmp 5), (.tmp 8)], none, 0⟩,
 ⟨some 32, .call k_zz97 [(.tmp 30), (.tmp 31)], none, 0⟩,
 ⟨none, .store 2 (.tmp 6) (.tmp 32), none, 0⟩,
 ⟨some 7, .mv (.const (.int .i64 0)), none, 0⟩]) <|
 .keep [6, 7] <|
 .ret⟩
theorem e_zz75 : EntOK Tryz.prog (compD Tryz.prog) k_zz75 i_zz75.vf :=
 ⟨Tryz.f39, Tryz.f39.body.getD .skip, Tryz.func39, by kernel_rfl, by kernel_rfl, by kernel_rfl, by kernel_rfl, by kernel_rfl⟩
/-- loop.example/g01331/impl.ProductOf$1 -/
def i_zz37 : FF := ⟨31, [.tmp 10],
 .seq (.ops [
 ⟨some 10, .mv (.const (.bool false)), none, 0⟩]) <|
 .seq (.ops [
 ⟨some 11, .mv (.tmp 0), none, 0⟩,
 ⟨some 12, .mv (.tmp 2), none, 0⟩,
 ⟨some 13, .bin .eql (.tmp 11) (.tmp 12), none, 0⟩,
 ⟨some 14, .mv (.tmp 13), none, 0⟩,
 ⟨some 15, .load true 2 (.tmp 4), some (14, true), 0⟩,
 ⟨some 16, .mv (.tmp 1), some (14, true), 0⟩,
 ⟨some 17, .mv (.tmp 3), some (14, true), 0⟩,
 ⟨some 18, .call k_zz52 [(.tmp 15), (.tmp 16), (.tmp 17)], some (14, true), 0⟩,
 ⟨some 19, .pick (.tmp 14) (.tmp 18) (.const (.bool false)), none, 0⟩,
 ⟨some 20, .mv (.tmp 19), none, 0⟩,
 ⟨some 21, .mv (.tmp 1), some (20, false), 0⟩,
 ⟨some 22, .mv (.tmp 3), some (20, false), 0⟩,
 ⟨some 23, .bin .eql (.tmp 21) (.tmp 22), some (20, false), 0⟩,
 ⟨some 24, .mv (.tmp 23), some (20, false), 0⟩,
 ⟨some 25, .load true 2 (.tmp 5), some (24, true), 0⟩,
 ⟨some 26, .mv (.tmp 0), some (24, true), 0⟩,
 ⟨some 27, .mv (.tmp 2), some (24, true), 0⟩,
 ⟨some 28, .call k_zz52 [(.tmp 25), (.tmp 26), (.tmp 27)], some (24, true), 0⟩,
 ⟨some 29, .pick (.tmp 24) (.tmp 28) (.const (.bool false)), some (20, false), 0⟩,
 ⟨some 30, .pick (.tmp 20) (.const (.bool true)) (.tmp 29), none, 0⟩,
 ⟨some 10, .mv (.tmp 30), none, 0⟩]) <|
 .keep [10] <|
 .ret⟩
theorem e_zz37 : EntOK Tryz.prog (compD Tryz.prog) k_zz37 i_zz37.vf :=
 ⟨Tryz.f40, Tryz.f40.body.getD .skip, Tryz.func40, by kernel_rfl, by kernel_rfl, by kernel_rfl, by kernel_rfl, by kernel_rfl⟩
def i_zz52 : FF := ⟨16, [.tmp 6],
 .seq (.ops [
 ⟨some 3, .box 2 (.tmp 0), none, 0⟩,
 ⟨some 6, .mv (.const (.bool false)), none, 0⟩]) <|
 .seq (.ops [
 ⟨some 7, .fld 1 (.tmp 3), none, 0⟩,
 ⟨some 8, .load false 1 (.tmp 7), none, 0⟩,
 ⟨some 9, .mv (.tmp 1), none, 0⟩,
 ⟨some 10, .idx 1 (.tmp 8) (.tmp 9), none, 0⟩,
 ⟨some 11, .load false 1 (.tmp 10), none, 0⟩,
 ⟨some 12, .mv (.tmp 2), none, 0⟩,
 ⟨some 13, .bin .shr (.tmp 11) (.tmp 12), none, 0⟩,
 ⟨some 14, .bin .and (.tmp 13) (.const (.int .i64 1)), none, 0⟩,
 ⟨some 15, .bin .eql (.tmp 14) (.const (.int .i64 1)), none, 0⟩,
 ⟨some 6, .mv (.tmp 15), none, 0⟩]) <|
 .keep [6] <|
 .ret⟩
theorem e_zz52 : EntOK Tryz.prog (compD Tryz.prog) k_zz52 i_zz52.vf :=
 ⟨Tryz.f41, Tryz.f41.body.getD .skip, Tryz.func41, by kernel_rfl, by kernel_rfl, by kernel_rfl, by kernel_rfl, by kernel_rfl⟩
/-- loop.example/g01331/spec.l09Code -/
def i_zz83_B1 : FC :=
 .seq (.seq (.ops [
 ⟨some 4, .mv (.tmp 3), none, 0⟩,
 ⟨some 5, .mv (.tmp 0), none, 0⟩,
 ⟨some 6, .len (.tmp 5), none, 0⟩,
 ⟨some 7, .bin .lss (.tmp 4) (.tmp 6), none, 0⟩]) <|
 .cond (.tmp 7)
 (.skip)
 (.keep [] <|
 .exit 0)) <|
 .seq (.block 1 <|
 .seq (.ops [
 ⟨some 10, .mv (.tmp 0), none, 0⟩,
 ⟨some 11, .mv (.tmp 3), none, 0⟩,
 ⟨some 12, .idx 2 (.tmp 10) (.tmp 11), none, 0⟩,
 ⟨some 13, .load true 2 (.tmp 12), none, 0⟩,
 ⟨some 14, .call k_zz95 [(.tmp 13)], none, 0⟩,
 ⟨some 15, .un .not (.tmp 14), none, 0⟩]) <|
 .cond (.tmp 15)
 (.seq (.ops [
 ⟨some 2, .mv (.const (.int .i64 1)), none, 0⟩]) <|
 .keep [2] <|
 .ret)
 (.skip)) <|
 .ops [
 ⟨some 8, .mv (.tmp 3), none, 0⟩,
 ⟨some 9, .bin .add (.tmp 8) (.const (.int .i64 1)), none, 0⟩,
 ⟨some 3, .mv (.tmp 9), none, 0⟩]
def i_zz83 : FF := ⟨16, [.tmp 2],
 .seq (.ops [
 ⟨some 2, .mv (.const (.int .i64 0)), none, 0⟩]) <|
 .seq (.seq (.ops [
 ⟨some 3, .mv (.const (.int .i64 0)), none, 0⟩]) <|
 .block 0 <|
 .loop [0, 3] i_zz83_B1) <|
 .seq (.ops [
 ⟨some 2, .mv (.const (.int .i64 0)), none, 0⟩]) <|
 .keep [2] <|
 .ret⟩
theorem e_zz83 : EntOK Tryz.prog (compD Tryz.prog) k_zz83 i_zz83.vf :=
 ⟨Tryz.f42, Tryz.f42.body.getD .skip, Tryz.func42, by kernel_rfl, by kernel_rfl, by kernel_rfl, by kernel_rfl, by kernel_rfl⟩
/-- loop.example/g01331/spec.l09Told -/
def i_zz84 : FF := ⟨6, [.tmp 2],
 .seq (.ops [
 ⟨some 2, .mv (.const (.int .i64 0)), none, 0⟩]) <|
 .seq (.seq (.ops [
 ⟨some 3, .mv (.tmp 0), none, 0⟩,
 ⟨some 4, .call k_zz94 [(.tmp 3), (.const (.int .i64 1)), (.const (.int .i64 62))], none, 0⟩,
 ⟨some 5, .un .not (.tmp 4), none, 0⟩]) <|
 .cond (.tmp 5)
 (.seq (.ops [
 ⟨some 2, .mv (.const (.int .i64 3)), none, 0⟩]) <|
 .keep [2] <|
 .ret)
 (.skip)) <|
 .seq (.ops [
 ⟨some 2, .mv (.const (.int .i64 0)), none, 0⟩]) <|
 .keep [2] <|
 .ret⟩
theorem e_zz84 : EntOK Tryz.prog (compD Tryz.prog) k_zz84 i_zz84.vf :=
 ⟨Tryz.f43, Tryz.f43.body.getD .skip, Tryz.func43, by kernel_rfl, by kernel_rfl, by kernel_rfl, by kernel_rfl, by kernel_rfl⟩
/-- loop.example/g01331/spec.l09Product -/
def i_zz49_B1 : FC :=
 .seq (.seq (.ops [
 ⟨some 28, .mv (.tmp 9), none, 0⟩,
 ⟨some 29, .fld 0 (.tmp 3), none, 0⟩,
 ⟨some 30, .load false 1 (.tmp 29), none, 0⟩,
 ⟨some 31, .bin .lss (.tmp 28) (.tmp 30), none, 0⟩]) <|
 .cond (.tmp 31)
 (.skip)
 (.keep [2, 3, 4, 5, 6, 7, 8] <|
 .exit 2)) <|
 .seq (.block 3 <|
 .dops [
 ⟨some 34, .load true 2 (.tmp 5), none, 0⟩,
 ⟨some 35, .mv (.tmp 6), none, 0⟩,
 ⟨some 36, .mv (.tmp 8), none, 0⟩,
 ⟨some 37, .idx 1 (.tmp 35) (.tmp 36), none, 0⟩,
 ⟨some 38, .load false 1 (.tmp 37), none, 0⟩,
 ⟨some 39, .idx 1 (.tmp 38) (.const (.int .i64 0)), none, 0⟩,
 ⟨some 40, .load false 1 (.tmp 39), none, 0⟩,
 ⟨some 41, .fld 0 (.tmp 3), none, 0⟩,
 ⟨some 42, .load false 1 (.tmp 41), none, 0⟩,
 ⟨some 43, .bin .mul (.tmp 40) (.tmp 42), none, 0⟩,
 ⟨some 44, .mv (.tmp 9), none, 0⟩,
 ⟨some 45, .bin .add (.tmp 43) (.tmp 44), none, 0⟩,
 ⟨some 46, .mv (.tmp 6), none, 0⟩,
 ⟨some 47, .mv (.tmp 8), none, 0⟩,
 ⟨some 48, .idx 1 (.tmp 46) (.tmp 47), none, 0⟩,
 ⟨some 49, .load false 1 (.tmp 48), none, 0⟩,
 ⟨some 50, .idx 1 (.tmp 49) (.const (.int .i64 1)), none, 0⟩,
 ⟨some 51, .load false 1 (.tmp 50), none, 0⟩,
 ⟨some 52, .fld 0 (.tmp 3), none, 0⟩,
 ⟨some 53, .load false 1 (.tmp 52), none, 0⟩,
 ⟨some 54, .bin .mul (.tmp 51) (.tmp 53), none, 0⟩,
 ⟨some 55, .mv (.tmp 9), none, 0⟩,
 ⟨some 56, .bin .add (.tmp 54) (.tmp 55), none, 0⟩,
 ⟨some 57, .call k_zz90 [(.tmp 34), (.tmp 45), (.tmp 56)], none, 0⟩]) <|
 .ops [
 ⟨some 32, .mv (.tmp 9), none, 0⟩,
 ⟨some 33, .bin .add (.tmp 32) (.const (.int .i64 1)), none, 0⟩,
 ⟨some 9, .mv (.tmp 33), none, 0⟩]
def i_zz49_B2 : FC :=
 .seq (.seq (.ops [
 ⟨some 22, .mv (.tmp 8), none, 0⟩,
 ⟨some 23, .mv (.tmp 6), none, 0⟩,
 ⟨some 24, .len (.tmp 23), none, 0⟩,
 ⟨some 25, .bin .lss (.tmp 22) (.tmp 24), none, 0⟩]) <|
 .cond (.tmp 25)
 (.skip)
 (.keep [2, 3, 4, 5, 7] <|
 .exit 0)) <|
 .seq (.block 1 <|
 .seq (.ops [
 ⟨some 9, .mv (.const (.int .i64 0)), none, 0⟩]) <|
 .block 2 <|
 .loop [2, 3, 4, 5, 6, 7, 8, 9] i_zz49_B1) <|
 .ops [
 ⟨some 26, .mv (.tmp 8), none, 0⟩,
 ⟨some 27, .bin .add (.tmp 26) (.const (.int .i64 1)), none, 0⟩,
 ⟨some 8, .mv (.tmp 27), none, 0⟩]
def i_zz49_B3 : FC :=
 .seq (.seq (.ops [
 ⟨some 64, .mv (.tmp 11), none, 0⟩,
 ⟨some 65, .fld 0 (.tmp 2), none, 0⟩,
 ⟨some 66, .load false 1 (.tmp 65), none, 0⟩,
 ⟨some 67, .bin .lss (.tmp 64) (.tmp 66), none, 0⟩]) <|
 .cond (.tmp 67)
 (.skip)
 (.keep [2, 3, 4, 5, 7, 10] <|
 .exit 6)) <|
 .seq (.block 7 <|
 .dops [
 ⟨some 70, .load true 2 (.tmp 5), none, 0⟩,
 ⟨some 71, .mv (.tmp 11), none, 0⟩,
 ⟨some 72, .fld 0 (.tmp 3), none, 0⟩,
 ⟨some 73, .load false 1 (.tmp 72), none, 0⟩,
 ⟨some 74, .bin .mul (.tmp 71) (.tmp 73), none, 0⟩,
 ⟨some 75, .mv (.tmp 7), none, 0⟩,
 ⟨some 76, .mv (.tmp 10), none, 0⟩,
 ⟨some 77, .idx 1 (.tmp 75) (.tmp 76), none, 0⟩,
 ⟨some 78, .load false 1 (.tmp 77), none, 0⟩,
 ⟨some 79, .idx 1 (.tmp 78) (.const (.int .i64 0)), none, 0⟩,
 ⟨some 80, .load false 1 (.tmp 79), none, 0⟩,
 ⟨some 81, .bin .add (.tmp 74) (.tmp 80), none, 0⟩,
 ⟨some 82, .mv (.tmp 11), none, 0⟩,
 ⟨some 83, .fld 0 (.tmp 3), none, 0⟩,
 ⟨some 84, .load false 1 (.tmp 83), none, 0⟩,
 ⟨some 85, .bin .mul (.tmp 82) (.tmp 84), none, 0⟩,
 ⟨some 86, .mv (.tmp 7), none, 0⟩,
 ⟨some 87, .mv (.tmp 10), none, 0⟩,
 ⟨some 88, .idx 1 (.tmp 86) (.tmp 87), none, 0⟩,
 ⟨some 89, .load false 1 (.tmp 88), none, 0⟩,
 ⟨some 90, .idx 1 (.tmp 89) (.const (.int .i64 1)), none, 0⟩,
 ⟨some 91, .load false 1 (.tmp 90), none, 0⟩,
 ⟨some 92, .bin .add (.tmp 85) (.tmp 91), none, 0⟩,
 ⟨some 93, .call k_zz90 [(.tmp 70), (.tmp 81), (.tmp 92)], none, 0⟩]) <|
 .ops [
 ⟨some 68, .mv (.tmp 11), none, 0⟩,
 ⟨some 69, .bin .add (.tmp 68) (.const (.int .i64 1)), none, 0⟩,
 ⟨some 11, .mv (.tmp 69), none, 0⟩]
def i_zz49_B4 : FC :=
 .seq (.seq (.ops [
 ⟨some 58, .mv (.tmp 10), none, 0⟩,
 ⟨some 59, .mv (.tmp 7), none, 0⟩,
 ⟨some 60, .len (.tmp 59), none, 0⟩,
 ⟨some 61, .bin .lss (.tmp 58) (.tmp 60), none, 0⟩]) <|
 .cond (.tmp 61)
 (.skip)
 (.keep [4, 5] <|
 .exit 4)) <|
 .seq (.block 5 <|
 .seq (.ops [
 ⟨some 11, .mv (.const (.int .i64 0)), none, 0⟩]) <|
 .block 6 <|
 .loop [2, 3, 4, 5, 7, 10, 11] i_zz49_B3) <|
 .ops [
 ⟨some 62, .mv (.tmp 10), none, 0⟩,
 ⟨some 63, .bin .add (.tmp 62) (.const (.int .i64 1)), none, 0⟩,
 ⟨some 10, .mv (.tmp 63), none, 0⟩]
def i_zz49 : FF := ⟨95, [.cell 4 true 2],
 .seq (.ops [
 ⟨some 2, .box 2 (.tmp 0), none, 0⟩,
 ⟨some 3, .box 2 (.tmp 1), none, 0⟩,
 ⟨some 4, .alloc [.int .i64 0, .slice none 0 0], none, 0⟩]) <|
 .seq (.dops [
 ⟨some 12, .fld 0 (.tmp 2), none, 0⟩,
 ⟨some 13, .load false 1 (.tmp 12), none, 0⟩,
 ⟨some 14, .fld 0 (.tmp 3), none, 0⟩,
 ⟨some 15, .load false 1 (.tmp 14), none, 0⟩,
 ⟨some 16, .bin .mul (.tmp 13) (.tmp 15), none, 0⟩,
 ⟨some 17, .call k_zz67 [(.tmp 16)], none, 0⟩,
 ⟨some 18, .load true 2 (.tmp 2), none, 1⟩,
 ⟨some 19, .call k_zz66 [(.tmp 18)], none, 0⟩,
 ⟨some 20, .load true 2 (.tmp 3), none, 2⟩,
 ⟨some 21, .call k_zz66 [(.tmp 20)], none, 0⟩,
 ⟨some 5, .alloc [.int .i64 0, .slice none 0 0], none, 3⟩,
 ⟨none, .store 2 (.tmp 5) (.tmp 17), none, 1⟩,
 ⟨some 6, .mv (.tmp 19), none, 1⟩,
 ⟨some 7, .mv (.tmp 21), none, 1⟩]) <|
 .seq (.seq (.ops [
 ⟨some 8, .mv (.const (.int .i64 0)), none, 0⟩]) <|
 .block 0 <|
 .loop [2, 3, 4, 5, 6, 7, 8] i_zz49_B2) <|
 .seq (.seq (.ops [
 ⟨some 10, .mv (.const (.int .i64 0)), none, 0⟩]) <|
 .block 4 <|
 .loop [2, 3, 4, 5, 7, 10] i_zz49_B4) <|
 .seq (.ops [
 ⟨some 94, .load true 2 (.tmp 5), none, 0⟩,
 ⟨none, .store 2 (.tmp 4) (.tmp 94), none, 0⟩]) <|
 .keep [4] <|
 .ret⟩
theorem e_zz49 : EntOK Tryz.prog (compD Tryz.prog) k_zz49 i_zz49.vf :=
 ⟨Tryz.f44, Tryz.f44.body.getD .skip, Tryz.func44, by kernel_rfl, by kernel_rfl, by kernel_rfl, by kernel_rfl, by kernel_rfl⟩
/-- loop.example/g01331/impl.DirectProduct$1 -/
def i_zz21 : FF := ⟨21, [.tmp 10],
 .seq (.ops [
 ⟨some 10, .mv (.const (.bool false)), none, 0⟩]) <|
 .seq (.ops [
 ⟨some 11, .load true 2 (.tmp 4), none, 0⟩,
 ⟨some 12, .mv (.tmp 0), none, 0⟩,
 ⟨some 13, .mv (.tmp 2), none, 0⟩,
 ⟨some 14, .call k_zz52 [(.tmp 11), (.tmp 12), (.tmp 13)], none, 0⟩,
 ⟨some 15, .mv (.tmp 14), none, 0⟩,
 ⟨some 16, .load true 2 (.tmp 5), some (15, true), 0⟩,
 ⟨some 17, .mv (.tmp 1), some (15, true), 0⟩,
 ⟨some 18, .mv (.tmp 3), some (15, true), 0⟩,
 ⟨some 19, .call k_zz52 [(.tmp 16), (.tmp 17), (.tmp 18)], some (15, true), 0⟩,
 ⟨some 20, .pick (.tmp 15) (.tmp 19) (.const (.bool false)), none, 0⟩,
 ⟨some 10, .mv (.tmp 20), none, 0⟩]) <|
 .keep [10] <|
 .ret⟩
theorem e_zz21 : EntOK Tryz.prog (compD Tryz.prog) k_zz21 i_zz21.vf :=
 ⟨Tryz.f45, Tryz.f45.body.getD .skip, Tryz.func45, by kernel_rfl, by kernel_rfl, by kernel_rfl, by kernel_rfl, by kernel_rfl⟩
/-- loop.example/g01331/spec.l09Direct -/
def i_zz61_B1 : FC :=
 .seq (.seq (.ops [
 ⟨some 26, .mv (.tmp 9), none, 0⟩,
 ⟨some 27, .mv (.tmp 7), none, 0⟩,
 ⟨some 28, .len (.tmp 27), none, 0⟩,
 ⟨some 29, .bin .lss (.tmp 26) (.tmp 28), none, 0⟩]) <|
 .cond (.tmp 29)
 (.skip)
 (.keep [3, 4, 5, 6, 7, 8] <|
 .exit 2)) <|
 .seq (.block 3 <|
 .seq (.dops [
 ⟨some 32, .load true 2 (.tmp 5), none, 0⟩,
 ⟨some 33, .mv (.tmp 6), none, 0⟩,
 ⟨some 34, .mv (.tmp 8), none, 0⟩,
 ⟨some 35, .idx 1 (.tmp 33) (.tmp 34), none, 0⟩,
 ⟨some 36, .load false 1 (.tmp 35), none, 0⟩,
 ⟨some 37, .idx 1 (.tmp 36) (.const (.int .i64 0)), none, 0⟩,
 ⟨some 38, .load false 1 (.tmp 37), none, 0⟩,
 ⟨some 39, .fld 0 (.tmp 3), none, 0⟩,
 ⟨some 40, .load false 1 (.tmp 39), none, 0⟩,
 ⟨some 41, .bin .mul (.tmp 38) (.tmp 40), none, 0⟩,
 ⟨some 42, .mv (.tmp 7), none, 0⟩,
 ⟨some 43, .mv (.tmp 9), none, 0⟩,
 ⟨some 44, .idx 1 (.tmp 42) (.tmp 43), none, 0⟩,
 ⟨some 45, .load false 1 (.tmp 44), none, 0⟩,
 ⟨some 46, .idx 1 (.tmp 45) (.const (.int .i64 0)), none, 0⟩,
 ⟨some 47, .load false 1 (.tmp 46), none, 0⟩,
 ⟨some 48, .bin .add (.tmp 41) (.tmp 47), none, 0⟩,
 ⟨some 49, .mv (.tmp 6), none, 0⟩,
 ⟨some 50, .mv (.tmp 8), none, 0⟩,
 ⟨some 51, .idx 1 (.tmp 49) (.tmp 50), none, 0⟩,
 ⟨some 52, .load false 1 (.tmp 51), none, 0⟩,
 ⟨some 53, .idx 1 (.tmp 52) (.const (.int .i64 1)), none, 0⟩,
 ⟨some 54, .load false 1 (.tmp 53), none, 0⟩,
 ⟨some 55, .fld 0 (.tmp 3), none, 0⟩,
 ⟨some 56, .load false 1 (.tmp 55), none, 0⟩,
 ⟨some 57, .bin .mul (.tmp 54) (.tmp 56), none, 0⟩,
 ⟨some 58, .mv (.tmp 7), none, 0⟩,
 ⟨some 59, .mv (.tmp 9), none, 0⟩,
 ⟨some 60, .idx 1 (.tmp 58) (.tmp 59), none, 0⟩,
 ⟨some 61, .load false 1 (.tmp 60), none, 0⟩,
 ⟨some 62, .idx 1 (.tmp 61) (.const (.int .i64 1)), none, 0⟩,
 ⟨some 63, .load false 1 (.tmp 62), none, 0⟩,
 ⟨some 64, .bin .add (.tmp 57) (.tmp 63), none, 0⟩,
 ⟨some 65, .call k_zz90 [(.tmp 32), (.tmp 48), (.tmp 64)], none, 0⟩]) <|
 .dops [
 ⟨some 66, .load true 2 (.tmp 5), none, 0⟩,
 ⟨some 67, .mv (.tmp 6), none, 0⟩,
 ⟨some 68, .mv (.tmp 8), none, 0⟩,
 ⟨some 69, .idx 1 (.tmp 67) (.tmp 68), none, 0⟩,
 ⟨some 70, .load false 1 (.tmp 69), none, 0⟩,
 ⟨some 71, .idx 1 (.tmp 70) (.const (.int .i64 0)), none, 0⟩,
 ⟨some 72, .load false 1 (.tmp 71), none, 0⟩,
 ⟨some 73, .fld 0 (.tmp 3), none, 0⟩,
 ⟨some 74, .load false 1 (.tmp 73), none, 0⟩,
 ⟨some 75, .bin .mul (.tmp 72) (.tmp 74), none, 0⟩,
 ⟨some 76, .mv (.tmp 7), none, 0⟩,
 ⟨some 77, .mv (.tmp 9), none, 0⟩,
 ⟨some 78, .idx 1 (.tmp 76) (.tmp 77), none, 0⟩,
 ⟨some 79, .load false 1 (.tmp 78), none, 0⟩,
 ⟨some 80, .idx 1 (.tmp 79) (.const (.int .i64 1)), none, 0⟩,
 ⟨some 81, .load false 1 (.tmp 80), none, 0⟩,
 ⟨some 82, .bin .add (.tmp 75) (.tmp 81), none, 0⟩,
 ⟨some 83, .mv (.tmp 6), none, 0⟩,
 ⟨some 84, .mv (.tmp 8), none, 0⟩,
 ⟨some 85, .idx 1 (.tmp 83) (.tmp 84), none, 0⟩,
 ⟨some 86, .load false 1 (.tmp 85), none, 0⟩,
 ⟨some 87, .idx 1 (.tmp 86) (.const (.int .i64 1)), none, 0⟩,
 ⟨some 88, .load false 1 (.tmp 87), none, 0⟩,
 ⟨some 89, .fld 0 (.tmp 3), none, 0⟩,
 ⟨some 90, .load false 1 (.tmp 89), none, 0⟩,
 ⟨some 91, .bin .mul (.tmp 88) (.tmp 90), none, 0⟩,
 ⟨some 92, .mv (.tmp 7), none, 0⟩,
 ⟨some 93, .mv (.tmp 9), none, 0⟩,
 ⟨some 94, .idx 1 (.tmp 92) (.tmp 93), none, 0⟩,
 ⟨some 95, .load false 1 (.tmp 94), none, 0⟩,
 ⟨some 96, .idx 1 (.tmp 95) (.const (.int .i64 0)), none, 0⟩,
 ⟨some 97, .load false 1 (.tmp 96), none, 0⟩,
 ⟨some 98, .bin .add (.tmp 91) (.tmp 97), none, 0⟩,
 ⟨some 99, .call k_zz90 [(.tmp 66), (.tmp 82), (.tmp 98)], none, 0⟩]) <|
 .ops [
 ⟨some 30, .mv (.tmp 9), none, 0⟩,
 ⟨some 31, .bin .add (.tmp 30) (.const (.int .i64 1)), none, 0⟩,
 ⟨some 9, .mv (.tmp 31), none, 0⟩]
def i_zz61_B2 : FC :=
 .seq (.seq (.ops [
 ⟨some 20, .mv (.tmp 8), none, 0⟩,
 ⟨some 21, .mv (.tmp 6), none, 0⟩,
 ⟨some 22, .len (.tmp 21), none, 0⟩,
 ⟨some 23, .bin .lss (.tmp 20) (.tmp 22), none, 0⟩]) <|
 .cond (.tmp 23)
 (.skip)
 (.keep [4, 5] <|
 .exit 0)) <|
 .seq (.block 1 <|
 .seq (.ops [
 ⟨some 9, .mv (.const (.int .i64 0)), none, 0⟩]) <|
 .block 2 <|
 .loop [3, 4, 5, 6, 7, 8, 9] i_zz61_B1) <|
 .ops [
 ⟨some 24, .mv (.tmp 8), none, 0⟩,
 ⟨some 25, .bin .add (.tmp 24) (.const (.int .i64 1)), none, 0⟩,
 ⟨some 8, .mv (.tmp 25), none, 0⟩]
def i_zz61 : FF := ⟨101, [.cell 4 true 2],
 .seq (.ops [
 ⟨some 2, .box 2 (.tmp 0), none, 0⟩,
 ⟨some 3, .box 2 (.tmp 1), none, 0⟩,
 ⟨some 4, .alloc [.int .i64 0, .slice none 0 0], none, 0⟩]) <|
 .seq (.dops [
 ⟨some 10, .fld 0 (.tmp 2), none, 0⟩,
 ⟨some 11, .load false 1 (.tmp 10), none, 0⟩,
 ⟨some 12, .fld 0 (.tmp 3), none, 0⟩,
 ⟨some 13, .load false 1 (.tmp 12), none, 0⟩,
 ⟨some 14, .bin .mul (.tmp 11) (.tmp 13), none, 0⟩,
 ⟨some 15, .call k_zz67 [(.tmp 14)], none, 0⟩,
 ⟨some 16, .load true 2 (.tmp 2), none, 1⟩,
 ⟨some 17, .call k_zz66 [(.tmp 16)], none, 0⟩,
 ⟨some 18, .load true 2 (.tmp 3), none, 2⟩,
 ⟨some 19, .call k_zz66 [(.tmp 18)], none, 0⟩,
 ⟨some 5, .alloc [.int .i64 0, .slice none 0 0], none, 3⟩,
 ⟨none, .store 2 (.tmp 5) (.tmp 15), none, 1⟩,
 ⟨some 6, .mv (.tmp 17), none, 1⟩,
 ⟨some 7, .mv (.tmp 19), none, 1⟩]) <|
 .seq (.seq (.ops [
 ⟨some 8, .mv (.const (.int .i64 0)), none, 0⟩]) <|
 .block 0 <|
 .loop [3, 4, 5, 6, 7, 8] i_zz61_B2) <|
 .seq (.ops [
 ⟨some 100, .load true 2 (.tmp 5), none, 0⟩,
 ⟨none, .store 2 (.tmp 4) (.tmp 100), none, 0⟩]) <|
 .keep [4] <|
 .ret⟩
theorem e_zz61 : EntOK Tryz.prog (compD Tryz.prog) k_zz61 i_zz61.vf :=
 ⟨Tryz.f46, Tryz.f46.body.getD .skip, Tryz.func46, by kernel_rfl, by kernel_rfl, by kernel_rfl, by kernel_rfl, by kernel_rfl⟩
/-- loop.example/g01331/laws.likeInts -/
def i_zz63_B1 : FC :=
 .seq (.seq (.ops [
 ⟨some 11, .mv (.tmp 5), none, 0⟩,
 ⟨some 12, .mv (.tmp 0), none, 0⟩,
 ⟨some 13, .len (.tmp 12), none, 0⟩,
 ⟨some 14, .bin .lss (.tmp 11) (.tmp 13), none, 0⟩]) <|
 .cond (.tmp 14)
 (.skip)
 (.keep [] <|
 .exit 0)) <|
 .seq (.block 1 <|
 .seq (.dops [
 ⟨some 17, .mv (.tmp 0), none, 0⟩,
 ⟨some 18, .mv (.tmp 5), none, 0⟩,
 ⟨some 19, .idx 1 (.tmp 17) (.tmp 18), none, 0⟩,
 ⟨some 20, .load false 1 (.tmp 19), none, 0⟩,
 ⟨some 21, .mv (.tmp 1), none, 0⟩,
 ⟨some 22, .mv (.tmp 5), none, 0⟩,
 ⟨some 23, .idx 1 (.tmp 21) (.tmp 22), none, 0⟩,
 ⟨some 24, .load false 1 (.tmp 23), none, 0⟩,
 ⟨some 25, .bin .neq (.tmp 20) (.tmp 24), none, 0⟩]) <|
 .cond (.tmp 25)
 (.seq (.ops [
 ⟨some 4, .mv (.const (.bool false)), none, 0⟩]) <|
 .keep [4] <|
 .ret)
 (.skip)) <|
 .ops [
 ⟨some 15, .mv (.tmp 5), none, 0⟩,
 ⟨some 16, .bin .add (.tmp 15) (.const (.int .i64 1)), none, 0⟩,
 ⟨some 5, .mv (.tmp 16), none, 0⟩]
def i_zz63 : FF := ⟨26, [.tmp 4],
 .seq (.ops [
 ⟨some 4, .mv (.const (.bool false)), none, 0⟩]) <|
 .seq (.seq (.ops [
 ⟨some 6, .mv (.tmp 0), none, 0⟩,
 ⟨some 7, .len (.tmp 6), none, 0⟩,
 ⟨some 8, .mv (.tmp 1), none, 0⟩,
 ⟨some 9, .len (.tmp 8), none, 0⟩,
 ⟨some 10, .bin .neq (.tmp 7) (.tmp 9), none, 0⟩]) <|
 .cond (.tmp 10)
 (.seq (.ops [
 ⟨some 4, .mv (.const (.bool false)), none, 0⟩]) <|
 .keep [4] <|
 .ret)
 (.skip)) <|
 .seq (.seq (.ops [
 ⟨some 5, .mv (.const (.int .i64 0)), none, 0⟩]) <|
 .block 0 <|
 .loop [0, 1, 5] i_zz63_B1) <|
 .seq (.ops [
 ⟨some 4, .mv (.const (.bool true)), none, 0⟩]) <|
 .keep [4] <|
 .ret⟩
theorem e_zz63 : EntOK Tryz.prog (compD Tryz.prog) k_zz63 i_zz63.vf :=
 ⟨Tryz.f47, Tryz.f47.body.getD .skip, Tryz.func47, by kernel_rfl, by kernel_rfl, by kernel_rfl, by kernel_rfl, by kernel_rfl⟩
/-- loop.example/g01331/impl.IsGraph -/
def i_zz73_B1 : FC :=
 .seq (.ops [
 ⟨some 47, .bin .lss (.tmp 46) (.tmp 45), none, 0⟩]) <|
 .seq (.cond (.tmp 47)
 (.skip)
 (.keep [1, 3, 23, 24, 25] <|
 .exit 2)) <|
 .seq (.block 3 <|
 .seq (.ops [
 ⟨some 48, .mv (.tmp 46), none, 0⟩,
 ⟨some 6, .mv (.tmp 48), none, 0⟩]) <|
 .seq (.dops [
 ⟨some 49, .mv (.tmp 5), none, 0⟩,
 ⟨some 50, .mv (.tmp 6), none, 0⟩,
 ⟨some 51, .bin .shr (.tmp 49) (.tmp 50), none, 0⟩,
 ⟨some 52, .bin .and (.tmp 51) (.const (.int .i64 1)), none, 0⟩,
 ⟨some 53, .fld 1 (.tmp 1), none, 0⟩,
 ⟨some 54, .load false 1 (.tmp 53), none, 0⟩,
 ⟨some 55, .mv (.tmp 6), none, 0⟩,
 ⟨some 56, .idx 1 (.tmp 54) (.tmp 55), none, 0⟩,
 ⟨some 57, .load false 1 (.tmp 56), none, 0⟩,
 ⟨some 58, .mv (.tmp 4), none, 0⟩,
 ⟨some 59, .bin .shr (.tmp 57) (.tmp 58), none, 0⟩,
 ⟨some 60, .bin .and (.tmp 59) (.const (.int .i64 1)), none, 0⟩,
 ⟨some 61, .bin .neq (.tmp 52) (.tmp 60), none, 0⟩]) <|
 .cond (.tmp 61)
 (.seq (.ops [
 ⟨some 2, .mv (.const (.bool false)), none, 0⟩]) <|
 .keep [2] <|
 .ret)
 (.skip)) <|
 .ops [
 ⟨some 62, .bin .add (.tmp 46) (.const (.int .i64 1)), none, 0⟩,
 ⟨some 46, .mv (.tmp 62), none, 0⟩]
def i_zz73_B2 : FC :=
 .seq (.ops [
 ⟨some 26, .bin .lss (.tmp 25) (.tmp 24), none, 0⟩]) <|
 .seq (.cond (.tmp 26)
 (.skip)
 (.keep [] <|
 .exit 0)) <|
 .seq (.block 1 <|
 .seq (.ops [
 ⟨some 27, .mv (.tmp 25), none, 0⟩,
 ⟨some 28, .idx 1 (.tmp 23) (.tmp 25), none, 0⟩,
 ⟨some 29, .load false 1 (.tmp 28), none, 0⟩,
 ⟨some 4, .mv (.tmp 27), none, 0⟩,
 ⟨some 5, .mv (.tmp 29), none, 0⟩]) <|
 .seq (.seq (.ops [
 ⟨some 30, .mv (.tmp 5), none, 0⟩,
 ⟨some 31, .bin .lss (.tmp 30) (.const (.int .i64 0)), none, 0⟩,
 ⟨some 32, .mv (.tmp 31), none, 0⟩,
 ⟨some 33, .mv (.tmp 5), some (32, false), 0⟩,
 ⟨some 34, .mv (.tmp 3), some (32, false), 0⟩,
 ⟨some 35, .bin .shl (.const (.int .i64 1)) (.tmp 34), some (32, false), 0⟩,
 ⟨some 36, .bin .geq (.tmp 33) (.tmp 35), some (32, false), 0⟩,
 ⟨some 37, .pick (.tmp 32) (.const (.bool true)) (.tmp 36), none, 0⟩,
 ⟨some 38, .mv (.tmp 37), none, 0⟩,
 ⟨some 39, .mv (.tmp 5), some (38, false), 0⟩,
 ⟨some 40, .mv (.tmp 4), some (38, false), 0⟩,
 ⟨some 41, .bin .shr (.tmp 39) (.tmp 40), some (38, false), 0⟩,
 ⟨some 42, .bin .and (.tmp 41) (.const (.int .i64 1)), some (38, false), 0⟩,
 ⟨some 43, .bin .eql (.tmp 42) (.const (.int .i64 1)), some (38, false), 0⟩,
 ⟨some 44, .pick (.tmp 38) (.const (.bool true)) (.tmp 43), none, 0⟩]) <|
 .cond (.tmp 44)
 (.seq (.ops [
 ⟨some 2, .mv (.const (.bool false)), none, 0⟩]) <|
 .keep [2] <|
 .ret)
 (.skip)) <|
 .seq (.ops [
 ⟨some 45, .mv (.tmp 3), none, 0⟩,
 ⟨some 46, .mv (.const (.int .i64 0)), none, 0⟩]) <|
 .block 2 <|
 .loop [1, 3, 4, 5, 23, 24, 25, 45, 46] i_zz73_B1) <|
 .ops [
 ⟨some 63, .bin .add (.tmp 25) (.const (.int .i64 1)), none, 0⟩,
 ⟨some 25, .mv (.tmp 63), none, 0⟩]
def i_zz73 : FF := ⟨64, [.tmp 2],
 .seq (.ops [
 ⟨some 1, .box 2 (.tmp 0), none, 0⟩,
 ⟨some 2, .mv (.const (.bool false)), none, 0⟩]) <|
 .seq (.ops [
 ⟨some 7, .fld 0 (.tmp 1), none, 0⟩,
 ⟨some 8, .load false 1 (.tmp 7), none, 0⟩,
 ⟨some 3, .mv (.tmp 8), none, 0⟩]) <|
 .seq (.seq (.ops [
 ⟨some 9, .mv (.tmp 3), none, 0⟩,
 ⟨some 10, .bin .lss (.tmp 9) (.const (.int .i64 1)), none, 0⟩,
 ⟨some 11, .mv (.tmp 10), none, 0⟩,
 ⟨some 12, .mv (.tmp 3), some (11, false), 0⟩,
 ⟨some 13, .bin .gtr (.tmp 12) (.const (.int .i64 62)), some (11, false), 0⟩,
 ⟨some 14, .pick (.tmp 11) (.const (.bool true)) (.tmp 13), none, 0⟩,
 ⟨some 15, .mv (.tmp 14), none, 0⟩,
 ⟨some 16, .fld 1 (.tmp 1), some (15, false), 0⟩,
 ⟨some 17, .load false 1 (.tmp 16), some (15, false), 0⟩,
 ⟨some 18, .len (.tmp 17), some (15, false), 0⟩,
 ⟨some 19, .mv (.tmp 3), some (15, false), 0⟩,
 ⟨some 20, .bin .neq (.tmp 18) (.tmp 19), some (15, false), 0⟩,
 ⟨some 21, .pick (.tmp 15) (.const (.bool true)) (.tmp 20), none, 0⟩]) <|
 .cond (.tmp 21)
 (.seq (.ops [
 ⟨some 2, .mv (.const (.bool false)), none, 0⟩]) <|
 .keep [2] <|
 .ret)
 (.skip)) <|
 .seq (.seq (.ops [
 ⟨some 22, .fld 1 (.tmp 1), none, 0⟩,
 ⟨some 23, .load false 1 (.tmp 22), none, 0⟩,
 ⟨some 24, .len (.tmp 23), none, 0⟩,
 ⟨some 25, .mv (.const (.int .i64 0)), none, 0⟩]) <|
 .block 0 <|
 .loop [1, 3, 23, 24, 25] i_zz73_B2) <|
 .seq (.ops [
 ⟨some 2, .mv (.const (.bool true)), none, 0⟩]) <|
 .keep [2] <|
 .ret⟩
theorem e_zz73 : EntOK Tryz.prog (compD Tryz.prog) k_zz73 i_zz73.vf :=
 ⟨Tryz.f48, Tryz.f48.body.getD .skip, Tryz.func48, by kernel_rfl, by kernel_rfl, by kernel_rfl, by kernel_rfl, by kernel_rfl⟩
/-- slices.Clone[[]int64,int64] -/
def i_zz16 : FF := ⟨8, [.tmp 2],
 .seq (.ops [
 ⟨some 2, .mv (.const (.slice none 0 0)), none, 0⟩]) <|
 .seq (.seq (.ops [
 ⟨some 3, .mv (.tmp 0), none, 0⟩,
 ⟨some 4, .eqnilS false (.tmp 3), none, 0⟩]) <|
 .cond (.tmp 4)
 (.seq (.ops [
 ⟨some 2, .mv (.const (.slice none 0 0)), none, 0⟩]) <|
 .keep [2] <|
 .ret)
 (.skip)) <|
 .seq (.ops [
 ⟨some 5, .buildSl 1 [] [] 0, none, 0⟩,
 ⟨some 6, .mv (.tmp 0), none, 0⟩,
 ⟨some 7, .app 1 8 [.int .i64 0] (.tmp 5) (.tmp 6), none, 0⟩,
 ⟨some 2, .mv (.tmp 7), none, 0⟩]) <|
 .keep [2] <|
 .ret⟩
theorem e_zz16 : EntOK Tryz.prog (compD Tryz.prog) k_zz16 i_zz16.vf :=
 ⟨Tryz.f49, Tryz.f49.body.getD .skip, Tryz.func49, by kernel_rfl, by kernel_rfl, by kernel_rfl, by kernel_rfl, by kernel_rfl⟩
/-- slices.Sort[[]int64,int64] -/
def i_zz18 : FF := ⟨11, [],
 .seq (.ops [
 ⟨some 3, .mv (.tmp 0), none, 0⟩,
 ⟨some 4, .len (.tmp 3), none, 0⟩,
 ⟨some 2, .mv (.tmp 4), none, 0⟩]) <|
 .ops [
 ⟨some 5, .mv (.tmp 0), none, 0⟩,
 ⟨some 6, .mv (.tmp 2), none, 0⟩,
 ⟨some 7, .mv (.tmp 2), none, 0⟩,
 ⟨some 8, .conv .u64 (.tmp 7), none, 0⟩,
 ⟨some 9, .call k_zz64 [(.tmp 8)], none, 0⟩,
 ⟨some 10, .call k_zz12 [(.tmp 5), (.const (.int .i64 0)), (.tmp 6), (.tmp 9)], none, 0⟩]⟩
theorem e_zz18 : EntOK Tryz.prog (compD Tryz.prog) k_zz18 i_zz18.vf :=
 ⟨Tryz.f50, Tryz.f50.body.getD .skip, Tryz.func50, by kernel_rfl, by kernel_rfl, by kernel_rfl, by kernel_rfl, by kernel_rfl⟩
/-- slices.Equal[[]int64,int64] -/
def i_zz17_B1 : FC :=
 .seq (.ops [
 ⟨some 14, .bin .lss (.tmp 13) (.tmp 12), none, 0⟩]) <|
 .seq (.cond (.tmp 14)
 (.skip)
 (.keep [] <|
 .exit 0)) <|
 .seq (.block 1 <|
 .seq (.ops [
 ⟨some 15, .mv (.tmp 13), none, 0⟩,
 ⟨some 5, .mv (.tmp 15), none, 0⟩]) <|
 .seq (.dops [
 ⟨some 16, .mv (.tmp 0), none, 0⟩,
 ⟨some 17, .mv (.tmp 5), none, 0⟩,
 ⟨some 18, .idx 1 (.tmp 16) (.tmp 17), none, 0⟩,
 ⟨some 19, .load false 1 (.tmp 18), none, 0⟩,
 ⟨some 20, .mv (.tmp 1), none, 0⟩,
 ⟨some 21, .mv (.tmp 5), none, 0⟩,
 ⟨some 22, .idx 1 (.tmp 20) (.tmp 21), none, 0⟩,
 ⟨some 23, .load false 1 (.tmp 22), none, 0⟩,
 ⟨some 24, .bin .neq (.tmp 19) (.tmp 23), none, 0⟩]) <|
 .cond (.tmp 24)
 (.seq (.ops [
 ⟨some 4, .mv (.const (.bool false)), none, 0⟩]) <|
 .keep [4] <|
 .ret)
 (.skip)) <|
 .ops [
 ⟨some 25, .bin .add (.tmp 13) (.const (.int .i64 1)), none, 0⟩,
 ⟨some 13, .mv (.tmp 25), none, 0⟩]
def i_zz17 : FF := ⟨26, [.tmp 4],
 .seq (.ops [
 ⟨some 4, .mv (.const (.bool false)), none, 0⟩]) <|
 .seq (.seq (.ops [
 ⟨some 6, .mv (.tmp 0), none, 0⟩,
 ⟨some 7, .len (.tmp 6), none, 0⟩,
 ⟨some 8, .mv (.tmp 1), none, 0⟩,
 ⟨some 9, .len (.tmp 8), none, 0⟩,
 ⟨some 10, .bin .neq (.tmp 7) (.tmp 9), none, 0⟩]) <|
 .cond (.tmp 10)
 (.seq (.ops [
 ⟨some 4, .mv (.const (.bool false)), none, 0⟩]) <|
 .keep [4] <|
 .ret)
 (.skip)) <|
 .seq (.seq (.ops [
 ⟨some 11, .mv (.tmp 0), none, 0⟩,
 ⟨some 12, .len (.tmp 11), none, 0⟩,
 ⟨some 13, .mv (.const (.int .i64 0)), none, 0⟩]) <|
 .block 0 <|
 .loop [0, 1, 12, 13] i_zz17_B1) <|
 .seq (.ops [
 ⟨some 4, .mv (.const (.bool true)), none, 0⟩]) <|
 .keep [4] <|
 .ret⟩
theorem e_zz17 : EntOK Tryz.prog (compD Tryz.prog) k_zz17 i_zz17.vf :=
 ⟨Tryz.f51, Tryz.f51.body.getD .skip, Tryz.func51, by kernel_rfl, by kernel_rfl, by kernel_rfl, by kernel_rfl, by kernel_rfl⟩
/-- loop.example/g01331/impl.counting -/
def i_zz62_B1 : FC :=
 .seq (.ops [
 ⟨some 8, .bin .lss (.tmp 7) (.tmp 6), none, 0⟩]) <|
 .seq (.cond (.tmp 8)
 (.skip)
 (.keep [3] <|
 .exit 0)) <|
 .seq (.block 1 <|
 .seq (.ops [
 ⟨some 9, .mv (.tmp 7), none, 0⟩,
 ⟨some 4, .mv (.tmp 9), none, 0⟩]) <|
 .ops [
 ⟨some 10, .mv (.tmp 3), none, 0⟩,
 ⟨some 11, .mv (.tmp 4), none, 0⟩,
 ⟨some 12, .buildSl 1 [.int .i64 0] [(0, 1, (.tmp 11))] 1, none, 0⟩,
 ⟨some 13, .app 1 8 [.int .i64 0] (.tmp 10) (.tmp 12), none, 0⟩,
 ⟨some 3, .mv (.tmp 13), none, 0⟩]) <|
 .ops [
 ⟨some 14, .bin .add (.tmp 7) (.const (.int .i64 1)), none, 0⟩,
 ⟨some 7, .mv (.tmp 14), none, 0⟩]
def i_zz62 : FF := ⟨16, [.tmp 2],
 .seq (.ops [
 ⟨some 2, .mv (.const (.slice none 0 0)), none, 0⟩]) <|
 .seq (.ops [
 ⟨some 5, .buildSl 1 [] [] 0, none, 0⟩,
 ⟨some 3, .mv (.tmp 5), none, 0⟩]) <|
 .seq (.seq (.ops [
 ⟨some 6, .mv (.tmp 0), none, 0⟩,
 ⟨some 7, .mv (.const (.int .i64 0)), none, 0⟩]) <|
 .block 0 <|
 .loop [3, 6, 7] i_zz62_B1) <|
 .seq (.ops [
 ⟨some 15, .mv (.tmp 3), none, 0⟩,
 ⟨some 2, .mv (.tmp 15), none, 0⟩]) <|
 .keep [2] <|
 .ret⟩
theorem e_zz62 : EntOK Tryz.prog (compD Tryz.prog) k_zz62 i_zz62.vf :=
 ⟨Tryz.f52, Tryz.f52.body.getD .skip, Tryz.func52, by kernel_rfl, by kernel_rfl, by kernel_rfl, by kernel_rfl, by kernel_rfl⟩
/-- loop.example/g01331/impl.empty -/
def i_zz93 : FF := ⟨7, [.cell 2 true 2],
 .seq (.ops [
 ⟨some 2, .alloc [.int .i64 0, .slice none 0 0], none, 0⟩]) <|
 .seq (.ops [
 ⟨some 3, .mv (.tmp 0), none, 0⟩,
 ⟨some 4, .mv (.tmp 0), none, 0⟩,
 ⟨some 5, .mkSl 1 [.int .i64 0] 8 (.tmp 4) (.tmp 4), none, 0⟩,
 ⟨some 6, .build [.int .i64 0, .slice none 0 0] [(0, 1, (.tmp 3)), (1, 1, (.tmp 5))], none, 0⟩,
 ⟨none, .store 2 (.tmp 2) (.tmp 6), none, 0⟩]) <|
 .keep [2] <|
 .ret⟩
theorem e_zz93 : EntOK Tryz.prog (compD Tryz.prog) k_zz93 i_zz93.vf :=
 ⟨Tryz.f53, Tryz.f53.body.getD .skip, Tryz.func53, by kernel_rfl, by kernel_rfl, by kernel_rfl, by kernel_rfl, by kernel_rfl⟩
def i_zz36_B1 : FC :=
 .seq (.ops [
 ⟨some 21, .bin .lss (.tmp 20) (.tmp 19), none, 0⟩]) <|
 .seq (.cond (.tmp 21)
 (.skip)
 (.keep [1, 3, 9, 10] <|
 .exit 2)) <|
 .seq (.block 3 <|
 .seq (.ops [
 ⟨some 22, .idx 1 (.tmp 18) (.tmp 20), none, 0⟩,
 ⟨some 23, .load false 1 (.tmp 22), none, 0⟩,
 ⟨some 6, .mv (.tmp 23), none, 0⟩]) <|
 .seq (.ops [
 ⟨some 24, .mv (.tmp 6), none, 0⟩,
 ⟨some 25, .mv (.tmp 4), none, 0⟩,
 ⟨some 26, .bin .gtr (.tmp 24) (.tmp 25), none, 0⟩]) <|
 .cond (.tmp 26)
 (.ops [
 ⟨some 27, .mv (.tmp 3), none, 0⟩,
 ⟨some 28, .mv (.tmp 4), none, 0⟩,
 ⟨some 29, .mv (.tmp 6), none, 0⟩,
 ⟨some 30, .buildSl 1 [.int .i64 0, .int .i64 0] [(0, 1, (.tmp 28)), (1, 1, (.tmp 29))] 2, none, 0⟩,
 ⟨some 31, .buildSl 1 [.slice none 0 0] [(0, 1, (.tmp 30))] 1, none, 0⟩,
 ⟨some 32, .app 1 24 [.slice none 0 0] (.tmp 27) (.tmp 31), none, 0⟩,
 ⟨some 3, .mv (.tmp 32), none, 0⟩])
 (.skip)) <|
 .ops [
 ⟨some 33, .bin .add (.tmp 20) (.const (.int .i64 1)), none, 0⟩,
 ⟨some 20, .mv (.tmp 33), none, 0⟩]
def i_zz36_B2 : FC :=
 .seq (.ops [
 ⟨some 11, .bin .lss (.tmp 10) (.tmp 9), none, 0⟩]) <|
 .seq (.cond (.tmp 11)
 (.skip)
 (.keep [3] <|
 .exit 0)) <|
 .seq (.block 1 <|
 .seq (.ops [
 ⟨some 12, .mv (.tmp 10), none, 0⟩,
 ⟨some 4, .mv (.tmp 12), none, 0⟩]) <|
 .seq (.ops [
 ⟨some 13, .fld 1 (.tmp 1), none, 0⟩,
 ⟨some 14, .load false 1 (.tmp 13), none, 0⟩,
 ⟨some 15, .mv (.tmp 4), none, 0⟩,
 ⟨some 16, .idx 1 (.tmp 14) (.tmp 15), none, 0⟩,
 ⟨some 17, .load false 1 (.tmp 16), none, 0⟩,
 ⟨some 18, .call k_zz96 [(.tmp 17)], none, 0⟩,
 ⟨some 19, .len (.tmp 18), none, 0⟩,
 ⟨some 20, .mv (.const (.int .i64 0)), none, 0⟩]) <|
 .block 2 <|
 .loop [1, 3, 4, 9, 10, 18, 19, 20] i_zz36_B1) <|
 .ops [
 ⟨some 34, .bin .add (.tmp 10) (.const (.int .i64 1)), none, 0⟩,
 ⟨some 10, .mv (.tmp 34), none, 0⟩]
def i_zz36 : FF := ⟨36, [.tmp 2],
 .seq (.ops [
 ⟨some 1, .box 2 (.tmp 0), none, 0⟩,
 ⟨some 2, .mv (.const (.slice none 0 0)), none, 0⟩]) <|
 .seq (.ops [
 ⟨some 7, .buildSl 1 [] [] 0, none, 0⟩,
 ⟨some 3, .mv (.tmp 7), none, 0⟩]) <|
 .seq (.seq (.ops [
 ⟨some 8, .fld 0 (.tmp 1), none, 0⟩,
 ⟨some 9, .load false 1 (.tmp 8), none, 0⟩,
 ⟨some 10, .mv (.const (.int .i64 0)), none, 0⟩]) <|
 .block 0 <|
 .loop [1, 3, 9, 10] i_zz36_B2) <|
 .seq (.ops [
 ⟨some 35, .mv (.tmp 3), none, 0⟩,
 ⟨some 2, .mv (.tmp 35), none, 0⟩]) <|
 .keep [2] <|
 .ret⟩
theorem e_zz36 : EntOK Tryz.prog (compD Tryz.prog) k_zz36 i_zz36.vf :=
 ⟨Tryz.f54, Tryz.f54.body.getD .skip, Tryz.func54, by kernel_rfl, by kernel_rfl, by kernel_rfl, by kernel_rfl, by kernel_rfl⟩
def i_zz53 : FF := ⟨27, [],
 .seq (.ops [
 ⟨some 3, .box 2 (.tmp 0), none, 0⟩]) <|
 .seq (.ops [
 ⟨some 6, .mv (.tmp 1), none, 0⟩,
 ⟨some 7, .mv (.tmp 2), none, 0⟩,
 ⟨some 8, .bin .neq (.tmp 6) (.tmp 7), none, 0⟩]) <|
 .cond (.tmp 8)
 (.seq (.dops [
 ⟨some 9, .fld 1 (.tmp 3), none, 0⟩,
 ⟨some 10, .load false 1 (.tmp 9), none, 0⟩,
 ⟨some 11, .mv (.tmp 1), none, 0⟩,
 ⟨some 12, .idx 1 (.tmp 10) (.tmp 11), none, 0⟩,
 ⟨some 13, .load false 1 (.tmp 12), none, 0⟩,
 ⟨some 14, .mv (.tmp 2), none, 0⟩,
 ⟨some 15, .bin .shl (.const (.int .i64 1)) (.tmp 14), none, 0⟩,
 ⟨some 16, .bin .or (.tmp 13) (.tmp 15), none, 0⟩,
 ⟨some 17, .idx 1 (.tmp 10) (.tmp 11), none, 0⟩,
 ⟨none, .store 1 (.tmp 17) (.tmp 16), none, 0⟩]) <|
 .dops [
 ⟨some 18, .fld 1 (.tmp 3), none, 0⟩,
 ⟨some 19, .load false 1 (.tmp 18), none, 0⟩,
 ⟨some 20, .mv (.tmp 2), none, 0⟩,
 ⟨some 21, .idx 1 (.tmp 19) (.tmp 20), none, 0⟩,
 ⟨some 22, .load false 1 (.tmp 21), none, 0⟩,
 ⟨some 23, .mv (.tmp 1), none, 0⟩,
 ⟨some 24, .bin .shl (.const (.int .i64 1)) (.tmp 23), none, 0⟩,
 ⟨some 25, .bin .or (.tmp 22) (.tmp 24), none, 0⟩,
 ⟨some 26, .idx 1 (.tmp 19) (.tmp 20), none, 0⟩,
 ⟨none, .store 1 (.tmp 26) (.tmp 25), none, 0⟩])
 (.skip)⟩
theorem e_zz53 : EntOK Tryz.prog (compD Tryz.prog) k_zz53 i_zz53.vf :=
 ⟨Tryz.f55, Tryz.f55.body.getD .skip, Tryz.func55, by kernel_rfl, by kernel_rfl, by kernel_rfl, by kernel_rfl, by kernel_rfl⟩
def i_zz27_B1 : FC :=
 .seq (.ops [
 ⟨some 9, .bin .lss (.tmp 8) (.tmp 7), none, 0⟩]) <|
 .seq (.cond (.tmp 9)
 (.skip)
 (.keep [3] <|
 .exit 0)) <|
 .seq (.block 1 <|
 .seq (.ops [
 ⟨some 10, .mv (.tmp 8), none, 0⟩,
 ⟨some 4, .mv (.tmp 10), none, 0⟩]) <|
 .ops [
 ⟨some 11, .mv (.tmp 3), none, 0⟩,
 ⟨some 12, .load true 2 (.tmp 1), none, 0⟩,
 ⟨some 13, .mv (.tmp 4), none, 0⟩,
 ⟨some 14, .call k_zz33 [(.tmp 12), (.tmp 13)], none, 0⟩,
 ⟨some 15, .buildSl 1 [.int .i64 0] [(0, 1, (.tmp 14))] 1, none, 0⟩,
 ⟨some 16, .app 1 8 [.int .i64 0] (.tmp 11) (.tmp 15), none, 0⟩,
 ⟨some 3, .mv (.tmp 16), none, 0⟩]) <|
 .ops [
 ⟨some 17, .bin .add (.tmp 8) (.const (.int .i64 1)), none, 0⟩,
 ⟨some 8, .mv (.tmp 17), none, 0⟩]
def i_zz27 : FF := ⟨19, [.tmp 2],
 .seq (.ops [
 ⟨some 1, .box 2 (.tmp 0), none, 0⟩,
 ⟨some 2, .mv (.const (.slice none 0 0)), none, 0⟩]) <|
 .seq (.ops [
 ⟨some 5, .buildSl 1 [] [] 0, none, 0⟩,
 ⟨some 3, .mv (.tmp 5), none, 0⟩]) <|
 .seq (.seq (.ops [
 ⟨some 6, .fld 0 (.tmp 1), none, 0⟩,
 ⟨some 7, .load false 1 (.tmp 6), none, 0⟩,
 ⟨some 8, .mv (.const (.int .i64 0)), none, 0⟩]) <|
 .block 0 <|
 .loop [1, 3, 7, 8] i_zz27_B1) <|
 .seq (.ops [
 ⟨some 18, .mv (.tmp 3), none, 0⟩,
 ⟨some 2, .mv (.tmp 18), none, 0⟩]) <|
 .keep [2] <|
 .ret⟩
theorem e_zz27 : EntOK Tryz.prog (compD Tryz.prog) k_zz27 i_zz27.vf :=
 ⟨Tryz.f56, Tryz.f56.body.getD .skip, Tryz.func56, by kernel_rfl, by kernel_rfl, by kernel_rfl, by kernel_rfl, by kernel_rfl⟩
/-- loop.example/g01331/spec.l01Spoil -/
def i_zz72 : FF := ⟨7, [.cell 2 true 2],
 .seq (.ops [
 ⟨some 2, .alloc [.int .i64 0, .slice none 0 0], none, 0⟩]) <|
 .seq (.ops [
 ⟨some 3, .mv (.tmp 0), none, 0⟩,
 ⟨some 4, .mv (.tmp 0), none, 0⟩,
 ⟨some 5, .call k_zz78 [(.tmp 4)], none, 0⟩,
 ⟨some 6, .call k_zz87 [(.tmp 3), (.tmp 5)], none, 0⟩,
 ⟨none, .store 2 (.tmp 2) (.tmp 6), none, 0⟩]) <|
 .keep [2] <|
 .ret⟩
theorem e_zz72 : EntOK Tryz.prog (compD Tryz.prog) k_zz72 i_zz72.vf :=
 ⟨Tryz.f57, Tryz.f57.body.getD .skip, Tryz.func57, by kernel_rfl, by kernel_rfl, by kernel_rfl, by kernel_rfl, by kernel_rfl⟩
/-- loop.example/g01331/spec.l01From -/
def i_zz79_B1 : FC :=
 .seq (.seq (.ops [
 ⟨some 12, .mv (.tmp 4), none, 0⟩,
 ⟨some 13, .mv (.tmp 0), none, 0⟩,
 ⟨some 14, .len (.tmp 13), none, 0⟩,
 ⟨some 15, .bin .lss (.tmp 12) (.tmp 14), none, 0⟩,
 ⟨some 16, .mv (.tmp 15), none, 0⟩,
 ⟨some 17, .mv (.tmp 4), some (16, true), 0⟩,
 ⟨some 18, .bin .lss (.tmp 17) (.const (.int .i64 4096)), some (16, true), 0⟩,
 ⟨some 19, .pick (.tmp 16) (.tmp 18) (.const (.bool false)), none, 0⟩]) <|
 .cond (.tmp 19)
 (.skip)
 (.keep [3] <|
 .exit 0)) <|
 .seq (.block 1 <|
 .dops [
 ⟨some 22, .mv (.tmp 3), none, 0⟩,
 ⟨some 23, .mv (.tmp 3), none, 0⟩,
 ⟨some 24, .nilchk (.tmp 23), none, 0⟩,
 ⟨some 25, .fld 2 (.tmp 24), none, 0⟩,
 ⟨some 26, .load false 1 (.tmp 25), none, 0⟩,
 ⟨some 27, .bin .mul (.tmp 26) (.const (.int .u64 1099511628211)), none, 0⟩,
 ⟨some 28, .mv (.tmp 0), none, 0⟩,
 ⟨some 29, .mv (.tmp 4), none, 0⟩,
 ⟨some 30, .idx 1 (.tmp 28) (.tmp 29), none, 0⟩,
 ⟨some 31, .load false 1 (.tmp 30), none, 0⟩,
 ⟨some 32, .conv .u64 (.tmp 31), none, 0⟩,
 ⟨some 33, .bin .add (.tmp 27) (.tmp 32), none, 0⟩,
 ⟨some 34, .bin .add (.tmp 33) (.const (.int .u64 157)), none, 0⟩,
 ⟨some 35, .nilchk (.tmp 22), none, 0⟩,
 ⟨some 36, .fld 2 (.tmp 35), none, 0⟩,
 ⟨none, .store 1 (.tmp 36) (.tmp 34), none, 0⟩]) <|
 .ops [
 ⟨some 20, .mv (.tmp 4), none, 0⟩,
 ⟨some 21, .bin .add (.tmp 20) (.const (.int .i64 1)), none, 0⟩,
 ⟨some 4, .mv (.tmp 21), none, 0⟩]
def i_zz79 : FF := ⟨38, [.tmp 2],
 .seq (.ops [
 ⟨some 2, .mv (.const (.pointer none)), none, 0⟩]) <|
 .seq (.ops [
 ⟨some 5, .mv (.tmp 0), none, 0⟩,
 ⟨some 6, .mv (.tmp 0), none, 0⟩,
 ⟨some 7, .len (.tmp 6), none, 0⟩,
 ⟨some 8, .conv .u64 (.tmp 7), none, 0⟩,
 ⟨some 9, .bin .add (.const (.int .u64 13311)) (.tmp 8), none, 0⟩,
 ⟨some 10, .build [.slice none 0 0, .int .i64 0, .int .u64 0] [(0, 1, (.tmp 5)), (2, 1, (.tmp 9))], none, 0⟩,
 ⟨some 11, .box 3 (.tmp 10), none, 0⟩,
 ⟨some 3, .mv (.tmp 11), none, 0⟩]) <|
 .seq (.seq (.ops [
 ⟨some 4, .mv (.const (.int .i64 0)), none, 0⟩]) <|
 .block 0 <|
 .loop [0, 3, 4] i_zz79_B1) <|
 .seq (.ops [
 ⟨some 37, .mv (.tmp 3), none, 0⟩,
 ⟨some 2, .mv (.tmp 37), none, 0⟩]) <|
 .keep [2] <|
 .ret⟩
theorem e_zz79 : EntOK Tryz.prog (compD Tryz.prog) k_zz79 i_zz79.vf :=
 ⟨Tryz.f58, Tryz.f58.body.getD .skip, Tryz.func58, by kernel_rfl, by kernel_rfl, by kernel_rfl, by kernel_rfl, by kernel_rfl⟩
/-- loop.example/g01331/impl.limitedCode -/
def i_zz38 : FF := ⟨9, [.tmp 2],
 .seq (.ops [
 ⟨some 2, .mv (.const (.int .i64 0)), none, 0⟩]) <|
 .seq (.seq (.ops [
 ⟨some 3, .mv (.tmp 0), none, 0⟩,
 ⟨some 4, .bin .lss (.tmp 3) (.const (.int .i64 1)), none, 0⟩,
 ⟨some 5, .mv (.tmp 4), none, 0⟩,
 ⟨some 6, .mv (.tmp 0), some (5, false), 0⟩,
 ⟨some 7, .bin .gtr (.tmp 6) (.const (.int .i64 62)), some (5, false), 0⟩,
 ⟨some 8, .pick (.tmp 5) (.const (.bool true)) (.tmp 7), none, 0⟩]) <|
 .cond (.tmp 8)
 (.seq (.ops [
 ⟨some 2, .mv (.const (.int .i64 3)), none, 0⟩]) <|
 .keep [2] <|
 .ret)
 (.skip)) <|
 .seq (.ops [
 ⟨some 2, .mv (.const (.int .i64 0)), none, 0⟩]) <|
 .keep [2] <|
 .ret⟩
theorem e_zz38 : EntOK Tryz.prog (compD Tryz.prog) k_zz38 i_zz38.vf :=
 ⟨Tryz.f59, Tryz.f59.body.getD .skip, Tryz.func59, by kernel_rfl, by kernel_rfl, by kernel_rfl, by kernel_rfl, by kernel_rfl⟩
/-- loop.example/g01331/spec.l01Beside -/
def i_zz59_B1 : FC :=
 .seq (.seq (.ops [
 ⟨some 16, .mv (.tmp 6), none, 0⟩,
 ⟨some 17, .fld 0 (.tmp 3), none, 0⟩,
 ⟨some 18, .load false 1 (.tmp 17), none, 0⟩,
 ⟨some 19, .bin .lss (.tmp 16) (.tmp 18), none, 0⟩]) <|
 .cond (.tmp 19)
 (.skip)
 (.keep [4, 5] <|
 .exit 0)) <|
 .seq (.block 1 <|
 .dops [
 ⟨some 24, .fld 1 (.tmp 3), none, 0⟩,
 ⟨some 25, .load false 1 (.tmp 24), none, 0⟩,
 ⟨some 26, .mv (.tmp 6), none, 0⟩,
 ⟨some 27, .idx 1 (.tmp 25) (.tmp 26), none, 0⟩,
 ⟨some 28, .load false 1 (.tmp 27), none, 0⟩,
 ⟨some 29, .fld 0 (.tmp 2), none, 0⟩,
 ⟨some 30, .load false 1 (.tmp 29), none, 0⟩,
 ⟨some 31, .conv .u64 (.tmp 30), none, 0⟩,
 ⟨some 32, .bin .shl (.tmp 28) (.tmp 31), none, 0⟩,
 ⟨some 33, .buildSl 1 [.int .i64 0] [(0, 1, (.tmp 32))] 1, none, 0⟩,
 ⟨some 22, .fld 1 (.tmp 5), none, 1⟩,
 ⟨some 23, .load false 1 (.tmp 22), none, 1⟩,
 ⟨some 34, .app 1 8 [.int .i64 0] (.tmp 23) (.tmp 33), none, 0⟩,
 ⟨some 35, .fld 1 (.tmp 5), none, 0⟩,
 ⟨none, .store 1 (.tmp 35) (.tmp 34), none, 0⟩]) <|
 .ops [
 ⟨some 20, .mv (.tmp 6), none, 0⟩,
 ⟨some 21, .bin .add (.tmp 20) (.const (.int .i64 1)), none, 0⟩,
 ⟨some 6, .mv (.tmp 21), none, 0⟩]
def i_zz59 : FF := ⟨37, [.cell 4 true 2],
 .seq (.ops [
 ⟨some 2, .box 2 (.tmp 0), none, 0⟩,
 ⟨some 3, .box 2 (.tmp 1), none, 0⟩,
 ⟨some 4, .alloc [.int .i64 0, .slice none 0 0], none, 0⟩]) <|
 .seq (.dops [
 ⟨some 12, .fld 1 (.tmp 2), none, 0⟩,
 ⟨some 13, .load false 1 (.tmp 12), none, 0⟩,
 ⟨some 14, .call k_zz89 [(.tmp 13)], none, 0⟩,
 ⟨some 7, .fld 0 (.tmp 2), none, 1⟩,
 ⟨some 8, .load false 1 (.tmp 7), none, 1⟩,
 ⟨some 9, .fld 0 (.tmp 3), none, 1⟩,
 ⟨some 10, .load false 1 (.tmp 9), none, 1⟩,
 ⟨some 11, .bin .add (.tmp 8) (.tmp 10), none, 1⟩,
 ⟨some 15, .build [.int .i64 0, .slice none 0 0] [(0, 1, (.tmp 11)), (1, 1, (.tmp 14))], none, 0⟩,
 ⟨some 5, .alloc [.int .i64 0, .slice none 0 0], none, 1⟩,
 ⟨none, .store 2 (.tmp 5) (.tmp 15), none, 1⟩]) <|
 .seq (.seq (.ops [
 ⟨some 6, .mv (.const (.int .i64 0)), none, 0⟩]) <|
 .block 0 <|
 .loop [2, 3, 4, 5, 6] i_zz59_B1) <|
 .seq (.ops [
 ⟨some 36, .load true 2 (.tmp 5), none, 0⟩,
 ⟨none, .store 2 (.tmp 4) (.tmp 36), none, 0⟩]) <|
 .keep [4] <|
 .ret⟩
theorem e_zz59 : EntOK Tryz.prog (compD Tryz.prog) k_zz59 i_zz59.vf :=
 ⟨Tryz.f60, Tryz.f60.body.getD .skip, Tryz.func60, by kernel_rfl, by kernel_rfl, by kernel_rfl, by kernel_rfl, by kernel_rfl⟩
/-- loop.example/g01331/spec.l01Empty -/
def i_zz67 : FF := ⟨7, [.cell 2 true 2],
 .seq (.ops [
 ⟨some 2, .alloc [.int .i64 0, .slice none 0 0], none, 0⟩]) <|
 .seq (.ops [
 ⟨some 3, .mv (.tmp 0), none, 0⟩,
 ⟨some 4, .mv (.tmp 0), none, 0⟩,
 ⟨some 5, .mkSl 1 [.int .i64 0] 8 (.tmp 4) (.tmp 4), none, 0⟩,
 ⟨some 6, .build [.int .i64 0, .slice none 0 0] [(0, 1, (.tmp 3)), (1, 1, (.tmp 5))], none, 0⟩,
 ⟨none, .store 2 (.tmp 2) (.tmp 6), none, 0⟩]) <|
 .keep [2] <|
 .ret⟩
theorem e_zz67 : EntOK Tryz.prog (compD Tryz.prog) k_zz67 i_zz67.vf :=
 ⟨Tryz.f61, Tryz.f61.body.getD .skip, Tryz.func61, by kernel_rfl, by kernel_rfl, by kernel_rfl, by kernel_rfl, by kernel_rfl⟩
/-- loop.example/g01331/spec.l01Put -/
def i_zz90 : FF := ⟨32, [],
 .seq (.ops [
 ⟨some 3, .box 2 (.tmp 0), none, 0⟩]) <|
 .seq (.dops [
 ⟨some 6, .fld 1 (.tmp 3), none, 0⟩,
 ⟨some 7, .load false 1 (.tmp 6), none, 0⟩,
 ⟨some 8, .mv (.tmp 1), none, 0⟩,
 ⟨some 9, .fld 1 (.tmp 3), none, 0⟩,
 ⟨some 10, .load false 1 (.tmp 9), none, 0⟩,
 ⟨some 11, .mv (.tmp 1), none, 0⟩,
 ⟨some 12, .idx 1 (.tmp 10) (.tmp 11), none, 0⟩,
 ⟨some 13, .load false 1 (.tmp 12), none, 0⟩,
 ⟨some 14, .mv (.tmp 2), none, 0⟩,
 ⟨some 15, .conv .u64 (.tmp 14), none, 0⟩,
 ⟨some 16, .bin .shl (.const (.int .i64 1)) (.tmp 15), none, 0⟩,
 ⟨some 17, .bin .or (.tmp 13) (.tmp 16), none, 0⟩,
 ⟨some 18, .idx 1 (.tmp 7) (.tmp 8), none, 0⟩,
 ⟨none, .store 1 (.tmp 18) (.tmp 17), none, 0⟩]) <|
 .dops [
 ⟨some 19, .fld 1 (.tmp 3), none, 0⟩,
 ⟨some 20, .load false 1 (.tmp 19), none, 0⟩,
 ⟨some 21, .mv (.tmp 2), none, 0⟩,
 ⟨some 22, .fld 1 (.tmp 3), none, 0⟩,
 ⟨some 23, .load false 1 (.tmp 22), none, 0⟩,
 ⟨some 24, .mv (.tmp 2), none, 0⟩,
 ⟨some 25, .idx 1 (.tmp 23) (.tmp 24), none, 0⟩,
 ⟨some 26, .load false 1 (.tmp 25), none, 0⟩,
 ⟨some 27, .mv (.tmp 1), none, 0⟩,
 ⟨some 28, .conv .u64 (.tmp 27), none, 0⟩,
 ⟨some 29, .bin .shl (.const (.int .i64 1)) (.tmp 28), none, 0⟩,
 ⟨some 30, .bin .or (.tmp 26) (.tmp 29), none, 0⟩,
 ⟨some 31, .idx 1 (.tmp 20) (.tmp 21), none, 0⟩,
 ⟨none, .store 1 (.tmp 31) (.tmp 30), none, 0⟩]⟩
theorem e_zz90 : EntOK Tryz.prog (compD Tryz.prog) k_zz90 i_zz90.vf :=
 ⟨Tryz.f62, Tryz.f62.body.getD .skip, Tryz.func62, by kernel_rfl, by kernel_rfl, by kernel_rfl, by kernel_rfl, by kernel_rfl⟩
/-- loop.example/g01331/spec.l01Pick -/
def i_zz82 : FF := ⟨12, [.tmp 4],
 .seq (.ops [
 ⟨some 4, .mv (.const (.int .i64 0)), none, 0⟩]) <|
 .seq (.ops [
 ⟨some 5, .mv (.tmp 1), none, 0⟩,
 ⟨some 6, .mv (.tmp 0), none, 0⟩,
 ⟨some 7, .mv (.tmp 1), none, 0⟩,
 ⟨some 8, .len (.tmp 7), none, 0⟩,
 ⟨some 9, .call k_zz81 [(.tmp 6), (.tmp 8)], none, 0⟩,
 ⟨some 10, .idx 1 (.tmp 5) (.tmp 9), none, 0⟩,
 ⟨some 11, .load false 1 (.tmp 10), none, 0⟩,
 ⟨some 4, .mv (.tmp 11), none, 0⟩]) <|
 .keep [4] <|
 .ret⟩
theorem e_zz82 : EntOK Tryz.prog (compD Tryz.prog) k_zz82 i_zz82.vf :=
 ⟨Tryz.f63, Tryz.f63.body.getD .skip, Tryz.func63, by kernel_rfl, by kernel_rfl, by kernel_rfl, by kernel_rfl, by kernel_rfl⟩
/-- loop.example/g01331/spec.l01Near -/
def i_zz80 : FF := ⟨17, [.tmp 4],
 .seq (.ops [
 ⟨some 4, .mv (.const (.int .i64 0)), none, 0⟩]) <|
 .seq (.seq (.ops [
 ⟨some 5, .mv (.tmp 0), none, 0⟩,
 ⟨some 6, .call k_zz81 [(.tmp 5), (.const (.int .i64 14))], none, 0⟩,
 ⟨some 7, .bin .eql (.tmp 6) (.const (.int .i64 0)), none, 0⟩]) <|
 .cond (.tmp 7)
 (.seq (.ops [
 ⟨some 8, .mv (.tmp 0), none, 0⟩,
 ⟨some 9, .mv (.tmp 1), none, 0⟩,
 ⟨some 10, .bin .add (.tmp 9) (.const (.int .i64 1)), none, 0⟩,
 ⟨some 11, .buildSl 1 [.int .i64 0, .int .i64 0, .int .i64 0, .int .i64 0] [(0, 1, (.const (.int .i64 (-1)))), (1, 1, (.tmp 10)), (2, 1, (.const (.int .i64 1099511627776))), (3, 1, (.const (.int .i64 (-4611686018427387904))))] 4, none, 0⟩,
 ⟨some 12, .call k_zz82 [(.tmp 8), (.tmp 11)], none, 0⟩,
 ⟨some 4, .mv (.tmp 12), none, 0⟩]) <|
 .keep [4] <|
 .ret)
 (.skip)) <|
 .seq (.ops [
 ⟨some 13, .mv (.tmp 0), none, 0⟩,
 ⟨some 14, .mv (.tmp 1), none, 0⟩,
 ⟨some 15, .bin .add (.tmp 14) (.const (.int .i64 1)), none, 0⟩,
 ⟨some 16, .call k_zz81 [(.tmp 13), (.tmp 15)], none, 0⟩,
 ⟨some 4, .mv (.tmp 16), none, 0⟩]) <|
 .keep [4] <|
 .ret⟩
theorem e_zz80 : EntOK Tryz.prog (compD Tryz.prog) k_zz80 i_zz80.vf :=
 ⟨Tryz.f64, Tryz.f64.body.getD .skip, Tryz.func64, by kernel_rfl, by kernel_rfl, by kernel_rfl, by kernel_rfl, by kernel_rfl⟩
def i_zz22_B1 : FC :=
 .seq (.ops [
 ⟨some 28, .bin .lss (.tmp 27) (.tmp 26), none, 0⟩]) <|
 .seq (.cond (.tmp 28)
 (.skip)
 (.keep [2, 5, 6, 8, 9] <|
 .exit 2)) <|
 .seq (.block 3 <|
 .seq (.ops [
 ⟨some 29, .idx 1 (.tmp 25) (.tmp 27), none, 0⟩,
 ⟨some 30, .load false 1 (.tmp 29), none, 0⟩,
 ⟨some 11, .mv (.tmp 30), none, 0⟩]) <|
 .seq (.ops [
 ⟨some 31, .mv (.tmp 5), none, 0⟩,
 ⟨some 32, .mv (.tmp 11), none, 0⟩,
 ⟨some 33, .mv (.tmp 8), none, 0⟩,
 ⟨some 34, .idx 1 (.tmp 31) (.tmp 32), none, 0⟩,
 ⟨none, .store 1 (.tmp 34) (.tmp 33), none, 0⟩]) <|
 .ops [
 ⟨some 35, .mv (.tmp 9), none, 0⟩,
 ⟨some 36, .fld 1 (.tmp 2), none, 0⟩,
 ⟨some 37, .load false 1 (.tmp 36), none, 0⟩,
 ⟨some 38, .mv (.tmp 11), none, 0⟩,
 ⟨some 39, .idx 1 (.tmp 37) (.tmp 38), none, 0⟩,
 ⟨some 40, .load false 1 (.tmp 39), none, 0⟩,
 ⟨some 41, .bin .or (.tmp 35) (.tmp 40), none, 0⟩,
 ⟨some 9, .mv (.tmp 41), none, 0⟩]) <|
 .ops [
 ⟨some 42, .bin .add (.tmp 27) (.const (.int .i64 1)), none, 0⟩,
 ⟨some 27, .mv (.tmp 42), none, 0⟩]
def i_zz22_B2 : FC :=
 .seq (.seq (.ops [
 ⟨some 20, .mv (.tmp 7), none, 0⟩,
 ⟨some 21, .bin .neq (.tmp 20) (.const (.int .i64 0)), none, 0⟩]) <|
 .cond (.tmp 21)
 (.skip)
 (.keep [5] <|
 .exit 0)) <|
 .seq (.block 1 <|
 .seq (.ops [
 ⟨some 9, .mv (.const (.int .i64 0)), none, 0⟩]) <|
 .seq (.seq (.ops [
 ⟨some 24, .mv (.tmp 7), none, 0⟩,
 ⟨some 25, .call k_zz96 [(.tmp 24)], none, 0⟩,
 ⟨some 26, .len (.tmp 25), none, 0⟩,
 ⟨some 27, .mv (.const (.int .i64 0)), none, 0⟩]) <|
 .block 2 <|
 .loop [2, 5, 6, 8, 9, 25, 26, 27] i_zz22_B1) <|
 .seq (.ops [
 ⟨some 43, .mv (.tmp 9), none, 0⟩,
 ⟨some 44, .mv (.tmp 6), none, 0⟩,
 ⟨some 45, .bin .andNot (.tmp 43) (.tmp 44), none, 0⟩,
 ⟨some 7, .mv (.tmp 45), none, 0⟩]) <|
 .ops [
 ⟨some 46, .mv (.tmp 6), none, 0⟩,
 ⟨some 47, .mv (.tmp 9), none, 0⟩,
 ⟨some 48, .bin .or (.tmp 46) (.tmp 47), none, 0⟩,
 ⟨some 6, .mv (.tmp 48), none, 0⟩]) <|
 .ops [
 ⟨some 22, .mv (.tmp 8), none, 0⟩,
 ⟨some 23, .bin .add (.tmp 22) (.const (.int .i64 1)), none, 0⟩,
 ⟨some 8, .mv (.tmp 23), none, 0⟩]
def i_zz22 : FF := ⟨50, [.tmp 4],
 .seq (.ops [
 ⟨some 2, .box 2 (.tmp 0), none, 0⟩,
 ⟨some 4, .mv (.const (.slice none 0 0)), none, 0⟩]) <|
 .seq (.ops [
 ⟨some 12, .buildSl 1 [.int .i64 0] [(0, 1, (.const (.int .i64 (-1))))] 1, none, 0⟩,
 ⟨some 13, .fld 0 (.tmp 2), none, 0⟩,
 ⟨some 14, .load false 1 (.tmp 13), none, 0⟩,
 ⟨some 15, .call k_zz15 [(.tmp 12), (.tmp 14)], none, 0⟩,
 ⟨some 5, .mv (.tmp 15), none, 0⟩]) <|
 .seq (.dops [
 ⟨some 16, .mv (.tmp 1), none, 0⟩,
 ⟨some 17, .bin .shl (.const (.int .i64 1)) (.tmp 16), none, 0⟩,
 ⟨some 18, .mv (.tmp 1), none, 0⟩,
 ⟨some 19, .bin .shl (.const (.int .i64 1)) (.tmp 18), none, 0⟩,
 ⟨some 6, .mv (.tmp 17), none, 0⟩,
 ⟨some 7, .mv (.tmp 19), none, 0⟩]) <|
 .seq (.seq (.ops [
 ⟨some 8, .mv (.const (.int .i64 0)), none, 0⟩]) <|
 .block 0 <|
 .loop [2, 5, 6, 7, 8] i_zz22_B2) <|
 .seq (.ops [
 ⟨some 49, .mv (.tmp 5), none, 0⟩,
 ⟨some 4, .mv (.tmp 49), none, 0⟩]) <|
 .keep [4] <|
 .ret⟩
theorem e_zz22 : EntOK Tryz.prog (compD Tryz.prog) k_zz22 i_zz22.vf :=
 ⟨Tryz.f65, Tryz.f65.body.getD .skip, Tryz.func65, by kernel_rfl, by kernel_rfl, by kernel_rfl, by kernel_rfl, by kernel_rfl⟩
/-- loop.example/g01331/spec.l01Is -/
def i_zz95_B1 : FC :=
 .seq (.seq (.ops [
 ⟨some 18, .mv (.tmp 3), none, 0⟩,
 ⟨some 19, .fld 0 (.tmp 1), none, 0⟩,
 ⟨some 20, .load false 1 (.tmp 19), none, 0⟩,
 ⟨some 21, .bin .lss (.tmp 18) (.tmp 20), none, 0⟩]) <|
 .cond (.tmp 21)
 (.skip)
 (.keep [1] <|
 .exit 0)) <|
 .seq (.block 1 <|
 .seq (.dops [
 ⟨some 24, .fld 1 (.tmp 1), none, 0⟩,
 ⟨some 25, .load false 1 (.tmp 24), none, 0⟩,
 ⟨some 26, .mv (.tmp 3), none, 0⟩,
 ⟨some 27, .idx 1 (.tmp 25) (.tmp 26), none, 0⟩,
 ⟨some 28, .load false 1 (.tmp 27), none, 0⟩,
 ⟨some 29, .fld 0 (.tmp 1), none, 0⟩,
 ⟨some 30, .load false 1 (.tmp 29), none, 0⟩,
 ⟨some 31, .conv .u64 (.tmp 30), none, 0⟩,
 ⟨some 32, .bin .shl (.const (.int .i64 1)) (.tmp 31), none, 0⟩,
 ⟨some 33, .bin .sub (.tmp 32) (.const (.int .i64 1)), none, 0⟩,
 ⟨some 34, .call k_zz94 [(.tmp 28), (.const (.int .i64 0)), (.tmp 33)], none, 0⟩,
 ⟨some 35, .un .not (.tmp 34), none, 0⟩,
 ⟨some 36, .mv (.tmp 35), none, 0⟩,
 ⟨some 37, .load true 2 (.tmp 1), some (36, false), 0⟩,
 ⟨some 38, .mv (.tmp 3), some (36, false), 0⟩,
 ⟨some 39, .mv (.tmp 3), some (36, false), 0⟩,
 ⟨some 40, .call k_zz88 [(.tmp 37), (.tmp 38), (.tmp 39)], some (36, false), 0⟩,
 ⟨some 41, .pick (.tmp 36) (.const (.bool true)) (.tmp 40), none, 0⟩]) <|
 .cond (.tmp 41)
 (.seq (.ops [
 ⟨some 2, .mv (.const (.bool false)), none, 0⟩]) <|
 .keep [2] <|
 .ret)
 (.skip)) <|
 .ops [
 ⟨some 22, .mv (.tmp 3), none, 0⟩,
 ⟨some 23, .bin .add (.tmp 22) (.const (.int .i64 1)), none, 0⟩,
 ⟨some 3, .mv (.tmp 23), none, 0⟩]
def i_zz95_B2 : FC :=
 .seq (.seq (.ops [
 ⟨some 48, .mv (.tmp 5), none, 0⟩,
 ⟨some 49, .mv (.tmp 4), none, 0⟩,
 ⟨some 50, .bin .lss (.tmp 48) (.tmp 49), none, 0⟩]) <|
 .cond (.tmp 50)
 (.skip)
 (.keep [1, 4] <|
 .exit 4)) <|
 .seq (.block 5 <|
 .seq (.dops [
 ⟨some 53, .load true 2 (.tmp 1), none, 0⟩,
 ⟨some 54, .mv (.tmp 4), none, 0⟩,
 ⟨some 55, .mv (.tmp 5), none, 0⟩,
 ⟨some 56, .call k_zz88 [(.tmp 53), (.tmp 54), (.tmp 55)], none, 0⟩,
 ⟨some 57, .load true 2 (.tmp 1), none, 1⟩,
 ⟨some 58, .mv (.tmp 5), none, 1⟩,
 ⟨some 59, .mv (.tmp 4), none, 1⟩,
 ⟨some 60, .call k_zz88 [(.tmp 57), (.tmp 58), (.tmp 59)], none, 0⟩,
 ⟨some 61, .beq true (.tmp 56) (.tmp 60), none, 0⟩]) <|
 .cond (.tmp 61)
 (.seq (.ops [
 ⟨some 2, .mv (.const (.bool false)), none, 0⟩]) <|
 .keep [2] <|
 .ret)
 (.skip)) <|
 .ops [
 ⟨some 51, .mv (.tmp 5), none, 0⟩,
 ⟨some 52, .bin .add (.tmp 51) (.const (.int .i64 1)), none, 0⟩,
 ⟨some 5, .mv (.tmp 52), none, 0⟩]
def i_zz95_B3 : FC :=
 .seq (.seq (.ops [
 ⟨some 42, .mv (.tmp 4), none, 0⟩,
 ⟨some 43, .fld 0 (.tmp 1), none, 0⟩,
 ⟨some 44, .load false 1 (.tmp 43), none, 0⟩,
 ⟨some 45, .bin .lss (.tmp 42) (.tmp 44), none, 0⟩]) <|
 .cond (.tmp 45)
 (.skip)
 (.keep [] <|
 .exit 2)) <|
 .seq (.block 3 <|
 .seq (.ops [
 ⟨some 5, .mv (.const (.int .i64 0)), none, 0⟩]) <|
 .block 4 <|
 .loop [1, 4, 5] i_zz95_B2) <|
 .ops [
 ⟨some 46, .mv (.tmp 4), none, 0⟩,
 ⟨some 47, .bin .add (.tmp 46) (.const (.int .i64 1)), none, 0⟩,
 ⟨some 4, .mv (.tmp 47), none, 0⟩]
def i_zz95 : FF := ⟨62, [.tmp 2],
 .seq (.ops [
 ⟨some 1, .box 2 (.tmp 0), none, 0⟩,
 ⟨some 2, .mv (.const (.bool false)), none, 0⟩]) <|
 .seq (.seq (.ops [
 ⟨some 6, .fld 0 (.tmp 1), none, 0⟩,
 ⟨some 7, .load false 1 (.tmp 6), none, 0⟩,
 ⟨some 8, .call k_zz94 [(.tmp 7), (.const (.int .i64 1)), (.const (.int .i64 62))], none, 0⟩,
 ⟨some 9, .un .not (.tmp 8), none, 0⟩,
 ⟨some 10, .mv (.tmp 9), none, 0⟩,
 ⟨some 11, .fld 1 (.tmp 1), some (10, false), 0⟩,
 ⟨some 12, .load false 1 (.tmp 11), some (10, false), 0⟩,
 ⟨some 13, .len (.tmp 12), some (10, false), 0⟩,
 ⟨some 14, .fld 0 (.tmp 1), some (10, false), 0⟩,
 ⟨some 15, .load false 1 (.tmp 14), some (10, false), 0⟩,
 ⟨some 16, .bin .neq (.tmp 13) (.tmp 15), some (10, false), 0⟩,
 ⟨some 17, .pick (.tmp 10) (.const (.bool true)) (.tmp 16), none, 0⟩]) <|
 .cond (.tmp 17)
 (.seq (.ops [
 ⟨some 2, .mv (.const (.bool false)), none, 0⟩]) <|
 .keep [2] <|
 .ret)
 (.skip)) <|
 .seq (.seq (.ops [
 ⟨some 3, .mv (.const (.int .i64 0)), none, 0⟩]) <|
 .block 0 <|
 .loop [1, 3] i_zz95_B1) <|
 .seq (.seq (.ops [
 ⟨some 4, .mv (.const (.int .i64 0)), none, 0⟩]) <|
 .block 2 <|
 .loop [1, 4] i_zz95_B3) <|
 .seq (.ops [
 ⟨some 2, .mv (.const (.bool true)), none, 0⟩]) <|
 .keep [2] <|
 .ret⟩
theorem e_zz95 : EntOK Tryz.prog (compD Tryz.prog) k_zz95 i_zz95.vf :=
 ⟨Tryz.f66, Tryz.f66.body.getD .skip, Tryz.func66, by kernel_rfl, by kernel_rfl, by kernel_rfl, by kernel_rfl, by kernel_rfl⟩
/-- loop.example/g01331/spec.l01In -/
def i_zz94 : FF := ⟨15, [.tmp 6],
 .seq (.ops [
 ⟨some 6, .mv (.const (.bool false)), none, 0⟩]) <|
 .seq (.ops [
 ⟨some 7, .mv (.tmp 0), none, 0⟩,
 ⟨some 8, .mv (.tmp 1), none, 0⟩,
 ⟨some 9, .bin .geq (.tmp 7) (.tmp 8), none, 0⟩,
 ⟨some 10, .mv (.tmp 9), none, 0⟩,
 ⟨some 11, .mv (.tmp 0), some (10, true), 0⟩,
 ⟨some 12, .mv (.tmp 2), some (10, true), 0⟩,
 ⟨some 13, .bin .leq (.tmp 11) (.tmp 12), some (10, true), 0⟩,
 ⟨some 14, .pick (.tmp 10) (.tmp 13) (.const (.bool false)), none, 0⟩,
 ⟨some 6, .mv (.tmp 14), none, 0⟩]) <|
 .keep [6] <|
 .ret⟩
theorem e_zz94 : EntOK Tryz.prog (compD Tryz.prog) k_zz94 i_zz94.vf :=
 ⟨Tryz.f67, Tryz.f67.body.getD .skip, Tryz.func67, by kernel_rfl, by kernel_rfl, by kernel_rfl, by kernel_rfl, by kernel_rfl⟩
/-- loop.example/g01331/spec.l07Far -/
def i_zz91_B1 : FC :=
 .seq (.seq (.ops [
 ⟨some 27, .mv (.tmp 11), none, 0⟩,
 ⟨some 28, .fld 0 (.tmp 3), none, 0⟩,
 ⟨some 29, .load false 1 (.tmp 28), none, 0⟩,
 ⟨some 30, .bin .lss (.tmp 27) (.tmp 29), none, 0⟩]) <|
 .cond (.tmp 30)
 (.skip)
 (.keep [2, 3, 7, 9, 10] <|
 .exit 2)) <|
 .seq (.block 3 <|
 .seq (.ops [
 ⟨some 33, .mv (.tmp 8), none, 0⟩,
 ⟨some 34, .mv (.tmp 11), none, 0⟩,
 ⟨some 35, .conv .u64 (.tmp 34), none, 0⟩,
 ⟨some 36, .bin .shr (.tmp 33) (.tmp 35), none, 0⟩,
 ⟨some 37, .bin .and (.tmp 36) (.const (.int .i64 1)), none, 0⟩,
 ⟨some 38, .bin .eql (.tmp 37) (.const (.int .i64 1)), none, 0⟩]) <|
 .cond (.tmp 38)
 (.ops [
 ⟨some 39, .mv (.tmp 10), none, 0⟩,
 ⟨some 40, .fld 1 (.tmp 3), none, 0⟩,
 ⟨some 41, .load false 1 (.tmp 40), none, 0⟩,
 ⟨some 42, .mv (.tmp 11), none, 0⟩,
 ⟨some 43, .idx 1 (.tmp 41) (.tmp 42), none, 0⟩,
 ⟨some 44, .load false 1 (.tmp 43), none, 0⟩,
 ⟨some 45, .bin .or (.tmp 39) (.tmp 44), none, 0⟩,
 ⟨some 10, .mv (.tmp 45), none, 0⟩])
 (.skip)) <|
 .ops [
 ⟨some 31, .mv (.tmp 11), none, 0⟩,
 ⟨some 32, .bin .add (.tmp 31) (.const (.int .i64 1)), none, 0⟩,
 ⟨some 11, .mv (.tmp 32), none, 0⟩]
def i_zz91_B2 : FC :=
 .seq (.seq (.ops [
 ⟨some 18, .mv (.tmp 8), none, 0⟩,
 ⟨some 19, .bin .neq (.tmp 18) (.const (.int .i64 0)), none, 0⟩]) <|
 .cond (.tmp 19)
 (.skip)
 (.keep [] <|
 .exit 0)) <|
 .block 1 <|
 .seq (.seq (.ops [
 ⟨some 20, .mv (.tmp 8), none, 0⟩,
 ⟨some 21, .mv (.tmp 2), none, 0⟩,
 ⟨some 22, .conv .u64 (.tmp 21), none, 0⟩,
 ⟨some 23, .bin .shr (.tmp 20) (.tmp 22), none, 0⟩,
 ⟨some 24, .bin .and (.tmp 23) (.const (.int .i64 1)), none, 0⟩,
 ⟨some 25, .bin .eql (.tmp 24) (.const (.int .i64 1)), none, 0⟩]) <|
 .cond (.tmp 25)
 (.seq (.ops [
 ⟨some 26, .mv (.tmp 9), none, 0⟩,
 ⟨some 6, .mv (.tmp 26), none, 0⟩]) <|
 .keep [6] <|
 .ret)
 (.skip)) <|
 .seq (.ops [
 ⟨some 10, .mv (.const (.int .i64 0)), none, 0⟩]) <|
 .seq (.seq (.ops [
 ⟨some 11, .mv (.const (.int .i64 0)), none, 0⟩]) <|
 .block 2 <|
 .loop [2, 3, 7, 8, 9, 10, 11] i_zz91_B1) <|
 .seq (.ops [
 ⟨some 46, .mv (.tmp 10), none, 0⟩,
 ⟨some 47, .mv (.tmp 10), none, 0⟩,
 ⟨some 48, .mv (.tmp 7), none, 0⟩,
 ⟨some 49, .bin .and (.tmp 47) (.tmp 48), none, 0⟩,
 ⟨some 50, .bin .sub (.tmp 46) (.tmp 49), none, 0⟩,
 ⟨some 8, .mv (.tmp 50), none, 0⟩]) <|
 .seq (.ops [
 ⟨some 51, .mv (.tmp 7), none, 0⟩,
 ⟨some 52, .mv (.tmp 10), none, 0⟩,
 ⟨some 53, .bin .or (.tmp 51) (.tmp 52), none, 0⟩,
 ⟨some 7, .mv (.tmp 53), none, 0⟩]) <|
 .ops [
 ⟨some 54, .mv (.tmp 9), none, 0⟩,
 ⟨some 55, .bin .add (.tmp 54) (.const (.int .i64 1)), none, 0⟩,
 ⟨some 9, .mv (.tmp 55), none, 0⟩]
def i_zz91 : FF := ⟨56, [.tmp 6],
 .seq (.ops [
 ⟨some 3, .box 2 (.tmp 0), none, 0⟩,
 ⟨some 6, .mv (.const (.int .i64 0)), none, 0⟩]) <|
 .seq (.ops [
 ⟨some 12, .mv (.tmp 1), none, 0⟩,
 ⟨some 13, .conv .u64 (.tmp 12), none, 0⟩,
 ⟨some 14, .bin .shl (.const (.int .i64 1)) (.tmp 13), none, 0⟩,
 ⟨some 15, .mv (.tmp 1), none, 0⟩,
 ⟨some 16, .conv .u64 (.tmp 15), none, 0⟩,
 ⟨some 17, .bin .shl (.const (.int .i64 1)) (.tmp 16), none, 0⟩,
 ⟨some 7, .mv (.tmp 14), none, 0⟩,
 ⟨some 8, .mv (.tmp 17), none, 0⟩,
 ⟨some 9, .mv (.const (.int .i64 0)), none, 0⟩]) <|
 .seq (.block 0 <|
 .loop [2, 3, 7, 8, 9] i_zz91_B2) <|
 .seq (.ops [
 ⟨some 6, .mv (.const (.int .i64 (-1))), none, 0⟩]) <|
 .keep [6] <|
 .ret⟩
theorem e_zz91 : EntOK Tryz.prog (compD Tryz.prog) k_zz91 i_zz91.vf :=
 ⟨Tryz.f68, Tryz.f68.body.getD .skip, Tryz.func68, by kernel_rfl, by kernel_rfl, by kernel_rfl, by kernel_rfl, by kernel_rfl⟩
/-- loop.example/g01331/impl.graphCode -/
def i_zz56_B1 : FC :=
 .seq (.ops [
 ⟨some 13, .bin .lss (.tmp 12) (.tmp 11), none, 0⟩]) <|
 .seq (.cond (.tmp 13)
 (.skip)
 (.keep [] <|
 .exit 0)) <|
 .seq (.block 1 <|
 .seq (.ops [
 ⟨some 14, .idx 1 (.tmp 10) (.tmp 12), none, 0⟩,
 ⟨some 15, .load false 1 (.tmp 14), none, 0⟩,
 ⟨some 6, .mv (.tmp 15), none, 0⟩]) <|
 .seq (.ops [
 ⟨some 16, .mv (.tmp 6), none, 0⟩,
 ⟨some 17, .bin .lss (.tmp 16) (.const (.int .i64 0)), none, 0⟩,
 ⟨some 18, .mv (.tmp 17), none, 0⟩,
 ⟨some 19, .mv (.tmp 6), some (18, false), 0⟩,
 ⟨some 20, .fld 0 (.tmp 2), some (18, false), 0⟩,
 ⟨some 21, .load false 1 (.tmp 20), some (18, false), 0⟩,
 ⟨some 22, .bin .geq (.tmp 19) (.tmp 21), some (18, false), 0⟩,
 ⟨some 23, .pick (.tmp 18) (.const (.bool true)) (.tmp 22), none, 0⟩]) <|
 .cond (.tmp 23)
 (.seq (.ops [
 ⟨some 4, .mv (.const (.int .i64 2)), none, 0⟩]) <|
 .keep [4] <|
 .ret)
 (.skip)) <|
 .ops [
 ⟨some 24, .bin .add (.tmp 12) (.const (.int .i64 1)), none, 0⟩,
 ⟨some 12, .mv (.tmp 24), none, 0⟩]
def i_zz56 : FF := ⟨25, [.tmp 4],
 .seq (.ops [
 ⟨some 2, .box 2 (.tmp 0), none, 0⟩,
 ⟨some 4, .mv (.const (.int .i64 0)), none, 0⟩]) <|
 .seq (.seq (.ops [
 ⟨some 7, .load true 2 (.tmp 2), none, 0⟩,
 ⟨some 8, .call k_zz73 [(.tmp 7)], none, 0⟩,
 ⟨some 9, .un .not (.tmp 8), none, 0⟩]) <|
 .cond (.tmp 9)
 (.seq (.ops [
 ⟨some 4, .mv (.const (.int .i64 1)), none, 0⟩]) <|
 .keep [4] <|
 .ret)
 (.skip)) <|
 .seq (.seq (.ops [
 ⟨some 10, .mv (.tmp 1), none, 0⟩,
 ⟨some 11, .len (.tmp 10), none, 0⟩,
 ⟨some 12, .mv (.const (.int .i64 0)), none, 0⟩]) <|
 .block 0 <|
 .loop [2, 10, 11, 12] i_zz56_B1) <|
 .seq (.ops [
 ⟨some 4, .mv (.const (.int .i64 0)), none, 0⟩]) <|
 .keep [4] <|
 .ret⟩
theorem e_zz56 : EntOK Tryz.prog (compD Tryz.prog) k_zz56 i_zz56.vf :=
 ⟨Tryz.f69, Tryz.f69.body.getD .skip, Tryz.func69, by kernel_rfl, by kernel_rfl, by kernel_rfl, by kernel_rfl, by kernel_rfl⟩
def i_zz28 : FF := ⟨12, [.cell 4 true 2],
 .seq (.ops [
 ⟨some 2, .box 2 (.tmp 0), none, 0⟩,
 ⟨some 3, .box 1 (.tmp 1), none, 0⟩,
 ⟨some 4, .alloc [.int .i64 0, .slice none 0 0], none, 0⟩]) <|
 .seq (.dops [
 ⟨some 6, .fld 0 (.tmp 2), none, 0⟩,
 ⟨some 7, .load false 1 (.tmp 6), none, 0⟩,
 ⟨some 8, .call k_zz62 [(.tmp 7)], none, 0⟩,
 ⟨some 9, .mkfn k_zz23 [] [(.tmp 3)], none, 1⟩,
 ⟨some 10, .call k_zz7 [(.tmp 8), (.tmp 9)], none, 0⟩,
 ⟨some 5, .load true 2 (.tmp 2), none, 2⟩,
 ⟨some 11, .call k_zz34 [(.tmp 5), (.tmp 10)], none, 0⟩,
 ⟨none, .store 2 (.tmp 4) (.tmp 11), none, 0⟩]) <|
 .keep [4] <|
 .ret⟩
theorem e_zz28 : EntOK Tryz.prog (compD Tryz.prog) k_zz28 i_zz28.vf :=
 ⟨Tryz.f70, Tryz.f70.body.getD .skip, Tryz.func70, by kernel_rfl, by kernel_rfl, by kernel_rfl, by kernel_rfl, by kernel_rfl⟩
/-- loop.example/g01331/spec.l01Next -/
def i_zz81 : FF := ⟨58, [.tmp 4],
 .seq (.ops [
 ⟨some 4, .mv (.const (.int .i64 0)), none, 0⟩]) <|
 .seq (.seq (.ops [
 ⟨some 6, .mv (.tmp 1), none, 0⟩,
 ⟨some 7, .bin .lss (.tmp 6) (.const (.int .i64 1)), none, 0⟩]) <|
 .cond (.tmp 7)
 (.seq (.ops [
 ⟨some 4, .mv (.const (.int .i64 0)), none, 0⟩]) <|
 .keep [4] <|
 .ret)
 (.skip)) <|
 .seq (.ops [
 ⟨some 8, .mv (.tmp 0), none, 0⟩,
 ⟨some 9, .mv (.tmp 0), none, 0⟩,
 ⟨some 10, .nilchk (.tmp 9), none, 0⟩,
 ⟨some 11, .fld 2 (.tmp 10), none, 0⟩,
 ⟨some 12, .load false 1 (.tmp 11), none, 0⟩,
 ⟨some 13, .bin .mul (.tmp 12) (.const (.int .u64 6364136223846793005)), none, 0⟩,
 ⟨some 14, .bin .add (.tmp 13) (.const (.int .u64 1442695040888963407)), none, 0⟩,
 ⟨some 15, .nilchk (.tmp 8), none, 0⟩,
 ⟨some 16, .fld 2 (.tmp 15), none, 0⟩,
 ⟨none, .store 1 (.tmp 16) (.tmp 14), none, 0⟩]) <|
 .seq (.ops [
 ⟨some 17, .mv (.tmp 0), none, 0⟩,
 ⟨some 18, .nilchk (.tmp 17), none, 0⟩,
 ⟨some 19, .fld 2 (.tmp 18), none, 0⟩,
 ⟨some 20, .load false 1 (.tmp 19), none, 0⟩,
 ⟨some 21, .bin .shr (.tmp 20) (.const (.int .u64 33)), none, 0⟩,
 ⟨some 22, .bin .and (.tmp 21) (.const (.int .u64 16777215)), none, 0⟩,
 ⟨some 23, .conv .i64 (.tmp 22), none, 0⟩,
 ⟨some 5, .mv (.tmp 23), none, 0⟩]) <|
 .seq (.seq (.dops [
 ⟨some 24, .mv (.tmp 0), none, 0⟩,
 ⟨some 25, .nilchk (.tmp 24), none, 0⟩,
 ⟨some 26, .fld 1 (.tmp 25), none, 0⟩,
 ⟨some 27, .load false 1 (.tmp 26), none, 0⟩,
 ⟨some 28, .mv (.tmp 0), none, 0⟩,
 ⟨some 29, .nilchk (.tmp 28), none, 0⟩,
 ⟨some 30, .fld 0 (.tmp 29), none, 0⟩,
 ⟨some 31, .load false 1 (.tmp 30), none, 0⟩,
 ⟨some 32, .len (.tmp 31), none, 0⟩,
 ⟨some 33, .bin .lss (.tmp 27) (.tmp 32), none, 0⟩]) <|
 .cond (.tmp 33)
 (.seq (.dops [
 ⟨some 34, .mv (.tmp 5), none, 0⟩,
 ⟨some 35, .mv (.tmp 0), none, 0⟩,
 ⟨some 36, .nilchk (.tmp 35), none, 0⟩,
 ⟨some 37, .fld 0 (.tmp 36), none, 0⟩,
 ⟨some 38, .load false 1 (.tmp 37), none, 0⟩,
 ⟨some 39, .mv (.tmp 0), none, 0⟩,
 ⟨some 40, .nilchk (.tmp 39), none, 0⟩,
 ⟨some 41, .fld 1 (.tmp 40), none, 0⟩,
 ⟨some 42, .load false 1 (.tmp 41), none, 0⟩,
 ⟨some 43, .idx 1 (.tmp 38) (.tmp 42), none, 0⟩,
 ⟨some 44, .load false 1 (.tmp 43), none, 0⟩,
 ⟨some 45, .conv .i64 (.tmp 44), none, 0⟩,
 ⟨some 46, .bin .add (.tmp 34) (.tmp 45), none, 0⟩,
 ⟨some 5, .mv (.tmp 46), none, 0⟩]) <|
 .ops [
 ⟨some 47, .mv (.tmp 0), none, 0⟩,
 ⟨some 48, .mv (.tmp 0), none, 0⟩,
 ⟨some 49, .nilchk (.tmp 48), none, 0⟩,
 ⟨some 50, .fld 1 (.tmp 49), none, 0⟩,
 ⟨some 51, .load false 1 (.tmp 50), none, 0⟩,
 ⟨some 52, .bin .add (.tmp 51) (.const (.int .i64 1)), none, 0⟩,
 ⟨some 53, .nilchk (.tmp 47), none, 0⟩,
 ⟨some 54, .fld 1 (.tmp 53), none, 0⟩,
 ⟨none, .store 1 (.tmp 54) (.tmp 52), none, 0⟩])
 (.skip)) <|
 .seq (.ops [
 ⟨some 55, .mv (.tmp 5), none, 0⟩,
 ⟨some 56, .mv (.tmp 1), none, 0⟩,
 ⟨some 57, .bin .rem (.tmp 55) (.tmp 56), none, 0⟩,
 ⟨some 4, .mv (.tmp 57), none, 0⟩]) <|
 .keep [4] <|
 .ret⟩
theorem e_zz81 : EntOK Tryz.prog (compD Tryz.prog) k_zz81 i_zz81.vf :=
 ⟨Tryz.f71, Tryz.f71.body.getD .skip, Tryz.func71, by kernel_rfl, by kernel_rfl, by kernel_rfl, by kernel_rfl, by kernel_rfl⟩
/-- loop.example/g01331/impl.made -/
def i_zz97_B1 : FC :=
 .seq (.seq (.ops [
 ⟨some 16, .mv (.tmp 7), none, 0⟩,
 ⟨some 17, .mv (.tmp 0), none, 0⟩,
 ⟨some 18, .bin .lss (.tmp 16) (.tmp 17), none, 0⟩]) <|
 .cond (.tmp 18)
 (.skip)
 (.keep [0, 1, 4, 5, 10, 11] <|
 .exit 2)) <|
 .seq (.block 3 <|
 .seq (.ops [
 ⟨some 21, .mv (.tmp 1), none, 0⟩,
 ⟨some 22, .mv (.tmp 6), none, 0⟩,
 ⟨some 23, .mv (.tmp 7), none, 0⟩,
 ⟨some 24, .callv (.tmp 21) [(.tmp 22), (.tmp 23)], none, 0⟩]) <|
 .cond (.tmp 24)
 (.ops [
 ⟨some 25, .load true 2 (.tmp 5), none, 0⟩,
 ⟨some 26, .mv (.tmp 6), none, 0⟩,
 ⟨some 27, .mv (.tmp 7), none, 0⟩,
 ⟨some 28, .call k_zz53 [(.tmp 25), (.tmp 26), (.tmp 27)], none, 0⟩])
 (.skip)) <|
 .ops [
 ⟨some 19, .mv (.tmp 7), none, 0⟩,
 ⟨some 20, .bin .add (.tmp 19) (.const (.int .i64 1)), none, 0⟩,
 ⟨some 7, .mv (.tmp 20), none, 0⟩]
def i_zz97_B2 : FC :=
 .seq (.ops [
 ⟨some 12, .bin .lss (.tmp 11) (.tmp 10), none, 0⟩]) <|
 .seq (.cond (.tmp 12)
 (.skip)
 (.keep [4, 5] <|
 .exit 0)) <|
 .seq (.block 1 <|
 .seq (.ops [
 ⟨some 13, .mv (.tmp 11), none, 0⟩,
 ⟨some 6, .mv (.tmp 13), none, 0⟩]) <|
 .seq (.ops [
 ⟨some 14, .mv (.tmp 6), none, 0⟩,
 ⟨some 15, .bin .add (.tmp 14) (.const (.int .i64 1)), none, 0⟩,
 ⟨some 7, .mv (.tmp 15), none, 0⟩]) <|
 .block 2 <|
 .loop [0, 1, 4, 5, 6, 7, 10, 11] i_zz97_B1) <|
 .ops [
 ⟨some 29, .bin .add (.tmp 11) (.const (.int .i64 1)), none, 0⟩,
 ⟨some 11, .mv (.tmp 29), none, 0⟩]
def i_zz97 : FF := ⟨31, [.cell 4 true 2],
 .seq (.ops [
 ⟨some 4, .alloc [.int .i64 0, .slice none 0 0], none, 0⟩]) <|
 .seq (.ops [
 ⟨some 8, .mv (.tmp 0), none, 0⟩,
 ⟨some 9, .call k_zz93 [(.tmp 8)], none, 0⟩,
 ⟨some 5, .alloc [.int .i64 0, .slice none 0 0], none, 0⟩,
 ⟨none, .store 2 (.tmp 5) (.tmp 9), none, 0⟩]) <|
 .seq (.seq (.ops [
 ⟨some 10, .mv (.tmp 0), none, 0⟩,
 ⟨some 11, .mv (.const (.int .i64 0)), none, 0⟩]) <|
 .block 0 <|
 .loop [0, 1, 4, 5, 10, 11] i_zz97_B2) <|
 .seq (.ops [
 ⟨some 30, .load true 2 (.tmp 5), none, 0⟩,
 ⟨none, .store 2 (.tmp 4) (.tmp 30), none, 0⟩]) <|
 .keep [4] <|
 .ret⟩
theorem e_zz97 : EntOK Tryz.prog (compD Tryz.prog) k_zz97 i_zz97.vf :=
 ⟨Tryz.f75, Tryz.f75.body.getD .skip, Tryz.func75, by kernel_rfl, by kernel_rfl, by kernel_rfl, by kernel_rfl, by kernel_rfl⟩
/-- loop.example/g01331/impl.size -/
def i_zz98 : FF := ⟨6, [.tmp 2],
 .seq (.ops [
 ⟨some 2, .mv (.const (.int .i64 0)), none, 0⟩]) <|
 .seq (.ops [
 ⟨some 3, .mv (.tmp 0), none, 0⟩,
 ⟨some 4, .conv .u64 (.tmp 3), none, 0⟩,
 ⟨some 5, .call k_zz19 [(.tmp 4)], none, 0⟩,
 ⟨some 2, .mv (.tmp 5), none, 0⟩]) <|
 .keep [2] <|
 .ret⟩
theorem e_zz98 : EntOK Tryz.prog (compD Tryz.prog) k_zz98 i_zz98.vf :=
 ⟨Tryz.f82, Tryz.f82.body.getD .skip, Tryz.func82, by kernel_rfl, by kernel_rfl, by kernel_rfl, by kernel_rfl, by kernel_rfl⟩
/-- loop.example/g01331/impl.list -/
def i_zz96_B1 : FC :=
 .seq (.seq (.ops [
 ⟨some 5, .mv (.tmp 0), none, 0⟩,
 ⟨some 6, .bin .neq (.tmp 5) (.const (.int .i64 0)), none, 0⟩]) <|
 .cond (.tmp 6)
 (.skip)
 (.keep [3] <|
 .exit 0)) <|
 .seq (.block 1 <|
 .ops [
 ⟨some 11, .mv (.tmp 3), none, 0⟩,
 ⟨some 12, .mv (.tmp 0), none, 0⟩,
 ⟨some 13, .conv .u64 (.tmp 12), none, 0⟩,
 ⟨some 14, .call k_math_bits_TrailingZeros64 [(.tmp 13)], none, 0⟩,
 ⟨some 15, .buildSl 1 [.int .i64 0] [(0, 1, (.tmp 14))] 1, none, 0⟩,
 ⟨some 16, .app 1 8 [.int .i64 0] (.tmp 11) (.tmp 15), none, 0⟩,
 ⟨some 3, .mv (.tmp 16), none, 0⟩]) <|
 .ops [
 ⟨some 7, .mv (.tmp 0), none, 0⟩,
 ⟨some 8, .mv (.tmp 0), none, 0⟩,
 ⟨some 9, .bin .sub (.tmp 8) (.const (.int .i64 1)), none, 0⟩,
 ⟨some 10, .bin .and (.tmp 7) (.tmp 9), none, 0⟩,
 ⟨some 0, .mv (.tmp 10), none, 0⟩]
def i_zz96 : FF := ⟨18, [.tmp 2],
 .seq (.ops [
 ⟨some 2, .mv (.const (.slice none 0 0)), none, 0⟩]) <|
 .seq (.ops [
 ⟨some 4, .buildSl 1 [] [] 0, none, 0⟩,
 ⟨some 3, .mv (.tmp 4), none, 0⟩]) <|
 .seq (.block 0 <|
 .loop [0, 3] i_zz96_B1) <|
 .seq (.ops [
 ⟨some 17, .mv (.tmp 3), none, 0⟩,
 ⟨some 2, .mv (.tmp 17), none, 0⟩]) <|
 .keep [2] <|
 .ret⟩
theorem e_zz96 : EntOK Tryz.prog (compD Tryz.prog) k_zz96 i_zz96.vf :=
 ⟨Tryz.f86, Tryz.f86.body.getD .skip, Tryz.func86, by kernel_rfl, by kernel_rfl, by kernel_rfl, by kernel_rfl, by kernel_rfl⟩
/-- loop.example/g01331/spec.l01Small -/
def i_zz71 : FF := ⟨8, [.cell 2 true 2],
 .seq (.ops [
 ⟨some 2, .alloc [.int .i64 0, .slice none 0 0], none, 0⟩]) <|
 .seq (.ops [
 ⟨some 3, .mv (.tmp 0), none, 0⟩,
 ⟨some 4, .mv (.tmp 0), none, 0⟩,
 ⟨some 5, .call k_zz81 [(.tmp 4), (.const (.int .i64 8))], none, 0⟩,
 ⟨some 6, .bin .add (.const (.int .i64 1)) (.tmp 5), none, 0⟩,
 ⟨some 7, .call k_zz60 [(.tmp 3), (.tmp 6)], none, 0⟩,
 ⟨none, .store 2 (.tmp 2) (.tmp 7), none, 0⟩]) <|
 .keep [2] <|
 .ret⟩
theorem e_zz71 : EntOK Tryz.prog (compD Tryz.prog) k_zz71 i_zz71.vf :=
 ⟨Tryz.f90, Tryz.f90.body.getD .skip, Tryz.func90, by kernel_rfl, by kernel_rfl, by kernel_rfl, by kernel_rfl, by kernel_rfl⟩
/-- loop.example/g01331/spec.l01Draw -/
def i_zz78 : FF := ⟨21, [.cell 2 true 2],
 .seq (.ops [
 ⟨some 2, .alloc [.int .i64 0, .slice none 0 0], none, 0⟩]) <|
 .seq (.seq (.ops [
 ⟨some 3, .mv (.tmp 0), none, 0⟩,
 ⟨some 4, .call k_zz81 [(.tmp 3), (.const (.int .i64 4))], none, 0⟩]) <|
 .block 0 <|
 .seq (.ops [
 ⟨some 6, .bin .eql (.tmp 4) (.const (.int .i64 0)), none, 0⟩,
 ⟨some 5, .mv (.tmp 6), none, 0⟩]) <|
 .cond (.tmp 5)
 (.seq (.ops [
 ⟨some 7, .mv (.tmp 0), none, 0⟩,
 ⟨some 8, .call k_zz25 [(.tmp 7)], none, 0⟩,
 ⟨none, .store 2 (.tmp 2) (.tmp 8), none, 0⟩]) <|
 .keep [2] <|
 .ret)
 (.seq (.ops [
 ⟨some 10, .bin .eql (.tmp 4) (.const (.int .i64 1)), none, 0⟩,
 ⟨some 9, .mv (.tmp 10), none, 0⟩]) <|
 .cond (.tmp 9)
 (.seq (.ops [
 ⟨some 11, .mv (.tmp 0), none, 0⟩,
 ⟨some 12, .mv (.tmp 0), none, 0⟩,
 ⟨some 13, .buildSl 1 [.int .i64 0, .int .i64 0, .int .i64 0, .int .i64 0, .int .i64 0, .int .i64 0] [(0, 1, (.const (.int .i64 1))), (1, 1, (.const (.int .i64 10))), (2, 1, (.const (.int .i64 20))), (3, 1, (.const (.int .i64 40))), (4, 1, (.const (.int .i64 61))), (5, 1, (.const (.int .i64 62)))] 6, none, 0⟩,
 ⟨some 14, .call k_zz82 [(.tmp 12), (.tmp 13)], none, 0⟩,
 ⟨some 15, .call k_zz60 [(.tmp 11), (.tmp 14)], none, 0⟩,
 ⟨none, .store 2 (.tmp 2) (.tmp 15), none, 0⟩]) <|
 .keep [2] <|
 .ret)
 (.skip))) <|
 .seq (.ops [
 ⟨some 16, .mv (.tmp 0), none, 0⟩,
 ⟨some 17, .mv (.tmp 0), none, 0⟩,
 ⟨some 18, .call k_zz81 [(.tmp 17), (.const (.int .i64 14))], none, 0⟩,
 ⟨some 19, .bin .add (.const (.int .i64 1)) (.tmp 18), none, 0⟩,
 ⟨some 20, .call k_zz60 [(.tmp 16), (.tmp 19)], none, 0⟩,
 ⟨none, .store 2 (.tmp 2) (.tmp 20), none, 0⟩]) <|
 .keep [2] <|
 .ret⟩
theorem e_zz78 : EntOK Tryz.prog (compD Tryz.prog) k_zz78 i_zz78.vf :=
 ⟨Tryz.f95, Tryz.f95.body.getD .skip, Tryz.func95, by kernel_rfl, by kernel_rfl, by kernel_rfl, by kernel_rfl, by kernel_rfl⟩
/-- loop.example/g01331/spec.l01Bad -/
def i_zz87 : FF := ⟨46, [.cell 4 true 2],
 .seq (.ops [
 ⟨some 3, .box 2 (.tmp 1), none, 0⟩,
 ⟨some 4, .alloc [.int .i64 0, .slice none 0 0], none, 0⟩]) <|
 .seq (.ops [
 ⟨some 6, .fld 1 (.tmp 3), none, 0⟩,
 ⟨some 7, .load false 1 (.tmp 6), none, 0⟩,
 ⟨some 8, .call k_zz89 [(.tmp 7)], none, 0⟩,
 ⟨some 5, .mv (.tmp 8), none, 0⟩]) <|
 .seq (.seq (.ops [
 ⟨some 9, .mv (.tmp 0), none, 0⟩,
 ⟨some 10, .call k_zz81 [(.tmp 9), (.const (.int .i64 50))], none, 0⟩]) <|
 .block 0 <|
 .seq (.ops [
 ⟨some 13, .bin .eql (.tmp 10) (.const (.int .i64 0)), none, 0⟩,
 ⟨some 12, .mv (.tmp 13), none, 0⟩]) <|
 .cond (.tmp 12)
 (.seq (.ops [
 ⟨some 14, .mv (.tmp 0), none, 0⟩,
 ⟨some 15, .fld 0 (.tmp 3), none, 0⟩,
 ⟨some 16, .load false 1 (.tmp 15), none, 0⟩,
 ⟨some 17, .bin .add (.tmp 16) (.const (.int .i64 1)), none, 0⟩,
 ⟨some 18, .buildSl 1 [.int .i64 0, .int .i64 0, .int .i64 0, .int .i64 0] [(0, 1, (.const (.int .i64 0))), (1, 1, (.const (.int .i64 63))), (2, 1, (.const (.int .i64 (-1)))), (3, 1, (.tmp 17))] 4, none, 0⟩,
 ⟨some 19, .call k_zz82 [(.tmp 14), (.tmp 18)], none, 0⟩,
 ⟨some 20, .mv (.tmp 5), none, 0⟩,
 ⟨some 21, .build [.int .i64 0, .slice none 0 0] [(0, 1, (.tmp 19)), (1, 1, (.tmp 20))], none, 0⟩,
 ⟨none, .store 2 (.tmp 4) (.tmp 21), none, 0⟩]) <|
 .keep [4] <|
 .ret)
 (.seq (.ops [
 ⟨some 23, .bin .eql (.tmp 10) (.const (.int .i64 1)), none, 0⟩,
 ⟨some 22, .mv (.tmp 23), none, 0⟩]) <|
 .cond (.tmp 22)
 (.dops [
 ⟨some 25, .mv (.tmp 0), none, 0⟩,
 ⟨some 26, .fld 0 (.tmp 3), none, 0⟩,
 ⟨some 27, .load false 1 (.tmp 26), none, 0⟩,
 ⟨some 28, .call k_zz81 [(.tmp 25), (.tmp 27)], none, 0⟩,
 ⟨some 29, .mv (.tmp 0), none, 1⟩,
 ⟨some 30, .fld 0 (.tmp 3), none, 1⟩,
 ⟨some 31, .load false 1 (.tmp 30), none, 1⟩,
 ⟨some 32, .conv .u64 (.tmp 31), none, 1⟩,
 ⟨some 33, .bin .shl (.const (.int .i64 1)) (.tmp 32), none, 1⟩,
 ⟨some 34, .buildSl 1 [.int .i64 0, .int .i64 0, .int .i64 0, .int .i64 0, .int .i64 0] [(0, 1, (.const (.int .i64 (-1)))), (1, 1, (.const (.int .i64 1))), (2, 1, (.const (.int .i64 2))), (3, 1, (.const (.int .i64 4611686018427387904))), (4, 1, (.tmp 33))] 5, none, 1⟩,
 ⟨some 35, .call k_zz82 [(.tmp 29), (.tmp 34)], none, 1⟩,
 ⟨some 24, .mv (.tmp 5), none, 3⟩,
 ⟨some 36, .idx 1 (.tmp 24) (.tmp 28), none, 1⟩,
 ⟨none, .store 1 (.tmp 36) (.tmp 35), none, 1⟩])
 (.seq (.ops [
 ⟨some 38, .bin .eql (.tmp 10) (.const (.int .i64 2)), none, 0⟩,
 ⟨some 37, .mv (.tmp 38), none, 0⟩]) <|
 .cond (.tmp 37)
 (.ops [
 ⟨some 39, .mv (.tmp 5), none, 0⟩,
 ⟨some 40, .buildSl 1 [.int .i64 0] [(0, 1, (.const (.int .i64 0)))] 1, none, 0⟩,
 ⟨some 41, .app 1 8 [.int .i64 0] (.tmp 39) (.tmp 40), none, 0⟩,
 ⟨some 5, .mv (.tmp 41), none, 0⟩])
 (.seq (.ops [
 ⟨some 11, .load true 2 (.tmp 3), none, 0⟩,
 ⟨none, .store 2 (.tmp 4) (.tmp 11), none, 0⟩]) <|
 .keep [4] <|
 .ret)))) <|
 .seq (.ops [
 ⟨some 42, .fld 0 (.tmp 3), none, 0⟩,
 ⟨some 43, .load false 1 (.tmp 42), none, 0⟩,
 ⟨some 44, .mv (.tmp 5), none, 0⟩,
 ⟨some 45, .build [.int .i64 0, .slice none 0 0] [(0, 1, (.tmp 43)), (1, 1, (.tmp 44))], none, 0⟩,
 ⟨none, .store 2 (.tmp 4) (.tmp 45), none, 0⟩]) <|
 .keep [4] <|
 .ret⟩
theorem e_zz87 : EntOK Tryz.prog (compD Tryz.prog) k_zz87 i_zz87.vf :=
 ⟨Tryz.f96, Tryz.f96.body.getD .skip, Tryz.func96, by kernel_rfl, by kernel_rfl, by kernel_rfl, by kernel_rfl, by kernel_rfl⟩
/-- loop.example/g01331/impl.areGraphs -/
def i_zz55_B1 : FC :=
 .seq (.ops [
 ⟨some 8, .bin .lss (.tmp 7) (.tmp 6), none, 0⟩]) <|
 .seq (.cond (.tmp 8)
 (.skip)
 (.keep [] <|
 .exit 0)) <|
 .seq (.block 1 <|
 .seq (.ops [
 ⟨some 9, .idx 2 (.tmp 5) (.tmp 7), none, 0⟩,
 ⟨some 10, .load true 2 (.tmp 9), none, 0⟩,
 ⟨some 4, .alloc [.int .i64 0, .slice none 0 0], none, 0⟩,
 ⟨none, .store 2 (.tmp 4) (.tmp 10), none, 0⟩]) <|
 .seq (.ops [
 ⟨some 11, .load true 2 (.tmp 4), none, 0⟩,
 ⟨some 12, .call k_zz73 [(.tmp 11)], none, 0⟩,
 ⟨some 13, .un .not (.tmp 12), none, 0⟩]) <|
 .cond (.tmp 13)
 (.seq (.ops [
 ⟨some 2, .mv (.const (.bool false)), none, 0⟩]) <|
 .keep [2] <|
 .ret)
 (.skip)) <|
 .ops [
 ⟨some 14, .bin .add (.tmp 7) (.const (.int .i64 1)), none, 0⟩,
 ⟨some 7, .mv (.tmp 14), none, 0⟩]
def i_zz55 : FF := ⟨15, [.tmp 2],
 .seq (.ops [
 ⟨some 2, .mv (.const (.bool false)), none, 0⟩]) <|
 .seq (.seq (.ops [
 ⟨some 5, .mv (.tmp 0), none, 0⟩,
 ⟨some 6, .len (.tmp 5), none, 0⟩,
 ⟨some 7, .mv (.const (.int .i64 0)), none, 0⟩]) <|
 .block 0 <|
 .loop [5, 6, 7] i_zz55_B1) <|
 .seq (.ops [
 ⟨some 2, .mv (.const (.bool true)), none, 0⟩]) <|
 .keep [2] <|
 .ret⟩
theorem e_zz55 : EntOK Tryz.prog (compD Tryz.prog) k_zz55 i_zz55.vf :=
 ⟨Tryz.f97, Tryz.f97.body.getD .skip, Tryz.func97, by kernel_rfl, by kernel_rfl, by kernel_rfl, by kernel_rfl, by kernel_rfl⟩
/-- loop.example/g01331/impl.product$1 -/
def i_zz57 : FF := ⟨21, [.tmp 6],
 .seq (.ops [
 ⟨some 6, .mv (.const (.bool false)), none, 0⟩]) <|
 .seq (.dops [
 ⟨some 7, .load false 1 (.tmp 2), none, 0⟩,
 ⟨some 8, .mv (.tmp 0), none, 0⟩,
 ⟨some 9, .load false 1 (.tmp 3), none, 0⟩,
 ⟨some 10, .bin .quo (.tmp 8) (.tmp 9), none, 0⟩,
 ⟨some 11, .mv (.tmp 0), none, 0⟩,
 ⟨some 12, .load false 1 (.tmp 3), none, 0⟩,
 ⟨some 13, .bin .rem (.tmp 11) (.tmp 12), none, 0⟩,
 ⟨some 14, .mv (.tmp 1), none, 0⟩,
 ⟨some 15, .load false 1 (.tmp 3), none, 0⟩,
 ⟨some 16, .bin .quo (.tmp 14) (.tmp 15), none, 0⟩,
 ⟨some 17, .mv (.tmp 1), none, 0⟩,
 ⟨some 18, .load false 1 (.tmp 3), none, 0⟩,
 ⟨some 19, .bin .rem (.tmp 17) (.tmp 18), none, 0⟩,
 ⟨some 20, .callv (.tmp 7) [(.tmp 10), (.tmp 13), (.tmp 16), (.tmp 19)], none, 0⟩,
 ⟨some 6, .mv (.tmp 20), none, 0⟩]) <|
 .keep [6] <|
 .ret⟩
theorem e_zz57 : EntOK Tryz.prog (compD Tryz.prog) k_zz57 i_zz57.vf :=
 ⟨Tryz.f98, Tryz.f98.body.getD .skip, Tryz.func98, by kernel_rfl, by kernel_rfl, by kernel_rfl, by kernel_rfl, by kernel_rfl⟩
/-- loop.example/g01331/spec.l01Edges -/
def i_zz66_B1 : FC :=
 .seq (.seq (.ops [
 ⟨some 15, .mv (.tmp 5), none, 0⟩,
 ⟨some 16, .fld 0 (.tmp 1), none, 0⟩,
 ⟨some 17, .load false 1 (.tmp 16), none, 0⟩,
 ⟨some 18, .bin .lss (.tmp 15) (.tmp 17), none, 0⟩]) <|
 .cond (.tmp 18)
 (.skip)
 (.keep [1, 3, 4] <|
 .exit 2)) <|
 .seq (.block 3 <|
 .seq (.ops [
 ⟨some 21, .load true 2 (.tmp 1), none, 0⟩,
 ⟨some 22, .mv (.tmp 4), none, 0⟩,
 ⟨some 23, .mv (.tmp 5), none, 0⟩,
 ⟨some 24, .call k_zz88 [(.tmp 21), (.tmp 22), (.tmp 23)], none, 0⟩]) <|
 .cond (.tmp 24)
 (.ops [
 ⟨some 25, .mv (.tmp 3), none, 0⟩,
 ⟨some 26, .mv (.tmp 4), none, 0⟩,
 ⟨some 27, .mv (.tmp 5), none, 0⟩,
 ⟨some 28, .buildSl 1 [.int .i64 0, .int .i64 0] [(0, 1, (.tmp 26)), (1, 1, (.tmp 27))] 2, none, 0⟩,
 ⟨some 29, .buildSl 1 [.slice none 0 0] [(0, 1, (.tmp 28))] 1, none, 0⟩,
 ⟨some 30, .app 1 24 [.slice none 0 0] (.tmp 25) (.tmp 29), none, 0⟩,
 ⟨some 3, .mv (.tmp 30), none, 0⟩])
 (.skip)) <|
 .ops [
 ⟨some 19, .mv (.tmp 5), none, 0⟩,
 ⟨some 20, .bin .add (.tmp 19) (.const (.int .i64 1)), none, 0⟩,
 ⟨some 5, .mv (.tmp 20), none, 0⟩]
def i_zz66_B2 : FC :=
 .seq (.seq (.ops [
 ⟨some 7, .mv (.tmp 4), none, 0⟩,
 ⟨some 8, .fld 0 (.tmp 1), none, 0⟩,
 ⟨some 9, .load false 1 (.tmp 8), none, 0⟩,
 ⟨some 10, .bin .lss (.tmp 7) (.tmp 9), none, 0⟩]) <|
 .cond (.tmp 10)
 (.skip)
 (.keep [3] <|
 .exit 0)) <|
 .seq (.block 1 <|
 .seq (.ops [
 ⟨some 13, .mv (.tmp 4), none, 0⟩,
 ⟨some 14, .bin .add (.tmp 13) (.const (.int .i64 1)), none, 0⟩,
 ⟨some 5, .mv (.tmp 14), none, 0⟩]) <|
 .block 2 <|
 .loop [1, 3, 4, 5] i_zz66_B1) <|
 .ops [
 ⟨some 11, .mv (.tmp 4), none, 0⟩,
 ⟨some 12, .bin .add (.tmp 11) (.const (.int .i64 1)), none, 0⟩,
 ⟨some 4, .mv (.tmp 12), none, 0⟩]
def i_zz66 : FF := ⟨32, [.tmp 2],
 .seq (.ops [
 ⟨some 1, .box 2 (.tmp 0), none, 0⟩,
 ⟨some 2, .mv (.const (.slice none 0 0)), none, 0⟩]) <|
 .seq (.ops [
 ⟨some 6, .buildSl 1 [] [] 0, none, 0⟩,
 ⟨some 3, .mv (.tmp 6), none, 0⟩]) <|
 .seq (.seq (.ops [
 ⟨some 4, .mv (.const (.int .i64 0)), none, 0⟩]) <|
 .block 0 <|
 .loop [1, 3, 4] i_zz66_B2) <|
 .seq (.ops [
 ⟨some 31, .mv (.tmp 3), none, 0⟩,
 ⟨some 2, .mv (.tmp 31), none, 0⟩]) <|
 .keep [2] <|
 .ret⟩
theorem e_zz66 : EntOK Tryz.prog (compD Tryz.prog) k_zz66 i_zz66.vf :=
 ⟨Tryz.f99, Tryz.f99.body.getD .skip, Tryz.func99, by kernel_rfl, by kernel_rfl, by kernel_rfl, by kernel_rfl, by kernel_rfl⟩
/-- slices.pdqsortOrdered[int64] -/
def i_zz12_B1 : FC :=
 .block 1 <|
 .seq (.ops [
 ⟨some 19, .mv (.tmp 2), none, 0⟩,
 ⟨some 20, .mv (.tmp 1), none, 0⟩,
 ⟨some 21, .bin .sub (.tmp 19) (.tmp 20), none, 0⟩,
 ⟨some 10, .mv (.tmp 21), none, 0⟩]) <|
 .seq (.seq (.ops [
 ⟨some 22, .mv (.tmp 10), none, 0⟩,
 ⟨some 23, .bin .leq (.tmp 22) (.const (.int .i64 12)), none, 0⟩]) <|
 .cond (.tmp 23)
 (.seq (.ops [
 ⟨some 24, .mv (.tmp 0), none, 0⟩,
 ⟨some 25, .mv (.tmp 1), none, 0⟩,
 ⟨some 26, .mv (.tmp 2), none, 0⟩,
 ⟨some 27, .call k_zz4 [(.tmp 24), (.tmp 25), (.tmp 26)], none, 0⟩]) <|
 .keep [] <|
 .ret)
 (.skip)) <|
 .seq (.seq (.ops [
 ⟨some 28, .mv (.tmp 3), none, 0⟩,
 ⟨some 29, .bin .eql (.tmp 28) (.const (.int .i64 0)), none, 0⟩]) <|
 .cond (.tmp 29)
 (.seq (.ops [
 ⟨some 30, .mv (.tmp 0), none, 0⟩,
 ⟨some 31, .mv (.tmp 1), none, 0⟩,
 ⟨some 32, .mv (.tmp 2), none, 0⟩,
 ⟨some 33, .call k_zz10 [(.tmp 30), (.tmp 31), (.tmp 32)], none, 0⟩]) <|
 .keep [] <|
 .ret)
 (.skip)) <|
 .seq (.seq (.ops [
 ⟨some 34, .mv (.tmp 8), none, 0⟩,
 ⟨some 35, .un .not (.tmp 34), none, 0⟩]) <|
 .cond (.tmp 35)
 (.seq (.ops [
 ⟨some 36, .mv (.tmp 0), none, 0⟩,
 ⟨some 37, .mv (.tmp 1), none, 0⟩,
 ⟨some 38, .mv (.tmp 2), none, 0⟩,
 ⟨some 39, .call k_zz3 [(.tmp 36), (.tmp 37), (.tmp 38)], none, 0⟩]) <|
 .ops [
 ⟨some 40, .mv (.tmp 3), none, 0⟩,
 ⟨some 41, .bin .sub (.tmp 40) (.const (.int .i64 1)), none, 0⟩,
 ⟨some 3, .mv (.tmp 41), none, 0⟩])
 (.skip)) <|
 .seq (.ops [
 ⟨some 43, .mv (.tmp 0), none, 0⟩,
 ⟨some 44, .mv (.tmp 1), none, 0⟩,
 ⟨some 45, .mv (.tmp 2), none, 0⟩,
 ⟨some 46, .call k_zz6 [(.tmp 43), (.tmp 44), (.tmp 45)], none, 0⟩,
 ⟨some 42, .mv (.tmp 46), none, 0⟩,
 ⟨some 47, .ext (.tmp 42) 0, none, 0⟩,
 ⟨some 48, .ext (.tmp 42) 1, none, 0⟩,
 ⟨some 11, .mv (.tmp 47), none, 0⟩,
 ⟨some 12, .mv (.tmp 48), none, 0⟩]) <|
 .seq (.seq (.ops [
 ⟨some 49, .mv (.tmp 12), none, 0⟩,
 ⟨some 50, .bin .eql (.tmp 49) (.const (.int .i64 2)), none, 0⟩]) <|
 .cond (.tmp 50)
 (.seq (.ops [
 ⟨some 51, .mv (.tmp 0), none, 0⟩,
 ⟨some 52, .mv (.tmp 1), none, 0⟩,
 ⟨some 53, .mv (.tmp 2), none, 0⟩,
 ⟨some 54, .call k_zz5 [(.tmp 51), (.tmp 52), (.tmp 53)], none, 0⟩]) <|
 .seq (.ops [
 ⟨some 55, .mv (.tmp 2), none, 0⟩,
 ⟨some 56, .bin .sub (.tmp 55) (.const (.int .i64 1)), none, 0⟩,
 ⟨some 57, .mv (.tmp 11), none, 0⟩,
 ⟨some 58, .mv (.tmp 1), none, 0⟩,
 ⟨some 59, .bin .sub (.tmp 57) (.tmp 58), none, 0⟩,
 ⟨some 60, .bin .sub (.tmp 56) (.tmp 59), none, 0⟩,
 ⟨some 11, .mv (.tmp 60), none, 0⟩]) <|
 .ops [
 ⟨some 12, .mv (.const (.int .i64 1)), none, 0⟩])
 (.skip)) <|
 .seq (.seq (.ops [
 ⟨some 61, .mv (.tmp 8), none, 0⟩,
 ⟨some 62, .mv (.tmp 61), none, 0⟩,
 ⟨some 63, .mv (.tmp 9), some (62, true), 0⟩,
 ⟨some 64, .pick (.tmp 62) (.tmp 63) (.const (.bool false)), none, 0⟩,
 ⟨some 65, .mv (.tmp 64), none, 0⟩,
 ⟨some 66, .mv (.tmp 12), some (65, true), 0⟩,
 ⟨some 67, .bin .eql (.tmp 66) (.const (.int .i64 1)), some (65, true), 0⟩,
 ⟨some 68, .pick (.tmp 65) (.tmp 67) (.const (.bool false)), none, 0⟩]) <|
 .cond (.tmp 68)
 (.seq (.ops [
 ⟨some 69, .mv (.tmp 0), none, 0⟩,
 ⟨some 70, .mv (.tmp 1), none, 0⟩,
 ⟨some 71, .mv (.tmp 2), none, 0⟩,
 ⟨some 72, .call k_zz0 [(.tmp 69), (.tmp 70), (.tmp 71)], none, 0⟩]) <|
 .cond (.tmp 72)
 (.keep [] <|
 .ret)
 (.skip))
 (.skip)) <|
 .seq (.seq (.dops [
 ⟨some 73, .mv (.tmp 1), none, 0⟩,
 ⟨some 74, .bin .gtr (.tmp 73) (.const (.int .i64 0)), none, 0⟩,
 ⟨some 75, .mv (.tmp 74), none, 0⟩,
 ⟨some 76, .mv (.tmp 0), some (75, true), 0⟩,
 ⟨some 77, .mv (.tmp 1), some (75, true), 0⟩,
 ⟨some 78, .bin .sub (.tmp 77) (.const (.int .i64 1)), some (75, true), 0⟩,
 ⟨some 79, .idx 1 (.tmp 76) (.tmp 78), some (75, true), 0⟩,
 ⟨some 80, .load false 1 (.tmp 79), some (75, true), 0⟩,
 ⟨some 81, .mv (.tmp 0), some (75, true), 0⟩,
 ⟨some 82, .mv (.tmp 11), some (75, true), 0⟩,
 ⟨some 83, .idx 1 (.tmp 81) (.tmp 82), some (75, true), 0⟩,
 ⟨some 84, .load false 1 (.tmp 83), some (75, true), 0⟩,
 ⟨some 85, .call k_zz50 [(.tmp 80), (.tmp 84)], some (75, true), 0⟩,
 ⟨some 86, .un .not (.tmp 85), some (75, true), 0⟩,
 ⟨some 87, .pick (.tmp 75) (.tmp 86) (.const (.bool false)), none, 0⟩]) <|
 .cond (.tmp 87)
 (.seq (.ops [
 ⟨some 88, .mv (.tmp 0), none, 0⟩,
 ⟨some 89, .mv (.tmp 1), none, 0⟩,
 ⟨some 90, .mv (.tmp 2), none, 0⟩,
 ⟨some 91, .mv (.tmp 11), none, 0⟩,
 ⟨some 92, .call k_zz2 [(.tmp 88), (.tmp 89), (.tmp 90), (.tmp 91)], none, 0⟩,
 ⟨some 13, .mv (.tmp 92), none, 0⟩]) <|
 .seq (.ops [
 ⟨some 93, .mv (.tmp 13), none, 0⟩,
 ⟨some 1, .mv (.tmp 93), none, 0⟩]) <|
 .keep [0, 1, 2, 3, 8, 9] <|
 .exit 1)
 (.skip)) <|
 .seq (.ops [
 ⟨some 95, .mv (.tmp 0), none, 0⟩,
 ⟨some 96, .mv (.tmp 1), none, 0⟩,
 ⟨some 97, .mv (.tmp 2), none, 0⟩,
 ⟨some 98, .mv (.tmp 11), none, 0⟩,
 ⟨some 99, .call k_zz8 [(.tmp 95), (.tmp 96), (.tmp 97), (.tmp 98)], none, 0⟩,
 ⟨some 94, .mv (.tmp 99), none, 0⟩,
 ⟨some 100, .ext (.tmp 94) 0, none, 0⟩,
 ⟨some 101, .ext (.tmp 94) 1, none, 0⟩,
 ⟨some 14, .mv (.tmp 100), none, 0⟩,
 ⟨some 15, .mv (.tmp 101), none, 0⟩]) <|
 .seq (.ops [
 ⟨some 102, .mv (.tmp 15), none, 0⟩,
 ⟨some 9, .mv (.tmp 102), none, 0⟩]) <|
 .seq (.ops [
 ⟨some 103, .mv (.tmp 14), none, 0⟩,
 ⟨some 104, .mv (.tmp 1), none, 0⟩,
 ⟨some 105, .bin .sub (.tmp 103) (.tmp 104), none, 0⟩,
 ⟨some 106, .mv (.tmp 2), none, 0⟩,
 ⟨some 107, .mv (.tmp 14), none, 0⟩,
 ⟨some 108, .bin .sub (.tmp 106) (.tmp 107), none, 0⟩,
 ⟨some 16, .mv (.tmp 105), none, 0⟩,
 ⟨some 17, .mv (.tmp 108), none, 0⟩]) <|
 .seq (.ops [
 ⟨some 109, .mv (.tmp 10), none, 0⟩,
 ⟨some 110, .bin .quo (.tmp 109) (.const (.int .i64 8)), none, 0⟩,
 ⟨some 18, .mv (.tmp 110), none, 0⟩]) <|
 .seq (.ops [
 ⟨some 111, .mv (.tmp 16), none, 0⟩,
 ⟨some 112, .mv (.tmp 17), none, 0⟩,
 ⟨some 113, .bin .lss (.tmp 111) (.tmp 112), none, 0⟩]) <|
 .cond (.tmp 113)
 (.seq (.ops [
 ⟨some 114, .mv (.tmp 16), none, 0⟩,
 ⟨some 115, .mv (.tmp 18), none, 0⟩,
 ⟨some 116, .bin .geq (.tmp 114) (.tmp 115), none, 0⟩,
 ⟨some 8, .mv (.tmp 116), none, 0⟩]) <|
 .seq (.ops [
 ⟨some 117, .mv (.tmp 0), none, 0⟩,
 ⟨some 118, .mv (.tmp 1), none, 0⟩,
 ⟨some 119, .mv (.tmp 14), none, 0⟩,
 ⟨some 120, .mv (.tmp 3), none, 0⟩,
 ⟨some 121, .call k_zz12 [(.tmp 117), (.tmp 118), (.tmp 119), (.tmp 120)], none, 0⟩]) <|
 .ops [
 ⟨some 122, .mv (.tmp 14), none, 0⟩,
 ⟨some 123, .bin .add (.tmp 122) (.const (.int .i64 1)), none, 0⟩,
 ⟨some 1, .mv (.tmp 123), none, 0⟩])
 (.seq (.ops [
 ⟨some 124, .mv (.tmp 17), none, 0⟩,
 ⟨some 125, .mv (.tmp 18), none, 0⟩,
 ⟨some 126, .bin .geq (.tmp 124) (.tmp 125), none, 0⟩,
 ⟨some 8, .mv (.tmp 126), none, 0⟩]) <|
 .seq (.ops [
 ⟨some 127, .mv (.tmp 0), none, 0⟩,
 ⟨some 128, .mv (.tmp 14), none, 0⟩,
 ⟨some 129, .bin .add (.tmp 128) (.const (.int .i64 1)), none, 0⟩,
 ⟨some 130, .mv (.tmp 2), none, 0⟩,
 ⟨some 131, .mv (.tmp 3), none, 0⟩,
 ⟨some 132, .call k_zz12 [(.tmp 127), (.tmp 129), (.tmp 130), (.tmp 131)], none, 0⟩]) <|
 .ops [
 ⟨some 133, .mv (.tmp 14), none, 0⟩,
 ⟨some 2, .mv (.tmp 133), none, 0⟩])
def i_zz12 : FF := ⟨134, [],
 .seq (.ops [
 ⟨some 8, .mv (.const (.bool true)), none, 0⟩]) <|
 .seq (.ops [
 ⟨some 9, .mv (.const (.bool true)), none, 0⟩]) <|
 .block 0 <|
 .loop [0, 1, 2, 3, 8, 9] i_zz12_B1⟩
theorem e_zz12 : EntOK Tryz.prog (compD Tryz.prog) k_zz12 i_zz12.vf :=
 ⟨Tryz.f100, Tryz.f100.body.getD .skip, Tryz.func100, by kernel_rfl, by kernel_rfl, by kernel_rfl, by kernel_rfl, by kernel_rfl⟩
/-- math/bits.Len -/
def i_zz64 : FF := ⟨8, [.tmp 2],
 .seq (.ops [
 ⟨some 2, .mv (.const (.int .i64 0)), none, 0⟩]) <|
 .seq (.cond (.const (.bool false))
 (.seq (.ops [
 ⟨some 3, .mv (.tmp 0), none, 0⟩,
 ⟨some 4, .conv .u32 (.tmp 3), none, 0⟩,
 ⟨some 5, .call k_zz43 [(.tmp 4)], none, 0⟩,
 ⟨some 2, .mv (.tmp 5), none, 0⟩]) <|
 .keep [2] <|
 .ret)
 (.skip)) <|
 .seq (.ops [
 ⟨some 6, .mv (.tmp 0), none, 0⟩,
 ⟨some 7, .call k_zz44 [(.tmp 6)], none, 0⟩,
 ⟨some 2, .mv (.tmp 7), none, 0⟩]) <|
 .keep [2] <|
 .ret⟩
theorem e_zz64 : EntOK Tryz.prog (compD Tryz.prog) k_zz64 i_zz64.vf :=
 ⟨Tryz.f101, Tryz.f101.body.getD .skip, Tryz.func101, by kernel_rfl, by kernel_rfl, by kernel_rfl, by kernel_rfl, by kernel_rfl⟩
def i_zz33 : FF := ⟨11, [.tmp 4],
 .seq (.ops [
 ⟨some 2, .box 2 (.tmp 0), none, 0⟩,
 ⟨some 4, .mv (.const (.int .i64 0)), none, 0⟩]) <|
 .seq (.ops [
 ⟨some 5, .fld 1 (.tmp 2), none, 0⟩,
 ⟨some 6, .load false 1 (.tmp 5), none, 0⟩,
 ⟨some 7, .mv (.tmp 1), none, 0⟩,
 ⟨some 8, .idx 1 (.tmp 6) (.tmp 7), none, 0⟩,
 ⟨some 9, .load false 1 (.tmp 8), none, 0⟩,
 ⟨some 10, .call k_zz98 [(.tmp 9)], none, 0⟩,
 ⟨some 4, .mv (.tmp 10), none, 0⟩]) <|
 .keep [4] <|
 .ret⟩
theorem e_zz33 : EntOK Tryz.prog (compD Tryz.prog) k_zz33 i_zz33.vf :=
 ⟨Tryz.f102, Tryz.f102.body.getD .skip, Tryz.func102, by kernel_rfl, by kernel_rfl, by kernel_rfl, by kernel_rfl, by kernel_rfl⟩
/-- loop.example/g01331/spec.l01Own -/
def i_zz89 : FF := ⟨6, [.tmp 2],
 .seq (.ops [
 ⟨some 2, .mv (.const (.slice none 0 0)), none, 0⟩]) <|
 .seq (.ops [
 ⟨some 3, .buildSl 1 [] [] 0, none, 0⟩,
 ⟨some 4, .mv (.tmp 0), none, 0⟩,
 ⟨some 5, .app 1 8 [.int .i64 0] (.tmp 3) (.tmp 4), none, 0⟩,
 ⟨some 2, .mv (.tmp 5), none, 0⟩]) <|
 .keep [2] <|
 .ret⟩
theorem e_zz89 : EntOK Tryz.prog (compD Tryz.prog) k_zz89 i_zz89.vf :=
 ⟨Tryz.f103, Tryz.f103.body.getD .skip, Tryz.func103, by kernel_rfl, by kernel_rfl, by kernel_rfl, by kernel_rfl, by kernel_rfl⟩
/-- slices.Repeat[[]int64,int64] -/
def i_zz15_B1 : FC :=
 .seq (.seq (.ops [
 ⟨some 34, .mv (.tmp 8), none, 0⟩,
 ⟨some 35, .mv (.tmp 7), none, 0⟩,
 ⟨some 36, .len (.tmp 35), none, 0⟩,
 ⟨some 37, .bin .lss (.tmp 34) (.tmp 36), none, 0⟩]) <|
 .cond (.tmp 37)
 (.skip)
 (.keep [7] <|
 .exit 0)) <|
 .block 1 <|
 .dops [
 ⟨some 39, .mv (.tmp 7), none, 0⟩,
 ⟨some 40, .mv (.tmp 8), none, 0⟩,
 ⟨some 41, .slc 1 (.tmp 39) (some (.tmp 40)) none, none, 0⟩,
 ⟨some 42, .mv (.tmp 7), none, 0⟩,
 ⟨some 43, .mv (.tmp 8), none, 0⟩,
 ⟨some 44, .slc 1 (.tmp 42) none (some (.tmp 43)), none, 0⟩,
 ⟨some 45, .cpy 1 (.tmp 41) (.tmp 44), none, 0⟩,
 ⟨some 38, .mv (.tmp 8), none, 1⟩,
 ⟨some 46, .bin .add (.tmp 38) (.tmp 45), none, 0⟩,
 ⟨some 8, .mv (.tmp 46), none, 0⟩]
def i_zz15 : FF := ⟨48, [.tmp 4],
 .seq (.ops [
 ⟨some 4, .mv (.const (.slice none 0 0)), none, 0⟩]) <|
 .seq (.seq (.ops [
 ⟨some 9, .mv (.tmp 1), none, 0⟩,
 ⟨some 10, .bin .lss (.tmp 9) (.const (.int .i64 0)), none, 0⟩]) <|
 .cond (.tmp 10)
 (.ops [
 ⟨some 11, .stop, none, 0⟩,
 ⟨none, .stop, none, 0⟩])
 (.skip)) <|
 .seq (.ops [
 ⟨some 13, .mv (.tmp 0), none, 0⟩,
 ⟨some 14, .len (.tmp 13), none, 0⟩,
 ⟨some 15, .conv .u64 (.tmp 14), none, 0⟩,
 ⟨some 16, .mv (.tmp 1), none, 0⟩,
 ⟨some 17, .conv .u64 (.tmp 16), none, 0⟩,
 ⟨some 18, .call k_zz65 [(.tmp 15), (.tmp 17)], none, 0⟩,
 ⟨some 12, .mv (.tmp 18), none, 0⟩,
 ⟨some 19, .ext (.tmp 12) 0, none, 0⟩,
 ⟨some 20, .ext (.tmp 12) 1, none, 0⟩,
 ⟨some 5, .mv (.tmp 19), none, 0⟩,
 ⟨some 6, .mv (.tmp 20), none, 0⟩]) <|
 .seq (.seq (.ops [
 ⟨some 21, .mv (.tmp 5), none, 0⟩,
 ⟨some 22, .bin .gtr (.tmp 21) (.const (.int .u64 0)), none, 0⟩,
 ⟨some 23, .mv (.tmp 22), none, 0⟩,
 ⟨some 24, .mv (.tmp 6), some (23, false), 0⟩,
 ⟨some 25, .bin .gtr (.tmp 24) (.const (.int .u64 9223372036854775807)), some (23, false), 0⟩,
 ⟨some 26, .pick (.tmp 23) (.const (.bool true)) (.tmp 25), none, 0⟩]) <|
 .cond (.tmp 26)
 (.ops [
 ⟨some 27, .stop, none, 0⟩,
 ⟨none, .stop, none, 0⟩])
 (.skip)) <|
 .seq (.ops [
 ⟨some 28, .mv (.tmp 6), none, 0⟩,
 ⟨some 29, .conv .i64 (.tmp 28), none, 0⟩,
 ⟨some 30, .mkSl 1 [.int .i64 0] 8 (.tmp 29) (.tmp 29), none, 0⟩,
 ⟨some 7, .mv (.tmp 30), none, 0⟩]) <|
 .seq (.ops [
 ⟨some 31, .mv (.tmp 7), none, 0⟩,
 ⟨some 32, .mv (.tmp 0), none, 0⟩,
 ⟨some 33, .cpy 1 (.tmp 31) (.tmp 32), none, 0⟩,
 ⟨some 8, .mv (.tmp 33), none, 0⟩]) <|
 .seq (.block 0 <|
 .loop [7, 8] i_zz15_B1) <|
 .seq (.ops [
 ⟨some 47, .mv (.tmp 7), none, 0⟩,
 ⟨some 4, .mv (.tmp 47), none, 0⟩]) <|
 .keep [4] <|
 .ret⟩
theorem e_zz15 : EntOK Tryz.prog (compD Tryz.prog) k_zz15 i_zz15.vf :=
 ⟨Tryz.f104, Tryz.f104.body.getD .skip, Tryz.func104, by kernel_rfl, by kernel_rfl, by kernel_rfl, by kernel_rfl, by kernel_rfl⟩
/-- loop.example/g01331/spec.l01Has -/
def i_zz88 : FF := ⟨17, [.tmp 6],
 .seq (.ops [
 ⟨some 3, .box 2 (.tmp 0), none, 0⟩,
 ⟨some 6, .mv (.const (.bool false)), none, 0⟩]) <|
 .seq (.ops [
 ⟨some 7, .fld 1 (.tmp 3), none, 0⟩,
 ⟨some 8, .load false 1 (.tmp 7), none, 0⟩,
 ⟨some 9, .mv (.tmp 1), none, 0⟩,
 ⟨some 10, .idx 1 (.tmp 8) (.tmp 9), none, 0⟩,
 ⟨some 11, .load false 1 (.tmp 10), none, 0⟩,
 ⟨some 12, .mv (.tmp 2), none, 0⟩,
 ⟨some 13, .conv .u64 (.tmp 12), none, 0⟩,
 ⟨some 14, .bin .shr (.tmp 11) (.tmp 13), none, 0⟩,
 ⟨some 15, .bin .and (.tmp 14) (.const (.int .i64 1)), none, 0⟩,
 ⟨some 16, .bin .eql (.tmp 15) (.const (.int .i64 1)), none, 0⟩,
 ⟨some 6, .mv (.tmp 16), none, 0⟩]) <|
 .keep [6] <|
 .ret⟩
theorem e_zz88 : EntOK Tryz.prog (compD Tryz.prog) k_zz88 i_zz88.vf :=
 ⟨Tryz.f105, Tryz.f105.body.getD .skip, Tryz.func105, by kernel_rfl, by kernel_rfl, by kernel_rfl, by kernel_rfl, by kernel_rfl⟩
def i_zz34_B1 : FC :=
 .seq (.ops [
 ⟨some 23, .bin .lss (.tmp 22) (.tmp 21), none, 0⟩]) <|
 .seq (.cond (.tmp 23)
 (.skip)
 (.keep [1, 2, 4, 5, 13, 14, 15] <|
 .exit 2)) <|
 .seq (.block 3 <|
 .seq (.ops [
 ⟨some 24, .mv (.tmp 22), none, 0⟩,
 ⟨some 25, .idx 1 (.tmp 20) (.tmp 22), none, 0⟩,
 ⟨some 26, .load false 1 (.tmp 25), none, 0⟩,
 ⟨some 8, .mv (.tmp 24), none, 0⟩,
 ⟨some 9, .mv (.tmp 26), none, 0⟩]) <|
 .seq (.ops [
 ⟨some 27, .load true 2 (.tmp 2), none, 0⟩,
 ⟨some 28, .mv (.tmp 7), none, 0⟩,
 ⟨some 29, .mv (.tmp 9), none, 0⟩,
 ⟨some 30, .call k_zz52 [(.tmp 27), (.tmp 28), (.tmp 29)], none, 0⟩]) <|
 .cond (.tmp 30)
 (.ops [
 ⟨some 31, .load true 2 (.tmp 5), none, 0⟩,
 ⟨some 32, .mv (.tmp 6), none, 0⟩,
 ⟨some 33, .mv (.tmp 8), none, 0⟩,
 ⟨some 34, .call k_zz53 [(.tmp 31), (.tmp 32), (.tmp 33)], none, 0⟩])
 (.skip)) <|
 .ops [
 ⟨some 35, .bin .add (.tmp 22) (.const (.int .i64 1)), none, 0⟩,
 ⟨some 22, .mv (.tmp 35), none, 0⟩]
def i_zz34_B2 : FC :=
 .seq (.ops [
 ⟨some 16, .bin .lss (.tmp 15) (.tmp 14), none, 0⟩]) <|
 .seq (.cond (.tmp 16)
 (.skip)
 (.keep [4, 5] <|
 .exit 0)) <|
 .seq (.block 1 <|
 .seq (.ops [
 ⟨some 17, .mv (.tmp 15), none, 0⟩,
 ⟨some 18, .idx 1 (.tmp 13) (.tmp 15), none, 0⟩,
 ⟨some 19, .load false 1 (.tmp 18), none, 0⟩,
 ⟨some 6, .mv (.tmp 17), none, 0⟩,
 ⟨some 7, .mv (.tmp 19), none, 0⟩]) <|
 .seq (.ops [
 ⟨some 20, .mv (.tmp 1), none, 0⟩,
 ⟨some 21, .len (.tmp 20), none, 0⟩,
 ⟨some 22, .mv (.const (.int .i64 0)), none, 0⟩]) <|
 .block 2 <|
 .loop [1, 2, 4, 5, 6, 7, 13, 14, 15, 20, 21, 22] i_zz34_B1) <|
 .ops [
 ⟨some 36, .bin .add (.tmp 15) (.const (.int .i64 1)), none, 0⟩,
 ⟨some 15, .mv (.tmp 36), none, 0⟩]
def i_zz34 : FF := ⟨38, [.cell 4 true 2],
 .seq (.ops [
 ⟨some 2, .box 2 (.tmp 0), none, 0⟩,
 ⟨some 4, .alloc [.int .i64 0, .slice none 0 0], none, 0⟩]) <|
 .seq (.ops [
 ⟨some 10, .mv (.tmp 1), none, 0⟩,
 ⟨some 11, .len (.tmp 10), none, 0⟩,
 ⟨some 12, .call k_zz93 [(.tmp 11)], none, 0⟩,
 ⟨some 5, .alloc [.int .i64 0, .slice none 0 0], none, 0⟩,
 ⟨none, .store 2 (.tmp 5) (.tmp 12), none, 0⟩]) <|
 .seq (.seq (.ops [
 ⟨some 13, .mv (.tmp 1), none, 0⟩,
 ⟨some 14, .len (.tmp 13), none, 0⟩,
 ⟨some 15, .mv (.const (.int .i64 0)), none, 0⟩]) <|
 .block 0 <|
 .loop [1, 2, 4, 5, 13, 14, 15] i_zz34_B2) <|
 .seq (.ops [
 ⟨some 37, .load true 2 (.tmp 5), none, 0⟩,
 ⟨none, .store 2 (.tmp 4) (.tmp 37), none, 0⟩]) <|
 .keep [4] <|
 .ret⟩
theorem e_zz34 : EntOK Tryz.prog (compD Tryz.prog) k_zz34 i_zz34.vf :=
 ⟨Tryz.f106, Tryz.f106.body.getD .skip, Tryz.func106, by kernel_rfl, by kernel_rfl, by kernel_rfl, by kernel_rfl, by kernel_rfl⟩
/-- slices.DeleteFunc[[]int64,int64] -/
def i_zz7_B1 : FC :=
 .seq (.seq (.ops [
 ⟨some 16, .mv (.tmp 6), none, 0⟩,
 ⟨some 17, .mv (.tmp 0), none, 0⟩,
 ⟨some 18, .len (.tmp 17), none, 0⟩,
 ⟨some 19, .bin .lss (.tmp 16) (.tmp 18), none, 0⟩]) <|
 .cond (.tmp 19)
 (.skip)
 (.keep [0, 5] <|
 .exit 0)) <|
 .seq (.block 1 <|
 .seq (.ops [
 ⟨some 22, .mv (.tmp 0), none, 0⟩,
 ⟨some 23, .mv (.tmp 6), none, 0⟩,
 ⟨some 24, .idx 1 (.tmp 22) (.tmp 23), none, 0⟩,
 ⟨some 25, .load false 1 (.tmp 24), none, 0⟩,
 ⟨some 7, .mv (.tmp 25), none, 0⟩]) <|
 .seq (.ops [
 ⟨some 26, .mv (.tmp 1), none, 0⟩,
 ⟨some 27, .mv (.tmp 7), none, 0⟩,
 ⟨some 28, .callv (.tmp 26) [(.tmp 27)], none, 0⟩,
 ⟨some 29, .un .not (.tmp 28), none, 0⟩]) <|
 .cond (.tmp 29)
 (.seq (.ops [
 ⟨some 30, .mv (.tmp 0), none, 0⟩,
 ⟨some 31, .mv (.tmp 5), none, 0⟩,
 ⟨some 32, .mv (.tmp 7), none, 0⟩,
 ⟨some 33, .idx 1 (.tmp 30) (.tmp 31), none, 0⟩,
 ⟨none, .store 1 (.tmp 33) (.tmp 32), none, 0⟩]) <|
 .ops [
 ⟨some 34, .mv (.tmp 5), none, 0⟩,
 ⟨some 35, .bin .add (.tmp 34) (.const (.int .i64 1)), none, 0⟩,
 ⟨some 5, .mv (.tmp 35), none, 0⟩])
 (.skip)) <|
 .ops [
 ⟨some 20, .mv (.tmp 6), none, 0⟩,
 ⟨some 21, .bin .add (.tmp 20) (.const (.int .i64 1)), none, 0⟩,
 ⟨some 6, .mv (.tmp 21), none, 0⟩]
def i_zz7 : FF := ⟨42, [.tmp 4],
 .seq (.ops [
 ⟨some 4, .mv (.const (.slice none 0 0)), none, 0⟩]) <|
 .seq (.ops [
 ⟨some 8, .mv (.tmp 0), none, 0⟩,
 ⟨some 9, .mv (.tmp 1), none, 0⟩,
 ⟨some 10, .call k_zz9 [(.tmp 8), (.tmp 9)], none, 0⟩,
 ⟨some 5, .mv (.tmp 10), none, 0⟩]) <|
 .seq (.seq (.ops [
 ⟨some 11, .mv (.tmp 5), none, 0⟩,
 ⟨some 12, .bin .eql (.tmp 11) (.const (.int .i64 (-1))), none, 0⟩]) <|
 .cond (.tmp 12)
 (.seq (.ops [
 ⟨some 13, .mv (.tmp 0), none, 0⟩,
 ⟨some 4, .mv (.tmp 13), none, 0⟩]) <|
 .keep [4] <|
 .ret)
 (.skip)) <|
 .seq (.seq (.ops [
 ⟨some 14, .mv (.tmp 5), none, 0⟩,
 ⟨some 15, .bin .add (.tmp 14) (.const (.int .i64 1)), none, 0⟩,
 ⟨some 6, .mv (.tmp 15), none, 0⟩]) <|
 .block 0 <|
 .loop [0, 1, 5, 6] i_zz7_B1) <|
 .seq (.ops [
 ⟨some 36, .mv (.tmp 0), none, 0⟩,
 ⟨some 37, .mv (.tmp 5), none, 0⟩,
 ⟨some 38, .slc 1 (.tmp 36) (some (.tmp 37)) none, none, 0⟩,
 ⟨none, .clr 1 [.int .i64 0] (.tmp 38), none, 0⟩]) <|
 .seq (.ops [
 ⟨some 39, .mv (.tmp 0), none, 0⟩,
 ⟨some 40, .mv (.tmp 5), none, 0⟩,
 ⟨some 41, .slc 1 (.tmp 39) none (some (.tmp 40)), none, 0⟩,
 ⟨some 4, .mv (.tmp 41), none, 0⟩]) <|
 .keep [4] <|
 .ret⟩
theorem e_zz7 : EntOK Tryz.prog (compD Tryz.prog) k_zz7 i_zz7.vf :=
 ⟨Tryz.f107, Tryz.f107.body.getD .skip, Tryz.func107, by kernel_rfl, by kernel_rfl, by kernel_rfl, by kernel_rfl, by kernel_rfl⟩
def i_zz23 : FF := ⟨7, [.tmp 3],
 .seq (.ops [
 ⟨some 3, .mv (.const (.bool false)), none, 0⟩]) <|
 .seq (.ops [
 ⟨some 4, .mv (.tmp 0), none, 0⟩,
 ⟨some 5, .load false 1 (.tmp 1), none, 0⟩,
 ⟨some 6, .bin .eql (.tmp 4) (.tmp 5), none, 0⟩,
 ⟨some 3, .mv (.tmp 6), none, 0⟩]) <|
 .keep [3] <|
 .ret⟩
theorem e_zz23 : EntOK Tryz.prog (compD Tryz.prog) k_zz23 i_zz23.vf :=
 ⟨Tryz.f108, Tryz.f108.body.getD .skip, Tryz.func108, by kernel_rfl, by kernel_rfl, by kernel_rfl, by kernel_rfl, by kernel_rfl⟩
/-- math/bits.OnesCount64 -/
def i_zz19 : FF := ⟨35, [.tmp 2],
 .seq (.ops [
 ⟨some 2, .mv (.const (.int .i64 0)), none, 0⟩]) <|
 .seq (.ops [
 ⟨some 3, .mv (.tmp 0), none, 0⟩,
 ⟨some 4, .bin .shr (.tmp 3) (.const (.int .u64 1)), none, 0⟩,
 ⟨some 5, .bin .and (.tmp 4) (.const (.int .u64 6148914691236517205)), none, 0⟩,
 ⟨some 6, .mv (.tmp 0), none, 0⟩,
 ⟨some 7, .bin .and (.tmp 6) (.const (.int .u64 6148914691236517205)), none, 0⟩,
 ⟨some 8, .bin .add (.tmp 5) (.tmp 7), none, 0⟩,
 ⟨some 0, .mv (.tmp 8), none, 0⟩]) <|
 .seq (.ops [
 ⟨some 9, .mv (.tmp 0), none, 0⟩,
 ⟨some 10, .bin .shr (.tmp 9) (.const (.int .u64 2)), none, 0⟩,
 ⟨some 11, .bin .and (.tmp 10) (.const (.int .u64 3689348814741910323)), none, 0⟩,
 ⟨some 12, .mv (.tmp 0), none, 0⟩,
 ⟨some 13, .bin .and (.tmp 12) (.const (.int .u64 3689348814741910323)), none, 0⟩,
 ⟨some 14, .bin .add (.tmp 11) (.tmp 13), none, 0⟩,
 ⟨some 0, .mv (.tmp 14), none, 0⟩]) <|
 .seq (.ops [
 ⟨some 15, .mv (.tmp 0), none, 0⟩,
 ⟨some 16, .bin .shr (.tmp 15) (.const (.int .u64 4)), none, 0⟩,
 ⟨some 17, .mv (.tmp 0), none, 0⟩,
 ⟨some 18, .bin .add (.tmp 16) (.tmp 17), none, 0⟩,
 ⟨some 19, .bin .and (.tmp 18) (.const (.int .u64 1085102592571150095)), none, 0⟩,
 ⟨some 0, .mv (.tmp 19), none, 0⟩]) <|
 .seq (.ops [
 ⟨some 20, .mv (.tmp 0), none, 0⟩,
 ⟨some 21, .mv (.tmp 0), none, 0⟩,
 ⟨some 22, .bin .shr (.tmp 21) (.const (.int .u64 8)), none, 0⟩,
 ⟨some 23, .bin .add (.tmp 20) (.tmp 22), none, 0⟩,
 ⟨some 0, .mv (.tmp 23), none, 0⟩]) <|
 .seq (.ops [
 ⟨some 24, .mv (.tmp 0), none, 0⟩,
 ⟨some 25, .mv (.tmp 0), none, 0⟩,
 ⟨some 26, .bin .shr (.tmp 25) (.const (.int .u64 16)), none, 0⟩,
 ⟨some 27, .bin .add (.tmp 24) (.tmp 26), none, 0⟩,
 ⟨some 0, .mv (.tmp 27), none, 0⟩]) <|
 .seq (.ops [
 ⟨some 28, .mv (.tmp 0), none, 0⟩,
 ⟨some 29, .mv (.tmp 0), none, 0⟩,
 ⟨some 30, .bin .shr (.tmp 29) (.const (.int .u64 32)), none, 0⟩,
 ⟨some 31, .bin .add (.tmp 28) (.tmp 30), none, 0⟩,
 ⟨some 0, .mv (.tmp 31), none, 0⟩]) <|
 .seq (.ops [
 ⟨some 32, .mv (.tmp 0), none, 0⟩,
 ⟨some 33, .conv .i64 (.tmp 32), none, 0⟩,
 ⟨some 34, .bin .and (.tmp 33) (.const (.int .i64 127)), none, 0⟩,
 ⟨some 2, .mv (.tmp 34), none, 0⟩]) <|
 .keep [2] <|
 .ret⟩
theorem e_zz19 : EntOK Tryz.prog (compD Tryz.prog) k_zz19 i_zz19.vf :=
 ⟨Tryz.f109, Tryz.f109.body.getD .skip, Tryz.func109, by kernel_rfl, by kernel_rfl, by kernel_rfl, by kernel_rfl, by kernel_rfl⟩
/-- loop.example/g01331/spec.l01DrawRegular -/
def i_zz25 : FF := ⟨49, [.cell 2 true 2],
 .seq (.ops [
 ⟨some 2, .alloc [.int .i64 0, .slice none 0 0], none, 0⟩]) <|
 .seq (.ops [
 ⟨some 7, .call k_zz70 [], none, 0⟩,
 ⟨some 3, .mv (.tmp 7), none, 0⟩]) <|
 .seq (.ops [
 ⟨some 9, .mv (.tmp 3), none, 0⟩,
 ⟨some 10, .mv (.tmp 0), none, 0⟩,
 ⟨some 11, .mv (.tmp 0), none, 0⟩,
 ⟨some 12, .buildSl 1 [.int .i64 0, .int .i64 0, .int .i64 0] [(0, 1, (.const (.int .i64 6))), (1, 1, (.const (.int .i64 13))), (2, 1, (.const (.int .i64 15)))] 3, none, 0⟩,
 ⟨some 13, .call k_zz82 [(.tmp 11), (.tmp 12)], none, 0⟩,
 ⟨some 14, .call k_zz81 [(.tmp 10), (.tmp 13)], none, 0⟩,
 ⟨some 15, .idx 1 (.tmp 9) (.tmp 14), none, 0⟩,
 ⟨some 16, .load false 1 (.tmp 15), none, 0⟩,
 ⟨some 17, .call k_zz69 [(.tmp 16)], none, 0⟩,
 ⟨some 8, .mv (.tmp 17), none, 0⟩,
 ⟨some 18, .ext (.tmp 8) 0, none, 0⟩,
 ⟨some 19, .ext (.tmp 8) 1, none, 0⟩,
 ⟨some 4, .alloc [.int .i64 0, .slice none 0 0], none, 0⟩,
 ⟨none, .store 2 (.tmp 4) (.tmp 18), none, 0⟩,
 ⟨some 5, .mv (.tmp 19), none, 0⟩]) <|
 .seq (.seq (.ops [
 ⟨some 20, .mv (.tmp 0), none, 0⟩,
 ⟨some 21, .call k_zz81 [(.tmp 20), (.const (.int .i64 3))], none, 0⟩,
 ⟨some 22, .bin .eql (.tmp 21) (.const (.int .i64 0)), none, 0⟩]) <|
 .cond (.tmp 22)
 (.seq (.ops [
 ⟨some 23, .mv (.tmp 0), none, 0⟩,
 ⟨some 24, .call k_zz81 [(.tmp 23), (.const (.int .i64 14))], none, 0⟩,
 ⟨some 25, .bin .add (.const (.int .i64 3)) (.tmp 24), none, 0⟩,
 ⟨some 6, .mv (.tmp 25), none, 0⟩]) <|
 .seq (.ops [
 ⟨some 26, .mv (.tmp 6), none, 0⟩,
 ⟨some 27, .call k_zz68 [(.tmp 26), (.const (.slice none 0 0))], none, 0⟩,
 ⟨none, .store 2 (.tmp 4) (.tmp 27), none, 0⟩]) <|
 .seq (.ops [
 ⟨some 28, .mv (.tmp 0), none, 0⟩,
 ⟨some 29, .call k_zz81 [(.tmp 28), (.const (.int .i64 2))], none, 0⟩,
 ⟨some 30, .bin .eql (.tmp 29) (.const (.int .i64 0)), none, 0⟩]) <|
 .cond (.tmp 30)
 (.ops [
 ⟨some 31, .mv (.tmp 6), none, 0⟩,
 ⟨some 32, .mv (.tmp 0), none, 0⟩,
 ⟨some 33, .mv (.tmp 6), none, 0⟩,
 ⟨some 34, .bin .sub (.tmp 33) (.const (.int .i64 1)), none, 0⟩,
 ⟨some 35, .call k_zz81 [(.tmp 32), (.tmp 34)], none, 0⟩,
 ⟨some 36, .bin .add (.const (.int .i64 1)) (.tmp 35), none, 0⟩,
 ⟨some 37, .buildSl 1 [.int .i64 0] [(0, 1, (.tmp 36))] 1, none, 0⟩,
 ⟨some 38, .call k_zz68 [(.tmp 31), (.tmp 37)], none, 0⟩,
 ⟨none, .store 2 (.tmp 4) (.tmp 38), none, 0⟩])
 (.skip))
 (.skip)) <|
 .seq (.seq (.ops [
 ⟨some 39, .mv (.tmp 0), none, 0⟩,
 ⟨some 40, .call k_zz81 [(.tmp 39), (.const (.int .i64 2))], none, 0⟩,
 ⟨some 41, .bin .eql (.tmp 40) (.const (.int .i64 0)), none, 0⟩]) <|
 .cond (.tmp 41)
 (.seq (.dops [
 ⟨some 43, .mv (.tmp 0), none, 0⟩,
 ⟨some 44, .fld 0 (.tmp 4), none, 0⟩,
 ⟨some 45, .load false 1 (.tmp 44), none, 0⟩,
 ⟨some 46, .call k_zz35 [(.tmp 43), (.tmp 45)], none, 0⟩,
 ⟨some 42, .load true 2 (.tmp 4), none, 1⟩,
 ⟨some 47, .call k_zz48 [(.tmp 42), (.tmp 46)], none, 0⟩,
 ⟨none, .store 2 (.tmp 2) (.tmp 47), none, 0⟩]) <|
 .keep [2] <|
 .ret)
 (.skip)) <|
 .seq (.ops [
 ⟨some 48, .load true 2 (.tmp 4), none, 0⟩,
 ⟨none, .store 2 (.tmp 2) (.tmp 48), none, 0⟩]) <|
 .keep [2] <|
 .ret⟩
theorem e_zz25 : EntOK Tryz.prog (compD Tryz.prog) k_zz25 i_zz25.vf :=
 ⟨Tryz.f113, Tryz.f113.body.getD .skip, Tryz.func113, by kernel_rfl, by kernel_rfl, by kernel_rfl, by kernel_rfl, by kernel_rfl⟩
/-- loop.example/g01331/spec.l01DrawOf -/
def i_zz60_B1 : FC :=
 .seq (.seq (.ops [
 ⟨some 20, .mv (.tmp 8), none, 0⟩,
 ⟨some 21, .mv (.tmp 7), none, 0⟩,
 ⟨some 22, .bin .lss (.tmp 20) (.tmp 21), none, 0⟩]) <|
 .cond (.tmp 22)
 (.skip)
 (.keep [0, 1, 4, 5, 6, 7] <|
 .exit 2)) <|
 .seq (.block 3 <|
 .seq (.ops [
 ⟨some 25, .mv (.tmp 0), none, 0⟩,
 ⟨some 26, .mv (.tmp 1), none, 0⟩,
 ⟨some 27, .call k_zz81 [(.tmp 25), (.tmp 26)], none, 0⟩,
 ⟨some 28, .mv (.tmp 6), none, 0⟩,
 ⟨some 29, .bin .lss (.tmp 27) (.tmp 28), none, 0⟩]) <|
 .cond (.tmp 29)
 (.ops [
 ⟨some 30, .load true 2 (.tmp 5), none, 0⟩,
 ⟨some 31, .mv (.tmp 7), none, 0⟩,
 ⟨some 32, .mv (.tmp 8), none, 0⟩,
 ⟨some 33, .call k_zz90 [(.tmp 30), (.tmp 31), (.tmp 32)], none, 0⟩])
 (.skip)) <|
 .ops [
 ⟨some 23, .mv (.tmp 8), none, 0⟩,
 ⟨some 24, .bin .add (.tmp 23) (.const (.int .i64 1)), none, 0⟩,
 ⟨some 8, .mv (.tmp 24), none, 0⟩]
def i_zz60_B2 : FC :=
 .seq (.seq (.ops [
 ⟨some 15, .mv (.tmp 7), none, 0⟩,
 ⟨some 16, .mv (.tmp 1), none, 0⟩,
 ⟨some 17, .bin .lss (.tmp 15) (.tmp 16), none, 0⟩]) <|
 .cond (.tmp 17)
 (.skip)
 (.keep [4, 5] <|
 .exit 0)) <|
 .seq (.block 1 <|
 .seq (.ops [
 ⟨some 8, .mv (.const (.int .i64 0)), none, 0⟩]) <|
 .block 2 <|
 .loop [0, 1, 4, 5, 6, 7, 8] i_zz60_B1) <|
 .ops [
 ⟨some 18, .mv (.tmp 7), none, 0⟩,
 ⟨some 19, .bin .add (.tmp 18) (.const (.int .i64 1)), none, 0⟩,
 ⟨some 7, .mv (.tmp 19), none, 0⟩]
def i_zz60 : FF := ⟨35, [.cell 4 true 2],
 .seq (.ops [
 ⟨some 4, .alloc [.int .i64 0, .slice none 0 0], none, 0⟩]) <|
 .seq (.ops [
 ⟨some 9, .mv (.tmp 1), none, 0⟩,
 ⟨some 10, .call k_zz67 [(.tmp 9)], none, 0⟩,
 ⟨some 11, .mv (.tmp 0), none, 0⟩,
 ⟨some 12, .mv (.tmp 1), none, 0⟩,
 ⟨some 13, .buildSl 1 [.int .i64 0, .int .i64 0, .int .i64 0, .int .i64 0, .int .i64 0] [(0, 1, (.const (.int .i64 1))), (1, 1, (.const (.int .i64 2))), (2, 1, (.const (.int .i64 3))), (3, 1, (.const (.int .i64 4))), (4, 1, (.tmp 12))] 5, none, 0⟩,
 ⟨some 14, .call k_zz82 [(.tmp 11), (.tmp 13)], none, 0⟩,
 ⟨some 5, .alloc [.int .i64 0, .slice none 0 0], none, 0⟩,
 ⟨none, .store 2 (.tmp 5) (.tmp 10), none, 0⟩,
 ⟨some 6, .mv (.tmp 14), none, 0⟩]) <|
 .seq (.seq (.ops [
 ⟨some 7, .mv (.const (.int .i64 0)), none, 0⟩]) <|
 .block 0 <|
 .loop [0, 1, 4, 5, 6, 7] i_zz60_B2) <|
 .seq (.ops [
 ⟨some 34, .load true 2 (.tmp 5), none, 0⟩,
 ⟨none, .store 2 (.tmp 4) (.tmp 34), none, 0⟩]) <|
 .keep [4] <|
 .ret⟩
theorem e_zz60 : EntOK Tryz.prog (compD Tryz.prog) k_zz60 i_zz60.vf :=
 ⟨Tryz.f114, Tryz.f114.body.getD .skip, Tryz.func114, by kernel_rfl, by kernel_rfl, by kernel_rfl, by kernel_rfl, by kernel_rfl⟩
/-- slices.insertionSortOrdered[int64] -/
def i_zz4_B1 : FC :=
 .seq (.seq (.dops [
 ⟨some 16, .mv (.tmp 7), none, 0⟩,
 ⟨some 17, .mv (.tmp 1), none, 0⟩,
 ⟨some 18, .bin .gtr (.tmp 16) (.tmp 17), none, 0⟩,
 ⟨some 19, .mv (.tmp 18), none, 0⟩,
 ⟨some 20, .mv (.tmp 0), some (19, true), 0⟩,
 ⟨some 21, .mv (.tmp 7), some (19, true), 0⟩,
 ⟨some 22, .idx 1 (.tmp 20) (.tmp 21), some (19, true), 0⟩,
 ⟨some 23, .load false 1 (.tmp 22), some (19, true), 0⟩,
 ⟨some 24, .mv (.tmp 0), some (19, true), 0⟩,
 ⟨some 25, .mv (.tmp 7), some (19, true), 0⟩,
 ⟨some 26, .bin .sub (.tmp 25) (.const (.int .i64 1)), some (19, true), 0⟩,
 ⟨some 27, .idx 1 (.tmp 24) (.tmp 26), some (19, true), 0⟩,
 ⟨some 28, .load false 1 (.tmp 27), some (19, true), 0⟩,
 ⟨some 29, .call k_zz50 [(.tmp 23), (.tmp 28)], some (19, true), 0⟩,
 ⟨some 30, .pick (.tmp 19) (.tmp 29) (.const (.bool false)), none, 0⟩]) <|
 .cond (.tmp 30)
 (.skip)
 (.keep [0, 1, 2, 6] <|
 .exit 2)) <|
 .seq (.block 3 <|
 .dops [
 ⟨some 33, .mv (.tmp 0), none, 0⟩,
 ⟨some 34, .mv (.tmp 7), none, 0⟩,
 ⟨some 38, .mv (.tmp 0), none, 0⟩,
 ⟨some 39, .mv (.tmp 7), none, 0⟩,
 ⟨some 40, .bin .sub (.tmp 39) (.const (.int .i64 1)), none, 0⟩,
 ⟨some 41, .idx 1 (.tmp 38) (.tmp 40), none, 0⟩,
 ⟨some 42, .load false 1 (.tmp 41), none, 0⟩,
 ⟨some 43, .mv (.tmp 0), none, 0⟩,
 ⟨some 44, .mv (.tmp 7), none, 0⟩,
 ⟨some 45, .idx 1 (.tmp 43) (.tmp 44), none, 0⟩,
 ⟨some 46, .load false 1 (.tmp 45), none, 0⟩,
 ⟨some 47, .idx 1 (.tmp 33) (.tmp 34), none, 0⟩,
 ⟨none, .store 1 (.tmp 47) (.tmp 42), none, 0⟩,
 ⟨some 35, .mv (.tmp 0), none, 1⟩,
 ⟨some 36, .mv (.tmp 7), none, 1⟩,
 ⟨some 37, .bin .sub (.tmp 36) (.const (.int .i64 1)), none, 1⟩,
 ⟨some 48, .idx 1 (.tmp 35) (.tmp 37), none, 0⟩,
 ⟨none, .store 1 (.tmp 48) (.tmp 46), none, 0⟩]) <|
 .ops [
 ⟨some 31, .mv (.tmp 7), none, 0⟩,
 ⟨some 32, .bin .sub (.tmp 31) (.const (.int .i64 1)), none, 0⟩,
 ⟨some 7, .mv (.tmp 32), none, 0⟩]
def i_zz4_B2 : FC :=
 .seq (.seq (.ops [
 ⟨some 10, .mv (.tmp 6), none, 0⟩,
 ⟨some 11, .mv (.tmp 2), none, 0⟩,
 ⟨some 12, .bin .lss (.tmp 10) (.tmp 11), none, 0⟩]) <|
 .cond (.tmp 12)
 (.skip)
 (.keep [] <|
 .exit 0)) <|
 .seq (.block 1 <|
 .seq (.ops [
 ⟨some 15, .mv (.tmp 6), none, 0⟩,
 ⟨some 7, .mv (.tmp 15), none, 0⟩]) <|
 .block 2 <|
 .loop [0, 1, 2, 6, 7] i_zz4_B1) <|
 .ops [
 ⟨some 13, .mv (.tmp 6), none, 0⟩,
 ⟨some 14, .bin .add (.tmp 13) (.const (.int .i64 1)), none, 0⟩,
 ⟨some 6, .mv (.tmp 14), none, 0⟩]
def i_zz4 : FF := ⟨49, [],
 .seq (.ops [
 ⟨some 8, .mv (.tmp 1), none, 0⟩,
 ⟨some 9, .bin .add (.tmp 8) (.const (.int .i64 1)), none, 0⟩,
 ⟨some 6, .mv (.tmp 9), none, 0⟩]) <|
 .block 0 <|
 .loop [0, 1, 2, 6] i_zz4_B2⟩
theorem e_zz4 : EntOK Tryz.prog (compD Tryz.prog) k_zz4 i_zz4.vf :=
 ⟨Tryz.f120, Tryz.f120.body.getD .skip, Tryz.func120, by kernel_rfl, by kernel_rfl, by kernel_rfl, by kernel_rfl, by kernel_rfl⟩
/-- slices.heapSortOrdered[int64] -/
def i_zz10_B1 : FC :=
 .seq (.seq (.ops [
 ⟨some 18, .mv (.tmp 9), none, 0⟩,
 ⟨some 19, .bin .geq (.tmp 18) (.const (.int .i64 0)), none, 0⟩]) <|
 .cond (.tmp 19)
 (.skip)
 (.keep [0, 6, 7, 8] <|
 .exit 0)) <|
 .seq (.block 1 <|
 .ops [
 ⟨some 22, .mv (.tmp 0), none, 0⟩,
 ⟨some 23, .mv (.tmp 9), none, 0⟩,
 ⟨some 24, .mv (.tmp 8), none, 0⟩,
 ⟨some 25, .mv (.tmp 6), none, 0⟩,
 ⟨some 26, .call k_zz11 [(.tmp 22), (.tmp 23), (.tmp 24), (.tmp 25)], none, 0⟩]) <|
 .ops [
 ⟨some 20, .mv (.tmp 9), none, 0⟩,
 ⟨some 21, .bin .sub (.tmp 20) (.const (.int .i64 1)), none, 0⟩,
 ⟨some 9, .mv (.tmp 21), none, 0⟩]
def i_zz10_B2 : FC :=
 .seq (.seq (.ops [
 ⟨some 29, .mv (.tmp 10), none, 0⟩,
 ⟨some 30, .bin .geq (.tmp 29) (.const (.int .i64 0)), none, 0⟩]) <|
 .cond (.tmp 30)
 (.skip)
 (.keep [] <|
 .exit 2)) <|
 .seq (.block 3 <|
 .seq (.dops [
 ⟨some 33, .mv (.tmp 0), none, 0⟩,
 ⟨some 34, .mv (.tmp 6), none, 0⟩,
 ⟨some 39, .mv (.tmp 0), none, 0⟩,
 ⟨some 40, .mv (.tmp 6), none, 0⟩,
 ⟨some 41, .mv (.tmp 10), none, 0⟩,
 ⟨some 42, .bin .add (.tmp 40) (.tmp 41), none, 0⟩,
 ⟨some 43, .idx 1 (.tmp 39) (.tmp 42), none, 0⟩,
 ⟨some 44, .load false 1 (.tmp 43), none, 0⟩,
 ⟨some 45, .mv (.tmp 0), none, 0⟩,
 ⟨some 46, .mv (.tmp 6), none, 0⟩,
 ⟨some 47, .idx 1 (.tmp 45) (.tmp 46), none, 0⟩,
 ⟨some 48, .load false 1 (.tmp 47), none, 0⟩,
 ⟨some 49, .idx 1 (.tmp 33) (.tmp 34), none, 0⟩,
 ⟨none, .store 1 (.tmp 49) (.tmp 44), none, 0⟩,
 ⟨some 35, .mv (.tmp 0), none, 1⟩,
 ⟨some 36, .mv (.tmp 6), none, 1⟩,
 ⟨some 37, .mv (.tmp 10), none, 1⟩,
 ⟨some 38, .bin .add (.tmp 36) (.tmp 37), none, 1⟩,
 ⟨some 50, .idx 1 (.tmp 35) (.tmp 38), none, 0⟩,
 ⟨none, .store 1 (.tmp 50) (.tmp 48), none, 0⟩]) <|
 .ops [
 ⟨some 51, .mv (.tmp 0), none, 0⟩,
 ⟨some 52, .mv (.tmp 7), none, 0⟩,
 ⟨some 53, .mv (.tmp 10), none, 0⟩,
 ⟨some 54, .mv (.tmp 6), none, 0⟩,
 ⟨some 55, .call k_zz11 [(.tmp 51), (.tmp 52), (.tmp 53), (.tmp 54)], none, 0⟩]) <|
 .ops [
 ⟨some 31, .mv (.tmp 10), none, 0⟩,
 ⟨some 32, .bin .sub (.tmp 31) (.const (.int .i64 1)), none, 0⟩,
 ⟨some 10, .mv (.tmp 32), none, 0⟩]
def i_zz10 : FF := ⟨56, [],
 .seq (.ops [
 ⟨some 11, .mv (.tmp 1), none, 0⟩,
 ⟨some 6, .mv (.tmp 11), none, 0⟩]) <|
 .seq (.ops [
 ⟨some 7, .mv (.const (.int .i64 0)), none, 0⟩]) <|
 .seq (.ops [
 ⟨some 12, .mv (.tmp 2), none, 0⟩,
 ⟨some 13, .mv (.tmp 1), none, 0⟩,
 ⟨some 14, .bin .sub (.tmp 12) (.tmp 13), none, 0⟩,
 ⟨some 8, .mv (.tmp 14), none, 0⟩]) <|
 .seq (.seq (.ops [
 ⟨some 15, .mv (.tmp 8), none, 0⟩,
 ⟨some 16, .bin .sub (.tmp 15) (.const (.int .i64 1)), none, 0⟩,
 ⟨some 17, .bin .quo (.tmp 16) (.const (.int .i64 2)), none, 0⟩,
 ⟨some 9, .mv (.tmp 17), none, 0⟩]) <|
 .block 0 <|
 .loop [0, 6, 7, 8, 9] i_zz10_B1) <|
 .seq (.ops [
 ⟨some 27, .mv (.tmp 8), none, 0⟩,
 ⟨some 28, .bin .sub (.tmp 27) (.const (.int .i64 1)), none, 0⟩,
 ⟨some 10, .mv (.tmp 28), none, 0⟩]) <|
 .block 2 <|
 .loop [0, 6, 7, 10] i_zz10_B2⟩
theorem e_zz10 : EntOK Tryz.prog (compD Tryz.prog) k_zz10 i_zz10.vf :=
 ⟨Tryz.f121, Tryz.f121.body.getD .skip, Tryz.func121, by kernel_rfl, by kernel_rfl, by kernel_rfl, by kernel_rfl, by kernel_rfl⟩
end

end Go.Proofs.YtbilmoahcnllmaaGreatDoor.Zv

