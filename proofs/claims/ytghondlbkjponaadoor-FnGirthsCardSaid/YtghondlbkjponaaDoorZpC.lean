/- Part C of the proof: ZwIr. Conditions: none. -/
import Derived.Test.YtghondlbkjponaaDoorProg
import Derived.Test.YtghondlbkjponaaDoorZpB
set_option linter.unusedSimpArgs false
set_option linter.unusedVariables false
/- The functions' intermediate form. -/
namespace Go.Proofs.YtghondlbkjponaaDoor.Zv
open Go
def k_math_bits_TrailingZeros64 : Nat := 167
def k_laws_FnGirths : Nat := 3
def k_laws_big : Nat := 7
def k_spec_DrawCountShortest : Nat := 8
def k_impl_CountShortest : Nat := 9
def k_spec_CountShortest : Nat := 10
def k_impl_GirthOf : Nat := 11
def k_spec_GirthOf : Nat := 12
def k_spec_DrawShortestThrough : Nat := 13
def k_impl_ShortestThrough : Nat := 14
def k_spec_ShortestThrough : Nat := 15
def k_spec_DrawGirthAt : Nat := 16
def k_impl_GirthAt : Nat := 17
def k_spec_GirthAt : Nat := 18
def k_impl_EdgesOf : Nat := 19
def k_spec_l02Draw : Nat := 68
def k_spec_l01From : Nat := 69
def k_impl_IsGraph : Nat := 70
def k_impl_Graph_girth : Nat := 71
def k_impl_Graph_edges : Nat := 72
def k_impl_Graph_around : Nat := 73
def k_impl_Graph_through : Nat := 74
def k_spec_l01Is : Nat := 75
def k_spec_l02Girth : Nat := 76
def k_spec_l02Around : Nat := 77
def k_impl_found : Nat := 78
def k_spec_l02Pair : Nat := 79
def k_impl_graphCode : Nat := 80
def k_impl_Graph_has : Nat := 81
def k_spec_l02Code : Nat := 82
def k_spec_l02At : Nat := 83
def k_impl_Graph_girthAt : Nat := 84
def k_spec_l01Next : Nat := 86
def k_spec_l01Pick : Nat := 87
def k_spec_l01In : Nat := 91
def k_spec_l01Empty : Nat := 94
def k_impl_own : Nat := 104
def k_spec_l01DrawOf : Nat := 122
def k_spec_l01Put : Nat := 124
def k_spec_l01Bad : Nat := 126
def k_spec_l01Neighbours : Nat := 127
def k_spec_l01DrawRegular : Nat := 133
def k_spec_l01Spoil : Nat := 134
def k_impl_list : Nat := 135
def k_impl_Graph_take : Nat := 136
def k_impl_Graph_distances : Nat := 137
def k_impl_Graph_walks : Nat := 138
def k_spec_l01Has : Nat := 139
def k_spec_l02From : Nat := 140
def k_spec_l01Draw : Nat := 144
def k_slices_Clone_int64_int64 : Nat := 146
def k_spec_l01Own : Nat := 158
def k_spec_l01Names : Nat := 162
def k_spec_l01Named : Nat := 163
def k_spec_l01Jumps : Nat := 164
def k_spec_l01Renamed : Nat := 165
def k_spec_l01DrawOrder : Nat := 166
def k_slices_Repeat_int64_int64 : Nat := 168
def k_spec_l01Complement : Nat := 180
def k_spec_l01Beside : Nat := 181
def k_math_bits_Mul : Nat := 182
def k_math_bits_Mul32 : Nat := 190
def k_math_bits_Mul64 : Nat := 191
/-- loop.example/g01331/laws.FnGirths -/
def i_laws_FnGirths_B1 : FC :=
  .seq (.seq (.ops [
    ⟨some 189, .mv (.tmp 32), none, 0⟩,
    ⟨some 190, .mv (.tmp 29), none, 0⟩,
    ⟨some 191, .len (.tmp 190), none, 0⟩,
    ⟨some 192, .bin .lss (.tmp 189) (.tmp 191), none, 0⟩]) <|
  .cond (.tmp 192)
    (.skip)
    (.keep [4, 8, 31] <|
    .exit 0)) <|
  .seq (.block 1 <|
  .seq (.dops [
    ⟨some 196, .load true 2 (.tmp 3), none, 0⟩,
    ⟨some 197, .mv (.tmp 29), none, 0⟩,
    ⟨some 198, .mv (.tmp 32), none, 0⟩,
    ⟨some 199, .idx 1 (.tmp 197) (.tmp 198), none, 0⟩,
    ⟨some 200, .load false 1 (.tmp 199), none, 0⟩,
    ⟨some 201, .idx 1 (.tmp 200) (.const (.int .i64 0)), none, 0⟩,
    ⟨some 202, .load false 1 (.tmp 201), none, 0⟩,
    ⟨some 203, .mv (.tmp 29), none, 0⟩,
    ⟨some 204, .mv (.tmp 32), none, 0⟩,
    ⟨some 205, .idx 1 (.tmp 203) (.tmp 204), none, 0⟩,
    ⟨some 206, .load false 1 (.tmp 205), none, 0⟩,
    ⟨some 207, .idx 1 (.tmp 206) (.const (.int .i64 1)), none, 0⟩,
    ⟨some 208, .load false 1 (.tmp 207), none, 0⟩,
    ⟨some 209, .call k_impl_ShortestThrough [(.tmp 196), (.tmp 202), (.tmp 208)], none, 0⟩,
    ⟨some 195, .mv (.tmp 209), none, 0⟩,
    ⟨some 210, .ext (.tmp 195) 0, none, 0⟩,
    ⟨some 211, .ext (.tmp 195) 1, none, 0⟩,
    ⟨some 33, .mv (.tmp 210), none, 0⟩,
    ⟨some 34, .mv (.tmp 211), none, 0⟩]) <|
  .seq (.seq (.ops [
    ⟨some 212, .mv (.tmp 34), none, 0⟩,
    ⟨some 213, .bin .neq (.tmp 212) (.const (.int .i64 0)), none, 0⟩]) <|
  .cond (.tmp 213)
    (.seq (.ops [
      ⟨some 2, .mv (.const (.bool false)), none, 0⟩]) <|
    .keep [2] <|
    .ret)
    (.skip)) <|
  .ops [
    ⟨some 214, .mv (.tmp 31), none, 0⟩,
    ⟨some 215, .mv (.tmp 33), none, 0⟩,
    ⟨some 216, .bin .add (.tmp 214) (.tmp 215), none, 0⟩,
    ⟨some 31, .mv (.tmp 216), none, 0⟩]) <|
  .ops [
    ⟨some 193, .mv (.tmp 32), none, 0⟩,
    ⟨some 194, .bin .add (.tmp 193) (.const (.int .i64 1)), none, 0⟩,
    ⟨some 32, .mv (.tmp 194), none, 0⟩]
def i_laws_FnGirths : FF := ⟨222, [.tmp 2],
  .seq (.ops [
    ⟨some 2, .mv (.const (.bool false)), none, 0⟩]) <|
  .seq (.seq (.ops [
    ⟨some 35, .mv (.tmp 0), none, 0⟩,
    ⟨some 36, .call k_laws_big [(.tmp 35)], none, 0⟩]) <|
  .cond (.tmp 36)
    (.seq (.ops [
      ⟨some 2, .mv (.const (.bool true)), none, 0⟩]) <|
    .keep [2] <|
    .ret)
    (.skip)) <|
  .seq (.ops [
    ⟨some 37, .mv (.tmp 0), none, 0⟩,
    ⟨some 38, .call k_spec_DrawCountShortest [(.tmp 37)], none, 0⟩,
    ⟨some 3, .alloc [.int .i64 0, .slice none 0 0], none, 0⟩,
    ⟨none, .store 2 (.tmp 3) (.tmp 38), none, 0⟩]) <|
  .seq (.ops [
    ⟨some 40, .load true 2 (.tmp 3), none, 0⟩,
    ⟨some 41, .call k_impl_CountShortest [(.tmp 40)], none, 0⟩,
    ⟨some 39, .mv (.tmp 41), none, 0⟩,
    ⟨some 42, .ext (.tmp 39) 0, none, 0⟩,
    ⟨some 43, .ext (.tmp 39) 1, none, 0⟩,
    ⟨some 4, .mv (.tmp 42), none, 0⟩,
    ⟨some 5, .mv (.tmp 43), none, 0⟩]) <|
  .seq (.seq (.ops [
    ⟨some 45, .load true 2 (.tmp 3), none, 0⟩,
    ⟨some 46, .call k_spec_CountShortest [(.tmp 45)], none, 0⟩,
    ⟨some 44, .mv (.tmp 46), none, 0⟩,
    ⟨some 47, .ext (.tmp 44) 0, none, 0⟩,
    ⟨some 48, .ext (.tmp 44) 1, none, 0⟩,
    ⟨some 6, .mv (.tmp 47), none, 0⟩,
    ⟨some 7, .mv (.tmp 48), none, 0⟩]) <|
  .seq (.ops [
    ⟨some 49, .mv (.tmp 5), none, 0⟩,
    ⟨some 50, .mv (.tmp 7), none, 0⟩,
    ⟨some 51, .bin .neq (.tmp 49) (.tmp 50), none, 0⟩,
    ⟨some 52, .mv (.tmp 51), none, 0⟩,
    ⟨some 53, .mv (.tmp 4), some (52, false), 0⟩,
    ⟨some 54, .mv (.tmp 6), some (52, false), 0⟩,
    ⟨some 55, .bin .neq (.tmp 53) (.tmp 54), some (52, false), 0⟩,
    ⟨some 56, .pick (.tmp 52) (.const (.bool true)) (.tmp 55), none, 0⟩]) <|
  .cond (.tmp 56)
    (.seq (.ops [
      ⟨some 2, .mv (.const (.bool false)), none, 0⟩]) <|
    .keep [2] <|
    .ret)
    (.skip)) <|
  .seq (.ops [
    ⟨some 58, .load true 2 (.tmp 3), none, 0⟩,
    ⟨some 59, .call k_impl_GirthOf [(.tmp 58)], none, 0⟩,
    ⟨some 57, .mv (.tmp 59), none, 0⟩,
    ⟨some 60, .ext (.tmp 57) 0, none, 0⟩,
    ⟨some 61, .ext (.tmp 57) 1, none, 0⟩,
    ⟨some 8, .mv (.tmp 60), none, 0⟩,
    ⟨some 9, .mv (.tmp 61), none, 0⟩]) <|
  .seq (.seq (.ops [
    ⟨some 63, .load true 2 (.tmp 3), none, 0⟩,
    ⟨some 64, .call k_spec_GirthOf [(.tmp 63)], none, 0⟩,
    ⟨some 62, .mv (.tmp 64), none, 0⟩,
    ⟨some 65, .ext (.tmp 62) 0, none, 0⟩,
    ⟨some 66, .ext (.tmp 62) 1, none, 0⟩,
    ⟨some 10, .mv (.tmp 65), none, 0⟩,
    ⟨some 11, .mv (.tmp 66), none, 0⟩]) <|
  .seq (.ops [
    ⟨some 67, .mv (.tmp 9), none, 0⟩,
    ⟨some 68, .mv (.tmp 11), none, 0⟩,
    ⟨some 69, .bin .neq (.tmp 67) (.tmp 68), none, 0⟩,
    ⟨some 70, .mv (.tmp 69), none, 0⟩,
    ⟨some 71, .mv (.tmp 8), some (70, false), 0⟩,
    ⟨some 72, .mv (.tmp 10), some (70, false), 0⟩,
    ⟨some 73, .bin .neq (.tmp 71) (.tmp 72), some (70, false), 0⟩,
    ⟨some 74, .pick (.tmp 70) (.const (.bool true)) (.tmp 73), none, 0⟩]) <|
  .cond (.tmp 74)
    (.seq (.ops [
      ⟨some 2, .mv (.const (.bool false)), none, 0⟩]) <|
    .keep [2] <|
    .ret)
    (.skip)) <|
  .seq (.ops [
    ⟨some 76, .mv (.tmp 0), none, 0⟩,
    ⟨some 77, .call k_spec_DrawShortestThrough [(.tmp 76)], none, 0⟩,
    ⟨some 75, .mv (.tmp 77), none, 0⟩,
    ⟨some 78, .ext (.tmp 75) 0, none, 0⟩,
    ⟨some 79, .ext (.tmp 75) 1, none, 0⟩,
    ⟨some 80, .ext (.tmp 75) 2, none, 0⟩,
    ⟨some 12, .alloc [.int .i64 0, .slice none 0 0], none, 0⟩,
    ⟨none, .store 2 (.tmp 12) (.tmp 78), none, 0⟩,
    ⟨some 13, .mv (.tmp 79), none, 0⟩,
    ⟨some 14, .mv (.tmp 80), none, 0⟩]) <|
  .seq (.ops [
    ⟨some 82, .load true 2 (.tmp 12), none, 0⟩,
    ⟨some 83, .mv (.tmp 13), none, 0⟩,
    ⟨some 84, .mv (.tmp 14), none, 0⟩,
    ⟨some 85, .call k_impl_ShortestThrough [(.tmp 82), (.tmp 83), (.tmp 84)], none, 0⟩,
    ⟨some 81, .mv (.tmp 85), none, 0⟩,
    ⟨some 86, .ext (.tmp 81) 0, none, 0⟩,
    ⟨some 87, .ext (.tmp 81) 1, none, 0⟩,
    ⟨some 15, .mv (.tmp 86), none, 0⟩,
    ⟨some 16, .mv (.tmp 87), none, 0⟩]) <|
  .seq (.seq (.ops [
    ⟨some 89, .load true 2 (.tmp 12), none, 0⟩,
    ⟨some 90, .mv (.tmp 13), none, 0⟩,
    ⟨some 91, .mv (.tmp 14), none, 0⟩,
    ⟨some 92, .call k_spec_ShortestThrough [(.tmp 89), (.tmp 90), (.tmp 91)], none, 0⟩,
    ⟨some 88, .mv (.tmp 92), none, 0⟩,
    ⟨some 93, .ext (.tmp 88) 0, none, 0⟩,
    ⟨some 94, .ext (.tmp 88) 1, none, 0⟩,
    ⟨some 17, .mv (.tmp 93), none, 0⟩,
    ⟨some 18, .mv (.tmp 94), none, 0⟩]) <|
  .seq (.ops [
    ⟨some 95, .mv (.tmp 16), none, 0⟩,
    ⟨some 96, .mv (.tmp 18), none, 0⟩,
    ⟨some 97, .bin .neq (.tmp 95) (.tmp 96), none, 0⟩,
    ⟨some 98, .mv (.tmp 97), none, 0⟩,
    ⟨some 99, .mv (.tmp 15), some (98, false), 0⟩,
    ⟨some 100, .mv (.tmp 17), some (98, false), 0⟩,
    ⟨some 101, .bin .neq (.tmp 99) (.tmp 100), some (98, false), 0⟩,
    ⟨some 102, .pick (.tmp 98) (.const (.bool true)) (.tmp 101), none, 0⟩]) <|
  .cond (.tmp 102)
    (.seq (.ops [
      ⟨some 2, .mv (.const (.bool false)), none, 0⟩]) <|
    .keep [2] <|
    .ret)
    (.skip)) <|
  .seq (.ops [
    ⟨some 104, .mv (.tmp 0), none, 0⟩,
    ⟨some 105, .call k_spec_DrawGirthAt [(.tmp 104)], none, 0⟩,
    ⟨some 103, .mv (.tmp 105), none, 0⟩,
    ⟨some 106, .ext (.tmp 103) 0, none, 0⟩,
    ⟨some 107, .ext (.tmp 103) 1, none, 0⟩,
    ⟨some 19, .alloc [.int .i64 0, .slice none 0 0], none, 0⟩,
    ⟨none, .store 2 (.tmp 19) (.tmp 106), none, 0⟩,
    ⟨some 20, .mv (.tmp 107), none, 0⟩]) <|
  .seq (.ops [
    ⟨some 109, .load true 2 (.tmp 19), none, 0⟩,
    ⟨some 110, .mv (.tmp 20), none, 0⟩,
    ⟨some 111, .call k_impl_GirthAt [(.tmp 109), (.tmp 110)], none, 0⟩,
    ⟨some 108, .mv (.tmp 111), none, 0⟩,
    ⟨some 112, .ext (.tmp 108) 0, none, 0⟩,
    ⟨some 113, .ext (.tmp 108) 1, none, 0⟩,
    ⟨some 21, .mv (.tmp 112), none, 0⟩,
    ⟨some 22, .mv (.tmp 113), none, 0⟩]) <|
  .seq (.seq (.ops [
    ⟨some 115, .load true 2 (.tmp 19), none, 0⟩,
    ⟨some 116, .mv (.tmp 20), none, 0⟩,
    ⟨some 117, .call k_spec_GirthAt [(.tmp 115), (.tmp 116)], none, 0⟩,
    ⟨some 114, .mv (.tmp 117), none, 0⟩,
    ⟨some 118, .ext (.tmp 114) 0, none, 0⟩,
    ⟨some 119, .ext (.tmp 114) 1, none, 0⟩,
    ⟨some 23, .mv (.tmp 118), none, 0⟩,
    ⟨some 24, .mv (.tmp 119), none, 0⟩]) <|
  .seq (.ops [
    ⟨some 120, .mv (.tmp 22), none, 0⟩,
    ⟨some 121, .mv (.tmp 24), none, 0⟩,
    ⟨some 122, .bin .neq (.tmp 120) (.tmp 121), none, 0⟩,
    ⟨some 123, .mv (.tmp 122), none, 0⟩,
    ⟨some 124, .mv (.tmp 21), some (123, false), 0⟩,
    ⟨some 125, .mv (.tmp 23), some (123, false), 0⟩,
    ⟨some 126, .bin .neq (.tmp 124) (.tmp 125), some (123, false), 0⟩,
    ⟨some 127, .pick (.tmp 123) (.const (.bool true)) (.tmp 126), none, 0⟩]) <|
  .cond (.tmp 127)
    (.seq (.ops [
      ⟨some 2, .mv (.const (.bool false)), none, 0⟩]) <|
    .keep [2] <|
    .ret)
    (.skip)) <|
  .seq (.seq (.ops [
    ⟨some 128, .mv (.tmp 22), none, 0⟩,
    ⟨some 129, .bin .eql (.tmp 128) (.const (.int .i64 0)), none, 0⟩]) <|
  .cond (.tmp 129)
    (.seq (.ops [
      ⟨some 131, .load true 2 (.tmp 19), none, 0⟩,
      ⟨some 132, .call k_impl_GirthOf [(.tmp 131)], none, 0⟩,
      ⟨some 130, .mv (.tmp 132), none, 0⟩,
      ⟨some 133, .ext (.tmp 130) 0, none, 0⟩,
      ⟨some 134, .ext (.tmp 130) 1, none, 0⟩,
      ⟨some 25, .mv (.tmp 133), none, 0⟩,
      ⟨some 26, .mv (.tmp 134), none, 0⟩]) <|
    .seq (.ops [
      ⟨some 135, .mv (.tmp 26), none, 0⟩,
      ⟨some 136, .bin .neq (.tmp 135) (.const (.int .i64 0)), none, 0⟩,
      ⟨some 137, .mv (.tmp 136), none, 0⟩,
      ⟨some 138, .mv (.tmp 25), some (137, false), 0⟩,
      ⟨some 139, .mv (.tmp 21), some (137, false), 0⟩,
      ⟨some 140, .bin .gtr (.tmp 138) (.tmp 139), some (137, false), 0⟩,
      ⟨some 141, .pick (.tmp 137) (.const (.bool true)) (.tmp 140), none, 0⟩,
      ⟨some 142, .mv (.tmp 141), none, 0⟩,
      ⟨some 143, .mv (.tmp 25), some (142, false), 0⟩,
      ⟨some 144, .bin .lss (.tmp 143) (.const (.int .i64 3)), some (142, false), 0⟩,
      ⟨some 145, .pick (.tmp 142) (.const (.bool true)) (.tmp 144), none, 0⟩]) <|
    .cond (.tmp 145)
      (.seq (.ops [
        ⟨some 2, .mv (.const (.bool false)), none, 0⟩]) <|
      .keep [2] <|
      .ret)
      (.skip))
    (.skip)) <|
  .seq (.seq (.ops [
    ⟨some 146, .mv (.tmp 16), none, 0⟩,
    ⟨some 147, .bin .eql (.tmp 146) (.const (.int .i64 0)), none, 0⟩]) <|
  .cond (.tmp 147)
    (.seq (.ops [
      ⟨some 149, .load true 2 (.tmp 12), none, 0⟩,
      ⟨some 150, .mv (.tmp 14), none, 0⟩,
      ⟨some 151, .mv (.tmp 13), none, 0⟩,
      ⟨some 152, .call k_impl_ShortestThrough [(.tmp 149), (.tmp 150), (.tmp 151)], none, 0⟩,
      ⟨some 148, .mv (.tmp 152), none, 0⟩,
      ⟨some 153, .ext (.tmp 148) 0, none, 0⟩,
      ⟨some 154, .ext (.tmp 148) 1, none, 0⟩,
      ⟨some 27, .mv (.tmp 153), none, 0⟩,
      ⟨some 28, .mv (.tmp 154), none, 0⟩]) <|
    .seq (.ops [
      ⟨some 155, .mv (.tmp 28), none, 0⟩,
      ⟨some 156, .bin .neq (.tmp 155) (.const (.int .i64 0)), none, 0⟩,
      ⟨some 157, .mv (.tmp 156), none, 0⟩,
      ⟨some 158, .mv (.tmp 27), some (157, false), 0⟩,
      ⟨some 159, .mv (.tmp 15), some (157, false), 0⟩,
      ⟨some 160, .bin .neq (.tmp 158) (.tmp 159), some (157, false), 0⟩,
      ⟨some 161, .pick (.tmp 157) (.const (.bool true)) (.tmp 160), none, 0⟩]) <|
    .cond (.tmp 161)
      (.seq (.ops [
        ⟨some 2, .mv (.const (.bool false)), none, 0⟩]) <|
      .keep [2] <|
      .ret)
      (.skip))
    (.skip)) <|
  .seq (.seq (.ops [
    ⟨some 162, .mv (.tmp 5), none, 0⟩,
    ⟨some 163, .bin .neq (.tmp 162) (.const (.int .i64 0)), none, 0⟩]) <|
  .cond (.tmp 163)
    (.seq (.ops [
      ⟨some 164, .mv (.tmp 4), none, 0⟩,
      ⟨some 165, .bin .eql (.tmp 164) (.const (.int .i64 0)), none, 0⟩,
      ⟨some 166, .mv (.tmp 165), none, 0⟩,
      ⟨some 167, .mv (.tmp 9), some (166, true), 0⟩,
      ⟨some 168, .mv (.tmp 5), some (166, true), 0⟩,
      ⟨some 169, .bin .eql (.tmp 167) (.tmp 168), some (166, true), 0⟩,
      ⟨some 170, .pick (.tmp 166) (.tmp 169) (.const (.bool false)), none, 0⟩,
      ⟨some 2, .mv (.tmp 170), none, 0⟩]) <|
    .keep [2] <|
    .ret)
    (.skip)) <|
  .seq (.ops [
    ⟨some 172, .load true 2 (.tmp 3), none, 0⟩,
    ⟨some 173, .call k_impl_EdgesOf [(.tmp 172)], none, 0⟩,
    ⟨some 171, .mv (.tmp 173), none, 0⟩,
    ⟨some 174, .ext (.tmp 171) 0, none, 0⟩,
    ⟨some 175, .ext (.tmp 171) 1, none, 0⟩,
    ⟨some 29, .mv (.tmp 174), none, 0⟩,
    ⟨some 30, .mv (.tmp 175), none, 0⟩]) <|
  .seq (.seq (.ops [
    ⟨some 176, .mv (.tmp 9), none, 0⟩,
    ⟨some 177, .bin .neq (.tmp 176) (.const (.int .i64 0)), none, 0⟩,
    ⟨some 178, .mv (.tmp 177), none, 0⟩,
    ⟨some 179, .mv (.tmp 30), some (178, false), 0⟩,
    ⟨some 180, .bin .neq (.tmp 179) (.const (.int .i64 0)), some (178, false), 0⟩,
    ⟨some 181, .pick (.tmp 178) (.const (.bool true)) (.tmp 180), none, 0⟩,
    ⟨some 182, .mv (.tmp 181), none, 0⟩,
    ⟨some 183, .mv (.tmp 4), some (182, false), 0⟩,
    ⟨some 184, .bin .lss (.tmp 183) (.const (.int .i64 1)), some (182, false), 0⟩,
    ⟨some 185, .pick (.tmp 182) (.const (.bool true)) (.tmp 184), none, 0⟩]) <|
  .cond (.tmp 185)
    (.seq (.ops [
      ⟨some 2, .mv (.const (.bool false)), none, 0⟩]) <|
    .keep [2] <|
    .ret)
    (.skip)) <|
  .seq (.seq (.ops [
    ⟨some 186, .mv (.tmp 29), none, 0⟩,
    ⟨some 187, .len (.tmp 186), none, 0⟩,
    ⟨some 188, .bin .gtr (.tmp 187) (.const (.int .i64 24)), none, 0⟩]) <|
  .cond (.tmp 188)
    (.seq (.ops [
      ⟨some 2, .mv (.const (.bool true)), none, 0⟩]) <|
    .keep [2] <|
    .ret)
    (.skip)) <|
  .seq (.ops [
    ⟨some 31, .mv (.const (.int .i64 0)), none, 0⟩]) <|
  .seq (.seq (.ops [
    ⟨some 32, .mv (.const (.int .i64 0)), none, 0⟩]) <|
  .block 0 <|
  .loop [3, 4, 8, 29, 31, 32] i_laws_FnGirths_B1) <|
  .seq (.ops [
    ⟨some 217, .mv (.tmp 31), none, 0⟩,
    ⟨some 218, .mv (.tmp 4), none, 0⟩,
    ⟨some 219, .mv (.tmp 8), none, 0⟩,
    ⟨some 220, .bin .mul (.tmp 218) (.tmp 219), none, 0⟩,
    ⟨some 221, .bin .eql (.tmp 217) (.tmp 220), none, 0⟩,
    ⟨some 2, .mv (.tmp 221), none, 0⟩]) <|
  .keep [2] <|
  .ret⟩

theorem e_laws_FnGirths : EntOK Tryd.prog (compD Tryd.prog) k_laws_FnGirths i_laws_FnGirths.vf :=
  ⟨Tryd.f3, Tryd.f3.body.getD .skip, Tryd.func3, by kernel_rfl, by kernel_rfl, by kernel_rfl, by kernel_rfl, by kernel_rfl⟩

/-- loop.example/g01331/laws.big -/
def i_laws_big : FF := ⟨6, [.tmp 2],
  .seq (.ops [
    ⟨some 2, .mv (.const (.bool false)), none, 0⟩]) <|
  .seq (.ops [
    ⟨some 3, .mv (.tmp 0), none, 0⟩,
    ⟨some 4, .len (.tmp 3), none, 0⟩,
    ⟨some 5, .bin .gtr (.tmp 4) (.const (.int .i64 4096)), none, 0⟩,
    ⟨some 2, .mv (.tmp 5), none, 0⟩]) <|
  .keep [2] <|
  .ret⟩

theorem e_laws_big : EntOK Tryd.prog (compD Tryd.prog) k_laws_big i_laws_big.vf :=
  ⟨Tryd.f7, Tryd.f7.body.getD .skip, Tryd.func7, by kernel_rfl, by kernel_rfl, by kernel_rfl, by kernel_rfl, by kernel_rfl⟩

/-- loop.example/g01331/spec.DrawCountShortest -/
def i_spec_DrawCountShortest : FF := ⟨6, [.cell 2 true 2],
  .seq (.ops [
    ⟨some 2, .alloc [.int .i64 0, .slice none 0 0], none, 0⟩]) <|
  .seq (.ops [
    ⟨some 3, .mv (.tmp 0), none, 0⟩,
    ⟨some 4, .call k_spec_l01From [(.tmp 3)], none, 0⟩,
    ⟨some 5, .call k_spec_l02Draw [(.tmp 4)], none, 0⟩,
    ⟨none, .store 2 (.tmp 2) (.tmp 5), none, 0⟩]) <|
  .keep [2] <|
  .ret⟩

theorem e_spec_DrawCountShortest : EntOK Tryd.prog (compD Tryd.prog) k_spec_DrawCountShortest i_spec_DrawCountShortest.vf :=
  ⟨Tryd.f8, Tryd.f8.body.getD .skip, Tryd.func8, by kernel_rfl, by kernel_rfl, by kernel_rfl, by kernel_rfl, by kernel_rfl⟩

/-- loop.example/g01331/impl.CountShortest -/
def i_impl_CountShortest_B1 : FC :=
  .seq (.ops [
    ⟨some 19, .bin .lss (.tmp 18) (.tmp 17), none, 0⟩]) <|
  .seq (.cond (.tmp 19)
    (.skip)
    (.keep [4, 5] <|
    .exit 0)) <|
  .seq (.block 1 <|
  .seq (.ops [
    ⟨some 20, .idx 1 (.tmp 16) (.tmp 18), none, 0⟩,
    ⟨some 21, .load false 1 (.tmp 20), none, 0⟩,
    ⟨some 7, .mv (.tmp 21), none, 0⟩]) <|
  .seq (.dops [
    ⟨some 22, .load true 2 (.tmp 1), none, 0⟩,
    ⟨some 23, .mv (.tmp 7), none, 0⟩,
    ⟨some 24, .idx 1 (.tmp 23) (.const (.int .i64 0)), none, 0⟩,
    ⟨some 25, .load false 1 (.tmp 24), none, 0⟩,
    ⟨some 26, .mv (.tmp 7), none, 0⟩,
    ⟨some 27, .idx 1 (.tmp 26) (.const (.int .i64 1)), none, 0⟩,
    ⟨some 28, .load false 1 (.tmp 27), none, 0⟩,
    ⟨some 29, .call k_impl_Graph_around [(.tmp 22), (.tmp 25), (.tmp 28)], none, 0⟩,
    ⟨some 30, .mv (.tmp 4), none, 1⟩,
    ⟨some 31, .bin .eql (.tmp 29) (.tmp 30), none, 0⟩]) <|
  .cond (.tmp 31)
    (.dops [
      ⟨some 33, .load true 2 (.tmp 1), none, 0⟩,
      ⟨some 34, .mv (.tmp 7), none, 0⟩,
      ⟨some 35, .idx 1 (.tmp 34) (.const (.int .i64 0)), none, 0⟩,
      ⟨some 36, .load false 1 (.tmp 35), none, 0⟩,
      ⟨some 37, .mv (.tmp 7), none, 0⟩,
      ⟨some 38, .idx 1 (.tmp 37) (.const (.int .i64 1)), none, 0⟩,
      ⟨some 39, .load false 1 (.tmp 38), none, 0⟩,
      ⟨some 40, .mv (.tmp 4), none, 0⟩,
      ⟨some 41, .call k_impl_Graph_through [(.tmp 33), (.tmp 36), (.tmp 39), (.tmp 40)], none, 0⟩,
      ⟨some 32, .mv (.tmp 5), none, 1⟩,
      ⟨some 42, .bin .add (.tmp 32) (.tmp 41), none, 0⟩,
      ⟨some 5, .mv (.tmp 42), none, 0⟩])
    (.skip)) <|
  .ops [
    ⟨some 43, .bin .add (.tmp 18) (.const (.int .i64 1)), none, 0⟩,
    ⟨some 18, .mv (.tmp 43), none, 0⟩]
def i_impl_CountShortest : FF := ⟨47, [.tmp 2, .tmp 3],
  .seq (.ops [
    ⟨some 1, .box 2 (.tmp 0), none, 0⟩,
    ⟨some 2, .mv (.const (.int .i64 0)), none, 0⟩,
    ⟨some 3, .mv (.const (.int .i64 0)), none, 0⟩]) <|
  .seq (.seq (.ops [
    ⟨some 8, .load true 2 (.tmp 1), none, 0⟩,
    ⟨some 9, .call k_impl_IsGraph [(.tmp 8)], none, 0⟩,
    ⟨some 10, .un .not (.tmp 9), none, 0⟩]) <|
  .cond (.tmp 10)
    (.seq (.ops [
      ⟨some 2, .mv (.const (.int .i64 0)), none, 0⟩,
      ⟨some 3, .mv (.const (.int .i64 1)), none, 0⟩]) <|
    .keep [2, 3] <|
    .ret)
    (.skip)) <|
  .seq (.ops [
    ⟨some 11, .load true 2 (.tmp 1), none, 0⟩,
    ⟨some 12, .call k_impl_Graph_girth [(.tmp 11)], none, 0⟩,
    ⟨some 4, .mv (.tmp 12), none, 0⟩,
    ⟨some 5, .mv (.const (.int .i64 0)), none, 0⟩]) <|
  .seq (.seq (.ops [
    ⟨some 13, .mv (.tmp 4), none, 0⟩,
    ⟨some 14, .bin .eql (.tmp 13) (.const (.int .i64 0)), none, 0⟩]) <|
  .cond (.tmp 14)
    (.seq (.ops [
      ⟨some 2, .mv (.const (.int .i64 0)), none, 0⟩,
      ⟨some 3, .mv (.const (.int .i64 4)), none, 0⟩]) <|
    .keep [2, 3] <|
    .ret)
    (.skip)) <|
  .seq (.seq (.ops [
    ⟨some 15, .load true 2 (.tmp 1), none, 0⟩,
    ⟨some 16, .call k_impl_Graph_edges [(.tmp 15)], none, 0⟩,
    ⟨some 17, .len (.tmp 16), none, 0⟩,
    ⟨some 18, .mv (.const (.int .i64 0)), none, 0⟩]) <|
  .block 0 <|
  .loop [1, 4, 5, 16, 17, 18] i_impl_CountShortest_B1) <|
  .seq (.ops [
    ⟨some 44, .mv (.tmp 5), none, 0⟩,
    ⟨some 45, .mv (.tmp 4), none, 0⟩,
    ⟨some 46, .bin .quo (.tmp 44) (.tmp 45), none, 0⟩,
    ⟨some 2, .mv (.tmp 46), none, 0⟩,
    ⟨some 3, .mv (.const (.int .i64 0)), none, 0⟩]) <|
  .keep [2, 3] <|
  .ret⟩

theorem e_impl_CountShortest : EntOK Tryd.prog (compD Tryd.prog) k_impl_CountShortest i_impl_CountShortest.vf :=
  ⟨Tryd.f9, Tryd.f9.body.getD .skip, Tryd.func9, by kernel_rfl, by kernel_rfl, by kernel_rfl, by kernel_rfl, by kernel_rfl⟩

/-- loop.example/g01331/spec.CountShortest -/
def i_spec_CountShortest_B1 : FC :=
  .seq (.seq (.ops [
    ⟨some 25, .mv (.tmp 7), none, 0⟩,
    ⟨some 26, .fld 0 (.tmp 1), none, 0⟩,
    ⟨some 27, .load false 1 (.tmp 26), none, 0⟩,
    ⟨some 28, .bin .lss (.tmp 25) (.tmp 27), none, 0⟩]) <|
  .cond (.tmp 28)
    (.skip)
    (.keep [1, 4, 5, 6] <|
    .exit 2)) <|
  .seq (.block 3 <|
  .seq (.seq (.ops [
    ⟨some 31, .fld 1 (.tmp 1), none, 0⟩,
    ⟨some 32, .load false 1 (.tmp 31), none, 0⟩,
    ⟨some 33, .mv (.tmp 6), none, 0⟩,
    ⟨some 34, .idx 1 (.tmp 32) (.tmp 33), none, 0⟩,
    ⟨some 35, .load false 1 (.tmp 34), none, 0⟩,
    ⟨some 36, .mv (.tmp 7), none, 0⟩,
    ⟨some 37, .conv .u64 (.tmp 36), none, 0⟩,
    ⟨some 38, .bin .shr (.tmp 35) (.tmp 37), none, 0⟩,
    ⟨some 39, .bin .and (.tmp 38) (.const (.int .i64 1)), none, 0⟩,
    ⟨some 40, .bin .eql (.tmp 39) (.const (.int .i64 0)), none, 0⟩]) <|
  .cond (.tmp 40)
    (.keep [1, 4, 5, 6, 7] <|
    .exit 3)
    (.skip)) <|
  .seq (.ops [
    ⟨some 42, .load true 2 (.tmp 1), none, 0⟩,
    ⟨some 43, .mv (.tmp 6), none, 0⟩,
    ⟨some 44, .mv (.tmp 7), none, 0⟩,
    ⟨some 45, .call k_spec_l02Around [(.tmp 42), (.tmp 43), (.tmp 44)], none, 0⟩,
    ⟨some 41, .mv (.tmp 45), none, 0⟩,
    ⟨some 46, .ext (.tmp 41) 0, none, 0⟩,
    ⟨some 47, .ext (.tmp 41) 1, none, 0⟩,
    ⟨some 8, .mv (.tmp 46), none, 0⟩,
    ⟨some 9, .mv (.tmp 47), none, 0⟩]) <|
  .seq (.ops [
    ⟨some 48, .mv (.tmp 8), none, 0⟩,
    ⟨some 49, .mv (.tmp 4), none, 0⟩,
    ⟨some 50, .bin .eql (.tmp 48) (.tmp 49), none, 0⟩]) <|
  .cond (.tmp 50)
    (.ops [
      ⟨some 51, .mv (.tmp 5), none, 0⟩,
      ⟨some 52, .mv (.tmp 9), none, 0⟩,
      ⟨some 53, .bin .add (.tmp 51) (.tmp 52), none, 0⟩,
      ⟨some 5, .mv (.tmp 53), none, 0⟩])
    (.skip)) <|
  .ops [
    ⟨some 29, .mv (.tmp 7), none, 0⟩,
    ⟨some 30, .bin .add (.tmp 29) (.const (.int .i64 1)), none, 0⟩,
    ⟨some 7, .mv (.tmp 30), none, 0⟩]
def i_spec_CountShortest_B2 : FC :=
  .seq (.seq (.ops [
    ⟨some 17, .mv (.tmp 6), none, 0⟩,
    ⟨some 18, .fld 0 (.tmp 1), none, 0⟩,
    ⟨some 19, .load false 1 (.tmp 18), none, 0⟩,
    ⟨some 20, .bin .lss (.tmp 17) (.tmp 19), none, 0⟩]) <|
  .cond (.tmp 20)
    (.skip)
    (.keep [4, 5] <|
    .exit 0)) <|
  .seq (.block 1 <|
  .seq (.ops [
    ⟨some 23, .mv (.tmp 6), none, 0⟩,
    ⟨some 24, .bin .add (.tmp 23) (.const (.int .i64 1)), none, 0⟩,
    ⟨some 7, .mv (.tmp 24), none, 0⟩]) <|
  .block 2 <|
  .loop [1, 4, 5, 6, 7] i_spec_CountShortest_B1) <|
  .ops [
    ⟨some 21, .mv (.tmp 6), none, 0⟩,
    ⟨some 22, .bin .add (.tmp 21) (.const (.int .i64 1)), none, 0⟩,
    ⟨some 6, .mv (.tmp 22), none, 0⟩]
def i_spec_CountShortest : FF := ⟨57, [.tmp 2, .tmp 3],
  .seq (.ops [
    ⟨some 1, .box 2 (.tmp 0), none, 0⟩,
    ⟨some 2, .mv (.const (.int .i64 0)), none, 0⟩,
    ⟨some 3, .mv (.const (.int .i64 0)), none, 0⟩]) <|
  .seq (.seq (.ops [
    ⟨some 10, .load true 2 (.tmp 1), none, 0⟩,
    ⟨some 11, .call k_spec_l01Is [(.tmp 10)], none, 0⟩,
    ⟨some 12, .un .not (.tmp 11), none, 0⟩]) <|
  .cond (.tmp 12)
    (.seq (.ops [
      ⟨some 2, .mv (.const (.int .i64 0)), none, 0⟩,
      ⟨some 3, .mv (.const (.int .i64 1)), none, 0⟩]) <|
    .keep [2, 3] <|
    .ret)
    (.skip)) <|
  .seq (.ops [
    ⟨some 13, .load true 2 (.tmp 1), none, 0⟩,
    ⟨some 14, .call k_spec_l02Girth [(.tmp 13), (.const (.int .i64 (-1)))], none, 0⟩,
    ⟨some 4, .mv (.tmp 14), none, 0⟩,
    ⟨some 5, .mv (.const (.int .i64 0)), none, 0⟩]) <|
  .seq (.seq (.ops [
    ⟨some 15, .mv (.tmp 4), none, 0⟩,
    ⟨some 16, .bin .eql (.tmp 15) (.const (.int .i64 0)), none, 0⟩]) <|
  .cond (.tmp 16)
    (.seq (.ops [
      ⟨some 2, .mv (.const (.int .i64 0)), none, 0⟩,
      ⟨some 3, .mv (.const (.int .i64 4)), none, 0⟩]) <|
    .keep [2, 3] <|
    .ret)
    (.skip)) <|
  .seq (.seq (.ops [
    ⟨some 6, .mv (.const (.int .i64 0)), none, 0⟩]) <|
  .block 0 <|
  .loop [1, 4, 5, 6] i_spec_CountShortest_B2) <|
  .seq (.ops [
    ⟨some 54, .mv (.tmp 5), none, 0⟩,
    ⟨some 55, .mv (.tmp 4), none, 0⟩,
    ⟨some 56, .bin .quo (.tmp 54) (.tmp 55), none, 0⟩,
    ⟨some 2, .mv (.tmp 56), none, 0⟩,
    ⟨some 3, .mv (.const (.int .i64 0)), none, 0⟩]) <|
  .keep [2, 3] <|
  .ret⟩

theorem e_spec_CountShortest : EntOK Tryd.prog (compD Tryd.prog) k_spec_CountShortest i_spec_CountShortest.vf :=
  ⟨Tryd.f10, Tryd.f10.body.getD .skip, Tryd.func10, by kernel_rfl, by kernel_rfl, by kernel_rfl, by kernel_rfl, by kernel_rfl⟩

/-- loop.example/g01331/impl.GirthOf -/
def i_impl_GirthOf : FF := ⟨12, [.tmp 2, .tmp 3],
  .seq (.ops [
    ⟨some 1, .box 2 (.tmp 0), none, 0⟩,
    ⟨some 2, .mv (.const (.int .i64 0)), none, 0⟩,
    ⟨some 3, .mv (.const (.int .i64 0)), none, 0⟩]) <|
  .seq (.seq (.ops [
    ⟨some 4, .load true 2 (.tmp 1), none, 0⟩,
    ⟨some 5, .call k_impl_IsGraph [(.tmp 4)], none, 0⟩,
    ⟨some 6, .un .not (.tmp 5), none, 0⟩]) <|
  .cond (.tmp 6)
    (.seq (.ops [
      ⟨some 2, .mv (.const (.int .i64 0)), none, 0⟩,
      ⟨some 3, .mv (.const (.int .i64 1)), none, 0⟩]) <|
    .keep [2, 3] <|
    .ret)
    (.skip)) <|
  .seq (.ops [
    ⟨some 7, .load true 2 (.tmp 1), none, 0⟩,
    ⟨some 8, .call k_impl_Graph_girth [(.tmp 7)], none, 0⟩,
    ⟨some 9, .call k_impl_found [(.tmp 8)], none, 0⟩,
    ⟨some 10, .ext (.tmp 9) 0, none, 0⟩,
    ⟨some 11, .ext (.tmp 9) 1, none, 0⟩,
    ⟨some 2, .mv (.tmp 10), none, 0⟩,
    ⟨some 3, .mv (.tmp 11), none, 0⟩]) <|
  .keep [2, 3] <|
  .ret⟩

theorem e_impl_GirthOf : EntOK Tryd.prog (compD Tryd.prog) k_impl_GirthOf i_impl_GirthOf.vf :=
  ⟨Tryd.f11, Tryd.f11.body.getD .skip, Tryd.func11, by kernel_rfl, by kernel_rfl, by kernel_rfl, by kernel_rfl, by kernel_rfl⟩

/-- loop.example/g01331/spec.GirthOf -/
def i_spec_GirthOf : FF := ⟨13, [.tmp 2, .tmp 3],
  .seq (.ops [
    ⟨some 1, .box 2 (.tmp 0), none, 0⟩,
    ⟨some 2, .mv (.const (.int .i64 0)), none, 0⟩,
    ⟨some 3, .mv (.const (.int .i64 0)), none, 0⟩]) <|
  .seq (.seq (.ops [
    ⟨some 5, .load true 2 (.tmp 1), none, 0⟩,
    ⟨some 6, .call k_spec_l01Is [(.tmp 5)], none, 0⟩,
    ⟨some 7, .un .not (.tmp 6), none, 0⟩]) <|
  .cond (.tmp 7)
    (.seq (.ops [
      ⟨some 2, .mv (.const (.int .i64 0)), none, 0⟩,
      ⟨some 3, .mv (.const (.int .i64 1)), none, 0⟩]) <|
    .keep [2, 3] <|
    .ret)
    (.skip)) <|
  .seq (.ops [
    ⟨some 8, .load true 2 (.tmp 1), none, 0⟩,
    ⟨some 9, .call k_spec_l02Girth [(.tmp 8), (.const (.int .i64 (-1)))], none, 0⟩,
    ⟨some 4, .mv (.tmp 9), none, 0⟩]) <|
  .seq (.seq (.ops [
    ⟨some 10, .mv (.tmp 4), none, 0⟩,
    ⟨some 11, .bin .eql (.tmp 10) (.const (.int .i64 0)), none, 0⟩]) <|
  .cond (.tmp 11)
    (.seq (.ops [
      ⟨some 2, .mv (.const (.int .i64 0)), none, 0⟩,
      ⟨some 3, .mv (.const (.int .i64 4)), none, 0⟩]) <|
    .keep [2, 3] <|
    .ret)
    (.skip)) <|
  .seq (.ops [
    ⟨some 12, .mv (.tmp 4), none, 0⟩,
    ⟨some 2, .mv (.tmp 12), none, 0⟩,
    ⟨some 3, .mv (.const (.int .i64 0)), none, 0⟩]) <|
  .keep [2, 3] <|
  .ret⟩

theorem e_spec_GirthOf : EntOK Tryd.prog (compD Tryd.prog) k_spec_GirthOf i_spec_GirthOf.vf :=
  ⟨Tryd.f12, Tryd.f12.body.getD .skip, Tryd.func12, by kernel_rfl, by kernel_rfl, by kernel_rfl, by kernel_rfl, by kernel_rfl⟩

/-- loop.example/g01331/spec.DrawShortestThrough -/
def i_spec_DrawShortestThrough : FF := ⟨10, [.cell 2 true 2, .tmp 3, .tmp 4],
  .seq (.ops [
    ⟨some 2, .alloc [.int .i64 0, .slice none 0 0], none, 0⟩,
    ⟨some 3, .mv (.const (.int .i64 0)), none, 0⟩,
    ⟨some 4, .mv (.const (.int .i64 0)), none, 0⟩]) <|
  .seq (.ops [
    ⟨some 5, .mv (.tmp 0), none, 0⟩,
    ⟨some 6, .call k_spec_l02Pair [(.tmp 5)], none, 0⟩,
    ⟨some 7, .ext (.tmp 6) 0, none, 0⟩,
    ⟨some 8, .ext (.tmp 6) 1, none, 0⟩,
    ⟨some 9, .ext (.tmp 6) 2, none, 0⟩,
    ⟨none, .store 2 (.tmp 2) (.tmp 7), none, 0⟩,
    ⟨some 3, .mv (.tmp 8), none, 0⟩,
    ⟨some 4, .mv (.tmp 9), none, 0⟩]) <|
  .keep [2, 3, 4] <|
  .ret⟩

theorem e_spec_DrawShortestThrough : EntOK Tryd.prog (compD Tryd.prog) k_spec_DrawShortestThrough i_spec_DrawShortestThrough.vf :=
  ⟨Tryd.f13, Tryd.f13.body.getD .skip, Tryd.func13, by kernel_rfl, by kernel_rfl, by kernel_rfl, by kernel_rfl, by kernel_rfl⟩

/-- loop.example/g01331/impl.ShortestThrough -/
def i_impl_ShortestThrough : FF := ⟨40, [.tmp 6, .tmp 7],
  .seq (.ops [
    ⟨some 3, .box 2 (.tmp 0), none, 0⟩,
    ⟨some 6, .mv (.const (.int .i64 0)), none, 0⟩,
    ⟨some 7, .mv (.const (.int .i64 0)), none, 0⟩]) <|
  .seq (.seq (.ops [
    ⟨some 10, .load true 2 (.tmp 3), none, 0⟩,
    ⟨some 11, .mv (.tmp 1), none, 0⟩,
    ⟨some 12, .mv (.tmp 2), none, 0⟩,
    ⟨some 13, .buildSl 1 [.int .i64 0, .int .i64 0] [(0, 1, (.tmp 11)), (1, 1, (.tmp 12))] 2, none, 0⟩,
    ⟨some 14, .call k_impl_graphCode [(.tmp 10), (.tmp 13)], none, 0⟩,
    ⟨some 8, .mv (.tmp 14), none, 0⟩]) <|
  .seq (.ops [
    ⟨some 15, .mv (.tmp 8), none, 0⟩,
    ⟨some 16, .bin .neq (.tmp 15) (.const (.int .i64 0)), none, 0⟩]) <|
  .cond (.tmp 16)
    (.seq (.ops [
      ⟨some 17, .mv (.tmp 8), none, 0⟩,
      ⟨some 6, .mv (.const (.int .i64 0)), none, 0⟩,
      ⟨some 7, .mv (.tmp 17), none, 0⟩]) <|
    .keep [6, 7] <|
    .ret)
    (.skip)) <|
  .seq (.seq (.ops [
    ⟨some 18, .load true 2 (.tmp 3), none, 0⟩,
    ⟨some 19, .mv (.tmp 1), none, 0⟩,
    ⟨some 20, .mv (.tmp 2), none, 0⟩,
    ⟨some 21, .call k_impl_Graph_has [(.tmp 18), (.tmp 19), (.tmp 20)], none, 0⟩,
    ⟨some 22, .un .not (.tmp 21), none, 0⟩]) <|
  .cond (.tmp 22)
    (.seq (.ops [
      ⟨some 6, .mv (.const (.int .i64 0)), none, 0⟩,
      ⟨some 7, .mv (.const (.int .i64 5)), none, 0⟩]) <|
    .keep [6, 7] <|
    .ret)
    (.skip)) <|
  .seq (.ops [
    ⟨some 23, .load true 2 (.tmp 3), none, 0⟩,
    ⟨some 24, .call k_impl_Graph_girth [(.tmp 23)], none, 0⟩,
    ⟨some 9, .mv (.tmp 24), none, 0⟩]) <|
  .seq (.block 0 <|
  .seq (.ops [
    ⟨some 26, .mv (.tmp 9), none, 0⟩,
    ⟨some 27, .bin .eql (.tmp 26) (.const (.int .i64 0)), none, 0⟩,
    ⟨some 25, .mv (.tmp 27), none, 0⟩]) <|
  .cond (.tmp 25)
    (.seq (.ops [
      ⟨some 6, .mv (.const (.int .i64 0)), none, 0⟩,
      ⟨some 7, .mv (.const (.int .i64 4)), none, 0⟩]) <|
    .keep [6, 7] <|
    .ret)
    (.seq (.ops [
      ⟨some 29, .load true 2 (.tmp 3), none, 0⟩,
      ⟨some 30, .mv (.tmp 1), none, 0⟩,
      ⟨some 31, .mv (.tmp 2), none, 0⟩,
      ⟨some 32, .call k_impl_Graph_around [(.tmp 29), (.tmp 30), (.tmp 31)], none, 0⟩,
      ⟨some 33, .mv (.tmp 9), none, 0⟩,
      ⟨some 34, .bin .neq (.tmp 32) (.tmp 33), none, 0⟩,
      ⟨some 28, .mv (.tmp 34), none, 0⟩]) <|
    .cond (.tmp 28)
      (.seq (.ops [
        ⟨some 6, .mv (.const (.int .i64 0)), none, 0⟩,
        ⟨some 7, .mv (.const (.int .i64 0)), none, 0⟩]) <|
      .keep [6, 7] <|
      .ret)
      (.skip))) <|
  .seq (.ops [
    ⟨some 35, .load true 2 (.tmp 3), none, 0⟩,
    ⟨some 36, .mv (.tmp 1), none, 0⟩,
    ⟨some 37, .mv (.tmp 2), none, 0⟩,
    ⟨some 38, .mv (.tmp 9), none, 0⟩,
    ⟨some 39, .call k_impl_Graph_through [(.tmp 35), (.tmp 36), (.tmp 37), (.tmp 38)], none, 0⟩,
    ⟨some 6, .mv (.tmp 39), none, 0⟩,
    ⟨some 7, .mv (.const (.int .i64 0)), none, 0⟩]) <|
  .keep [6, 7] <|
  .ret⟩

theorem e_impl_ShortestThrough : EntOK Tryd.prog (compD Tryd.prog) k_impl_ShortestThrough i_impl_ShortestThrough.vf :=
  ⟨Tryd.f14, Tryd.f14.body.getD .skip, Tryd.func14, by kernel_rfl, by kernel_rfl, by kernel_rfl, by kernel_rfl, by kernel_rfl⟩

/-- loop.example/g01331/spec.ShortestThrough -/
def i_spec_ShortestThrough : FF := ⟨45, [.tmp 6, .tmp 7],
  .seq (.ops [
    ⟨some 3, .box 2 (.tmp 0), none, 0⟩,
    ⟨some 6, .mv (.const (.int .i64 0)), none, 0⟩,
    ⟨some 7, .mv (.const (.int .i64 0)), none, 0⟩]) <|
  .seq (.seq (.ops [
    ⟨some 12, .load true 2 (.tmp 3), none, 0⟩,
    ⟨some 13, .mv (.tmp 1), none, 0⟩,
    ⟨some 14, .mv (.tmp 2), none, 0⟩,
    ⟨some 15, .buildSl 1 [.int .i64 0, .int .i64 0] [(0, 1, (.tmp 13)), (1, 1, (.tmp 14))] 2, none, 0⟩,
    ⟨some 16, .call k_spec_l02Code [(.tmp 12), (.tmp 15)], none, 0⟩,
    ⟨some 8, .mv (.tmp 16), none, 0⟩]) <|
  .seq (.ops [
    ⟨some 17, .mv (.tmp 8), none, 0⟩,
    ⟨some 18, .bin .neq (.tmp 17) (.const (.int .i64 0)), none, 0⟩]) <|
  .cond (.tmp 18)
    (.seq (.ops [
      ⟨some 19, .mv (.tmp 8), none, 0⟩,
      ⟨some 6, .mv (.const (.int .i64 0)), none, 0⟩,
      ⟨some 7, .mv (.tmp 19), none, 0⟩]) <|
    .keep [6, 7] <|
    .ret)
    (.skip)) <|
  .seq (.seq (.ops [
    ⟨some 20, .fld 1 (.tmp 3), none, 0⟩,
    ⟨some 21, .load false 1 (.tmp 20), none, 0⟩,
    ⟨some 22, .mv (.tmp 1), none, 0⟩,
    ⟨some 23, .idx 1 (.tmp 21) (.tmp 22), none, 0⟩,
    ⟨some 24, .load false 1 (.tmp 23), none, 0⟩,
    ⟨some 25, .mv (.tmp 2), none, 0⟩,
    ⟨some 26, .conv .u64 (.tmp 25), none, 0⟩,
    ⟨some 27, .bin .shr (.tmp 24) (.tmp 26), none, 0⟩,
    ⟨some 28, .bin .and (.tmp 27) (.const (.int .i64 1)), none, 0⟩,
    ⟨some 29, .bin .eql (.tmp 28) (.const (.int .i64 0)), none, 0⟩]) <|
  .cond (.tmp 29)
    (.seq (.ops [
      ⟨some 6, .mv (.const (.int .i64 0)), none, 0⟩,
      ⟨some 7, .mv (.const (.int .i64 5)), none, 0⟩]) <|
    .keep [6, 7] <|
    .ret)
    (.skip)) <|
  .seq (.ops [
    ⟨some 30, .load true 2 (.tmp 3), none, 0⟩,
    ⟨some 31, .call k_spec_l02Girth [(.tmp 30), (.const (.int .i64 (-1)))], none, 0⟩,
    ⟨some 9, .mv (.tmp 31), none, 0⟩]) <|
  .seq (.seq (.ops [
    ⟨some 32, .mv (.tmp 9), none, 0⟩,
    ⟨some 33, .bin .eql (.tmp 32) (.const (.int .i64 0)), none, 0⟩]) <|
  .cond (.tmp 33)
    (.seq (.ops [
      ⟨some 6, .mv (.const (.int .i64 0)), none, 0⟩,
      ⟨some 7, .mv (.const (.int .i64 4)), none, 0⟩]) <|
    .keep [6, 7] <|
    .ret)
    (.skip)) <|
  .seq (.ops [
    ⟨some 35, .load true 2 (.tmp 3), none, 0⟩,
    ⟨some 36, .mv (.tmp 1), none, 0⟩,
    ⟨some 37, .mv (.tmp 2), none, 0⟩,
    ⟨some 38, .call k_spec_l02Around [(.tmp 35), (.tmp 36), (.tmp 37)], none, 0⟩,
    ⟨some 34, .mv (.tmp 38), none, 0⟩,
    ⟨some 39, .ext (.tmp 34) 0, none, 0⟩,
    ⟨some 40, .ext (.tmp 34) 1, none, 0⟩,
    ⟨some 10, .mv (.tmp 39), none, 0⟩,
    ⟨some 11, .mv (.tmp 40), none, 0⟩]) <|
  .seq (.seq (.ops [
    ⟨some 41, .mv (.tmp 10), none, 0⟩,
    ⟨some 42, .mv (.tmp 9), none, 0⟩,
    ⟨some 43, .bin .neq (.tmp 41) (.tmp 42), none, 0⟩]) <|
  .cond (.tmp 43)
    (.seq (.ops [
      ⟨some 6, .mv (.const (.int .i64 0)), none, 0⟩,
      ⟨some 7, .mv (.const (.int .i64 0)), none, 0⟩]) <|
    .keep [6, 7] <|
    .ret)
    (.skip)) <|
  .seq (.ops [
    ⟨some 44, .mv (.tmp 11), none, 0⟩,
    ⟨some 6, .mv (.tmp 44), none, 0⟩,
    ⟨some 7, .mv (.const (.int .i64 0)), none, 0⟩]) <|
  .keep [6, 7] <|
  .ret⟩

theorem e_spec_ShortestThrough : EntOK Tryd.prog (compD Tryd.prog) k_spec_ShortestThrough i_spec_ShortestThrough.vf :=
  ⟨Tryd.f15, Tryd.f15.body.getD .skip, Tryd.func15, by kernel_rfl, by kernel_rfl, by kernel_rfl, by kernel_rfl, by kernel_rfl⟩

/-- loop.example/g01331/spec.DrawGirthAt -/
def i_spec_DrawGirthAt : FF := ⟨8, [.cell 2 true 2, .tmp 3],
  .seq (.ops [
    ⟨some 2, .alloc [.int .i64 0, .slice none 0 0], none, 0⟩,
    ⟨some 3, .mv (.const (.int .i64 0)), none, 0⟩]) <|
  .seq (.ops [
    ⟨some 4, .mv (.tmp 0), none, 0⟩,
    ⟨some 5, .call k_spec_l02At [(.tmp 4)], none, 0⟩,
    ⟨some 6, .ext (.tmp 5) 0, none, 0⟩,
    ⟨some 7, .ext (.tmp 5) 1, none, 0⟩,
    ⟨none, .store 2 (.tmp 2) (.tmp 6), none, 0⟩,
    ⟨some 3, .mv (.tmp 7), none, 0⟩]) <|
  .keep [2, 3] <|
  .ret⟩

theorem e_spec_DrawGirthAt : EntOK Tryd.prog (compD Tryd.prog) k_spec_DrawGirthAt i_spec_DrawGirthAt.vf :=
  ⟨Tryd.f16, Tryd.f16.body.getD .skip, Tryd.func16, by kernel_rfl, by kernel_rfl, by kernel_rfl, by kernel_rfl, by kernel_rfl⟩

/-- loop.example/g01331/impl.GirthAt -/
def i_impl_GirthAt : FF := ⟨20, [.tmp 4, .tmp 5],
  .seq (.ops [
    ⟨some 2, .box 2 (.tmp 0), none, 0⟩,
    ⟨some 4, .mv (.const (.int .i64 0)), none, 0⟩,
    ⟨some 5, .mv (.const (.int .i64 0)), none, 0⟩]) <|
  .seq (.seq (.ops [
    ⟨some 7, .load true 2 (.tmp 2), none, 0⟩,
    ⟨some 8, .mv (.tmp 1), none, 0⟩,
    ⟨some 9, .buildSl 1 [.int .i64 0] [(0, 1, (.tmp 8))] 1, none, 0⟩,
    ⟨some 10, .call k_impl_graphCode [(.tmp 7), (.tmp 9)], none, 0⟩,
    ⟨some 6, .mv (.tmp 10), none, 0⟩]) <|
  .seq (.ops [
    ⟨some 11, .mv (.tmp 6), none, 0⟩,
    ⟨some 12, .bin .neq (.tmp 11) (.const (.int .i64 0)), none, 0⟩]) <|
  .cond (.tmp 12)
    (.seq (.ops [
      ⟨some 13, .mv (.tmp 6), none, 0⟩,
      ⟨some 4, .mv (.const (.int .i64 0)), none, 0⟩,
      ⟨some 5, .mv (.tmp 13), none, 0⟩]) <|
    .keep [4, 5] <|
    .ret)
    (.skip)) <|
  .seq (.ops [
    ⟨some 14, .load true 2 (.tmp 2), none, 0⟩,
    ⟨some 15, .mv (.tmp 1), none, 0⟩,
    ⟨some 16, .call k_impl_Graph_girthAt [(.tmp 14), (.tmp 15)], none, 0⟩,
    ⟨some 17, .call k_impl_found [(.tmp 16)], none, 0⟩,
    ⟨some 18, .ext (.tmp 17) 0, none, 0⟩,
    ⟨some 19, .ext (.tmp 17) 1, none, 0⟩,
    ⟨some 4, .mv (.tmp 18), none, 0⟩,
    ⟨some 5, .mv (.tmp 19), none, 0⟩]) <|
  .keep [4, 5] <|
  .ret⟩

theorem e_impl_GirthAt : EntOK Tryd.prog (compD Tryd.prog) k_impl_GirthAt i_impl_GirthAt.vf :=
  ⟨Tryd.f17, Tryd.f17.body.getD .skip, Tryd.func17, by kernel_rfl, by kernel_rfl, by kernel_rfl, by kernel_rfl, by kernel_rfl⟩

/-- loop.example/g01331/spec.GirthAt -/
def i_spec_GirthAt : FF := ⟨21, [.tmp 4, .tmp 5],
  .seq (.ops [
    ⟨some 2, .box 2 (.tmp 0), none, 0⟩,
    ⟨some 4, .mv (.const (.int .i64 0)), none, 0⟩,
    ⟨some 5, .mv (.const (.int .i64 0)), none, 0⟩]) <|
  .seq (.seq (.ops [
    ⟨some 8, .load true 2 (.tmp 2), none, 0⟩,
    ⟨some 9, .mv (.tmp 1), none, 0⟩,
    ⟨some 10, .buildSl 1 [.int .i64 0] [(0, 1, (.tmp 9))] 1, none, 0⟩,
    ⟨some 11, .call k_spec_l02Code [(.tmp 8), (.tmp 10)], none, 0⟩,
    ⟨some 6, .mv (.tmp 11), none, 0⟩]) <|
  .seq (.ops [
    ⟨some 12, .mv (.tmp 6), none, 0⟩,
    ⟨some 13, .bin .neq (.tmp 12) (.const (.int .i64 0)), none, 0⟩]) <|
  .cond (.tmp 13)
    (.seq (.ops [
      ⟨some 14, .mv (.tmp 6), none, 0⟩,
      ⟨some 4, .mv (.const (.int .i64 0)), none, 0⟩,
      ⟨some 5, .mv (.tmp 14), none, 0⟩]) <|
    .keep [4, 5] <|
    .ret)
    (.skip)) <|
  .seq (.ops [
    ⟨some 15, .load true 2 (.tmp 2), none, 0⟩,
    ⟨some 16, .mv (.tmp 1), none, 0⟩,
    ⟨some 17, .call k_spec_l02Girth [(.tmp 15), (.tmp 16)], none, 0⟩,
    ⟨some 7, .mv (.tmp 17), none, 0⟩]) <|
  .seq (.seq (.ops [
    ⟨some 18, .mv (.tmp 7), none, 0⟩,
    ⟨some 19, .bin .eql (.tmp 18) (.const (.int .i64 0)), none, 0⟩]) <|
  .cond (.tmp 19)
    (.seq (.ops [
      ⟨some 4, .mv (.const (.int .i64 0)), none, 0⟩,
      ⟨some 5, .mv (.const (.int .i64 4)), none, 0⟩]) <|
    .keep [4, 5] <|
    .ret)
    (.skip)) <|
  .seq (.ops [
    ⟨some 20, .mv (.tmp 7), none, 0⟩,
    ⟨some 4, .mv (.tmp 20), none, 0⟩,
    ⟨some 5, .mv (.const (.int .i64 0)), none, 0⟩]) <|
  .keep [4, 5] <|
  .ret⟩

theorem e_spec_GirthAt : EntOK Tryd.prog (compD Tryd.prog) k_spec_GirthAt i_spec_GirthAt.vf :=
  ⟨Tryd.f18, Tryd.f18.body.getD .skip, Tryd.func18, by kernel_rfl, by kernel_rfl, by kernel_rfl, by kernel_rfl, by kernel_rfl⟩

/-- loop.example/g01331/impl.EdgesOf -/
def i_impl_EdgesOf : FF := ⟨9, [.tmp 2, .tmp 3],
  .seq (.ops [
    ⟨some 1, .box 2 (.tmp 0), none, 0⟩,
    ⟨some 2, .mv (.const (.slice none 0 0)), none, 0⟩,
    ⟨some 3, .mv (.const (.int .i64 0)), none, 0⟩]) <|
  .seq (.seq (.ops [
    ⟨some 4, .load true 2 (.tmp 1), none, 0⟩,
    ⟨some 5, .call k_impl_IsGraph [(.tmp 4)], none, 0⟩,
    ⟨some 6, .un .not (.tmp 5), none, 0⟩]) <|
  .cond (.tmp 6)
    (.seq (.ops [
      ⟨some 2, .mv (.const (.slice none 0 0)), none, 0⟩,
      ⟨some 3, .mv (.const (.int .i64 1)), none, 0⟩]) <|
    .keep [2, 3] <|
    .ret)
    (.skip)) <|
  .seq (.ops [
    ⟨some 7, .load true 2 (.tmp 1), none, 0⟩,
    ⟨some 8, .call k_impl_Graph_edges [(.tmp 7)], none, 0⟩,
    ⟨some 2, .mv (.tmp 8), none, 0⟩,
    ⟨some 3, .mv (.const (.int .i64 0)), none, 0⟩]) <|
  .keep [2, 3] <|
  .ret⟩

theorem e_impl_EdgesOf : EntOK Tryd.prog (compD Tryd.prog) k_impl_EdgesOf i_impl_EdgesOf.vf :=
  ⟨Tryd.f19, Tryd.f19.body.getD .skip, Tryd.func19, by kernel_rfl, by kernel_rfl, by kernel_rfl, by kernel_rfl, by kernel_rfl⟩

/-- loop.example/g01331/spec.l02Draw -/
def i_spec_l02Draw : FF := ⟨10, [.cell 2 true 2],
  .seq (.ops [
    ⟨some 2, .alloc [.int .i64 0, .slice none 0 0], none, 0⟩]) <|
  .seq (.seq (.ops [
    ⟨some 3, .mv (.tmp 0), none, 0⟩,
    ⟨some 4, .call k_spec_l01Next [(.tmp 3), (.const (.int .i64 2))], none, 0⟩,
    ⟨some 5, .bin .eql (.tmp 4) (.const (.int .i64 0)), none, 0⟩]) <|
  .cond (.tmp 5)
    (.seq (.ops [
      ⟨some 6, .mv (.tmp 0), none, 0⟩,
      ⟨some 7, .call k_spec_l01DrawRegular [(.tmp 6)], none, 0⟩,
      ⟨none, .store 2 (.tmp 2) (.tmp 7), none, 0⟩]) <|
    .keep [2] <|
    .ret)
    (.skip)) <|
  .seq (.ops [
    ⟨some 8, .mv (.tmp 0), none, 0⟩,
    ⟨some 9, .call k_spec_l01Spoil [(.tmp 8)], none, 0⟩,
    ⟨none, .store 2 (.tmp 2) (.tmp 9), none, 0⟩]) <|
  .keep [2] <|
  .ret⟩

theorem e_spec_l02Draw : EntOK Tryd.prog (compD Tryd.prog) k_spec_l02Draw i_spec_l02Draw.vf :=
  ⟨Tryd.f68, Tryd.f68.body.getD .skip, Tryd.func68, by kernel_rfl, by kernel_rfl, by kernel_rfl, by kernel_rfl, by kernel_rfl⟩

/-- loop.example/g01331/spec.l01From -/
def i_spec_l01From_B1 : FC :=
  .seq (.seq (.ops [
    ⟨some 12, .mv (.tmp 4), none, 0⟩,
    ⟨some 13, .mv (.tmp 0), none, 0⟩,
    ⟨some 14, .len (.tmp 13), none, 0⟩,
    ⟨some 15, .bin .lss (.tmp 12) (.tmp 14), none, 0⟩,
    ⟨some 16, .mv (.tmp 15), none, 0⟩,
    ⟨some 17, .mv (.tmp 4), some (16, true), 0⟩,
    ⟨some 18, .bin .lss (.tmp 17) (.const (.int .i64 4096)), some (16, true), 0⟩,
    ⟨some 19, .pick (.tmp 16) (.tmp 18) (.const (.bool false)), none, 0⟩]) <|
  .cond (.tmp 19)
    (.skip)
    (.keep [3] <|
    .exit 0)) <|
  .seq (.block 1 <|
  .dops [
    ⟨some 22, .mv (.tmp 3), none, 0⟩,
    ⟨some 23, .mv (.tmp 3), none, 0⟩,
    ⟨some 24, .nilchk (.tmp 23), none, 0⟩,
    ⟨some 25, .fld 2 (.tmp 24), none, 0⟩,
    ⟨some 26, .load false 1 (.tmp 25), none, 0⟩,
    ⟨some 27, .bin .mul (.tmp 26) (.const (.int .u64 1099511628211)), none, 0⟩,
    ⟨some 28, .mv (.tmp 0), none, 0⟩,
    ⟨some 29, .mv (.tmp 4), none, 0⟩,
    ⟨some 30, .idx 1 (.tmp 28) (.tmp 29), none, 0⟩,
    ⟨some 31, .load false 1 (.tmp 30), none, 0⟩,
    ⟨some 32, .conv .u64 (.tmp 31), none, 0⟩,
    ⟨some 33, .bin .add (.tmp 27) (.tmp 32), none, 0⟩,
    ⟨some 34, .bin .add (.tmp 33) (.const (.int .u64 157)), none, 0⟩,
    ⟨some 35, .nilchk (.tmp 22), none, 0⟩,
    ⟨some 36, .fld 2 (.tmp 35), none, 0⟩,
    ⟨none, .store 1 (.tmp 36) (.tmp 34), none, 0⟩]) <|
  .ops [
    ⟨some 20, .mv (.tmp 4), none, 0⟩,
    ⟨some 21, .bin .add (.tmp 20) (.const (.int .i64 1)), none, 0⟩,
    ⟨some 4, .mv (.tmp 21), none, 0⟩]
def i_spec_l01From : FF := ⟨38, [.tmp 2],
  .seq (.ops [
    ⟨some 2, .mv (.const (.pointer none)), none, 0⟩]) <|
  .seq (.ops [
    ⟨some 5, .mv (.tmp 0), none, 0⟩,
    ⟨some 6, .mv (.tmp 0), none, 0⟩,
    ⟨some 7, .len (.tmp 6), none, 0⟩,
    ⟨some 8, .conv .u64 (.tmp 7), none, 0⟩,
    ⟨some 9, .bin .add (.const (.int .u64 13311)) (.tmp 8), none, 0⟩,
    ⟨some 10, .build [.slice none 0 0, .int .i64 0, .int .u64 0] [(0, 1, (.tmp 5)), (2, 1, (.tmp 9))], none, 0⟩,
    ⟨some 11, .box 3 (.tmp 10), none, 0⟩,
    ⟨some 3, .mv (.tmp 11), none, 0⟩]) <|
  .seq (.seq (.ops [
    ⟨some 4, .mv (.const (.int .i64 0)), none, 0⟩]) <|
  .block 0 <|
  .loop [0, 3, 4] i_spec_l01From_B1) <|
  .seq (.ops [
    ⟨some 37, .mv (.tmp 3), none, 0⟩,
    ⟨some 2, .mv (.tmp 37), none, 0⟩]) <|
  .keep [2] <|
  .ret⟩

theorem e_spec_l01From : EntOK Tryd.prog (compD Tryd.prog) k_spec_l01From i_spec_l01From.vf :=
  ⟨Tryd.f69, Tryd.f69.body.getD .skip, Tryd.func69, by kernel_rfl, by kernel_rfl, by kernel_rfl, by kernel_rfl, by kernel_rfl⟩

/-- loop.example/g01331/impl.IsGraph -/
def i_impl_IsGraph_B1 : FC :=
  .seq (.ops [
    ⟨some 47, .bin .lss (.tmp 46) (.tmp 45), none, 0⟩]) <|
  .seq (.cond (.tmp 47)
    (.skip)
    (.keep [1, 3, 23, 24, 25] <|
    .exit 2)) <|
  .seq (.block 3 <|
  .seq (.ops [
    ⟨some 48, .mv (.tmp 46), none, 0⟩,
    ⟨some 6, .mv (.tmp 48), none, 0⟩]) <|
  .seq (.dops [
    ⟨some 49, .mv (.tmp 5), none, 0⟩,
    ⟨some 50, .mv (.tmp 6), none, 0⟩,
    ⟨some 51, .bin .shr (.tmp 49) (.tmp 50), none, 0⟩,
    ⟨some 52, .bin .and (.tmp 51) (.const (.int .i64 1)), none, 0⟩,
    ⟨some 53, .fld 1 (.tmp 1), none, 0⟩,
    ⟨some 54, .load false 1 (.tmp 53), none, 0⟩,
    ⟨some 55, .mv (.tmp 6), none, 0⟩,
    ⟨some 56, .idx 1 (.tmp 54) (.tmp 55), none, 0⟩,
    ⟨some 57, .load false 1 (.tmp 56), none, 0⟩,
    ⟨some 58, .mv (.tmp 4), none, 0⟩,
    ⟨some 59, .bin .shr (.tmp 57) (.tmp 58), none, 0⟩,
    ⟨some 60, .bin .and (.tmp 59) (.const (.int .i64 1)), none, 0⟩,
    ⟨some 61, .bin .neq (.tmp 52) (.tmp 60), none, 0⟩]) <|
  .cond (.tmp 61)
    (.seq (.ops [
      ⟨some 2, .mv (.const (.bool false)), none, 0⟩]) <|
    .keep [2] <|
    .ret)
    (.skip)) <|
  .ops [
    ⟨some 62, .bin .add (.tmp 46) (.const (.int .i64 1)), none, 0⟩,
    ⟨some 46, .mv (.tmp 62), none, 0⟩]
def i_impl_IsGraph_B2 : FC :=
  .seq (.ops [
    ⟨some 26, .bin .lss (.tmp 25) (.tmp 24), none, 0⟩]) <|
  .seq (.cond (.tmp 26)
    (.skip)
    (.keep [] <|
    .exit 0)) <|
  .seq (.block 1 <|
  .seq (.ops [
    ⟨some 27, .mv (.tmp 25), none, 0⟩,
    ⟨some 28, .idx 1 (.tmp 23) (.tmp 25), none, 0⟩,
    ⟨some 29, .load false 1 (.tmp 28), none, 0⟩,
    ⟨some 4, .mv (.tmp 27), none, 0⟩,
    ⟨some 5, .mv (.tmp 29), none, 0⟩]) <|
  .seq (.seq (.ops [
    ⟨some 30, .mv (.tmp 5), none, 0⟩,
    ⟨some 31, .bin .lss (.tmp 30) (.const (.int .i64 0)), none, 0⟩,
    ⟨some 32, .mv (.tmp 31), none, 0⟩,
    ⟨some 33, .mv (.tmp 5), some (32, false), 0⟩,
    ⟨some 34, .mv (.tmp 3), some (32, false), 0⟩,
    ⟨some 35, .bin .shl (.const (.int .i64 1)) (.tmp 34), some (32, false), 0⟩,
    ⟨some 36, .bin .geq (.tmp 33) (.tmp 35), some (32, false), 0⟩,
    ⟨some 37, .pick (.tmp 32) (.const (.bool true)) (.tmp 36), none, 0⟩,
    ⟨some 38, .mv (.tmp 37), none, 0⟩,
    ⟨some 39, .mv (.tmp 5), some (38, false), 0⟩,
    ⟨some 40, .mv (.tmp 4), some (38, false), 0⟩,
    ⟨some 41, .bin .shr (.tmp 39) (.tmp 40), some (38, false), 0⟩,
    ⟨some 42, .bin .and (.tmp 41) (.const (.int .i64 1)), some (38, false), 0⟩,
    ⟨some 43, .bin .eql (.tmp 42) (.const (.int .i64 1)), some (38, false), 0⟩,
    ⟨some 44, .pick (.tmp 38) (.const (.bool true)) (.tmp 43), none, 0⟩]) <|
  .cond (.tmp 44)
    (.seq (.ops [
      ⟨some 2, .mv (.const (.bool false)), none, 0⟩]) <|
    .keep [2] <|
    .ret)
    (.skip)) <|
  .seq (.ops [
    ⟨some 45, .mv (.tmp 3), none, 0⟩,
    ⟨some 46, .mv (.const (.int .i64 0)), none, 0⟩]) <|
  .block 2 <|
  .loop [1, 3, 4, 5, 23, 24, 25, 45, 46] i_impl_IsGraph_B1) <|
  .ops [
    ⟨some 63, .bin .add (.tmp 25) (.const (.int .i64 1)), none, 0⟩,
    ⟨some 25, .mv (.tmp 63), none, 0⟩]
def i_impl_IsGraph : FF := ⟨64, [.tmp 2],
  .seq (.ops [
    ⟨some 1, .box 2 (.tmp 0), none, 0⟩,
    ⟨some 2, .mv (.const (.bool false)), none, 0⟩]) <|
  .seq (.ops [
    ⟨some 7, .fld 0 (.tmp 1), none, 0⟩,
    ⟨some 8, .load false 1 (.tmp 7), none, 0⟩,
    ⟨some 3, .mv (.tmp 8), none, 0⟩]) <|
  .seq (.seq (.ops [
    ⟨some 9, .mv (.tmp 3), none, 0⟩,
    ⟨some 10, .bin .lss (.tmp 9) (.const (.int .i64 1)), none, 0⟩,
    ⟨some 11, .mv (.tmp 10), none, 0⟩,
    ⟨some 12, .mv (.tmp 3), some (11, false), 0⟩,
    ⟨some 13, .bin .gtr (.tmp 12) (.const (.int .i64 62)), some (11, false), 0⟩,
    ⟨some 14, .pick (.tmp 11) (.const (.bool true)) (.tmp 13), none, 0⟩,
    ⟨some 15, .mv (.tmp 14), none, 0⟩,
    ⟨some 16, .fld 1 (.tmp 1), some (15, false), 0⟩,
    ⟨some 17, .load false 1 (.tmp 16), some (15, false), 0⟩,
    ⟨some 18, .len (.tmp 17), some (15, false), 0⟩,
    ⟨some 19, .mv (.tmp 3), some (15, false), 0⟩,
    ⟨some 20, .bin .neq (.tmp 18) (.tmp 19), some (15, false), 0⟩,
    ⟨some 21, .pick (.tmp 15) (.const (.bool true)) (.tmp 20), none, 0⟩]) <|
  .cond (.tmp 21)
    (.seq (.ops [
      ⟨some 2, .mv (.const (.bool false)), none, 0⟩]) <|
    .keep [2] <|
    .ret)
    (.skip)) <|
  .seq (.seq (.ops [
    ⟨some 22, .fld 1 (.tmp 1), none, 0⟩,
    ⟨some 23, .load false 1 (.tmp 22), none, 0⟩,
    ⟨some 24, .len (.tmp 23), none, 0⟩,
    ⟨some 25, .mv (.const (.int .i64 0)), none, 0⟩]) <|
  .block 0 <|
  .loop [1, 3, 23, 24, 25] i_impl_IsGraph_B2) <|
  .seq (.ops [
    ⟨some 2, .mv (.const (.bool true)), none, 0⟩]) <|
  .keep [2] <|
  .ret⟩

theorem e_impl_IsGraph : EntOK Tryd.prog (compD Tryd.prog) k_impl_IsGraph i_impl_IsGraph.vf :=
  ⟨Tryd.f70, Tryd.f70.body.getD .skip, Tryd.func70, by kernel_rfl, by kernel_rfl, by kernel_rfl, by kernel_rfl, by kernel_rfl⟩

/-- (loop.example/g01331/impl.Graph).girth -/
def i_impl_Graph_girth_B1 : FC :=
  .seq (.ops [
    ⟨some 9, .bin .lss (.tmp 8) (.tmp 7), none, 0⟩]) <|
  .seq (.cond (.tmp 9)
    (.skip)
    (.keep [3] <|
    .exit 0)) <|
  .seq (.block 1 <|
  .seq (.ops [
    ⟨some 10, .mv (.tmp 8), none, 0⟩,
    ⟨some 4, .mv (.tmp 10), none, 0⟩]) <|
  .seq (.ops [
    ⟨some 11, .load true 2 (.tmp 1), none, 0⟩,
    ⟨some 12, .mv (.tmp 4), none, 0⟩,
    ⟨some 13, .call k_impl_Graph_girthAt [(.tmp 11), (.tmp 12)], none, 0⟩,
    ⟨some 5, .mv (.tmp 13), none, 0⟩]) <|
  .seq (.ops [
    ⟨some 14, .mv (.tmp 5), none, 0⟩,
    ⟨some 15, .bin .gtr (.tmp 14) (.const (.int .i64 0)), none, 0⟩,
    ⟨some 16, .mv (.tmp 15), none, 0⟩,
    ⟨some 17, .mv (.tmp 3), some (16, true), 0⟩,
    ⟨some 18, .bin .eql (.tmp 17) (.const (.int .i64 0)), some (16, true), 0⟩,
    ⟨some 19, .mv (.tmp 18), some (16, true), 0⟩,
    ⟨some 20, .mv (.tmp 5), some (19, false), 0⟩,
    ⟨some 21, .mv (.tmp 3), some (19, false), 0⟩,
    ⟨some 22, .bin .lss (.tmp 20) (.tmp 21), some (19, false), 0⟩,
    ⟨some 23, .pick (.tmp 19) (.const (.bool true)) (.tmp 22), some (16, true), 0⟩,
    ⟨some 24, .pick (.tmp 16) (.tmp 23) (.const (.bool false)), none, 0⟩]) <|
  .cond (.tmp 24)
    (.ops [
      ⟨some 25, .mv (.tmp 5), none, 0⟩,
      ⟨some 3, .mv (.tmp 25), none, 0⟩])
    (.skip)) <|
  .ops [
    ⟨some 26, .bin .add (.tmp 8) (.const (.int .i64 1)), none, 0⟩,
    ⟨some 8, .mv (.tmp 26), none, 0⟩]
def i_impl_Graph_girth : FF := ⟨28, [.tmp 2],
  .seq (.ops [
    ⟨some 1, .box 2 (.tmp 0), none, 0⟩,
    ⟨some 2, .mv (.const (.int .i64 0)), none, 0⟩]) <|
  .seq (.ops [
    ⟨some 3, .mv (.const (.int .i64 0)), none, 0⟩]) <|
  .seq (.seq (.ops [
    ⟨some 6, .fld 0 (.tmp 1), none, 0⟩,
    ⟨some 7, .load false 1 (.tmp 6), none, 0⟩,
    ⟨some 8, .mv (.const (.int .i64 0)), none, 0⟩]) <|
  .block 0 <|
  .loop [1, 3, 7, 8] i_impl_Graph_girth_B1) <|
  .seq (.ops [
    ⟨some 27, .mv (.tmp 3), none, 0⟩,
    ⟨some 2, .mv (.tmp 27), none, 0⟩]) <|
  .keep [2] <|
  .ret⟩

theorem e_impl_Graph_girth : EntOK Tryd.prog (compD Tryd.prog) k_impl_Graph_girth i_impl_Graph_girth.vf :=
  ⟨Tryd.f71, Tryd.f71.body.getD .skip, Tryd.func71, by kernel_rfl, by kernel_rfl, by kernel_rfl, by kernel_rfl, by kernel_rfl⟩

/-- (loop.example/g01331/impl.Graph).edges -/
def i_impl_Graph_edges_B1 : FC :=
  .seq (.ops [
    ⟨some 21, .bin .lss (.tmp 20) (.tmp 19), none, 0⟩]) <|
  .seq (.cond (.tmp 21)
    (.skip)
    (.keep [1, 3, 9, 10] <|
    .exit 2)) <|
  .seq (.block 3 <|
  .seq (.ops [
    ⟨some 22, .idx 1 (.tmp 18) (.tmp 20), none, 0⟩,
    ⟨some 23, .load false 1 (.tmp 22), none, 0⟩,
    ⟨some 6, .mv (.tmp 23), none, 0⟩]) <|
  .seq (.ops [
    ⟨some 24, .mv (.tmp 6), none, 0⟩,
    ⟨some 25, .mv (.tmp 4), none, 0⟩,
    ⟨some 26, .bin .gtr (.tmp 24) (.tmp 25), none, 0⟩]) <|
  .cond (.tmp 26)
    (.ops [
      ⟨some 27, .mv (.tmp 3), none, 0⟩,
      ⟨some 28, .mv (.tmp 4), none, 0⟩,
      ⟨some 29, .mv (.tmp 6), none, 0⟩,
      ⟨some 30, .buildSl 1 [.int .i64 0, .int .i64 0] [(0, 1, (.tmp 28)), (1, 1, (.tmp 29))] 2, none, 0⟩,
      ⟨some 31, .buildSl 1 [.slice none 0 0] [(0, 1, (.tmp 30))] 1, none, 0⟩,
      ⟨some 32, .app 1 24 [.slice none 0 0] (.tmp 27) (.tmp 31), none, 0⟩,
      ⟨some 3, .mv (.tmp 32), none, 0⟩])
    (.skip)) <|
  .ops [
    ⟨some 33, .bin .add (.tmp 20) (.const (.int .i64 1)), none, 0⟩,
    ⟨some 20, .mv (.tmp 33), none, 0⟩]
def i_impl_Graph_edges_B2 : FC :=
  .seq (.ops [
    ⟨some 11, .bin .lss (.tmp 10) (.tmp 9), none, 0⟩]) <|
  .seq (.cond (.tmp 11)
    (.skip)
    (.keep [3] <|
    .exit 0)) <|
  .seq (.block 1 <|
  .seq (.ops [
    ⟨some 12, .mv (.tmp 10), none, 0⟩,
    ⟨some 4, .mv (.tmp 12), none, 0⟩]) <|
  .seq (.ops [
    ⟨some 13, .fld 1 (.tmp 1), none, 0⟩,
    ⟨some 14, .load false 1 (.tmp 13), none, 0⟩,
    ⟨some 15, .mv (.tmp 4), none, 0⟩,
    ⟨some 16, .idx 1 (.tmp 14) (.tmp 15), none, 0⟩,
    ⟨some 17, .load false 1 (.tmp 16), none, 0⟩,
    ⟨some 18, .call k_impl_list [(.tmp 17)], none, 0⟩,
    ⟨some 19, .len (.tmp 18), none, 0⟩,
    ⟨some 20, .mv (.const (.int .i64 0)), none, 0⟩]) <|
  .block 2 <|
  .loop [1, 3, 4, 9, 10, 18, 19, 20] i_impl_Graph_edges_B1) <|
  .ops [
    ⟨some 34, .bin .add (.tmp 10) (.const (.int .i64 1)), none, 0⟩,
    ⟨some 10, .mv (.tmp 34), none, 0⟩]
def i_impl_Graph_edges : FF := ⟨36, [.tmp 2],
  .seq (.ops [
    ⟨some 1, .box 2 (.tmp 0), none, 0⟩,
    ⟨some 2, .mv (.const (.slice none 0 0)), none, 0⟩]) <|
  .seq (.ops [
    ⟨some 7, .buildSl 1 [] [] 0, none, 0⟩,
    ⟨some 3, .mv (.tmp 7), none, 0⟩]) <|
  .seq (.seq (.ops [
    ⟨some 8, .fld 0 (.tmp 1), none, 0⟩,
    ⟨some 9, .load false 1 (.tmp 8), none, 0⟩,
    ⟨some 10, .mv (.const (.int .i64 0)), none, 0⟩]) <|
  .block 0 <|
  .loop [1, 3, 9, 10] i_impl_Graph_edges_B2) <|
  .seq (.ops [
    ⟨some 35, .mv (.tmp 3), none, 0⟩,
    ⟨some 2, .mv (.tmp 35), none, 0⟩]) <|
  .keep [2] <|
  .ret⟩

theorem e_impl_Graph_edges : EntOK Tryd.prog (compD Tryd.prog) k_impl_Graph_edges i_impl_Graph_edges.vf :=
  ⟨Tryd.f72, Tryd.f72.body.getD .skip, Tryd.func72, by kernel_rfl, by kernel_rfl, by kernel_rfl, by kernel_rfl, by kernel_rfl⟩

/-- (loop.example/g01331/impl.Graph).around -/
def i_impl_Graph_around : FF := ⟨21, [.tmp 6],
  .seq (.ops [
    ⟨some 3, .box 2 (.tmp 0), none, 0⟩,
    ⟨some 6, .mv (.const (.int .i64 0)), none, 0⟩]) <|
  .seq (.ops [
    ⟨some 8, .load true 2 (.tmp 3), none, 0⟩,
    ⟨some 9, .call k_impl_own [(.tmp 8)], none, 0⟩,
    ⟨some 7, .alloc [.int .i64 0, .slice none 0 0], none, 0⟩,
    ⟨none, .store 2 (.tmp 7) (.tmp 9), none, 0⟩]) <|
  .seq (.ops [
    ⟨some 10, .load true 2 (.tmp 7), none, 0⟩,
    ⟨some 11, .mv (.tmp 1), none, 0⟩,
    ⟨some 12, .mv (.tmp 2), none, 0⟩,
    ⟨some 13, .call k_impl_Graph_take [(.tmp 10), (.tmp 11), (.tmp 12)], none, 0⟩]) <|
  .seq (.ops [
    ⟨some 14, .load true 2 (.tmp 7), none, 0⟩,
    ⟨some 15, .mv (.tmp 1), none, 0⟩,
    ⟨some 16, .call k_impl_Graph_distances [(.tmp 14), (.tmp 15)], none, 0⟩,
    ⟨some 17, .mv (.tmp 2), none, 0⟩,
    ⟨some 18, .idx 1 (.tmp 16) (.tmp 17), none, 0⟩,
    ⟨some 19, .load false 1 (.tmp 18), none, 0⟩,
    ⟨some 20, .bin .add (.tmp 19) (.const (.int .i64 1)), none, 0⟩,
    ⟨some 6, .mv (.tmp 20), none, 0⟩]) <|
  .keep [6] <|
  .ret⟩

theorem e_impl_Graph_around : EntOK Tryd.prog (compD Tryd.prog) k_impl_Graph_around i_impl_Graph_around.vf :=
  ⟨Tryd.f73, Tryd.f73.body.getD .skip, Tryd.func73, by kernel_rfl, by kernel_rfl, by kernel_rfl, by kernel_rfl, by kernel_rfl⟩

/-- (loop.example/g01331/impl.Graph).through -/
def i_impl_Graph_through : FF := ⟨24, [.tmp 8],
  .seq (.ops [
    ⟨some 4, .box 2 (.tmp 0), none, 0⟩,
    ⟨some 8, .mv (.const (.int .i64 0)), none, 0⟩]) <|
  .seq (.ops [
    ⟨some 10, .load true 2 (.tmp 4), none, 0⟩,
    ⟨some 11, .call k_impl_own [(.tmp 10)], none, 0⟩,
    ⟨some 9, .alloc [.int .i64 0, .slice none 0 0], none, 0⟩,
    ⟨none, .store 2 (.tmp 9) (.tmp 11), none, 0⟩]) <|
  .seq (.ops [
    ⟨some 12, .load true 2 (.tmp 9), none, 0⟩,
    ⟨some 13, .mv (.tmp 1), none, 0⟩,
    ⟨some 14, .mv (.tmp 2), none, 0⟩,
    ⟨some 15, .call k_impl_Graph_take [(.tmp 12), (.tmp 13), (.tmp 14)], none, 0⟩]) <|
  .seq (.ops [
    ⟨some 16, .load true 2 (.tmp 9), none, 0⟩,
    ⟨some 17, .mv (.tmp 1), none, 0⟩,
    ⟨some 18, .mv (.tmp 3), none, 0⟩,
    ⟨some 19, .bin .sub (.tmp 18) (.const (.int .i64 1)), none, 0⟩,
    ⟨some 20, .call k_impl_Graph_walks [(.tmp 16), (.tmp 17), (.tmp 19)], none, 0⟩,
    ⟨some 21, .mv (.tmp 2), none, 0⟩,
    ⟨some 22, .idx 1 (.tmp 20) (.tmp 21), none, 0⟩,
    ⟨some 23, .load false 1 (.tmp 22), none, 0⟩,
    ⟨some 8, .mv (.tmp 23), none, 0⟩]) <|
  .keep [8] <|
  .ret⟩

theorem e_impl_Graph_through : EntOK Tryd.prog (compD Tryd.prog) k_impl_Graph_through i_impl_Graph_through.vf :=
  ⟨Tryd.f74, Tryd.f74.body.getD .skip, Tryd.func74, by kernel_rfl, by kernel_rfl, by kernel_rfl, by kernel_rfl, by kernel_rfl⟩

/-- loop.example/g01331/spec.l01Is -/
def i_spec_l01Is_B1 : FC :=
  .seq (.seq (.ops [
    ⟨some 18, .mv (.tmp 3), none, 0⟩,
    ⟨some 19, .fld 0 (.tmp 1), none, 0⟩,
    ⟨some 20, .load false 1 (.tmp 19), none, 0⟩,
    ⟨some 21, .bin .lss (.tmp 18) (.tmp 20), none, 0⟩]) <|
  .cond (.tmp 21)
    (.skip)
    (.keep [1] <|
    .exit 0)) <|
  .seq (.block 1 <|
  .seq (.dops [
    ⟨some 24, .fld 1 (.tmp 1), none, 0⟩,
    ⟨some 25, .load false 1 (.tmp 24), none, 0⟩,
    ⟨some 26, .mv (.tmp 3), none, 0⟩,
    ⟨some 27, .idx 1 (.tmp 25) (.tmp 26), none, 0⟩,
    ⟨some 28, .load false 1 (.tmp 27), none, 0⟩,
    ⟨some 29, .fld 0 (.tmp 1), none, 0⟩,
    ⟨some 30, .load false 1 (.tmp 29), none, 0⟩,
    ⟨some 31, .conv .u64 (.tmp 30), none, 0⟩,
    ⟨some 32, .bin .shl (.const (.int .i64 1)) (.tmp 31), none, 0⟩,
    ⟨some 33, .bin .sub (.tmp 32) (.const (.int .i64 1)), none, 0⟩,
    ⟨some 34, .call k_spec_l01In [(.tmp 28), (.const (.int .i64 0)), (.tmp 33)], none, 0⟩,
    ⟨some 35, .un .not (.tmp 34), none, 0⟩,
    ⟨some 36, .mv (.tmp 35), none, 0⟩,
    ⟨some 37, .load true 2 (.tmp 1), some (36, false), 0⟩,
    ⟨some 38, .mv (.tmp 3), some (36, false), 0⟩,
    ⟨some 39, .mv (.tmp 3), some (36, false), 0⟩,
    ⟨some 40, .call k_spec_l01Has [(.tmp 37), (.tmp 38), (.tmp 39)], some (36, false), 0⟩,
    ⟨some 41, .pick (.tmp 36) (.const (.bool true)) (.tmp 40), none, 0⟩]) <|
  .cond (.tmp 41)
    (.seq (.ops [
      ⟨some 2, .mv (.const (.bool false)), none, 0⟩]) <|
    .keep [2] <|
    .ret)
    (.skip)) <|
  .ops [
    ⟨some 22, .mv (.tmp 3), none, 0⟩,
    ⟨some 23, .bin .add (.tmp 22) (.const (.int .i64 1)), none, 0⟩,
    ⟨some 3, .mv (.tmp 23), none, 0⟩]
def i_spec_l01Is_B2 : FC :=
  .seq (.seq (.ops [
    ⟨some 48, .mv (.tmp 5), none, 0⟩,
    ⟨some 49, .mv (.tmp 4), none, 0⟩,
    ⟨some 50, .bin .lss (.tmp 48) (.tmp 49), none, 0⟩]) <|
  .cond (.tmp 50)
    (.skip)
    (.keep [1, 4] <|
    .exit 4)) <|
  .seq (.block 5 <|
  .seq (.dops [
    ⟨some 53, .load true 2 (.tmp 1), none, 0⟩,
    ⟨some 54, .mv (.tmp 4), none, 0⟩,
    ⟨some 55, .mv (.tmp 5), none, 0⟩,
    ⟨some 56, .call k_spec_l01Has [(.tmp 53), (.tmp 54), (.tmp 55)], none, 0⟩,
    ⟨some 57, .load true 2 (.tmp 1), none, 1⟩,
    ⟨some 58, .mv (.tmp 5), none, 1⟩,
    ⟨some 59, .mv (.tmp 4), none, 1⟩,
    ⟨some 60, .call k_spec_l01Has [(.tmp 57), (.tmp 58), (.tmp 59)], none, 0⟩,
    ⟨some 61, .beq true (.tmp 56) (.tmp 60), none, 0⟩]) <|
  .cond (.tmp 61)
    (.seq (.ops [
      ⟨some 2, .mv (.const (.bool false)), none, 0⟩]) <|
    .keep [2] <|
    .ret)
    (.skip)) <|
  .ops [
    ⟨some 51, .mv (.tmp 5), none, 0⟩,
    ⟨some 52, .bin .add (.tmp 51) (.const (.int .i64 1)), none, 0⟩,
    ⟨some 5, .mv (.tmp 52), none, 0⟩]
def i_spec_l01Is_B3 : FC :=
  .seq (.seq (.ops [
    ⟨some 42, .mv (.tmp 4), none, 0⟩,
    ⟨some 43, .fld 0 (.tmp 1), none, 0⟩,
    ⟨some 44, .load false 1 (.tmp 43), none, 0⟩,
    ⟨some 45, .bin .lss (.tmp 42) (.tmp 44), none, 0⟩]) <|
  .cond (.tmp 45)
    (.skip)
    (.keep [] <|
    .exit 2)) <|
  .seq (.block 3 <|
  .seq (.ops [
    ⟨some 5, .mv (.const (.int .i64 0)), none, 0⟩]) <|
  .block 4 <|
  .loop [1, 4, 5] i_spec_l01Is_B2) <|
  .ops [
    ⟨some 46, .mv (.tmp 4), none, 0⟩,
    ⟨some 47, .bin .add (.tmp 46) (.const (.int .i64 1)), none, 0⟩,
    ⟨some 4, .mv (.tmp 47), none, 0⟩]
def i_spec_l01Is : FF := ⟨62, [.tmp 2],
  .seq (.ops [
    ⟨some 1, .box 2 (.tmp 0), none, 0⟩,
    ⟨some 2, .mv (.const (.bool false)), none, 0⟩]) <|
  .seq (.seq (.ops [
    ⟨some 6, .fld 0 (.tmp 1), none, 0⟩,
    ⟨some 7, .load false 1 (.tmp 6), none, 0⟩,
    ⟨some 8, .call k_spec_l01In [(.tmp 7), (.const (.int .i64 1)), (.const (.int .i64 62))], none, 0⟩,
    ⟨some 9, .un .not (.tmp 8), none, 0⟩,
    ⟨some 10, .mv (.tmp 9), none, 0⟩,
    ⟨some 11, .fld 1 (.tmp 1), some (10, false), 0⟩,
    ⟨some 12, .load false 1 (.tmp 11), some (10, false), 0⟩,
    ⟨some 13, .len (.tmp 12), some (10, false), 0⟩,
    ⟨some 14, .fld 0 (.tmp 1), some (10, false), 0⟩,
    ⟨some 15, .load false 1 (.tmp 14), some (10, false), 0⟩,
    ⟨some 16, .bin .neq (.tmp 13) (.tmp 15), some (10, false), 0⟩,
    ⟨some 17, .pick (.tmp 10) (.const (.bool true)) (.tmp 16), none, 0⟩]) <|
  .cond (.tmp 17)
    (.seq (.ops [
      ⟨some 2, .mv (.const (.bool false)), none, 0⟩]) <|
    .keep [2] <|
    .ret)
    (.skip)) <|
  .seq (.seq (.ops [
    ⟨some 3, .mv (.const (.int .i64 0)), none, 0⟩]) <|
  .block 0 <|
  .loop [1, 3] i_spec_l01Is_B1) <|
  .seq (.seq (.ops [
    ⟨some 4, .mv (.const (.int .i64 0)), none, 0⟩]) <|
  .block 2 <|
  .loop [1, 4] i_spec_l01Is_B3) <|
  .seq (.ops [
    ⟨some 2, .mv (.const (.bool true)), none, 0⟩]) <|
  .keep [2] <|
  .ret⟩

theorem e_spec_l01Is : EntOK Tryd.prog (compD Tryd.prog) k_spec_l01Is i_spec_l01Is.vf :=
  ⟨Tryd.f75, Tryd.f75.body.getD .skip, Tryd.func75, by kernel_rfl, by kernel_rfl, by kernel_rfl, by kernel_rfl, by kernel_rfl⟩

/-- loop.example/g01331/spec.l02Girth -/
def i_spec_l02Girth_B1 : FC :=
  .seq (.seq (.ops [
    ⟨some 18, .mv (.tmp 7), none, 0⟩,
    ⟨some 19, .fld 0 (.tmp 2), none, 0⟩,
    ⟨some 20, .load false 1 (.tmp 19), none, 0⟩,
    ⟨some 21, .bin .lss (.tmp 18) (.tmp 20), none, 0⟩]) <|
  .cond (.tmp 21)
    (.skip)
    (.keep [1, 2, 5, 6] <|
    .exit 2)) <|
  .seq (.block 3 <|
  .seq (.seq (.ops [
    ⟨some 24, .fld 1 (.tmp 2), none, 0⟩,
    ⟨some 25, .load false 1 (.tmp 24), none, 0⟩,
    ⟨some 26, .mv (.tmp 6), none, 0⟩,
    ⟨some 27, .idx 1 (.tmp 25) (.tmp 26), none, 0⟩,
    ⟨some 28, .load false 1 (.tmp 27), none, 0⟩,
    ⟨some 29, .mv (.tmp 7), none, 0⟩,
    ⟨some 30, .conv .u64 (.tmp 29), none, 0⟩,
    ⟨some 31, .bin .shr (.tmp 28) (.tmp 30), none, 0⟩,
    ⟨some 32, .bin .and (.tmp 31) (.const (.int .i64 1)), none, 0⟩,
    ⟨some 33, .bin .eql (.tmp 32) (.const (.int .i64 0)), none, 0⟩,
    ⟨some 34, .mv (.tmp 33), none, 0⟩,
    ⟨some 35, .mv (.tmp 1), some (34, false), 0⟩,
    ⟨some 36, .bin .geq (.tmp 35) (.const (.int .i64 0)), some (34, false), 0⟩,
    ⟨some 37, .mv (.tmp 36), some (34, false), 0⟩,
    ⟨some 38, .mv (.tmp 6), some (37, true), 0⟩,
    ⟨some 39, .mv (.tmp 1), some (37, true), 0⟩,
    ⟨some 40, .bin .neq (.tmp 38) (.tmp 39), some (37, true), 0⟩,
    ⟨some 41, .pick (.tmp 37) (.tmp 40) (.const (.bool false)), some (34, false), 0⟩,
    ⟨some 42, .mv (.tmp 41), some (34, false), 0⟩,
    ⟨some 43, .mv (.tmp 7), some (42, true), 0⟩,
    ⟨some 44, .mv (.tmp 1), some (42, true), 0⟩,
    ⟨some 45, .bin .neq (.tmp 43) (.tmp 44), some (42, true), 0⟩,
    ⟨some 46, .pick (.tmp 42) (.tmp 45) (.const (.bool false)), some (34, false), 0⟩,
    ⟨some 47, .pick (.tmp 34) (.const (.bool true)) (.tmp 46), none, 0⟩]) <|
  .cond (.tmp 47)
    (.keep [1, 2, 5, 6, 7] <|
    .exit 3)
    (.skip)) <|
  .seq (.ops [
    ⟨some 49, .load true 2 (.tmp 2), none, 0⟩,
    ⟨some 50, .mv (.tmp 6), none, 0⟩,
    ⟨some 51, .mv (.tmp 7), none, 0⟩,
    ⟨some 52, .call k_spec_l02Around [(.tmp 49), (.tmp 50), (.tmp 51)], none, 0⟩,
    ⟨some 48, .mv (.tmp 52), none, 0⟩,
    ⟨some 53, .ext (.tmp 48) 0, none, 0⟩,
    ⟨some 54, .ext (.tmp 48) 1, none, 0⟩,
    ⟨some 8, .mv (.tmp 53), none, 0⟩,
    ⟨some 9, .mv (.tmp 54), none, 0⟩]) <|
  .seq (.ops [
    ⟨some 55, .mv (.tmp 8), none, 0⟩,
    ⟨some 56, .bin .gtr (.tmp 55) (.const (.int .i64 0)), none, 0⟩,
    ⟨some 57, .mv (.tmp 56), none, 0⟩,
    ⟨some 58, .mv (.tmp 5), some (57, true), 0⟩,
    ⟨some 59, .bin .eql (.tmp 58) (.const (.int .i64 0)), some (57, true), 0⟩,
    ⟨some 60, .mv (.tmp 59), some (57, true), 0⟩,
    ⟨some 61, .mv (.tmp 8), some (60, false), 0⟩,
    ⟨some 62, .mv (.tmp 5), some (60, false), 0⟩,
    ⟨some 63, .bin .lss (.tmp 61) (.tmp 62), some (60, false), 0⟩,
    ⟨some 64, .pick (.tmp 60) (.const (.bool true)) (.tmp 63), some (57, true), 0⟩,
    ⟨some 65, .pick (.tmp 57) (.tmp 64) (.const (.bool false)), none, 0⟩]) <|
  .cond (.tmp 65)
    (.ops [
      ⟨some 66, .mv (.tmp 8), none, 0⟩,
      ⟨some 5, .mv (.tmp 66), none, 0⟩])
    (.skip)) <|
  .ops [
    ⟨some 22, .mv (.tmp 7), none, 0⟩,
    ⟨some 23, .bin .add (.tmp 22) (.const (.int .i64 1)), none, 0⟩,
    ⟨some 7, .mv (.tmp 23), none, 0⟩]
def i_spec_l02Girth_B2 : FC :=
  .seq (.seq (.ops [
    ⟨some 10, .mv (.tmp 6), none, 0⟩,
    ⟨some 11, .fld 0 (.tmp 2), none, 0⟩,
    ⟨some 12, .load false 1 (.tmp 11), none, 0⟩,
    ⟨some 13, .bin .lss (.tmp 10) (.tmp 12), none, 0⟩]) <|
  .cond (.tmp 13)
    (.skip)
    (.keep [5] <|
    .exit 0)) <|
  .seq (.block 1 <|
  .seq (.ops [
    ⟨some 16, .mv (.tmp 6), none, 0⟩,
    ⟨some 17, .bin .add (.tmp 16) (.const (.int .i64 1)), none, 0⟩,
    ⟨some 7, .mv (.tmp 17), none, 0⟩]) <|
  .block 2 <|
  .loop [1, 2, 5, 6, 7] i_spec_l02Girth_B1) <|
  .ops [
    ⟨some 14, .mv (.tmp 6), none, 0⟩,
    ⟨some 15, .bin .add (.tmp 14) (.const (.int .i64 1)), none, 0⟩,
    ⟨some 6, .mv (.tmp 15), none, 0⟩]
def i_spec_l02Girth : FF := ⟨68, [.tmp 4],
  .seq (.ops [
    ⟨some 2, .box 2 (.tmp 0), none, 0⟩,
    ⟨some 4, .mv (.const (.int .i64 0)), none, 0⟩]) <|
  .seq (.ops [
    ⟨some 5, .mv (.const (.int .i64 0)), none, 0⟩]) <|
  .seq (.seq (.ops [
    ⟨some 6, .mv (.const (.int .i64 0)), none, 0⟩]) <|
  .block 0 <|
  .loop [1, 2, 5, 6] i_spec_l02Girth_B2) <|
  .seq (.ops [
    ⟨some 67, .mv (.tmp 5), none, 0⟩,
    ⟨some 4, .mv (.tmp 67), none, 0⟩]) <|
  .keep [4] <|
  .ret⟩

theorem e_spec_l02Girth : EntOK Tryd.prog (compD Tryd.prog) k_spec_l02Girth i_spec_l02Girth.vf :=
  ⟨Tryd.f76, Tryd.f76.body.getD .skip, Tryd.func76, by kernel_rfl, by kernel_rfl, by kernel_rfl, by kernel_rfl, by kernel_rfl⟩

/-- loop.example/g01331/spec.l02Around -/
def i_spec_l02Around_B1 : FC :=
  .seq (.seq (.ops [
    ⟨some 43, .mv (.tmp 12), none, 0⟩,
    ⟨some 44, .fld 0 (.tmp 3), none, 0⟩,
    ⟨some 45, .load false 1 (.tmp 44), none, 0⟩,
    ⟨some 46, .bin .lss (.tmp 43) (.tmp 45), none, 0⟩,
    ⟨some 47, .mv (.tmp 46), none, 0⟩,
    ⟨some 48, .mv (.tmp 8), some (47, true), 0⟩,
    ⟨some 49, .mv (.tmp 11), some (47, true), 0⟩,
    ⟨some 50, .idx 1 (.tmp 48) (.tmp 49), some (47, true), 0⟩,
    ⟨some 51, .load false 1 (.tmp 50), some (47, true), 0⟩,
    ⟨some 52, .mv (.tmp 10), some (47, true), 0⟩,
    ⟨some 53, .bin .eql (.tmp 51) (.tmp 52), some (47, true), 0⟩,
    ⟨some 54, .pick (.tmp 47) (.tmp 53) (.const (.bool false)), none, 0⟩]) <|
  .cond (.tmp 54)
    (.skip)
    (.keep [1, 2, 3, 8, 9, 10, 11] <|
    .exit 4)) <|
  .seq (.block 5 <|
  .seq (.ops [
    ⟨some 57, .fld 1 (.tmp 3), none, 0⟩,
    ⟨some 58, .load false 1 (.tmp 57), none, 0⟩,
    ⟨some 59, .mv (.tmp 11), none, 0⟩,
    ⟨some 60, .idx 1 (.tmp 58) (.tmp 59), none, 0⟩,
    ⟨some 61, .load false 1 (.tmp 60), none, 0⟩,
    ⟨some 62, .mv (.tmp 12), none, 0⟩,
    ⟨some 63, .conv .u64 (.tmp 62), none, 0⟩,
    ⟨some 64, .bin .shr (.tmp 61) (.tmp 63), none, 0⟩,
    ⟨some 65, .bin .and (.tmp 64) (.const (.int .i64 1)), none, 0⟩,
    ⟨some 66, .bin .eql (.tmp 65) (.const (.int .i64 1)), none, 0⟩,
    ⟨some 67, .mv (.tmp 66), none, 0⟩,
    ⟨some 68, .mv (.tmp 8), some (67, true), 0⟩,
    ⟨some 69, .mv (.tmp 12), some (67, true), 0⟩,
    ⟨some 70, .idx 1 (.tmp 68) (.tmp 69), some (67, true), 0⟩,
    ⟨some 71, .load false 1 (.tmp 70), some (67, true), 0⟩,
    ⟨some 72, .mv (.tmp 10), some (67, true), 0⟩,
    ⟨some 73, .bin .add (.tmp 72) (.const (.int .i64 1)), some (67, true), 0⟩,
    ⟨some 74, .bin .eql (.tmp 71) (.tmp 73), some (67, true), 0⟩,
    ⟨some 75, .pick (.tmp 67) (.tmp 74) (.const (.bool false)), none, 0⟩,
    ⟨some 76, .mv (.tmp 75), none, 0⟩,
    ⟨some 77, .mv (.tmp 11), some (76, true), 0⟩,
    ⟨some 78, .mv (.tmp 1), some (76, true), 0⟩,
    ⟨some 79, .bin .eql (.tmp 77) (.tmp 78), some (76, true), 0⟩,
    ⟨some 80, .mv (.tmp 79), some (76, true), 0⟩,
    ⟨some 81, .mv (.tmp 12), some (80, true), 0⟩,
    ⟨some 82, .mv (.tmp 2), some (80, true), 0⟩,
    ⟨some 83, .bin .eql (.tmp 81) (.tmp 82), some (80, true), 0⟩,
    ⟨some 84, .pick (.tmp 80) (.tmp 83) (.const (.bool false)), some (76, true), 0⟩,
    ⟨some 85, .un .not (.tmp 84), some (76, true), 0⟩,
    ⟨some 86, .pick (.tmp 76) (.tmp 85) (.const (.bool false)), none, 0⟩]) <|
  .cond (.tmp 86)
    (.dops [
      ⟨some 87, .mv (.tmp 9), none, 0⟩,
      ⟨some 88, .mv (.tmp 12), none, 0⟩,
      ⟨some 89, .mv (.tmp 9), none, 0⟩,
      ⟨some 90, .mv (.tmp 12), none, 0⟩,
      ⟨some 91, .idx 1 (.tmp 89) (.tmp 90), none, 0⟩,
      ⟨some 92, .load false 1 (.tmp 91), none, 0⟩,
      ⟨some 93, .mv (.tmp 9), none, 0⟩,
      ⟨some 94, .mv (.tmp 11), none, 0⟩,
      ⟨some 95, .idx 1 (.tmp 93) (.tmp 94), none, 0⟩,
      ⟨some 96, .load false 1 (.tmp 95), none, 0⟩,
      ⟨some 97, .bin .add (.tmp 92) (.tmp 96), none, 0⟩,
      ⟨some 98, .idx 1 (.tmp 87) (.tmp 88), none, 0⟩,
      ⟨none, .store 1 (.tmp 98) (.tmp 97), none, 0⟩])
    (.skip)) <|
  .ops [
    ⟨some 55, .mv (.tmp 12), none, 0⟩,
    ⟨some 56, .bin .add (.tmp 55) (.const (.int .i64 1)), none, 0⟩,
    ⟨some 12, .mv (.tmp 56), none, 0⟩]
def i_spec_l02Around_B2 : FC :=
  .seq (.seq (.ops [
    ⟨some 37, .mv (.tmp 11), none, 0⟩,
    ⟨some 38, .fld 0 (.tmp 3), none, 0⟩,
    ⟨some 39, .load false 1 (.tmp 38), none, 0⟩,
    ⟨some 40, .bin .lss (.tmp 37) (.tmp 39), none, 0⟩]) <|
  .cond (.tmp 40)
    (.skip)
    (.keep [1, 2, 3, 8, 9, 10] <|
    .exit 2)) <|
  .seq (.block 3 <|
  .seq (.ops [
    ⟨some 12, .mv (.const (.int .i64 0)), none, 0⟩]) <|
  .block 4 <|
  .loop [1, 2, 3, 8, 9, 10, 11, 12] i_spec_l02Around_B1) <|
  .ops [
    ⟨some 41, .mv (.tmp 11), none, 0⟩,
    ⟨some 42, .bin .add (.tmp 41) (.const (.int .i64 1)), none, 0⟩,
    ⟨some 11, .mv (.tmp 42), none, 0⟩]
def i_spec_l02Around_B3 : FC :=
  .seq (.seq (.ops [
    ⟨some 29, .mv (.tmp 10), none, 0⟩,
    ⟨some 30, .mv (.tmp 8), none, 0⟩,
    ⟨some 31, .mv (.tmp 2), none, 0⟩,
    ⟨some 32, .idx 1 (.tmp 30) (.tmp 31), none, 0⟩,
    ⟨some 33, .load false 1 (.tmp 32), none, 0⟩,
    ⟨some 34, .bin .lss (.tmp 29) (.tmp 33), none, 0⟩]) <|
  .cond (.tmp 34)
    (.skip)
    (.keep [2, 8, 9] <|
    .exit 0)) <|
  .seq (.block 1 <|
  .seq (.ops [
    ⟨some 11, .mv (.const (.int .i64 0)), none, 0⟩]) <|
  .block 2 <|
  .loop [1, 2, 3, 8, 9, 10, 11] i_spec_l02Around_B2) <|
  .ops [
    ⟨some 35, .mv (.tmp 10), none, 0⟩,
    ⟨some 36, .bin .add (.tmp 35) (.const (.int .i64 1)), none, 0⟩,
    ⟨some 10, .mv (.tmp 36), none, 0⟩]
def i_spec_l02Around : FF := ⟨108, [.tmp 6, .tmp 7],
  .seq (.ops [
    ⟨some 3, .box 2 (.tmp 0), none, 0⟩,
    ⟨some 6, .mv (.const (.int .i64 0)), none, 0⟩,
    ⟨some 7, .mv (.const (.int .i64 0)), none, 0⟩]) <|
  .seq (.ops [
    ⟨some 13, .load true 2 (.tmp 3), none, 0⟩,
    ⟨some 14, .mv (.tmp 1), none, 0⟩,
    ⟨some 15, .mv (.tmp 1), none, 0⟩,
    ⟨some 16, .mv (.tmp 2), none, 0⟩,
    ⟨some 17, .call k_spec_l02From [(.tmp 13), (.tmp 14), (.tmp 15), (.tmp 16)], none, 0⟩,
    ⟨some 8, .mv (.tmp 17), none, 0⟩]) <|
  .seq (.seq (.ops [
    ⟨some 18, .mv (.tmp 8), none, 0⟩,
    ⟨some 19, .mv (.tmp 2), none, 0⟩,
    ⟨some 20, .idx 1 (.tmp 18) (.tmp 19), none, 0⟩,
    ⟨some 21, .load false 1 (.tmp 20), none, 0⟩,
    ⟨some 22, .bin .lss (.tmp 21) (.const (.int .i64 0)), none, 0⟩]) <|
  .cond (.tmp 22)
    (.seq (.ops [
      ⟨some 6, .mv (.const (.int .i64 0)), none, 0⟩,
      ⟨some 7, .mv (.const (.int .i64 0)), none, 0⟩]) <|
    .keep [6, 7] <|
    .ret)
    (.skip)) <|
  .seq (.ops [
    ⟨some 23, .fld 0 (.tmp 3), none, 0⟩,
    ⟨some 24, .load false 1 (.tmp 23), none, 0⟩,
    ⟨some 25, .mkSl 1 [.int .i64 0] 8 (.tmp 24) (.tmp 24), none, 0⟩,
    ⟨some 9, .mv (.tmp 25), none, 0⟩]) <|
  .seq (.ops [
    ⟨some 26, .mv (.tmp 9), none, 0⟩,
    ⟨some 27, .mv (.tmp 1), none, 0⟩,
    ⟨some 28, .idx 1 (.tmp 26) (.tmp 27), none, 0⟩,
    ⟨none, .store 1 (.tmp 28) (.const (.int .i64 1)), none, 0⟩]) <|
  .seq (.seq (.ops [
    ⟨some 10, .mv (.const (.int .i64 0)), none, 0⟩]) <|
  .block 0 <|
  .loop [1, 2, 3, 8, 9, 10] i_spec_l02Around_B3) <|
  .seq (.dops [
    ⟨some 99, .mv (.tmp 8), none, 0⟩,
    ⟨some 100, .mv (.tmp 2), none, 0⟩,
    ⟨some 101, .idx 1 (.tmp 99) (.tmp 100), none, 0⟩,
    ⟨some 102, .load false 1 (.tmp 101), none, 0⟩,
    ⟨some 103, .bin .add (.tmp 102) (.const (.int .i64 1)), none, 0⟩,
    ⟨some 104, .mv (.tmp 9), none, 0⟩,
    ⟨some 105, .mv (.tmp 2), none, 0⟩,
    ⟨some 106, .idx 1 (.tmp 104) (.tmp 105), none, 0⟩,
    ⟨some 107, .load false 1 (.tmp 106), none, 0⟩,
    ⟨some 6, .mv (.tmp 103), none, 0⟩,
    ⟨some 7, .mv (.tmp 107), none, 0⟩]) <|
  .keep [6, 7] <|
  .ret⟩

theorem e_spec_l02Around : EntOK Tryd.prog (compD Tryd.prog) k_spec_l02Around i_spec_l02Around.vf :=
  ⟨Tryd.f77, Tryd.f77.body.getD .skip, Tryd.func77, by kernel_rfl, by kernel_rfl, by kernel_rfl, by kernel_rfl, by kernel_rfl⟩

/-- loop.example/g01331/impl.found -/
def i_impl_found : FF := ⟨7, [.tmp 2, .tmp 3],
  .seq (.ops [
    ⟨some 2, .mv (.const (.int .i64 0)), none, 0⟩,
    ⟨some 3, .mv (.const (.int .i64 0)), none, 0⟩]) <|
  .seq (.seq (.ops [
    ⟨some 4, .mv (.tmp 0), none, 0⟩,
    ⟨some 5, .bin .eql (.tmp 4) (.const (.int .i64 0)), none, 0⟩]) <|
  .cond (.tmp 5)
    (.seq (.ops [
      ⟨some 2, .mv (.const (.int .i64 0)), none, 0⟩,
      ⟨some 3, .mv (.const (.int .i64 4)), none, 0⟩]) <|
    .keep [2, 3] <|
    .ret)
    (.skip)) <|
  .seq (.ops [
    ⟨some 6, .mv (.tmp 0), none, 0⟩,
    ⟨some 2, .mv (.tmp 6), none, 0⟩,
    ⟨some 3, .mv (.const (.int .i64 0)), none, 0⟩]) <|
  .keep [2, 3] <|
  .ret⟩

theorem e_impl_found : EntOK Tryd.prog (compD Tryd.prog) k_impl_found i_impl_found.vf :=
  ⟨Tryd.f78, Tryd.f78.body.getD .skip, Tryd.func78, by kernel_rfl, by kernel_rfl, by kernel_rfl, by kernel_rfl, by kernel_rfl⟩

/-- loop.example/g01331/spec.l02Pair -/
def i_spec_l02Pair : FF := ⟨52, [.cell 2 true 2, .tmp 3, .tmp 4],
  .seq (.ops [
    ⟨some 2, .alloc [.int .i64 0, .slice none 0 0], none, 0⟩,
    ⟨some 3, .mv (.const (.int .i64 0)), none, 0⟩,
    ⟨some 4, .mv (.const (.int .i64 0)), none, 0⟩]) <|
  .seq (.ops [
    ⟨some 11, .mv (.tmp 0), none, 0⟩,
    ⟨some 12, .call k_spec_l01From [(.tmp 11)], none, 0⟩,
    ⟨some 5, .mv (.tmp 12), none, 0⟩]) <|
  .seq (.ops [
    ⟨some 13, .mv (.tmp 5), none, 0⟩,
    ⟨some 14, .call k_spec_l02Draw [(.tmp 13)], none, 0⟩,
    ⟨some 6, .alloc [.int .i64 0, .slice none 0 0], none, 0⟩,
    ⟨none, .store 2 (.tmp 6) (.tmp 14), none, 0⟩]) <|
  .seq (.ops [
    ⟨some 15, .fld 0 (.tmp 6), none, 0⟩,
    ⟨some 16, .load false 1 (.tmp 15), none, 0⟩,
    ⟨some 17, .minmax true [(.tmp 16), (.const (.int .i64 1))], none, 0⟩,
    ⟨some 18, .minmax false [(.tmp 17), (.const (.int .i64 62))], none, 0⟩,
    ⟨some 7, .mv (.tmp 18), none, 0⟩]) <|
  .seq (.ops [
    ⟨some 19, .mv (.tmp 5), none, 0⟩,
    ⟨some 20, .mv (.tmp 7), none, 0⟩,
    ⟨some 21, .call k_spec_l01Next [(.tmp 19), (.tmp 20)], none, 0⟩,
    ⟨some 22, .mv (.tmp 5), none, 0⟩,
    ⟨some 23, .mv (.tmp 7), none, 0⟩,
    ⟨some 24, .mv (.tmp 5), none, 0⟩,
    ⟨some 25, .call k_spec_l01Next [(.tmp 24), (.const (.int .i64 24))], none, 0⟩,
    ⟨some 26, .bin .quo (.tmp 25) (.const (.int .i64 23)), none, 0⟩,
    ⟨some 27, .bin .add (.tmp 23) (.tmp 26), none, 0⟩,
    ⟨some 28, .call k_spec_l01Next [(.tmp 22), (.tmp 27)], none, 0⟩,
    ⟨some 8, .mv (.tmp 21), none, 0⟩,
    ⟨some 9, .mv (.tmp 28), none, 0⟩]) <|
  .seq (.seq (.ops [
    ⟨some 29, .load true 2 (.tmp 6), none, 0⟩,
    ⟨some 30, .call k_spec_l01Is [(.tmp 29)], none, 0⟩,
    ⟨some 31, .mv (.tmp 30), none, 0⟩,
    ⟨some 32, .mv (.tmp 5), some (31, true), 0⟩,
    ⟨some 33, .call k_spec_l01Next [(.tmp 32), (.const (.int .i64 2))], some (31, true), 0⟩,
    ⟨some 34, .bin .eql (.tmp 33) (.const (.int .i64 0)), some (31, true), 0⟩,
    ⟨some 35, .pick (.tmp 31) (.tmp 34) (.const (.bool false)), none, 0⟩]) <|
  .cond (.tmp 35)
    (.seq (.ops [
      ⟨some 36, .load true 2 (.tmp 6), none, 0⟩,
      ⟨some 37, .mv (.tmp 8), none, 0⟩,
      ⟨some 38, .call k_spec_l01Neighbours [(.tmp 36), (.tmp 37)], none, 0⟩,
      ⟨some 10, .mv (.tmp 38), none, 0⟩]) <|
    .seq (.ops [
      ⟨some 39, .mv (.tmp 10), none, 0⟩,
      ⟨some 40, .len (.tmp 39), none, 0⟩,
      ⟨some 41, .bin .gtr (.tmp 40) (.const (.int .i64 0)), none, 0⟩]) <|
    .cond (.tmp 41)
      (.ops [
        ⟨some 42, .mv (.tmp 10), none, 0⟩,
        ⟨some 43, .mv (.tmp 5), none, 0⟩,
        ⟨some 44, .mv (.tmp 10), none, 0⟩,
        ⟨some 45, .len (.tmp 44), none, 0⟩,
        ⟨some 46, .call k_spec_l01Next [(.tmp 43), (.tmp 45)], none, 0⟩,
        ⟨some 47, .idx 1 (.tmp 42) (.tmp 46), none, 0⟩,
        ⟨some 48, .load false 1 (.tmp 47), none, 0⟩,
        ⟨some 9, .mv (.tmp 48), none, 0⟩])
      (.skip))
    (.skip)) <|
  .seq (.ops [
    ⟨some 49, .load true 2 (.tmp 6), none, 0⟩,
    ⟨some 50, .mv (.tmp 8), none, 0⟩,
    ⟨some 51, .mv (.tmp 9), none, 0⟩,
    ⟨none, .store 2 (.tmp 2) (.tmp 49), none, 0⟩,
    ⟨some 3, .mv (.tmp 50), none, 0⟩,
    ⟨some 4, .mv (.tmp 51), none, 0⟩]) <|
  .keep [2, 3, 4] <|
  .ret⟩

theorem e_spec_l02Pair : EntOK Tryd.prog (compD Tryd.prog) k_spec_l02Pair i_spec_l02Pair.vf :=
  ⟨Tryd.f79, Tryd.f79.body.getD .skip, Tryd.func79, by kernel_rfl, by kernel_rfl, by kernel_rfl, by kernel_rfl, by kernel_rfl⟩

/-- loop.example/g01331/impl.graphCode -/
def i_impl_graphCode_B1 : FC :=
  .seq (.ops [
    ⟨some 13, .bin .lss (.tmp 12) (.tmp 11), none, 0⟩]) <|
  .seq (.cond (.tmp 13)
    (.skip)
    (.keep [] <|
    .exit 0)) <|
  .seq (.block 1 <|
  .seq (.ops [
    ⟨some 14, .idx 1 (.tmp 10) (.tmp 12), none, 0⟩,
    ⟨some 15, .load false 1 (.tmp 14), none, 0⟩,
    ⟨some 6, .mv (.tmp 15), none, 0⟩]) <|
  .seq (.ops [
    ⟨some 16, .mv (.tmp 6), none, 0⟩,
    ⟨some 17, .bin .lss (.tmp 16) (.const (.int .i64 0)), none, 0⟩,
    ⟨some 18, .mv (.tmp 17), none, 0⟩,
    ⟨some 19, .mv (.tmp 6), some (18, false), 0⟩,
    ⟨some 20, .fld 0 (.tmp 2), some (18, false), 0⟩,
    ⟨some 21, .load false 1 (.tmp 20), some (18, false), 0⟩,
    ⟨some 22, .bin .geq (.tmp 19) (.tmp 21), some (18, false), 0⟩,
    ⟨some 23, .pick (.tmp 18) (.const (.bool true)) (.tmp 22), none, 0⟩]) <|
  .cond (.tmp 23)
    (.seq (.ops [
      ⟨some 4, .mv (.const (.int .i64 2)), none, 0⟩]) <|
    .keep [4] <|
    .ret)
    (.skip)) <|
  .ops [
    ⟨some 24, .bin .add (.tmp 12) (.const (.int .i64 1)), none, 0⟩,
    ⟨some 12, .mv (.tmp 24), none, 0⟩]
def i_impl_graphCode : FF := ⟨25, [.tmp 4],
  .seq (.ops [
    ⟨some 2, .box 2 (.tmp 0), none, 0⟩,
    ⟨some 4, .mv (.const (.int .i64 0)), none, 0⟩]) <|
  .seq (.seq (.ops [
    ⟨some 7, .load true 2 (.tmp 2), none, 0⟩,
    ⟨some 8, .call k_impl_IsGraph [(.tmp 7)], none, 0⟩,
    ⟨some 9, .un .not (.tmp 8), none, 0⟩]) <|
  .cond (.tmp 9)
    (.seq (.ops [
      ⟨some 4, .mv (.const (.int .i64 1)), none, 0⟩]) <|
    .keep [4] <|
    .ret)
    (.skip)) <|
  .seq (.seq (.ops [
    ⟨some 10, .mv (.tmp 1), none, 0⟩,
    ⟨some 11, .len (.tmp 10), none, 0⟩,
    ⟨some 12, .mv (.const (.int .i64 0)), none, 0⟩]) <|
  .block 0 <|
  .loop [2, 10, 11, 12] i_impl_graphCode_B1) <|
  .seq (.ops [
    ⟨some 4, .mv (.const (.int .i64 0)), none, 0⟩]) <|
  .keep [4] <|
  .ret⟩

theorem e_impl_graphCode : EntOK Tryd.prog (compD Tryd.prog) k_impl_graphCode i_impl_graphCode.vf :=
  ⟨Tryd.f80, Tryd.f80.body.getD .skip, Tryd.func80, by kernel_rfl, by kernel_rfl, by kernel_rfl, by kernel_rfl, by kernel_rfl⟩

/-- (loop.example/g01331/impl.Graph).has -/
def i_impl_Graph_has : FF := ⟨16, [.tmp 6],
  .seq (.ops [
    ⟨some 3, .box 2 (.tmp 0), none, 0⟩,
    ⟨some 6, .mv (.const (.bool false)), none, 0⟩]) <|
  .seq (.ops [
    ⟨some 7, .fld 1 (.tmp 3), none, 0⟩,
    ⟨some 8, .load false 1 (.tmp 7), none, 0⟩,
    ⟨some 9, .mv (.tmp 1), none, 0⟩,
    ⟨some 10, .idx 1 (.tmp 8) (.tmp 9), none, 0⟩,
    ⟨some 11, .load false 1 (.tmp 10), none, 0⟩,
    ⟨some 12, .mv (.tmp 2), none, 0⟩,
    ⟨some 13, .bin .shr (.tmp 11) (.tmp 12), none, 0⟩,
    ⟨some 14, .bin .and (.tmp 13) (.const (.int .i64 1)), none, 0⟩,
    ⟨some 15, .bin .eql (.tmp 14) (.const (.int .i64 1)), none, 0⟩,
    ⟨some 6, .mv (.tmp 15), none, 0⟩]) <|
  .keep [6] <|
  .ret⟩

theorem e_impl_Graph_has : EntOK Tryd.prog (compD Tryd.prog) k_impl_Graph_has i_impl_Graph_has.vf :=
  ⟨Tryd.f81, Tryd.f81.body.getD .skip, Tryd.func81, by kernel_rfl, by kernel_rfl, by kernel_rfl, by kernel_rfl, by kernel_rfl⟩

/-- loop.example/g01331/spec.l02Code -/
def i_spec_l02Code_B1 : FC :=
  .seq (.seq (.ops [
    ⟨some 9, .mv (.tmp 5), none, 0⟩,
    ⟨some 10, .mv (.tmp 1), none, 0⟩,
    ⟨some 11, .len (.tmp 10), none, 0⟩,
    ⟨some 12, .bin .lss (.tmp 9) (.tmp 11), none, 0⟩]) <|
  .cond (.tmp 12)
    (.skip)
    (.keep [] <|
    .exit 0)) <|
  .seq (.block 1 <|
  .seq (.dops [
    ⟨some 15, .mv (.tmp 1), none, 0⟩,
    ⟨some 16, .mv (.tmp 5), none, 0⟩,
    ⟨some 17, .idx 1 (.tmp 15) (.tmp 16), none, 0⟩,
    ⟨some 18, .load false 1 (.tmp 17), none, 0⟩,
    ⟨some 19, .fld 0 (.tmp 2), none, 0⟩,
    ⟨some 20, .load false 1 (.tmp 19), none, 0⟩,
    ⟨some 21, .bin .sub (.tmp 20) (.const (.int .i64 1)), none, 0⟩,
    ⟨some 22, .call k_spec_l01In [(.tmp 18), (.const (.int .i64 0)), (.tmp 21)], none, 0⟩,
    ⟨some 23, .un .not (.tmp 22), none, 0⟩]) <|
  .cond (.tmp 23)
    (.seq (.ops [
      ⟨some 4, .mv (.const (.int .i64 2)), none, 0⟩]) <|
    .keep [4] <|
    .ret)
    (.skip)) <|
  .ops [
    ⟨some 13, .mv (.tmp 5), none, 0⟩,
    ⟨some 14, .bin .add (.tmp 13) (.const (.int .i64 1)), none, 0⟩,
    ⟨some 5, .mv (.tmp 14), none, 0⟩]
def i_spec_l02Code : FF := ⟨24, [.tmp 4],
  .seq (.ops [
    ⟨some 2, .box 2 (.tmp 0), none, 0⟩,
    ⟨some 4, .mv (.const (.int .i64 0)), none, 0⟩]) <|
  .seq (.seq (.ops [
    ⟨some 6, .load true 2 (.tmp 2), none, 0⟩,
    ⟨some 7, .call k_spec_l01Is [(.tmp 6)], none, 0⟩,
    ⟨some 8, .un .not (.tmp 7), none, 0⟩]) <|
  .cond (.tmp 8)
    (.seq (.ops [
      ⟨some 4, .mv (.const (.int .i64 1)), none, 0⟩]) <|
    .keep [4] <|
    .ret)
    (.skip)) <|
  .seq (.seq (.ops [
    ⟨some 5, .mv (.const (.int .i64 0)), none, 0⟩]) <|
  .block 0 <|
  .loop [1, 2, 5] i_spec_l02Code_B1) <|
  .seq (.ops [
    ⟨some 4, .mv (.const (.int .i64 0)), none, 0⟩]) <|
  .keep [4] <|
  .ret⟩

theorem e_spec_l02Code : EntOK Tryd.prog (compD Tryd.prog) k_spec_l02Code i_spec_l02Code.vf :=
  ⟨Tryd.f82, Tryd.f82.body.getD .skip, Tryd.func82, by kernel_rfl, by kernel_rfl, by kernel_rfl, by kernel_rfl, by kernel_rfl⟩

/-- loop.example/g01331/spec.l02At -/
def i_spec_l02At : FF := ⟨21, [.cell 2 true 2, .tmp 3],
  .seq (.ops [
    ⟨some 2, .alloc [.int .i64 0, .slice none 0 0], none, 0⟩,
    ⟨some 3, .mv (.const (.int .i64 0)), none, 0⟩]) <|
  .seq (.ops [
    ⟨some 6, .mv (.tmp 0), none, 0⟩,
    ⟨some 7, .call k_spec_l01From [(.tmp 6)], none, 0⟩,
    ⟨some 4, .mv (.tmp 7), none, 0⟩]) <|
  .seq (.ops [
    ⟨some 8, .mv (.tmp 4), none, 0⟩,
    ⟨some 9, .call k_spec_l02Draw [(.tmp 8)], none, 0⟩,
    ⟨some 5, .alloc [.int .i64 0, .slice none 0 0], none, 0⟩,
    ⟨none, .store 2 (.tmp 5) (.tmp 9), none, 0⟩]) <|
  .seq (.dops [
    ⟨some 16, .mv (.tmp 4), none, 0⟩,
    ⟨some 17, .call k_spec_l01Next [(.tmp 16), (.const (.int .i64 24))], none, 0⟩,
    ⟨some 11, .mv (.tmp 4), none, 1⟩,
    ⟨some 12, .fld 0 (.tmp 5), none, 1⟩,
    ⟨some 13, .load false 1 (.tmp 12), none, 1⟩,
    ⟨some 14, .minmax true [(.tmp 13), (.const (.int .i64 1))], none, 1⟩,
    ⟨some 15, .minmax false [(.tmp 14), (.const (.int .i64 62))], none, 1⟩,
    ⟨some 18, .bin .quo (.tmp 17) (.const (.int .i64 23)), none, 0⟩,
    ⟨some 19, .bin .add (.tmp 15) (.tmp 18), none, 0⟩,
    ⟨some 20, .call k_spec_l01Next [(.tmp 11), (.tmp 19)], none, 0⟩,
    ⟨some 10, .load true 2 (.tmp 5), none, 2⟩,
    ⟨none, .store 2 (.tmp 2) (.tmp 10), none, 0⟩,
    ⟨some 3, .mv (.tmp 20), none, 0⟩]) <|
  .keep [2, 3] <|
  .ret⟩

theorem e_spec_l02At : EntOK Tryd.prog (compD Tryd.prog) k_spec_l02At i_spec_l02At.vf :=
  ⟨Tryd.f83, Tryd.f83.body.getD .skip, Tryd.func83, by kernel_rfl, by kernel_rfl, by kernel_rfl, by kernel_rfl, by kernel_rfl⟩

/-- (loop.example/g01331/impl.Graph).girthAt -/
def i_impl_Graph_girthAt_B1 : FC :=
  .seq (.ops [
    ⟨some 17, .bin .lss (.tmp 16) (.tmp 15), none, 0⟩]) <|
  .seq (.cond (.tmp 17)
    (.skip)
    (.keep [5] <|
    .exit 0)) <|
  .seq (.block 1 <|
  .seq (.ops [
    ⟨some 18, .idx 1 (.tmp 14) (.tmp 16), none, 0⟩,
    ⟨some 19, .load false 1 (.tmp 18), none, 0⟩,
    ⟨some 7, .mv (.tmp 19), none, 0⟩]) <|
  .seq (.ops [
    ⟨some 20, .load true 2 (.tmp 2), none, 0⟩,
    ⟨some 21, .mv (.tmp 1), none, 0⟩,
    ⟨some 22, .mv (.tmp 7), none, 0⟩,
    ⟨some 23, .call k_impl_Graph_around [(.tmp 20), (.tmp 21), (.tmp 22)], none, 0⟩,
    ⟨some 8, .mv (.tmp 23), none, 0⟩]) <|
  .seq (.ops [
    ⟨some 24, .mv (.tmp 8), none, 0⟩,
    ⟨some 25, .bin .gtr (.tmp 24) (.const (.int .i64 0)), none, 0⟩,
    ⟨some 26, .mv (.tmp 25), none, 0⟩,
    ⟨some 27, .mv (.tmp 5), some (26, true), 0⟩,
    ⟨some 28, .bin .eql (.tmp 27) (.const (.int .i64 0)), some (26, true), 0⟩,
    ⟨some 29, .mv (.tmp 28), some (26, true), 0⟩,
    ⟨some 30, .mv (.tmp 8), some (29, false), 0⟩,
    ⟨some 31, .mv (.tmp 5), some (29, false), 0⟩,
    ⟨some 32, .bin .lss (.tmp 30) (.tmp 31), some (29, false), 0⟩,
    ⟨some 33, .pick (.tmp 29) (.const (.bool true)) (.tmp 32), some (26, true), 0⟩,
    ⟨some 34, .pick (.tmp 26) (.tmp 33) (.const (.bool false)), none, 0⟩]) <|
  .cond (.tmp 34)
    (.ops [
      ⟨some 35, .mv (.tmp 8), none, 0⟩,
      ⟨some 5, .mv (.tmp 35), none, 0⟩])
    (.skip)) <|
  .ops [
    ⟨some 36, .bin .add (.tmp 16) (.const (.int .i64 1)), none, 0⟩,
    ⟨some 16, .mv (.tmp 36), none, 0⟩]
def i_impl_Graph_girthAt : FF := ⟨38, [.tmp 4],
  .seq (.ops [
    ⟨some 2, .box 2 (.tmp 0), none, 0⟩,
    ⟨some 4, .mv (.const (.int .i64 0)), none, 0⟩]) <|
  .seq (.ops [
    ⟨some 5, .mv (.const (.int .i64 0)), none, 0⟩]) <|
  .seq (.seq (.ops [
    ⟨some 9, .fld 1 (.tmp 2), none, 0⟩,
    ⟨some 10, .load false 1 (.tmp 9), none, 0⟩,
    ⟨some 11, .mv (.tmp 1), none, 0⟩,
    ⟨some 12, .idx 1 (.tmp 10) (.tmp 11), none, 0⟩,
    ⟨some 13, .load false 1 (.tmp 12), none, 0⟩,
    ⟨some 14, .call k_impl_list [(.tmp 13)], none, 0⟩,
    ⟨some 15, .len (.tmp 14), none, 0⟩,
    ⟨some 16, .mv (.const (.int .i64 0)), none, 0⟩]) <|
  .block 0 <|
  .loop [1, 2, 5, 14, 15, 16] i_impl_Graph_girthAt_B1) <|
  .seq (.ops [
    ⟨some 37, .mv (.tmp 5), none, 0⟩,
    ⟨some 4, .mv (.tmp 37), none, 0⟩]) <|
  .keep [4] <|
  .ret⟩

theorem e_impl_Graph_girthAt : EntOK Tryd.prog (compD Tryd.prog) k_impl_Graph_girthAt i_impl_Graph_girthAt.vf :=
  ⟨Tryd.f84, Tryd.f84.body.getD .skip, Tryd.func84, by kernel_rfl, by kernel_rfl, by kernel_rfl, by kernel_rfl, by kernel_rfl⟩

/-- loop.example/g01331/spec.l01Next -/
def i_spec_l01Next : FF := ⟨58, [.tmp 4],
  .seq (.ops [
    ⟨some 4, .mv (.const (.int .i64 0)), none, 0⟩]) <|
  .seq (.seq (.ops [
    ⟨some 6, .mv (.tmp 1), none, 0⟩,
    ⟨some 7, .bin .lss (.tmp 6) (.const (.int .i64 1)), none, 0⟩]) <|
  .cond (.tmp 7)
    (.seq (.ops [
      ⟨some 4, .mv (.const (.int .i64 0)), none, 0⟩]) <|
    .keep [4] <|
    .ret)
    (.skip)) <|
  .seq (.ops [
    ⟨some 8, .mv (.tmp 0), none, 0⟩,
    ⟨some 9, .mv (.tmp 0), none, 0⟩,
    ⟨some 10, .nilchk (.tmp 9), none, 0⟩,
    ⟨some 11, .fld 2 (.tmp 10), none, 0⟩,
    ⟨some 12, .load false 1 (.tmp 11), none, 0⟩,
    ⟨some 13, .bin .mul (.tmp 12) (.const (.int .u64 6364136223846793005)), none, 0⟩,
    ⟨some 14, .bin .add (.tmp 13) (.const (.int .u64 1442695040888963407)), none, 0⟩,
    ⟨some 15, .nilchk (.tmp 8), none, 0⟩,
    ⟨some 16, .fld 2 (.tmp 15), none, 0⟩,
    ⟨none, .store 1 (.tmp 16) (.tmp 14), none, 0⟩]) <|
  .seq (.ops [
    ⟨some 17, .mv (.tmp 0), none, 0⟩,
    ⟨some 18, .nilchk (.tmp 17), none, 0⟩,
    ⟨some 19, .fld 2 (.tmp 18), none, 0⟩,
    ⟨some 20, .load false 1 (.tmp 19), none, 0⟩,
    ⟨some 21, .bin .shr (.tmp 20) (.const (.int .u64 33)), none, 0⟩,
    ⟨some 22, .bin .and (.tmp 21) (.const (.int .u64 16777215)), none, 0⟩,
    ⟨some 23, .conv .i64 (.tmp 22), none, 0⟩,
    ⟨some 5, .mv (.tmp 23), none, 0⟩]) <|
  .seq (.seq (.dops [
    ⟨some 24, .mv (.tmp 0), none, 0⟩,
    ⟨some 25, .nilchk (.tmp 24), none, 0⟩,
    ⟨some 26, .fld 1 (.tmp 25), none, 0⟩,
    ⟨some 27, .load false 1 (.tmp 26), none, 0⟩,
    ⟨some 28, .mv (.tmp 0), none, 0⟩,
    ⟨some 29, .nilchk (.tmp 28), none, 0⟩,
    ⟨some 30, .fld 0 (.tmp 29), none, 0⟩,
    ⟨some 31, .load false 1 (.tmp 30), none, 0⟩,
    ⟨some 32, .len (.tmp 31), none, 0⟩,
    ⟨some 33, .bin .lss (.tmp 27) (.tmp 32), none, 0⟩]) <|
  .cond (.tmp 33)
    (.seq (.dops [
      ⟨some 34, .mv (.tmp 5), none, 0⟩,
      ⟨some 35, .mv (.tmp 0), none, 0⟩,
      ⟨some 36, .nilchk (.tmp 35), none, 0⟩,
      ⟨some 37, .fld 0 (.tmp 36), none, 0⟩,
      ⟨some 38, .load false 1 (.tmp 37), none, 0⟩,
      ⟨some 39, .mv (.tmp 0), none, 0⟩,
      ⟨some 40, .nilchk (.tmp 39), none, 0⟩,
      ⟨some 41, .fld 1 (.tmp 40), none, 0⟩,
      ⟨some 42, .load false 1 (.tmp 41), none, 0⟩,
      ⟨some 43, .idx 1 (.tmp 38) (.tmp 42), none, 0⟩,
      ⟨some 44, .load false 1 (.tmp 43), none, 0⟩,
      ⟨some 45, .conv .i64 (.tmp 44), none, 0⟩,
      ⟨some 46, .bin .add (.tmp 34) (.tmp 45), none, 0⟩,
      ⟨some 5, .mv (.tmp 46), none, 0⟩]) <|
    .ops [
      ⟨some 47, .mv (.tmp 0), none, 0⟩,
      ⟨some 48, .mv (.tmp 0), none, 0⟩,
      ⟨some 49, .nilchk (.tmp 48), none, 0⟩,
      ⟨some 50, .fld 1 (.tmp 49), none, 0⟩,
      ⟨some 51, .load false 1 (.tmp 50), none, 0⟩,
      ⟨some 52, .bin .add (.tmp 51) (.const (.int .i64 1)), none, 0⟩,
      ⟨some 53, .nilchk (.tmp 47), none, 0⟩,
      ⟨some 54, .fld 1 (.tmp 53), none, 0⟩,
      ⟨none, .store 1 (.tmp 54) (.tmp 52), none, 0⟩])
    (.skip)) <|
  .seq (.ops [
    ⟨some 55, .mv (.tmp 5), none, 0⟩,
    ⟨some 56, .mv (.tmp 1), none, 0⟩,
    ⟨some 57, .bin .rem (.tmp 55) (.tmp 56), none, 0⟩,
    ⟨some 4, .mv (.tmp 57), none, 0⟩]) <|
  .keep [4] <|
  .ret⟩

theorem e_spec_l01Next : EntOK Tryd.prog (compD Tryd.prog) k_spec_l01Next i_spec_l01Next.vf :=
  ⟨Tryd.f86, Tryd.f86.body.getD .skip, Tryd.func86, by kernel_rfl, by kernel_rfl, by kernel_rfl, by kernel_rfl, by kernel_rfl⟩

/-- loop.example/g01331/spec.l01Pick -/
def i_spec_l01Pick : FF := ⟨12, [.tmp 4],
  .seq (.ops [
    ⟨some 4, .mv (.const (.int .i64 0)), none, 0⟩]) <|
  .seq (.ops [
    ⟨some 5, .mv (.tmp 1), none, 0⟩,
    ⟨some 6, .mv (.tmp 0), none, 0⟩,
    ⟨some 7, .mv (.tmp 1), none, 0⟩,
    ⟨some 8, .len (.tmp 7), none, 0⟩,
    ⟨some 9, .call k_spec_l01Next [(.tmp 6), (.tmp 8)], none, 0⟩,
    ⟨some 10, .idx 1 (.tmp 5) (.tmp 9), none, 0⟩,
    ⟨some 11, .load false 1 (.tmp 10), none, 0⟩,
    ⟨some 4, .mv (.tmp 11), none, 0⟩]) <|
  .keep [4] <|
  .ret⟩

theorem e_spec_l01Pick : EntOK Tryd.prog (compD Tryd.prog) k_spec_l01Pick i_spec_l01Pick.vf :=
  ⟨Tryd.f87, Tryd.f87.body.getD .skip, Tryd.func87, by kernel_rfl, by kernel_rfl, by kernel_rfl, by kernel_rfl, by kernel_rfl⟩

/-- loop.example/g01331/spec.l01In -/
def i_spec_l01In : FF := ⟨15, [.tmp 6],
  .seq (.ops [
    ⟨some 6, .mv (.const (.bool false)), none, 0⟩]) <|
  .seq (.ops [
    ⟨some 7, .mv (.tmp 0), none, 0⟩,
    ⟨some 8, .mv (.tmp 1), none, 0⟩,
    ⟨some 9, .bin .geq (.tmp 7) (.tmp 8), none, 0⟩,
    ⟨some 10, .mv (.tmp 9), none, 0⟩,
    ⟨some 11, .mv (.tmp 0), some (10, true), 0⟩,
    ⟨some 12, .mv (.tmp 2), some (10, true), 0⟩,
    ⟨some 13, .bin .leq (.tmp 11) (.tmp 12), some (10, true), 0⟩,
    ⟨some 14, .pick (.tmp 10) (.tmp 13) (.const (.bool false)), none, 0⟩,
    ⟨some 6, .mv (.tmp 14), none, 0⟩]) <|
  .keep [6] <|
  .ret⟩

theorem e_spec_l01In : EntOK Tryd.prog (compD Tryd.prog) k_spec_l01In i_spec_l01In.vf :=
  ⟨Tryd.f91, Tryd.f91.body.getD .skip, Tryd.func91, by kernel_rfl, by kernel_rfl, by kernel_rfl, by kernel_rfl, by kernel_rfl⟩

/-- loop.example/g01331/spec.l01Empty -/
def i_spec_l01Empty : FF := ⟨7, [.cell 2 true 2],
  .seq (.ops [
    ⟨some 2, .alloc [.int .i64 0, .slice none 0 0], none, 0⟩]) <|
  .seq (.ops [
    ⟨some 3, .mv (.tmp 0), none, 0⟩,
    ⟨some 4, .mv (.tmp 0), none, 0⟩,
    ⟨some 5, .mkSl 1 [.int .i64 0] 8 (.tmp 4) (.tmp 4), none, 0⟩,
    ⟨some 6, .build [.int .i64 0, .slice none 0 0] [(0, 1, (.tmp 3)), (1, 1, (.tmp 5))], none, 0⟩,
    ⟨none, .store 2 (.tmp 2) (.tmp 6), none, 0⟩]) <|
  .keep [2] <|
  .ret⟩

theorem e_spec_l01Empty : EntOK Tryd.prog (compD Tryd.prog) k_spec_l01Empty i_spec_l01Empty.vf :=
  ⟨Tryd.f94, Tryd.f94.body.getD .skip, Tryd.func94, by kernel_rfl, by kernel_rfl, by kernel_rfl, by kernel_rfl, by kernel_rfl⟩

/-- loop.example/g01331/impl.own -/
def i_impl_own : FF := ⟨9, [.cell 2 true 2],
  .seq (.ops [
    ⟨some 1, .box 2 (.tmp 0), none, 0⟩,
    ⟨some 2, .alloc [.int .i64 0, .slice none 0 0], none, 0⟩]) <|
  .seq (.dops [
    ⟨some 5, .fld 1 (.tmp 1), none, 0⟩,
    ⟨some 6, .load false 1 (.tmp 5), none, 0⟩,
    ⟨some 7, .call k_slices_Clone_int64_int64 [(.tmp 6)], none, 0⟩,
    ⟨some 3, .fld 0 (.tmp 1), none, 1⟩,
    ⟨some 4, .load false 1 (.tmp 3), none, 1⟩,
    ⟨some 8, .build [.int .i64 0, .slice none 0 0] [(0, 1, (.tmp 4)), (1, 1, (.tmp 7))], none, 0⟩,
    ⟨none, .store 2 (.tmp 2) (.tmp 8), none, 0⟩]) <|
  .keep [2] <|
  .ret⟩

theorem e_impl_own : EntOK Tryd.prog (compD Tryd.prog) k_impl_own i_impl_own.vf :=
  ⟨Tryd.f104, Tryd.f104.body.getD .skip, Tryd.func104, by kernel_rfl, by kernel_rfl, by kernel_rfl, by kernel_rfl, by kernel_rfl⟩

/-- loop.example/g01331/spec.l01DrawOf -/
def i_spec_l01DrawOf_B1 : FC :=
  .seq (.seq (.ops [
    ⟨some 20, .mv (.tmp 8), none, 0⟩,
    ⟨some 21, .mv (.tmp 7), none, 0⟩,
    ⟨some 22, .bin .lss (.tmp 20) (.tmp 21), none, 0⟩]) <|
  .cond (.tmp 22)
    (.skip)
    (.keep [0, 1, 4, 5, 6, 7] <|
    .exit 2)) <|
  .seq (.block 3 <|
  .seq (.ops [
    ⟨some 25, .mv (.tmp 0), none, 0⟩,
    ⟨some 26, .mv (.tmp 1), none, 0⟩,
    ⟨some 27, .call k_spec_l01Next [(.tmp 25), (.tmp 26)], none, 0⟩,
    ⟨some 28, .mv (.tmp 6), none, 0⟩,
    ⟨some 29, .bin .lss (.tmp 27) (.tmp 28), none, 0⟩]) <|
  .cond (.tmp 29)
    (.ops [
      ⟨some 30, .load true 2 (.tmp 5), none, 0⟩,
      ⟨some 31, .mv (.tmp 7), none, 0⟩,
      ⟨some 32, .mv (.tmp 8), none, 0⟩,
      ⟨some 33, .call k_spec_l01Put [(.tmp 30), (.tmp 31), (.tmp 32)], none, 0⟩])
    (.skip)) <|
  .ops [
    ⟨some 23, .mv (.tmp 8), none, 0⟩,
    ⟨some 24, .bin .add (.tmp 23) (.const (.int .i64 1)), none, 0⟩,
    ⟨some 8, .mv (.tmp 24), none, 0⟩]
def i_spec_l01DrawOf_B2 : FC :=
  .seq (.seq (.ops [
    ⟨some 15, .mv (.tmp 7), none, 0⟩,
    ⟨some 16, .mv (.tmp 1), none, 0⟩,
    ⟨some 17, .bin .lss (.tmp 15) (.tmp 16), none, 0⟩]) <|
  .cond (.tmp 17)
    (.skip)
    (.keep [4, 5] <|
    .exit 0)) <|
  .seq (.block 1 <|
  .seq (.ops [
    ⟨some 8, .mv (.const (.int .i64 0)), none, 0⟩]) <|
  .block 2 <|
  .loop [0, 1, 4, 5, 6, 7, 8] i_spec_l01DrawOf_B1) <|
  .ops [
    ⟨some 18, .mv (.tmp 7), none, 0⟩,
    ⟨some 19, .bin .add (.tmp 18) (.const (.int .i64 1)), none, 0⟩,
    ⟨some 7, .mv (.tmp 19), none, 0⟩]
def i_spec_l01DrawOf : FF := ⟨35, [.cell 4 true 2],
  .seq (.ops [
    ⟨some 4, .alloc [.int .i64 0, .slice none 0 0], none, 0⟩]) <|
  .seq (.ops [
    ⟨some 9, .mv (.tmp 1), none, 0⟩,
    ⟨some 10, .call k_spec_l01Empty [(.tmp 9)], none, 0⟩,
    ⟨some 11, .mv (.tmp 0), none, 0⟩,
    ⟨some 12, .mv (.tmp 1), none, 0⟩,
    ⟨some 13, .buildSl 1 [.int .i64 0, .int .i64 0, .int .i64 0, .int .i64 0, .int .i64 0] [(0, 1, (.const (.int .i64 1))), (1, 1, (.const (.int .i64 2))), (2, 1, (.const (.int .i64 3))), (3, 1, (.const (.int .i64 4))), (4, 1, (.tmp 12))] 5, none, 0⟩,
    ⟨some 14, .call k_spec_l01Pick [(.tmp 11), (.tmp 13)], none, 0⟩,
    ⟨some 5, .alloc [.int .i64 0, .slice none 0 0], none, 0⟩,
    ⟨none, .store 2 (.tmp 5) (.tmp 10), none, 0⟩,
    ⟨some 6, .mv (.tmp 14), none, 0⟩]) <|
  .seq (.seq (.ops [
    ⟨some 7, .mv (.const (.int .i64 0)), none, 0⟩]) <|
  .block 0 <|
  .loop [0, 1, 4, 5, 6, 7] i_spec_l01DrawOf_B2) <|
  .seq (.ops [
    ⟨some 34, .load true 2 (.tmp 5), none, 0⟩,
    ⟨none, .store 2 (.tmp 4) (.tmp 34), none, 0⟩]) <|
  .keep [4] <|
  .ret⟩

theorem e_spec_l01DrawOf : EntOK Tryd.prog (compD Tryd.prog) k_spec_l01DrawOf i_spec_l01DrawOf.vf :=
  ⟨Tryd.f122, Tryd.f122.body.getD .skip, Tryd.func122, by kernel_rfl, by kernel_rfl, by kernel_rfl, by kernel_rfl, by kernel_rfl⟩

/-- loop.example/g01331/spec.l01Put -/
def i_spec_l01Put : FF := ⟨32, [],
  .seq (.ops [
    ⟨some 3, .box 2 (.tmp 0), none, 0⟩]) <|
  .seq (.dops [
    ⟨some 6, .fld 1 (.tmp 3), none, 0⟩,
    ⟨some 7, .load false 1 (.tmp 6), none, 0⟩,
    ⟨some 8, .mv (.tmp 1), none, 0⟩,
    ⟨some 9, .fld 1 (.tmp 3), none, 0⟩,
    ⟨some 10, .load false 1 (.tmp 9), none, 0⟩,
    ⟨some 11, .mv (.tmp 1), none, 0⟩,
    ⟨some 12, .idx 1 (.tmp 10) (.tmp 11), none, 0⟩,
    ⟨some 13, .load false 1 (.tmp 12), none, 0⟩,
    ⟨some 14, .mv (.tmp 2), none, 0⟩,
    ⟨some 15, .conv .u64 (.tmp 14), none, 0⟩,
    ⟨some 16, .bin .shl (.const (.int .i64 1)) (.tmp 15), none, 0⟩,
    ⟨some 17, .bin .or (.tmp 13) (.tmp 16), none, 0⟩,
    ⟨some 18, .idx 1 (.tmp 7) (.tmp 8), none, 0⟩,
    ⟨none, .store 1 (.tmp 18) (.tmp 17), none, 0⟩]) <|
  .dops [
    ⟨some 19, .fld 1 (.tmp 3), none, 0⟩,
    ⟨some 20, .load false 1 (.tmp 19), none, 0⟩,
    ⟨some 21, .mv (.tmp 2), none, 0⟩,
    ⟨some 22, .fld 1 (.tmp 3), none, 0⟩,
    ⟨some 23, .load false 1 (.tmp 22), none, 0⟩,
    ⟨some 24, .mv (.tmp 2), none, 0⟩,
    ⟨some 25, .idx 1 (.tmp 23) (.tmp 24), none, 0⟩,
    ⟨some 26, .load false 1 (.tmp 25), none, 0⟩,
    ⟨some 27, .mv (.tmp 1), none, 0⟩,
    ⟨some 28, .conv .u64 (.tmp 27), none, 0⟩,
    ⟨some 29, .bin .shl (.const (.int .i64 1)) (.tmp 28), none, 0⟩,
    ⟨some 30, .bin .or (.tmp 26) (.tmp 29), none, 0⟩,
    ⟨some 31, .idx 1 (.tmp 20) (.tmp 21), none, 0⟩,
    ⟨none, .store 1 (.tmp 31) (.tmp 30), none, 0⟩]⟩

theorem e_spec_l01Put : EntOK Tryd.prog (compD Tryd.prog) k_spec_l01Put i_spec_l01Put.vf :=
  ⟨Tryd.f124, Tryd.f124.body.getD .skip, Tryd.func124, by kernel_rfl, by kernel_rfl, by kernel_rfl, by kernel_rfl, by kernel_rfl⟩

/-- loop.example/g01331/spec.l01Bad -/
def i_spec_l01Bad : FF := ⟨46, [.cell 4 true 2],
  .seq (.ops [
    ⟨some 3, .box 2 (.tmp 1), none, 0⟩,
    ⟨some 4, .alloc [.int .i64 0, .slice none 0 0], none, 0⟩]) <|
  .seq (.ops [
    ⟨some 6, .fld 1 (.tmp 3), none, 0⟩,
    ⟨some 7, .load false 1 (.tmp 6), none, 0⟩,
    ⟨some 8, .call k_spec_l01Own [(.tmp 7)], none, 0⟩,
    ⟨some 5, .mv (.tmp 8), none, 0⟩]) <|
  .seq (.seq (.ops [
    ⟨some 9, .mv (.tmp 0), none, 0⟩,
    ⟨some 10, .call k_spec_l01Next [(.tmp 9), (.const (.int .i64 50))], none, 0⟩]) <|
  .block 0 <|
  .seq (.ops [
    ⟨some 13, .bin .eql (.tmp 10) (.const (.int .i64 0)), none, 0⟩,
    ⟨some 12, .mv (.tmp 13), none, 0⟩]) <|
  .cond (.tmp 12)
    (.seq (.ops [
      ⟨some 14, .mv (.tmp 0), none, 0⟩,
      ⟨some 15, .fld 0 (.tmp 3), none, 0⟩,
      ⟨some 16, .load false 1 (.tmp 15), none, 0⟩,
      ⟨some 17, .bin .add (.tmp 16) (.const (.int .i64 1)), none, 0⟩,
      ⟨some 18, .buildSl 1 [.int .i64 0, .int .i64 0, .int .i64 0, .int .i64 0] [(0, 1, (.const (.int .i64 0))), (1, 1, (.const (.int .i64 63))), (2, 1, (.const (.int .i64 (-1)))), (3, 1, (.tmp 17))] 4, none, 0⟩,
      ⟨some 19, .call k_spec_l01Pick [(.tmp 14), (.tmp 18)], none, 0⟩,
      ⟨some 20, .mv (.tmp 5), none, 0⟩,
      ⟨some 21, .build [.int .i64 0, .slice none 0 0] [(0, 1, (.tmp 19)), (1, 1, (.tmp 20))], none, 0⟩,
      ⟨none, .store 2 (.tmp 4) (.tmp 21), none, 0⟩]) <|
    .keep [4] <|
    .ret)
    (.seq (.ops [
      ⟨some 23, .bin .eql (.tmp 10) (.const (.int .i64 1)), none, 0⟩,
      ⟨some 22, .mv (.tmp 23), none, 0⟩]) <|
    .cond (.tmp 22)
      (.dops [
        ⟨some 25, .mv (.tmp 0), none, 0⟩,
        ⟨some 26, .fld 0 (.tmp 3), none, 0⟩,
        ⟨some 27, .load false 1 (.tmp 26), none, 0⟩,
        ⟨some 28, .call k_spec_l01Next [(.tmp 25), (.tmp 27)], none, 0⟩,
        ⟨some 29, .mv (.tmp 0), none, 1⟩,
        ⟨some 30, .fld 0 (.tmp 3), none, 1⟩,
        ⟨some 31, .load false 1 (.tmp 30), none, 1⟩,
        ⟨some 32, .conv .u64 (.tmp 31), none, 1⟩,
        ⟨some 33, .bin .shl (.const (.int .i64 1)) (.tmp 32), none, 1⟩,
        ⟨some 34, .buildSl 1 [.int .i64 0, .int .i64 0, .int .i64 0, .int .i64 0, .int .i64 0] [(0, 1, (.const (.int .i64 (-1)))), (1, 1, (.const (.int .i64 1))), (2, 1, (.const (.int .i64 2))), (3, 1, (.const (.int .i64 4611686018427387904))), (4, 1, (.tmp 33))] 5, none, 1⟩,
        ⟨some 35, .call k_spec_l01Pick [(.tmp 29), (.tmp 34)], none, 1⟩,
        ⟨some 24, .mv (.tmp 5), none, 3⟩,
        ⟨some 36, .idx 1 (.tmp 24) (.tmp 28), none, 1⟩,
        ⟨none, .store 1 (.tmp 36) (.tmp 35), none, 1⟩])
      (.seq (.ops [
        ⟨some 38, .bin .eql (.tmp 10) (.const (.int .i64 2)), none, 0⟩,
        ⟨some 37, .mv (.tmp 38), none, 0⟩]) <|
      .cond (.tmp 37)
        (.ops [
          ⟨some 39, .mv (.tmp 5), none, 0⟩,
          ⟨some 40, .buildSl 1 [.int .i64 0] [(0, 1, (.const (.int .i64 0)))] 1, none, 0⟩,
          ⟨some 41, .app 1 8 [.int .i64 0] (.tmp 39) (.tmp 40), none, 0⟩,
          ⟨some 5, .mv (.tmp 41), none, 0⟩])
        (.seq (.ops [
          ⟨some 11, .load true 2 (.tmp 3), none, 0⟩,
          ⟨none, .store 2 (.tmp 4) (.tmp 11), none, 0⟩]) <|
        .keep [4] <|
        .ret)))) <|
  .seq (.ops [
    ⟨some 42, .fld 0 (.tmp 3), none, 0⟩,
    ⟨some 43, .load false 1 (.tmp 42), none, 0⟩,
    ⟨some 44, .mv (.tmp 5), none, 0⟩,
    ⟨some 45, .build [.int .i64 0, .slice none 0 0] [(0, 1, (.tmp 43)), (1, 1, (.tmp 44))], none, 0⟩,
    ⟨none, .store 2 (.tmp 4) (.tmp 45), none, 0⟩]) <|
  .keep [4] <|
  .ret⟩

theorem e_spec_l01Bad : EntOK Tryd.prog (compD Tryd.prog) k_spec_l01Bad i_spec_l01Bad.vf :=
  ⟨Tryd.f126, Tryd.f126.body.getD .skip, Tryd.func126, by kernel_rfl, by kernel_rfl, by kernel_rfl, by kernel_rfl, by kernel_rfl⟩

/-- loop.example/g01331/spec.l01Neighbours -/
def i_spec_l01Neighbours_B1 : FC :=
  .seq (.seq (.ops [
    ⟨some 8, .mv (.tmp 6), none, 0⟩,
    ⟨some 9, .fld 0 (.tmp 2), none, 0⟩,
    ⟨some 10, .load false 1 (.tmp 9), none, 0⟩,
    ⟨some 11, .bin .lss (.tmp 8) (.tmp 10), none, 0⟩]) <|
  .cond (.tmp 11)
    (.skip)
    (.keep [5] <|
    .exit 0)) <|
  .seq (.block 1 <|
  .seq (.ops [
    ⟨some 14, .load true 2 (.tmp 2), none, 0⟩,
    ⟨some 15, .mv (.tmp 1), none, 0⟩,
    ⟨some 16, .mv (.tmp 6), none, 0⟩,
    ⟨some 17, .call k_spec_l01Has [(.tmp 14), (.tmp 15), (.tmp 16)], none, 0⟩]) <|
  .cond (.tmp 17)
    (.ops [
      ⟨some 18, .mv (.tmp 5), none, 0⟩,
      ⟨some 19, .mv (.tmp 6), none, 0⟩,
      ⟨some 20, .buildSl 1 [.int .i64 0] [(0, 1, (.tmp 19))] 1, none, 0⟩,
      ⟨some 21, .app 1 8 [.int .i64 0] (.tmp 18) (.tmp 20), none, 0⟩,
      ⟨some 5, .mv (.tmp 21), none, 0⟩])
    (.skip)) <|
  .ops [
    ⟨some 12, .mv (.tmp 6), none, 0⟩,
    ⟨some 13, .bin .add (.tmp 12) (.const (.int .i64 1)), none, 0⟩,
    ⟨some 6, .mv (.tmp 13), none, 0⟩]
def i_spec_l01Neighbours : FF := ⟨23, [.tmp 4],
  .seq (.ops [
    ⟨some 2, .box 2 (.tmp 0), none, 0⟩,
    ⟨some 4, .mv (.const (.slice none 0 0)), none, 0⟩]) <|
  .seq (.ops [
    ⟨some 7, .buildSl 1 [] [] 0, none, 0⟩,
    ⟨some 5, .mv (.tmp 7), none, 0⟩]) <|
  .seq (.seq (.ops [
    ⟨some 6, .mv (.const (.int .i64 0)), none, 0⟩]) <|
  .block 0 <|
  .loop [1, 2, 5, 6] i_spec_l01Neighbours_B1) <|
  .seq (.ops [
    ⟨some 22, .mv (.tmp 5), none, 0⟩,
    ⟨some 4, .mv (.tmp 22), none, 0⟩]) <|
  .keep [4] <|
  .ret⟩

theorem e_spec_l01Neighbours : EntOK Tryd.prog (compD Tryd.prog) k_spec_l01Neighbours i_spec_l01Neighbours.vf :=
  ⟨Tryd.f127, Tryd.f127.body.getD .skip, Tryd.func127, by kernel_rfl, by kernel_rfl, by kernel_rfl, by kernel_rfl, by kernel_rfl⟩

/-- loop.example/g01331/spec.l01DrawRegular -/
def i_spec_l01DrawRegular : FF := ⟨49, [.cell 2 true 2],
  .seq (.ops [
    ⟨some 2, .alloc [.int .i64 0, .slice none 0 0], none, 0⟩]) <|
  .seq (.ops [
    ⟨some 7, .call k_spec_l01Names [], none, 0⟩,
    ⟨some 3, .mv (.tmp 7), none, 0⟩]) <|
  .seq (.ops [
    ⟨some 9, .mv (.tmp 3), none, 0⟩,
    ⟨some 10, .mv (.tmp 0), none, 0⟩,
    ⟨some 11, .mv (.tmp 0), none, 0⟩,
    ⟨some 12, .buildSl 1 [.int .i64 0, .int .i64 0, .int .i64 0] [(0, 1, (.const (.int .i64 6))), (1, 1, (.const (.int .i64 13))), (2, 1, (.const (.int .i64 15)))] 3, none, 0⟩,
    ⟨some 13, .call k_spec_l01Pick [(.tmp 11), (.tmp 12)], none, 0⟩,
    ⟨some 14, .call k_spec_l01Next [(.tmp 10), (.tmp 13)], none, 0⟩,
    ⟨some 15, .idx 1 (.tmp 9) (.tmp 14), none, 0⟩,
    ⟨some 16, .load false 1 (.tmp 15), none, 0⟩,
    ⟨some 17, .call k_spec_l01Named [(.tmp 16)], none, 0⟩,
    ⟨some 8, .mv (.tmp 17), none, 0⟩,
    ⟨some 18, .ext (.tmp 8) 0, none, 0⟩,
    ⟨some 19, .ext (.tmp 8) 1, none, 0⟩,
    ⟨some 4, .alloc [.int .i64 0, .slice none 0 0], none, 0⟩,
    ⟨none, .store 2 (.tmp 4) (.tmp 18), none, 0⟩,
    ⟨some 5, .mv (.tmp 19), none, 0⟩]) <|
  .seq (.seq (.ops [
    ⟨some 20, .mv (.tmp 0), none, 0⟩,
    ⟨some 21, .call k_spec_l01Next [(.tmp 20), (.const (.int .i64 3))], none, 0⟩,
    ⟨some 22, .bin .eql (.tmp 21) (.const (.int .i64 0)), none, 0⟩]) <|
  .cond (.tmp 22)
    (.seq (.ops [
      ⟨some 23, .mv (.tmp 0), none, 0⟩,
      ⟨some 24, .call k_spec_l01Next [(.tmp 23), (.const (.int .i64 14))], none, 0⟩,
      ⟨some 25, .bin .add (.const (.int .i64 3)) (.tmp 24), none, 0⟩,
      ⟨some 6, .mv (.tmp 25), none, 0⟩]) <|
    .seq (.ops [
      ⟨some 26, .mv (.tmp 6), none, 0⟩,
      ⟨some 27, .call k_spec_l01Jumps [(.tmp 26), (.const (.slice none 0 0))], none, 0⟩,
      ⟨none, .store 2 (.tmp 4) (.tmp 27), none, 0⟩]) <|
    .seq (.ops [
      ⟨some 28, .mv (.tmp 0), none, 0⟩,
      ⟨some 29, .call k_spec_l01Next [(.tmp 28), (.const (.int .i64 2))], none, 0⟩,
      ⟨some 30, .bin .eql (.tmp 29) (.const (.int .i64 0)), none, 0⟩]) <|
    .cond (.tmp 30)
      (.ops [
        ⟨some 31, .mv (.tmp 6), none, 0⟩,
        ⟨some 32, .mv (.tmp 0), none, 0⟩,
        ⟨some 33, .mv (.tmp 6), none, 0⟩,
        ⟨some 34, .bin .sub (.tmp 33) (.const (.int .i64 1)), none, 0⟩,
        ⟨some 35, .call k_spec_l01Next [(.tmp 32), (.tmp 34)], none, 0⟩,
        ⟨some 36, .bin .add (.const (.int .i64 1)) (.tmp 35), none, 0⟩,
        ⟨some 37, .buildSl 1 [.int .i64 0] [(0, 1, (.tmp 36))] 1, none, 0⟩,
        ⟨some 38, .call k_spec_l01Jumps [(.tmp 31), (.tmp 37)], none, 0⟩,
        ⟨none, .store 2 (.tmp 4) (.tmp 38), none, 0⟩])
      (.skip))
    (.skip)) <|
  .seq (.seq (.ops [
    ⟨some 39, .mv (.tmp 0), none, 0⟩,
    ⟨some 40, .call k_spec_l01Next [(.tmp 39), (.const (.int .i64 2))], none, 0⟩,
    ⟨some 41, .bin .eql (.tmp 40) (.const (.int .i64 0)), none, 0⟩]) <|
  .cond (.tmp 41)
    (.seq (.dops [
      ⟨some 43, .mv (.tmp 0), none, 0⟩,
      ⟨some 44, .fld 0 (.tmp 4), none, 0⟩,
      ⟨some 45, .load false 1 (.tmp 44), none, 0⟩,
      ⟨some 46, .call k_spec_l01DrawOrder [(.tmp 43), (.tmp 45)], none, 0⟩,
      ⟨some 42, .load true 2 (.tmp 4), none, 1⟩,
      ⟨some 47, .call k_spec_l01Renamed [(.tmp 42), (.tmp 46)], none, 0⟩,
      ⟨none, .store 2 (.tmp 2) (.tmp 47), none, 0⟩]) <|
    .keep [2] <|
    .ret)
    (.skip)) <|
  .seq (.ops [
    ⟨some 48, .load true 2 (.tmp 4), none, 0⟩,
    ⟨none, .store 2 (.tmp 2) (.tmp 48), none, 0⟩]) <|
  .keep [2] <|
  .ret⟩

theorem e_spec_l01DrawRegular : EntOK Tryd.prog (compD Tryd.prog) k_spec_l01DrawRegular i_spec_l01DrawRegular.vf :=
  ⟨Tryd.f133, Tryd.f133.body.getD .skip, Tryd.func133, by kernel_rfl, by kernel_rfl, by kernel_rfl, by kernel_rfl, by kernel_rfl⟩

/-- loop.example/g01331/spec.l01Spoil -/
def i_spec_l01Spoil : FF := ⟨7, [.cell 2 true 2],
  .seq (.ops [
    ⟨some 2, .alloc [.int .i64 0, .slice none 0 0], none, 0⟩]) <|
  .seq (.ops [
    ⟨some 3, .mv (.tmp 0), none, 0⟩,
    ⟨some 4, .mv (.tmp 0), none, 0⟩,
    ⟨some 5, .call k_spec_l01Draw [(.tmp 4)], none, 0⟩,
    ⟨some 6, .call k_spec_l01Bad [(.tmp 3), (.tmp 5)], none, 0⟩,
    ⟨none, .store 2 (.tmp 2) (.tmp 6), none, 0⟩]) <|
  .keep [2] <|
  .ret⟩

theorem e_spec_l01Spoil : EntOK Tryd.prog (compD Tryd.prog) k_spec_l01Spoil i_spec_l01Spoil.vf :=
  ⟨Tryd.f134, Tryd.f134.body.getD .skip, Tryd.func134, by kernel_rfl, by kernel_rfl, by kernel_rfl, by kernel_rfl, by kernel_rfl⟩

/-- loop.example/g01331/impl.list -/
def i_impl_list_B1 : FC :=
  .seq (.seq (.ops [
    ⟨some 5, .mv (.tmp 0), none, 0⟩,
    ⟨some 6, .bin .neq (.tmp 5) (.const (.int .i64 0)), none, 0⟩]) <|
  .cond (.tmp 6)
    (.skip)
    (.keep [3] <|
    .exit 0)) <|
  .seq (.block 1 <|
  .ops [
    ⟨some 11, .mv (.tmp 3), none, 0⟩,
    ⟨some 12, .mv (.tmp 0), none, 0⟩,
    ⟨some 13, .conv .u64 (.tmp 12), none, 0⟩,
    ⟨some 14, .call k_math_bits_TrailingZeros64 [(.tmp 13)], none, 0⟩,
    ⟨some 15, .buildSl 1 [.int .i64 0] [(0, 1, (.tmp 14))] 1, none, 0⟩,
    ⟨some 16, .app 1 8 [.int .i64 0] (.tmp 11) (.tmp 15), none, 0⟩,
    ⟨some 3, .mv (.tmp 16), none, 0⟩]) <|
  .ops [
    ⟨some 7, .mv (.tmp 0), none, 0⟩,
    ⟨some 8, .mv (.tmp 0), none, 0⟩,
    ⟨some 9, .bin .sub (.tmp 8) (.const (.int .i64 1)), none, 0⟩,
    ⟨some 10, .bin .and (.tmp 7) (.tmp 9), none, 0⟩,
    ⟨some 0, .mv (.tmp 10), none, 0⟩]
def i_impl_list : FF := ⟨18, [.tmp 2],
  .seq (.ops [
    ⟨some 2, .mv (.const (.slice none 0 0)), none, 0⟩]) <|
  .seq (.ops [
    ⟨some 4, .buildSl 1 [] [] 0, none, 0⟩,
    ⟨some 3, .mv (.tmp 4), none, 0⟩]) <|
  .seq (.block 0 <|
  .loop [0, 3] i_impl_list_B1) <|
  .seq (.ops [
    ⟨some 17, .mv (.tmp 3), none, 0⟩,
    ⟨some 2, .mv (.tmp 17), none, 0⟩]) <|
  .keep [2] <|
  .ret⟩

theorem e_impl_list : EntOK Tryd.prog (compD Tryd.prog) k_impl_list i_impl_list.vf :=
  ⟨Tryd.f135, Tryd.f135.body.getD .skip, Tryd.func135, by kernel_rfl, by kernel_rfl, by kernel_rfl, by kernel_rfl, by kernel_rfl⟩

/-- (loop.example/g01331/impl.Graph).take -/
def i_impl_Graph_take : FF := ⟨24, [],
  .seq (.ops [
    ⟨some 3, .box 2 (.tmp 0), none, 0⟩]) <|
  .seq (.dops [
    ⟨some 6, .fld 1 (.tmp 3), none, 0⟩,
    ⟨some 7, .load false 1 (.tmp 6), none, 0⟩,
    ⟨some 8, .mv (.tmp 1), none, 0⟩,
    ⟨some 9, .idx 1 (.tmp 7) (.tmp 8), none, 0⟩,
    ⟨some 10, .load false 1 (.tmp 9), none, 0⟩,
    ⟨some 11, .mv (.tmp 2), none, 0⟩,
    ⟨some 12, .bin .shl (.const (.int .i64 1)) (.tmp 11), none, 0⟩,
    ⟨some 13, .bin .andNot (.tmp 10) (.tmp 12), none, 0⟩,
    ⟨some 14, .idx 1 (.tmp 7) (.tmp 8), none, 0⟩,
    ⟨none, .store 1 (.tmp 14) (.tmp 13), none, 0⟩]) <|
  .dops [
    ⟨some 15, .fld 1 (.tmp 3), none, 0⟩,
    ⟨some 16, .load false 1 (.tmp 15), none, 0⟩,
    ⟨some 17, .mv (.tmp 2), none, 0⟩,
    ⟨some 18, .idx 1 (.tmp 16) (.tmp 17), none, 0⟩,
    ⟨some 19, .load false 1 (.tmp 18), none, 0⟩,
    ⟨some 20, .mv (.tmp 1), none, 0⟩,
    ⟨some 21, .bin .shl (.const (.int .i64 1)) (.tmp 20), none, 0⟩,
    ⟨some 22, .bin .andNot (.tmp 19) (.tmp 21), none, 0⟩,
    ⟨some 23, .idx 1 (.tmp 16) (.tmp 17), none, 0⟩,
    ⟨none, .store 1 (.tmp 23) (.tmp 22), none, 0⟩]⟩

theorem e_impl_Graph_take : EntOK Tryd.prog (compD Tryd.prog) k_impl_Graph_take i_impl_Graph_take.vf :=
  ⟨Tryd.f136, Tryd.f136.body.getD .skip, Tryd.func136, by kernel_rfl, by kernel_rfl, by kernel_rfl, by kernel_rfl, by kernel_rfl⟩

/-- (loop.example/g01331/impl.Graph).distances -/
def i_impl_Graph_distances_B1 : FC :=
  .seq (.ops [
    ⟨some 28, .bin .lss (.tmp 27) (.tmp 26), none, 0⟩]) <|
  .seq (.cond (.tmp 28)
    (.skip)
    (.keep [2, 5, 6, 8, 9] <|
    .exit 2)) <|
  .seq (.block 3 <|
  .seq (.ops [
    ⟨some 29, .idx 1 (.tmp 25) (.tmp 27), none, 0⟩,
    ⟨some 30, .load false 1 (.tmp 29), none, 0⟩,
    ⟨some 11, .mv (.tmp 30), none, 0⟩]) <|
  .seq (.ops [
    ⟨some 31, .mv (.tmp 5), none, 0⟩,
    ⟨some 32, .mv (.tmp 11), none, 0⟩,
    ⟨some 33, .mv (.tmp 8), none, 0⟩,
    ⟨some 34, .idx 1 (.tmp 31) (.tmp 32), none, 0⟩,
    ⟨none, .store 1 (.tmp 34) (.tmp 33), none, 0⟩]) <|
  .ops [
    ⟨some 35, .mv (.tmp 9), none, 0⟩,
    ⟨some 36, .fld 1 (.tmp 2), none, 0⟩,
    ⟨some 37, .load false 1 (.tmp 36), none, 0⟩,
    ⟨some 38, .mv (.tmp 11), none, 0⟩,
    ⟨some 39, .idx 1 (.tmp 37) (.tmp 38), none, 0⟩,
    ⟨some 40, .load false 1 (.tmp 39), none, 0⟩,
    ⟨some 41, .bin .or (.tmp 35) (.tmp 40), none, 0⟩,
    ⟨some 9, .mv (.tmp 41), none, 0⟩]) <|
  .ops [
    ⟨some 42, .bin .add (.tmp 27) (.const (.int .i64 1)), none, 0⟩,
    ⟨some 27, .mv (.tmp 42), none, 0⟩]
def i_impl_Graph_distances_B2 : FC :=
  .seq (.seq (.ops [
    ⟨some 20, .mv (.tmp 7), none, 0⟩,
    ⟨some 21, .bin .neq (.tmp 20) (.const (.int .i64 0)), none, 0⟩]) <|
  .cond (.tmp 21)
    (.skip)
    (.keep [5] <|
    .exit 0)) <|
  .seq (.block 1 <|
  .seq (.ops [
    ⟨some 9, .mv (.const (.int .i64 0)), none, 0⟩]) <|
  .seq (.seq (.ops [
    ⟨some 24, .mv (.tmp 7), none, 0⟩,
    ⟨some 25, .call k_impl_list [(.tmp 24)], none, 0⟩,
    ⟨some 26, .len (.tmp 25), none, 0⟩,
    ⟨some 27, .mv (.const (.int .i64 0)), none, 0⟩]) <|
  .block 2 <|
  .loop [2, 5, 6, 8, 9, 25, 26, 27] i_impl_Graph_distances_B1) <|
  .seq (.ops [
    ⟨some 43, .mv (.tmp 9), none, 0⟩,
    ⟨some 44, .mv (.tmp 6), none, 0⟩,
    ⟨some 45, .bin .andNot (.tmp 43) (.tmp 44), none, 0⟩,
    ⟨some 7, .mv (.tmp 45), none, 0⟩]) <|
  .ops [
    ⟨some 46, .mv (.tmp 6), none, 0⟩,
    ⟨some 47, .mv (.tmp 9), none, 0⟩,
    ⟨some 48, .bin .or (.tmp 46) (.tmp 47), none, 0⟩,
    ⟨some 6, .mv (.tmp 48), none, 0⟩]) <|
  .ops [
    ⟨some 22, .mv (.tmp 8), none, 0⟩,
    ⟨some 23, .bin .add (.tmp 22) (.const (.int .i64 1)), none, 0⟩,
    ⟨some 8, .mv (.tmp 23), none, 0⟩]
def i_impl_Graph_distances : FF := ⟨50, [.tmp 4],
  .seq (.ops [
    ⟨some 2, .box 2 (.tmp 0), none, 0⟩,
    ⟨some 4, .mv (.const (.slice none 0 0)), none, 0⟩]) <|
  .seq (.ops [
    ⟨some 12, .buildSl 1 [.int .i64 0] [(0, 1, (.const (.int .i64 (-1))))] 1, none, 0⟩,
    ⟨some 13, .fld 0 (.tmp 2), none, 0⟩,
    ⟨some 14, .load false 1 (.tmp 13), none, 0⟩,
    ⟨some 15, .call k_slices_Repeat_int64_int64 [(.tmp 12), (.tmp 14)], none, 0⟩,
    ⟨some 5, .mv (.tmp 15), none, 0⟩]) <|
  .seq (.dops [
    ⟨some 16, .mv (.tmp 1), none, 0⟩,
    ⟨some 17, .bin .shl (.const (.int .i64 1)) (.tmp 16), none, 0⟩,
    ⟨some 18, .mv (.tmp 1), none, 0⟩,
    ⟨some 19, .bin .shl (.const (.int .i64 1)) (.tmp 18), none, 0⟩,
    ⟨some 6, .mv (.tmp 17), none, 0⟩,
    ⟨some 7, .mv (.tmp 19), none, 0⟩]) <|
  .seq (.seq (.ops [
    ⟨some 8, .mv (.const (.int .i64 0)), none, 0⟩]) <|
  .block 0 <|
  .loop [2, 5, 6, 7, 8] i_impl_Graph_distances_B2) <|
  .seq (.ops [
    ⟨some 49, .mv (.tmp 5), none, 0⟩,
    ⟨some 4, .mv (.tmp 49), none, 0⟩]) <|
  .keep [4] <|
  .ret⟩

theorem e_impl_Graph_distances : EntOK Tryd.prog (compD Tryd.prog) k_impl_Graph_distances i_impl_Graph_distances.vf :=
  ⟨Tryd.f137, Tryd.f137.body.getD .skip, Tryd.func137, by kernel_rfl, by kernel_rfl, by kernel_rfl, by kernel_rfl, by kernel_rfl⟩

/-- (loop.example/g01331/impl.Graph).walks -/
def i_impl_Graph_walks_B1 : FC :=
  .seq (.ops [
    ⟨some 37, .bin .lss (.tmp 36) (.tmp 35), none, 0⟩]) <|
  .seq (.cond (.tmp 37)
    (.skip)
    (.keep [3, 7, 8, 18, 19, 25, 26] <|
    .exit 4)) <|
  .seq (.block 5 <|
  .seq (.ops [
    ⟨some 38, .idx 1 (.tmp 34) (.tmp 36), none, 0⟩,
    ⟨some 39, .load false 1 (.tmp 38), none, 0⟩,
    ⟨some 11, .mv (.tmp 39), none, 0⟩]) <|
  .dops [
    ⟨some 40, .mv (.tmp 8), none, 0⟩,
    ⟨some 41, .mv (.tmp 11), none, 0⟩,
    ⟨some 42, .idx 1 (.tmp 40) (.tmp 41), none, 0⟩,
    ⟨some 43, .load false 1 (.tmp 42), none, 0⟩,
    ⟨some 44, .mv (.tmp 7), none, 0⟩,
    ⟨some 45, .mv (.tmp 9), none, 0⟩,
    ⟨some 46, .idx 1 (.tmp 44) (.tmp 45), none, 0⟩,
    ⟨some 47, .load false 1 (.tmp 46), none, 0⟩,
    ⟨some 48, .bin .add (.tmp 43) (.tmp 47), none, 0⟩,
    ⟨some 49, .idx 1 (.tmp 40) (.tmp 41), none, 0⟩,
    ⟨none, .store 1 (.tmp 49) (.tmp 48), none, 0⟩]) <|
  .ops [
    ⟨some 50, .bin .add (.tmp 36) (.const (.int .i64 1)), none, 0⟩,
    ⟨some 36, .mv (.tmp 50), none, 0⟩]
def i_impl_Graph_walks_B2 : FC :=
  .seq (.ops [
    ⟨some 27, .bin .lss (.tmp 26) (.tmp 25), none, 0⟩]) <|
  .seq (.cond (.tmp 27)
    (.skip)
    (.keep [3, 8, 18, 19] <|
    .exit 2)) <|
  .seq (.block 3 <|
  .seq (.ops [
    ⟨some 28, .mv (.tmp 26), none, 0⟩,
    ⟨some 9, .mv (.tmp 28), none, 0⟩]) <|
  .seq (.ops [
    ⟨some 29, .fld 1 (.tmp 3), none, 0⟩,
    ⟨some 30, .load false 1 (.tmp 29), none, 0⟩,
    ⟨some 31, .mv (.tmp 9), none, 0⟩,
    ⟨some 32, .idx 1 (.tmp 30) (.tmp 31), none, 0⟩,
    ⟨some 33, .load false 1 (.tmp 32), none, 0⟩,
    ⟨some 34, .call k_impl_list [(.tmp 33)], none, 0⟩,
    ⟨some 35, .len (.tmp 34), none, 0⟩,
    ⟨some 36, .mv (.const (.int .i64 0)), none, 0⟩]) <|
  .block 4 <|
  .loop [3, 7, 8, 9, 18, 19, 25, 26, 34, 35, 36] i_impl_Graph_walks_B1) <|
  .ops [
    ⟨some 51, .bin .add (.tmp 26) (.const (.int .i64 1)), none, 0⟩,
    ⟨some 26, .mv (.tmp 51), none, 0⟩]
def i_impl_Graph_walks_B3 : FC :=
  .seq (.ops [
    ⟨some 20, .bin .lss (.tmp 19) (.tmp 18), none, 0⟩]) <|
  .seq (.cond (.tmp 20)
    (.skip)
    (.keep [7] <|
    .exit 0)) <|
  .seq (.block 1 <|
  .seq (.ops [
    ⟨some 21, .fld 0 (.tmp 3), none, 0⟩,
    ⟨some 22, .load false 1 (.tmp 21), none, 0⟩,
    ⟨some 23, .mkSl 1 [.int .i64 0] 8 (.tmp 22) (.tmp 22), none, 0⟩,
    ⟨some 8, .mv (.tmp 23), none, 0⟩]) <|
  .seq (.seq (.ops [
    ⟨some 24, .fld 0 (.tmp 3), none, 0⟩,
    ⟨some 25, .load false 1 (.tmp 24), none, 0⟩,
    ⟨some 26, .mv (.const (.int .i64 0)), none, 0⟩]) <|
  .block 2 <|
  .loop [3, 7, 8, 18, 19, 25, 26] i_impl_Graph_walks_B2) <|
  .ops [
    ⟨some 52, .mv (.tmp 8), none, 0⟩,
    ⟨some 7, .mv (.tmp 52), none, 0⟩]) <|
  .ops [
    ⟨some 53, .bin .add (.tmp 19) (.const (.int .i64 1)), none, 0⟩,
    ⟨some 19, .mv (.tmp 53), none, 0⟩]
def i_impl_Graph_walks : FF := ⟨55, [.tmp 6],
  .seq (.ops [
    ⟨some 3, .box 2 (.tmp 0), none, 0⟩,
    ⟨some 6, .mv (.const (.slice none 0 0)), none, 0⟩]) <|
  .seq (.ops [
    ⟨some 12, .fld 0 (.tmp 3), none, 0⟩,
    ⟨some 13, .load false 1 (.tmp 12), none, 0⟩,
    ⟨some 14, .mkSl 1 [.int .i64 0] 8 (.tmp 13) (.tmp 13), none, 0⟩,
    ⟨some 7, .mv (.tmp 14), none, 0⟩]) <|
  .seq (.ops [
    ⟨some 15, .mv (.tmp 7), none, 0⟩,
    ⟨some 16, .mv (.tmp 1), none, 0⟩,
    ⟨some 17, .idx 1 (.tmp 15) (.tmp 16), none, 0⟩,
    ⟨none, .store 1 (.tmp 17) (.const (.int .i64 1)), none, 0⟩]) <|
  .seq (.seq (.ops [
    ⟨some 18, .mv (.tmp 2), none, 0⟩,
    ⟨some 19, .mv (.const (.int .i64 0)), none, 0⟩]) <|
  .block 0 <|
  .loop [3, 7, 18, 19] i_impl_Graph_walks_B3) <|
  .seq (.ops [
    ⟨some 54, .mv (.tmp 7), none, 0⟩,
    ⟨some 6, .mv (.tmp 54), none, 0⟩]) <|
  .keep [6] <|
  .ret⟩

theorem e_impl_Graph_walks : EntOK Tryd.prog (compD Tryd.prog) k_impl_Graph_walks i_impl_Graph_walks.vf :=
  ⟨Tryd.f138, Tryd.f138.body.getD .skip, Tryd.func138, by kernel_rfl, by kernel_rfl, by kernel_rfl, by kernel_rfl, by kernel_rfl⟩

/-- loop.example/g01331/spec.l01Has -/
def i_spec_l01Has : FF := ⟨17, [.tmp 6],
  .seq (.ops [
    ⟨some 3, .box 2 (.tmp 0), none, 0⟩,
    ⟨some 6, .mv (.const (.bool false)), none, 0⟩]) <|
  .seq (.ops [
    ⟨some 7, .fld 1 (.tmp 3), none, 0⟩,
    ⟨some 8, .load false 1 (.tmp 7), none, 0⟩,
    ⟨some 9, .mv (.tmp 1), none, 0⟩,
    ⟨some 10, .idx 1 (.tmp 8) (.tmp 9), none, 0⟩,
    ⟨some 11, .load false 1 (.tmp 10), none, 0⟩,
    ⟨some 12, .mv (.tmp 2), none, 0⟩,
    ⟨some 13, .conv .u64 (.tmp 12), none, 0⟩,
    ⟨some 14, .bin .shr (.tmp 11) (.tmp 13), none, 0⟩,
    ⟨some 15, .bin .and (.tmp 14) (.const (.int .i64 1)), none, 0⟩,
    ⟨some 16, .bin .eql (.tmp 15) (.const (.int .i64 1)), none, 0⟩,
    ⟨some 6, .mv (.tmp 16), none, 0⟩]) <|
  .keep [6] <|
  .ret⟩

theorem e_spec_l01Has : EntOK Tryd.prog (compD Tryd.prog) k_spec_l01Has i_spec_l01Has.vf :=
  ⟨Tryd.f139, Tryd.f139.body.getD .skip, Tryd.func139, by kernel_rfl, by kernel_rfl, by kernel_rfl, by kernel_rfl, by kernel_rfl⟩

/-- loop.example/g01331/spec.l02From -/
def i_spec_l02From_B1 : FC :=
  .seq (.seq (.ops [
    ⟨some 16, .mv (.tmp 10), none, 0⟩,
    ⟨some 17, .fld 0 (.tmp 4), none, 0⟩,
    ⟨some 18, .load false 1 (.tmp 17), none, 0⟩,
    ⟨some 19, .bin .lss (.tmp 16) (.tmp 18), none, 0⟩]) <|
  .cond (.tmp 19)
    (.skip)
    (.keep [1, 2, 3, 4, 9] <|
    .exit 0)) <|
  .seq (.block 1 <|
  .ops [
    ⟨some 22, .mv (.tmp 9), none, 0⟩,
    ⟨some 23, .buildSl 1 [.int .i64 0] [(0, 1, (.const (.int .i64 (-1))))] 1, none, 0⟩,
    ⟨some 24, .app 1 8 [.int .i64 0] (.tmp 22) (.tmp 23), none, 0⟩,
    ⟨some 9, .mv (.tmp 24), none, 0⟩]) <|
  .ops [
    ⟨some 20, .mv (.tmp 10), none, 0⟩,
    ⟨some 21, .bin .add (.tmp 20) (.const (.int .i64 1)), none, 0⟩,
    ⟨some 10, .mv (.tmp 21), none, 0⟩]
def i_spec_l02From_B2 : FC :=
  .seq (.seq (.ops [
    ⟨some 40, .mv (.tmp 14), none, 0⟩,
    ⟨some 41, .fld 0 (.tmp 4), none, 0⟩,
    ⟨some 42, .load false 1 (.tmp 41), none, 0⟩,
    ⟨some 43, .bin .lss (.tmp 40) (.tmp 42), none, 0⟩]) <|
  .cond (.tmp 43)
    (.skip)
    (.keep [2, 3, 4, 9, 11, 12] <|
    .exit 4)) <|
  .seq (.block 5 <|
  .seq (.seq (.ops [
    ⟨some 46, .fld 1 (.tmp 4), none, 0⟩,
    ⟨some 47, .load false 1 (.tmp 46), none, 0⟩,
    ⟨some 48, .mv (.tmp 13), none, 0⟩,
    ⟨some 49, .idx 1 (.tmp 47) (.tmp 48), none, 0⟩,
    ⟨some 50, .load false 1 (.tmp 49), none, 0⟩,
    ⟨some 51, .mv (.tmp 14), none, 0⟩,
    ⟨some 52, .conv .u64 (.tmp 51), none, 0⟩,
    ⟨some 53, .bin .shr (.tmp 50) (.tmp 52), none, 0⟩,
    ⟨some 54, .bin .and (.tmp 53) (.const (.int .i64 1)), none, 0⟩,
    ⟨some 55, .bin .eql (.tmp 54) (.const (.int .i64 0)), none, 0⟩,
    ⟨some 56, .mv (.tmp 55), none, 0⟩,
    ⟨some 57, .mv (.tmp 9), some (56, false), 0⟩,
    ⟨some 58, .mv (.tmp 14), some (56, false), 0⟩,
    ⟨some 59, .idx 1 (.tmp 57) (.tmp 58), some (56, false), 0⟩,
    ⟨some 60, .load false 1 (.tmp 59), some (56, false), 0⟩,
    ⟨some 61, .bin .geq (.tmp 60) (.const (.int .i64 0)), some (56, false), 0⟩,
    ⟨some 62, .pick (.tmp 56) (.const (.bool true)) (.tmp 61), none, 0⟩,
    ⟨some 63, .mv (.tmp 62), none, 0⟩,
    ⟨some 64, .mv (.tmp 13), some (63, false), 0⟩,
    ⟨some 65, .mv (.tmp 2), some (63, false), 0⟩,
    ⟨some 66, .bin .eql (.tmp 64) (.tmp 65), some (63, false), 0⟩,
    ⟨some 67, .mv (.tmp 66), some (63, false), 0⟩,
    ⟨some 68, .mv (.tmp 14), some (67, true), 0⟩,
    ⟨some 69, .mv (.tmp 3), some (67, true), 0⟩,
    ⟨some 70, .bin .eql (.tmp 68) (.tmp 69), some (67, true), 0⟩,
    ⟨some 71, .pick (.tmp 67) (.tmp 70) (.const (.bool false)), some (63, false), 0⟩,
    ⟨some 72, .pick (.tmp 63) (.const (.bool true)) (.tmp 71), none, 0⟩,
    ⟨some 73, .mv (.tmp 72), none, 0⟩,
    ⟨some 74, .mv (.tmp 13), some (73, false), 0⟩,
    ⟨some 75, .mv (.tmp 3), some (73, false), 0⟩,
    ⟨some 76, .bin .eql (.tmp 74) (.tmp 75), some (73, false), 0⟩,
    ⟨some 77, .mv (.tmp 76), some (73, false), 0⟩,
    ⟨some 78, .mv (.tmp 14), some (77, true), 0⟩,
    ⟨some 79, .mv (.tmp 2), some (77, true), 0⟩,
    ⟨some 80, .bin .eql (.tmp 78) (.tmp 79), some (77, true), 0⟩,
    ⟨some 81, .pick (.tmp 77) (.tmp 80) (.const (.bool false)), some (73, false), 0⟩,
    ⟨some 82, .pick (.tmp 73) (.const (.bool true)) (.tmp 81), none, 0⟩]) <|
  .cond (.tmp 82)
    (.keep [2, 3, 4, 9, 11, 12, 13, 14] <|
    .exit 5)
    (.skip)) <|
  .seq (.ops [
    ⟨some 83, .mv (.tmp 9), none, 0⟩,
    ⟨some 84, .mv (.tmp 14), none, 0⟩,
    ⟨some 85, .mv (.tmp 9), none, 0⟩,
    ⟨some 86, .mv (.tmp 13), none, 0⟩,
    ⟨some 87, .idx 1 (.tmp 85) (.tmp 86), none, 0⟩,
    ⟨some 88, .load false 1 (.tmp 87), none, 0⟩,
    ⟨some 89, .bin .add (.tmp 88) (.const (.int .i64 1)), none, 0⟩,
    ⟨some 90, .idx 1 (.tmp 83) (.tmp 84), none, 0⟩,
    ⟨none, .store 1 (.tmp 90) (.tmp 89), none, 0⟩]) <|
  .ops [
    ⟨some 91, .mv (.tmp 11), none, 0⟩,
    ⟨some 92, .mv (.tmp 14), none, 0⟩,
    ⟨some 93, .buildSl 1 [.int .i64 0] [(0, 1, (.tmp 92))] 1, none, 0⟩,
    ⟨some 94, .app 1 8 [.int .i64 0] (.tmp 91) (.tmp 93), none, 0⟩,
    ⟨some 11, .mv (.tmp 94), none, 0⟩]) <|
  .ops [
    ⟨some 44, .mv (.tmp 14), none, 0⟩,
    ⟨some 45, .bin .add (.tmp 44) (.const (.int .i64 1)), none, 0⟩,
    ⟨some 14, .mv (.tmp 45), none, 0⟩]
def i_spec_l02From_B3 : FC :=
  .seq (.seq (.ops [
    ⟨some 30, .mv (.tmp 12), none, 0⟩,
    ⟨some 31, .mv (.tmp 11), none, 0⟩,
    ⟨some 32, .len (.tmp 31), none, 0⟩,
    ⟨some 33, .bin .lss (.tmp 30) (.tmp 32), none, 0⟩]) <|
  .cond (.tmp 33)
    (.skip)
    (.keep [9] <|
    .exit 2)) <|
  .seq (.block 3 <|
  .seq (.ops [
    ⟨some 36, .mv (.tmp 11), none, 0⟩,
    ⟨some 37, .mv (.tmp 12), none, 0⟩,
    ⟨some 38, .idx 1 (.tmp 36) (.tmp 37), none, 0⟩,
    ⟨some 39, .load false 1 (.tmp 38), none, 0⟩,
    ⟨some 13, .mv (.tmp 39), none, 0⟩]) <|
  .seq (.ops [
    ⟨some 14, .mv (.const (.int .i64 0)), none, 0⟩]) <|
  .block 4 <|
  .loop [2, 3, 4, 9, 11, 12, 13, 14] i_spec_l02From_B2) <|
  .ops [
    ⟨some 34, .mv (.tmp 12), none, 0⟩,
    ⟨some 35, .bin .add (.tmp 34) (.const (.int .i64 1)), none, 0⟩,
    ⟨some 12, .mv (.tmp 35), none, 0⟩]
def i_spec_l02From : FF := ⟨96, [.tmp 8],
  .seq (.ops [
    ⟨some 4, .box 2 (.tmp 0), none, 0⟩,
    ⟨some 8, .mv (.const (.slice none 0 0)), none, 0⟩]) <|
  .seq (.ops [
    ⟨some 15, .buildSl 1 [] [] 0, none, 0⟩,
    ⟨some 9, .mv (.tmp 15), none, 0⟩]) <|
  .seq (.seq (.ops [
    ⟨some 10, .mv (.const (.int .i64 0)), none, 0⟩]) <|
  .block 0 <|
  .loop [1, 2, 3, 4, 9, 10] i_spec_l02From_B1) <|
  .seq (.ops [
    ⟨some 25, .mv (.tmp 9), none, 0⟩,
    ⟨some 26, .mv (.tmp 1), none, 0⟩,
    ⟨some 27, .idx 1 (.tmp 25) (.tmp 26), none, 0⟩,
    ⟨none, .store 1 (.tmp 27) (.const (.int .i64 0)), none, 0⟩]) <|
  .seq (.ops [
    ⟨some 28, .mv (.tmp 1), none, 0⟩,
    ⟨some 29, .buildSl 1 [.int .i64 0] [(0, 1, (.tmp 28))] 1, none, 0⟩,
    ⟨some 11, .mv (.tmp 29), none, 0⟩]) <|
  .seq (.seq (.ops [
    ⟨some 12, .mv (.const (.int .i64 0)), none, 0⟩]) <|
  .block 2 <|
  .loop [2, 3, 4, 9, 11, 12] i_spec_l02From_B3) <|
  .seq (.ops [
    ⟨some 95, .mv (.tmp 9), none, 0⟩,
    ⟨some 8, .mv (.tmp 95), none, 0⟩]) <|
  .keep [8] <|
  .ret⟩

theorem e_spec_l02From : EntOK Tryd.prog (compD Tryd.prog) k_spec_l02From i_spec_l02From.vf :=
  ⟨Tryd.f140, Tryd.f140.body.getD .skip, Tryd.func140, by kernel_rfl, by kernel_rfl, by kernel_rfl, by kernel_rfl, by kernel_rfl⟩

/-- loop.example/g01331/spec.l01Draw -/
def i_spec_l01Draw : FF := ⟨21, [.cell 2 true 2],
  .seq (.ops [
    ⟨some 2, .alloc [.int .i64 0, .slice none 0 0], none, 0⟩]) <|
  .seq (.seq (.ops [
    ⟨some 3, .mv (.tmp 0), none, 0⟩,
    ⟨some 4, .call k_spec_l01Next [(.tmp 3), (.const (.int .i64 4))], none, 0⟩]) <|
  .block 0 <|
  .seq (.ops [
    ⟨some 6, .bin .eql (.tmp 4) (.const (.int .i64 0)), none, 0⟩,
    ⟨some 5, .mv (.tmp 6), none, 0⟩]) <|
  .cond (.tmp 5)
    (.seq (.ops [
      ⟨some 7, .mv (.tmp 0), none, 0⟩,
      ⟨some 8, .call k_spec_l01DrawRegular [(.tmp 7)], none, 0⟩,
      ⟨none, .store 2 (.tmp 2) (.tmp 8), none, 0⟩]) <|
    .keep [2] <|
    .ret)
    (.seq (.ops [
      ⟨some 10, .bin .eql (.tmp 4) (.const (.int .i64 1)), none, 0⟩,
      ⟨some 9, .mv (.tmp 10), none, 0⟩]) <|
    .cond (.tmp 9)
      (.seq (.ops [
        ⟨some 11, .mv (.tmp 0), none, 0⟩,
        ⟨some 12, .mv (.tmp 0), none, 0⟩,
        ⟨some 13, .buildSl 1 [.int .i64 0, .int .i64 0, .int .i64 0, .int .i64 0, .int .i64 0, .int .i64 0] [(0, 1, (.const (.int .i64 1))), (1, 1, (.const (.int .i64 10))), (2, 1, (.const (.int .i64 20))), (3, 1, (.const (.int .i64 40))), (4, 1, (.const (.int .i64 61))), (5, 1, (.const (.int .i64 62)))] 6, none, 0⟩,
        ⟨some 14, .call k_spec_l01Pick [(.tmp 12), (.tmp 13)], none, 0⟩,
        ⟨some 15, .call k_spec_l01DrawOf [(.tmp 11), (.tmp 14)], none, 0⟩,
        ⟨none, .store 2 (.tmp 2) (.tmp 15), none, 0⟩]) <|
      .keep [2] <|
      .ret)
      (.skip))) <|
  .seq (.ops [
    ⟨some 16, .mv (.tmp 0), none, 0⟩,
    ⟨some 17, .mv (.tmp 0), none, 0⟩,
    ⟨some 18, .call k_spec_l01Next [(.tmp 17), (.const (.int .i64 14))], none, 0⟩,
    ⟨some 19, .bin .add (.const (.int .i64 1)) (.tmp 18), none, 0⟩,
    ⟨some 20, .call k_spec_l01DrawOf [(.tmp 16), (.tmp 19)], none, 0⟩,
    ⟨none, .store 2 (.tmp 2) (.tmp 20), none, 0⟩]) <|
  .keep [2] <|
  .ret⟩

theorem e_spec_l01Draw : EntOK Tryd.prog (compD Tryd.prog) k_spec_l01Draw i_spec_l01Draw.vf :=
  ⟨Tryd.f144, Tryd.f144.body.getD .skip, Tryd.func144, by kernel_rfl, by kernel_rfl, by kernel_rfl, by kernel_rfl, by kernel_rfl⟩

/-- slices.Clone[[]int64,int64] -/
def i_slices_Clone_int64_int64 : FF := ⟨8, [.tmp 2],
  .seq (.ops [
    ⟨some 2, .mv (.const (.slice none 0 0)), none, 0⟩]) <|
  .seq (.seq (.ops [
    ⟨some 3, .mv (.tmp 0), none, 0⟩,
    ⟨some 4, .eqnilS false (.tmp 3), none, 0⟩]) <|
  .cond (.tmp 4)
    (.seq (.ops [
      ⟨some 2, .mv (.const (.slice none 0 0)), none, 0⟩]) <|
    .keep [2] <|
    .ret)
    (.skip)) <|
  .seq (.ops [
    ⟨some 5, .buildSl 1 [] [] 0, none, 0⟩,
    ⟨some 6, .mv (.tmp 0), none, 0⟩,
    ⟨some 7, .app 1 8 [.int .i64 0] (.tmp 5) (.tmp 6), none, 0⟩,
    ⟨some 2, .mv (.tmp 7), none, 0⟩]) <|
  .keep [2] <|
  .ret⟩

theorem e_slices_Clone_int64_int64 : EntOK Tryd.prog (compD Tryd.prog) k_slices_Clone_int64_int64 i_slices_Clone_int64_int64.vf :=
  ⟨Tryd.f146, Tryd.f146.body.getD .skip, Tryd.func146, by kernel_rfl, by kernel_rfl, by kernel_rfl, by kernel_rfl, by kernel_rfl⟩

/-- loop.example/g01331/spec.l01Own -/
def i_spec_l01Own : FF := ⟨6, [.tmp 2],
  .seq (.ops [
    ⟨some 2, .mv (.const (.slice none 0 0)), none, 0⟩]) <|
  .seq (.ops [
    ⟨some 3, .buildSl 1 [] [] 0, none, 0⟩,
    ⟨some 4, .mv (.tmp 0), none, 0⟩,
    ⟨some 5, .app 1 8 [.int .i64 0] (.tmp 3) (.tmp 4), none, 0⟩,
    ⟨some 2, .mv (.tmp 5), none, 0⟩]) <|
  .keep [2] <|
  .ret⟩

theorem e_spec_l01Own : EntOK Tryd.prog (compD Tryd.prog) k_spec_l01Own i_spec_l01Own.vf :=
  ⟨Tryd.f158, Tryd.f158.body.getD .skip, Tryd.func158, by kernel_rfl, by kernel_rfl, by kernel_rfl, by kernel_rfl, by kernel_rfl⟩

/-- loop.example/g01331/spec.l01Names -/
def i_spec_l01Names : FF := ⟨2, [.tmp 0],
  .seq (.ops [
    ⟨some 0, .mv (.const (.slice none 0 0)), none, 0⟩]) <|
  .seq (.ops [
    ⟨some 1, .buildSl 1 [.string ⟨#[]⟩, .string ⟨#[]⟩, .string ⟨#[]⟩, .string ⟨#[]⟩, .string ⟨#[]⟩, .string ⟨#[]⟩, .string ⟨#[]⟩, .string ⟨#[]⟩, .string ⟨#[]⟩, .string ⟨#[]⟩, .string ⟨#[]⟩, .string ⟨#[]⟩, .string ⟨#[]⟩, .string ⟨#[]⟩, .string ⟨#[]⟩] [(0, 1, (.const (.string ⟨#[107, 52]⟩))), (1, 1, (.const (.string ⟨#[107, 53]⟩))), (2, 1, (.const (.string ⟨#[107, 51, 51]⟩))), (3, 1, (.const (.string ⟨#[99, 117, 98, 101]⟩))), (4, 1, (.const (.string ⟨#[112, 101, 116, 101, 114, 115, 101, 110]⟩))), (5, 1, (.const (.string ⟨#[104, 101, 97, 119, 111, 111, 100]⟩))), (6, 1, (.const (.string ⟨#[105, 99, 111, 115, 97, 104, 101, 100, 114, 111, 110]⟩))), (7, 1, (.const (.string ⟨#[99, 108, 101, 98, 115, 99, 104]⟩))), (8, 1, (.const (.string ⟨#[109, 111, 101, 98, 105, 117, 115, 107, 97, 110, 116, 111, 114]⟩))), (9, 1, (.const (.string ⟨#[112, 97, 112, 112, 117, 115]⟩))), (10, 1, (.const (.string ⟨#[100, 101, 115, 97, 114, 103, 117, 101, 115]⟩))), (11, 1, (.const (.string ⟨#[100, 111, 100, 101, 99, 97, 104, 101, 100, 114, 111, 110]⟩))), (12, 1, (.const (.string ⟨#[109, 99, 103, 101, 101]⟩))), (13, 1, (.const (.string ⟨#[116, 117, 116, 116, 101, 99, 111, 120, 101, 116, 101, 114]⟩))), (14, 1, (.const (.string ⟨#[104, 111, 102, 102, 109, 97, 110, 115, 105, 110, 103, 108, 101, 116, 111, 110]⟩)))] 15, none, 0⟩,
    ⟨some 0, .mv (.tmp 1), none, 0⟩]) <|
  .keep [0] <|
  .ret⟩

theorem e_spec_l01Names : EntOK Tryd.prog (compD Tryd.prog) k_spec_l01Names i_spec_l01Names.vf :=
  ⟨Tryd.f162, Tryd.f162.body.getD .skip, Tryd.func162, by kernel_rfl, by kernel_rfl, by kernel_rfl, by kernel_rfl, by kernel_rfl⟩

/-- loop.example/g01331/spec.l01Named -/
def i_spec_l01Named_B1 : FC :=
  .seq (.seq (.ops [
    ⟨some 46, .mv (.tmp 7), none, 0⟩,
    ⟨some 47, .mv (.tmp 4), none, 0⟩,
    ⟨some 48, .bin .lss (.tmp 46) (.tmp 47), none, 0⟩]) <|
  .cond (.tmp 48)
    (.skip)
    (.keep [2, 4, 5, 6] <|
    .exit 3)) <|
  .seq (.block 4 <|
  .ops [
    ⟨some 51, .load true 2 (.tmp 5), none, 0⟩,
    ⟨some 52, .mv (.tmp 6), none, 0⟩,
    ⟨some 53, .mv (.tmp 6), none, 0⟩,
    ⟨some 54, .mv (.tmp 7), none, 0⟩,
    ⟨some 55, .bin .xor (.tmp 53) (.tmp 54), none, 0⟩,
    ⟨some 56, .call k_spec_l01Put [(.tmp 51), (.tmp 52), (.tmp 55)], none, 0⟩]) <|
  .ops [
    ⟨some 49, .mv (.tmp 7), none, 0⟩,
    ⟨some 50, .bin .mul (.const (.int .i64 2)) (.tmp 49), none, 0⟩,
    ⟨some 7, .mv (.tmp 50), none, 0⟩]
def i_spec_l01Named_B2 : FC :=
  .seq (.seq (.ops [
    ⟨some 41, .mv (.tmp 6), none, 0⟩,
    ⟨some 42, .mv (.tmp 4), none, 0⟩,
    ⟨some 43, .bin .lss (.tmp 41) (.tmp 42), none, 0⟩]) <|
  .cond (.tmp 43)
    (.skip)
    (.keep [2, 5] <|
    .exit 1)) <|
  .seq (.block 2 <|
  .seq (.seq (.ops [
    ⟨some 7, .mv (.const (.int .i64 1)), none, 0⟩]) <|
  .block 3 <|
  .loop [2, 4, 5, 6, 7] i_spec_l01Named_B1) <|
  .seq (.ops [
    ⟨some 57, .mv (.tmp 4), none, 0⟩,
    ⟨some 58, .bin .eql (.tmp 57) (.const (.int .i64 16)), none, 0⟩]) <|
  .cond (.tmp 58)
    (.ops [
      ⟨some 59, .load true 2 (.tmp 5), none, 0⟩,
      ⟨some 60, .mv (.tmp 6), none, 0⟩,
      ⟨some 61, .mv (.tmp 6), none, 0⟩,
      ⟨some 62, .bin .sub (.const (.int .i64 15)) (.tmp 61), none, 0⟩,
      ⟨some 63, .call k_spec_l01Put [(.tmp 59), (.tmp 60), (.tmp 62)], none, 0⟩])
    (.skip)) <|
  .ops [
    ⟨some 44, .mv (.tmp 6), none, 0⟩,
    ⟨some 45, .bin .add (.tmp 44) (.const (.int .i64 1)), none, 0⟩,
    ⟨some 6, .mv (.tmp 45), none, 0⟩]
def i_spec_l01Named_B3 : FC :=
  .seq (.seq (.ops [
    ⟨some 68, .mv (.tmp 9), none, 0⟩,
    ⟨some 69, .bin .lss (.tmp 68) (.const (.int .i64 5)), none, 0⟩]) <|
  .cond (.tmp 69)
    (.skip)
    (.keep [2, 8] <|
    .exit 5)) <|
  .seq (.block 6 <|
  .seq (.ops [
    ⟨some 72, .load true 2 (.tmp 8), none, 0⟩,
    ⟨some 73, .mv (.tmp 9), none, 0⟩,
    ⟨some 74, .mv (.tmp 9), none, 0⟩,
    ⟨some 75, .bin .add (.tmp 74) (.const (.int .i64 1)), none, 0⟩,
    ⟨some 76, .bin .rem (.tmp 75) (.const (.int .i64 5)), none, 0⟩,
    ⟨some 77, .call k_spec_l01Put [(.tmp 72), (.tmp 73), (.tmp 76)], none, 0⟩]) <|
  .seq (.ops [
    ⟨some 78, .load true 2 (.tmp 8), none, 0⟩,
    ⟨some 79, .mv (.tmp 9), none, 0⟩,
    ⟨some 80, .mv (.tmp 9), none, 0⟩,
    ⟨some 81, .bin .add (.tmp 80) (.const (.int .i64 5)), none, 0⟩,
    ⟨some 82, .call k_spec_l01Put [(.tmp 78), (.tmp 79), (.tmp 81)], none, 0⟩]) <|
  .ops [
    ⟨some 83, .load true 2 (.tmp 8), none, 0⟩,
    ⟨some 84, .mv (.tmp 9), none, 0⟩,
    ⟨some 85, .bin .add (.tmp 84) (.const (.int .i64 5)), none, 0⟩,
    ⟨some 86, .mv (.tmp 9), none, 0⟩,
    ⟨some 87, .bin .add (.tmp 86) (.const (.int .i64 2)), none, 0⟩,
    ⟨some 88, .bin .rem (.tmp 87) (.const (.int .i64 5)), none, 0⟩,
    ⟨some 89, .bin .add (.tmp 88) (.const (.int .i64 5)), none, 0⟩,
    ⟨some 90, .call k_spec_l01Put [(.tmp 83), (.tmp 85), (.tmp 89)], none, 0⟩]) <|
  .ops [
    ⟨some 70, .mv (.tmp 9), none, 0⟩,
    ⟨some 71, .bin .add (.tmp 70) (.const (.int .i64 1)), none, 0⟩,
    ⟨some 9, .mv (.tmp 71), none, 0⟩]
def i_spec_l01Named_B4 : FC :=
  .seq (.seq (.ops [
    ⟨some 95, .mv (.tmp 11), none, 0⟩,
    ⟨some 96, .bin .lss (.tmp 95) (.const (.int .i64 5)), none, 0⟩]) <|
  .cond (.tmp 96)
    (.skip)
    (.keep [2, 10] <|
    .exit 7)) <|
  .seq (.block 8 <|
  .seq (.ops [
    ⟨some 99, .mv (.tmp 11), none, 0⟩,
    ⟨some 100, .bin .add (.tmp 99) (.const (.int .i64 1)), none, 0⟩,
    ⟨some 101, .bin .rem (.tmp 100) (.const (.int .i64 5)), none, 0⟩,
    ⟨some 12, .mv (.tmp 101), none, 0⟩]) <|
  .seq (.ops [
    ⟨some 102, .load true 2 (.tmp 10), none, 0⟩,
    ⟨some 103, .mv (.tmp 11), none, 0⟩,
    ⟨some 104, .bin .add (.const (.int .i64 1)) (.tmp 103), none, 0⟩,
    ⟨some 105, .call k_spec_l01Put [(.tmp 102), (.const (.int .i64 0)), (.tmp 104)], none, 0⟩]) <|
  .seq (.ops [
    ⟨some 106, .load true 2 (.tmp 10), none, 0⟩,
    ⟨some 107, .mv (.tmp 11), none, 0⟩,
    ⟨some 108, .bin .add (.const (.int .i64 6)) (.tmp 107), none, 0⟩,
    ⟨some 109, .call k_spec_l01Put [(.tmp 106), (.const (.int .i64 11)), (.tmp 108)], none, 0⟩]) <|
  .seq (.ops [
    ⟨some 110, .load true 2 (.tmp 10), none, 0⟩,
    ⟨some 111, .mv (.tmp 11), none, 0⟩,
    ⟨some 112, .bin .add (.const (.int .i64 1)) (.tmp 111), none, 0⟩,
    ⟨some 113, .mv (.tmp 12), none, 0⟩,
    ⟨some 114, .bin .add (.const (.int .i64 1)) (.tmp 113), none, 0⟩,
    ⟨some 115, .call k_spec_l01Put [(.tmp 110), (.tmp 112), (.tmp 114)], none, 0⟩]) <|
  .seq (.ops [
    ⟨some 116, .load true 2 (.tmp 10), none, 0⟩,
    ⟨some 117, .mv (.tmp 11), none, 0⟩,
    ⟨some 118, .bin .add (.const (.int .i64 6)) (.tmp 117), none, 0⟩,
    ⟨some 119, .mv (.tmp 12), none, 0⟩,
    ⟨some 120, .bin .add (.const (.int .i64 6)) (.tmp 119), none, 0⟩,
    ⟨some 121, .call k_spec_l01Put [(.tmp 116), (.tmp 118), (.tmp 120)], none, 0⟩]) <|
  .seq (.ops [
    ⟨some 122, .load true 2 (.tmp 10), none, 0⟩,
    ⟨some 123, .mv (.tmp 11), none, 0⟩,
    ⟨some 124, .bin .add (.const (.int .i64 1)) (.tmp 123), none, 0⟩,
    ⟨some 125, .mv (.tmp 11), none, 0⟩,
    ⟨some 126, .bin .add (.const (.int .i64 6)) (.tmp 125), none, 0⟩,
    ⟨some 127, .call k_spec_l01Put [(.tmp 122), (.tmp 124), (.tmp 126)], none, 0⟩]) <|
  .ops [
    ⟨some 128, .load true 2 (.tmp 10), none, 0⟩,
    ⟨some 129, .mv (.tmp 11), none, 0⟩,
    ⟨some 130, .bin .add (.const (.int .i64 1)) (.tmp 129), none, 0⟩,
    ⟨some 131, .mv (.tmp 12), none, 0⟩,
    ⟨some 132, .bin .add (.const (.int .i64 6)) (.tmp 131), none, 0⟩,
    ⟨some 133, .call k_spec_l01Put [(.tmp 128), (.tmp 130), (.tmp 132)], none, 0⟩]) <|
  .ops [
    ⟨some 97, .mv (.tmp 11), none, 0⟩,
    ⟨some 98, .bin .add (.tmp 97) (.const (.int .i64 1)), none, 0⟩,
    ⟨some 11, .mv (.tmp 98), none, 0⟩]
def i_spec_l01Named_B5 : FC :=
  .seq (.seq (.ops [
    ⟨some 172, .mv (.tmp 16), none, 0⟩,
    ⟨some 173, .bin .lss (.tmp 172) (.const (.int .i64 5)), none, 0⟩]) <|
  .cond (.tmp 173)
    (.skip)
    (.keep [2, 13, 14, 15] <|
    .exit 13)) <|
  .seq (.block 14 <|
  .ops [
    ⟨some 176, .load true 2 (.tmp 13), none, 0⟩,
    ⟨some 177, .mv (.tmp 14), none, 0⟩,
    ⟨some 178, .bin .mul (.const (.int .i64 5)) (.tmp 177), none, 0⟩,
    ⟨some 179, .mv (.tmp 15), none, 0⟩,
    ⟨some 180, .bin .add (.tmp 178) (.tmp 179), none, 0⟩,
    ⟨some 181, .mv (.tmp 16), none, 0⟩,
    ⟨some 182, .bin .mul (.const (.int .i64 5)) (.tmp 181), none, 0⟩,
    ⟨some 183, .bin .add (.const (.int .i64 25)) (.tmp 182), none, 0⟩,
    ⟨some 184, .mv (.tmp 14), none, 0⟩,
    ⟨some 185, .mv (.tmp 16), none, 0⟩,
    ⟨some 186, .bin .mul (.tmp 184) (.tmp 185), none, 0⟩,
    ⟨some 187, .mv (.tmp 15), none, 0⟩,
    ⟨some 188, .bin .add (.tmp 186) (.tmp 187), none, 0⟩,
    ⟨some 189, .bin .rem (.tmp 188) (.const (.int .i64 5)), none, 0⟩,
    ⟨some 190, .bin .add (.tmp 183) (.tmp 189), none, 0⟩,
    ⟨some 191, .call k_spec_l01Put [(.tmp 176), (.tmp 180), (.tmp 190)], none, 0⟩]) <|
  .ops [
    ⟨some 174, .mv (.tmp 16), none, 0⟩,
    ⟨some 175, .bin .add (.tmp 174) (.const (.int .i64 1)), none, 0⟩,
    ⟨some 16, .mv (.tmp 175), none, 0⟩]
def i_spec_l01Named_B6 : FC :=
  .seq (.seq (.ops [
    ⟨some 142, .mv (.tmp 15), none, 0⟩,
    ⟨some 143, .bin .lss (.tmp 142) (.const (.int .i64 5)), none, 0⟩]) <|
  .cond (.tmp 143)
    (.skip)
    (.keep [2, 13, 14] <|
    .exit 11)) <|
  .seq (.block 12 <|
  .seq (.ops [
    ⟨some 146, .load true 2 (.tmp 13), none, 0⟩,
    ⟨some 147, .mv (.tmp 14), none, 0⟩,
    ⟨some 148, .bin .mul (.const (.int .i64 5)) (.tmp 147), none, 0⟩,
    ⟨some 149, .mv (.tmp 15), none, 0⟩,
    ⟨some 150, .bin .add (.tmp 148) (.tmp 149), none, 0⟩,
    ⟨some 151, .mv (.tmp 14), none, 0⟩,
    ⟨some 152, .bin .mul (.const (.int .i64 5)) (.tmp 151), none, 0⟩,
    ⟨some 153, .mv (.tmp 15), none, 0⟩,
    ⟨some 154, .bin .add (.tmp 153) (.const (.int .i64 1)), none, 0⟩,
    ⟨some 155, .bin .rem (.tmp 154) (.const (.int .i64 5)), none, 0⟩,
    ⟨some 156, .bin .add (.tmp 152) (.tmp 155), none, 0⟩,
    ⟨some 157, .call k_spec_l01Put [(.tmp 146), (.tmp 150), (.tmp 156)], none, 0⟩]) <|
  .seq (.ops [
    ⟨some 158, .load true 2 (.tmp 13), none, 0⟩,
    ⟨some 159, .mv (.tmp 14), none, 0⟩,
    ⟨some 160, .bin .mul (.const (.int .i64 5)) (.tmp 159), none, 0⟩,
    ⟨some 161, .bin .add (.const (.int .i64 25)) (.tmp 160), none, 0⟩,
    ⟨some 162, .mv (.tmp 15), none, 0⟩,
    ⟨some 163, .bin .add (.tmp 161) (.tmp 162), none, 0⟩,
    ⟨some 164, .mv (.tmp 14), none, 0⟩,
    ⟨some 165, .bin .mul (.const (.int .i64 5)) (.tmp 164), none, 0⟩,
    ⟨some 166, .bin .add (.const (.int .i64 25)) (.tmp 165), none, 0⟩,
    ⟨some 167, .mv (.tmp 15), none, 0⟩,
    ⟨some 168, .bin .add (.tmp 167) (.const (.int .i64 2)), none, 0⟩,
    ⟨some 169, .bin .rem (.tmp 168) (.const (.int .i64 5)), none, 0⟩,
    ⟨some 170, .bin .add (.tmp 166) (.tmp 169), none, 0⟩,
    ⟨some 171, .call k_spec_l01Put [(.tmp 158), (.tmp 163), (.tmp 170)], none, 0⟩]) <|
  .seq (.ops [
    ⟨some 16, .mv (.const (.int .i64 0)), none, 0⟩]) <|
  .block 13 <|
  .loop [2, 13, 14, 15, 16] i_spec_l01Named_B5) <|
  .ops [
    ⟨some 144, .mv (.tmp 15), none, 0⟩,
    ⟨some 145, .bin .add (.tmp 144) (.const (.int .i64 1)), none, 0⟩,
    ⟨some 15, .mv (.tmp 145), none, 0⟩]
def i_spec_l01Named_B7 : FC :=
  .seq (.seq (.ops [
    ⟨some 138, .mv (.tmp 14), none, 0⟩,
    ⟨some 139, .bin .lss (.tmp 138) (.const (.int .i64 5)), none, 0⟩]) <|
  .cond (.tmp 139)
    (.skip)
    (.keep [2, 13] <|
    .exit 9)) <|
  .seq (.block 10 <|
  .seq (.ops [
    ⟨some 15, .mv (.const (.int .i64 0)), none, 0⟩]) <|
  .block 11 <|
  .loop [2, 13, 14, 15] i_spec_l01Named_B6) <|
  .ops [
    ⟨some 140, .mv (.tmp 14), none, 0⟩,
    ⟨some 141, .bin .add (.tmp 140) (.const (.int .i64 1)), none, 0⟩,
    ⟨some 14, .mv (.tmp 141), none, 0⟩]
def i_spec_l01Named : FF := ⟨222, [.cell 2 true 2, .tmp 3],
  .seq (.ops [
    ⟨some 2, .alloc [.int .i64 0, .slice none 0 0], none, 0⟩,
    ⟨some 3, .mv (.const (.bool false)), none, 0⟩]) <|
  .seq (.seq (.ops [
    ⟨some 17, .mv (.tmp 0), none, 0⟩]) <|
  .block 0 <|
  .seq (.ops [
    ⟨some 19, .bin .eql (.tmp 17) (.const (.string ⟨#[107, 52]⟩)), none, 0⟩,
    ⟨some 18, .mv (.tmp 19), none, 0⟩]) <|
  .cond (.tmp 18)
    (.seq (.ops [
      ⟨some 20, .call k_spec_l01Empty [(.const (.int .i64 4))], none, 0⟩,
      ⟨some 21, .call k_spec_l01Complement [(.tmp 20)], none, 0⟩,
      ⟨none, .store 2 (.tmp 2) (.tmp 21), none, 0⟩,
      ⟨some 3, .mv (.const (.bool true)), none, 0⟩]) <|
    .keep [2, 3] <|
    .ret)
    (.seq (.ops [
      ⟨some 23, .bin .eql (.tmp 17) (.const (.string ⟨#[107, 53]⟩)), none, 0⟩,
      ⟨some 22, .mv (.tmp 23), none, 0⟩]) <|
    .cond (.tmp 22)
      (.seq (.ops [
        ⟨some 24, .call k_spec_l01Empty [(.const (.int .i64 5))], none, 0⟩,
        ⟨some 25, .call k_spec_l01Complement [(.tmp 24)], none, 0⟩,
        ⟨none, .store 2 (.tmp 2) (.tmp 25), none, 0⟩,
        ⟨some 3, .mv (.const (.bool true)), none, 0⟩]) <|
      .keep [2, 3] <|
      .ret)
      (.seq (.ops [
        ⟨some 27, .bin .eql (.tmp 17) (.const (.string ⟨#[107, 51, 51]⟩)), none, 0⟩,
        ⟨some 26, .mv (.tmp 27), none, 0⟩]) <|
      .cond (.tmp 26)
        (.seq (.ops [
          ⟨some 28, .call k_spec_l01Empty [(.const (.int .i64 3))], none, 0⟩,
          ⟨some 29, .call k_spec_l01Complement [(.tmp 28)], none, 0⟩,
          ⟨some 30, .call k_spec_l01Empty [(.const (.int .i64 3))], none, 0⟩,
          ⟨some 31, .call k_spec_l01Complement [(.tmp 30)], none, 0⟩,
          ⟨some 32, .call k_spec_l01Beside [(.tmp 29), (.tmp 31)], none, 0⟩,
          ⟨some 33, .call k_spec_l01Complement [(.tmp 32)], none, 0⟩,
          ⟨none, .store 2 (.tmp 2) (.tmp 33), none, 0⟩,
          ⟨some 3, .mv (.const (.bool true)), none, 0⟩]) <|
        .keep [2, 3] <|
        .ret)
        (.seq (.seq (.ops [
          ⟨some 35, .bin .eql (.tmp 17) (.const (.string ⟨#[99, 117, 98, 101]⟩)), none, 0⟩,
          ⟨some 34, .mv (.tmp 35), none, 0⟩]) <|
        .cond (.tmp 34)
          (.skip)
          (.ops [
            ⟨some 36, .bin .eql (.tmp 17) (.const (.string ⟨#[99, 108, 101, 98, 115, 99, 104]⟩)), none, 0⟩,
            ⟨some 34, .mv (.tmp 36), none, 0⟩])) <|
        .cond (.tmp 34)
          (.seq (.ops [
            ⟨some 4, .mv (.const (.int .i64 8)), none, 0⟩]) <|
          .seq (.seq (.ops [
            ⟨some 37, .mv (.tmp 0), none, 0⟩,
            ⟨some 38, .bin .eql (.tmp 37) (.const (.string ⟨#[99, 108, 101, 98, 115, 99, 104]⟩)), none, 0⟩]) <|
          .cond (.tmp 38)
            (.ops [
              ⟨some 4, .mv (.const (.int .i64 16)), none, 0⟩])
            (.skip)) <|
          .seq (.ops [
            ⟨some 39, .mv (.tmp 4), none, 0⟩,
            ⟨some 40, .call k_spec_l01Empty [(.tmp 39)], none, 0⟩,
            ⟨some 5, .alloc [.int .i64 0, .slice none 0 0], none, 0⟩,
            ⟨none, .store 2 (.tmp 5) (.tmp 40), none, 0⟩]) <|
          .seq (.seq (.ops [
            ⟨some 6, .mv (.const (.int .i64 0)), none, 0⟩]) <|
          .block 1 <|
          .loop [2, 4, 5, 6] i_spec_l01Named_B2) <|
          .seq (.ops [
            ⟨some 64, .load true 2 (.tmp 5), none, 0⟩,
            ⟨none, .store 2 (.tmp 2) (.tmp 64), none, 0⟩,
            ⟨some 3, .mv (.const (.bool true)), none, 0⟩]) <|
          .keep [2, 3] <|
          .ret)
          (.seq (.ops [
            ⟨some 66, .bin .eql (.tmp 17) (.const (.string ⟨#[112, 101, 116, 101, 114, 115, 101, 110]⟩)), none, 0⟩,
            ⟨some 65, .mv (.tmp 66), none, 0⟩]) <|
          .cond (.tmp 65)
            (.seq (.ops [
              ⟨some 67, .call k_spec_l01Empty [(.const (.int .i64 10))], none, 0⟩,
              ⟨some 8, .alloc [.int .i64 0, .slice none 0 0], none, 0⟩,
              ⟨none, .store 2 (.tmp 8) (.tmp 67), none, 0⟩]) <|
            .seq (.seq (.ops [
              ⟨some 9, .mv (.const (.int .i64 0)), none, 0⟩]) <|
            .block 5 <|
            .loop [2, 8, 9] i_spec_l01Named_B3) <|
            .seq (.ops [
              ⟨some 91, .load true 2 (.tmp 8), none, 0⟩,
              ⟨none, .store 2 (.tmp 2) (.tmp 91), none, 0⟩,
              ⟨some 3, .mv (.const (.bool true)), none, 0⟩]) <|
            .keep [2, 3] <|
            .ret)
            (.seq (.ops [
              ⟨some 93, .bin .eql (.tmp 17) (.const (.string ⟨#[105, 99, 111, 115, 97, 104, 101, 100, 114, 111, 110]⟩)), none, 0⟩,
              ⟨some 92, .mv (.tmp 93), none, 0⟩]) <|
            .cond (.tmp 92)
              (.seq (.ops [
                ⟨some 94, .call k_spec_l01Empty [(.const (.int .i64 12))], none, 0⟩,
                ⟨some 10, .alloc [.int .i64 0, .slice none 0 0], none, 0⟩,
                ⟨none, .store 2 (.tmp 10) (.tmp 94), none, 0⟩]) <|
              .seq (.seq (.ops [
                ⟨some 11, .mv (.const (.int .i64 0)), none, 0⟩]) <|
              .block 7 <|
              .loop [2, 10, 11] i_spec_l01Named_B4) <|
              .seq (.ops [
                ⟨some 134, .load true 2 (.tmp 10), none, 0⟩,
                ⟨none, .store 2 (.tmp 2) (.tmp 134), none, 0⟩,
                ⟨some 3, .mv (.const (.bool true)), none, 0⟩]) <|
              .keep [2, 3] <|
              .ret)
              (.seq (.ops [
                ⟨some 136, .bin .eql (.tmp 17) (.const (.string ⟨#[104, 111, 102, 102, 109, 97, 110, 115, 105, 110, 103, 108, 101, 116, 111, 110]⟩)), none, 0⟩,
                ⟨some 135, .mv (.tmp 136), none, 0⟩]) <|
              .cond (.tmp 135)
                (.seq (.ops [
                  ⟨some 137, .call k_spec_l01Empty [(.const (.int .i64 50))], none, 0⟩,
                  ⟨some 13, .alloc [.int .i64 0, .slice none 0 0], none, 0⟩,
                  ⟨none, .store 2 (.tmp 13) (.tmp 137), none, 0⟩]) <|
                .seq (.seq (.ops [
                  ⟨some 14, .mv (.const (.int .i64 0)), none, 0⟩]) <|
                .block 9 <|
                .loop [2, 13, 14] i_spec_l01Named_B7) <|
                .seq (.ops [
                  ⟨some 192, .load true 2 (.tmp 13), none, 0⟩,
                  ⟨none, .store 2 (.tmp 2) (.tmp 192), none, 0⟩,
                  ⟨some 3, .mv (.const (.bool true)), none, 0⟩]) <|
                .keep [2, 3] <|
                .ret)
                (.seq (.ops [
                  ⟨some 194, .bin .eql (.tmp 17) (.const (.string ⟨#[104, 101, 97, 119, 111, 111, 100]⟩)), none, 0⟩,
                  ⟨some 193, .mv (.tmp 194), none, 0⟩]) <|
                .cond (.tmp 193)
                  (.seq (.ops [
                    ⟨some 195, .buildSl 1 [.int .i64 0, .int .i64 0] [(0, 1, (.const (.int .i64 5))), (1, 1, (.const (.int .i64 9)))] 2, none, 0⟩,
                    ⟨some 196, .call k_spec_l01Jumps [(.const (.int .i64 14)), (.tmp 195)], none, 0⟩,
                    ⟨none, .store 2 (.tmp 2) (.tmp 196), none, 0⟩,
                    ⟨some 3, .mv (.const (.bool true)), none, 0⟩]) <|
                  .keep [2, 3] <|
                  .ret)
                  (.seq (.ops [
                    ⟨some 198, .bin .eql (.tmp 17) (.const (.string ⟨#[109, 111, 101, 98, 105, 117, 115, 107, 97, 110, 116, 111, 114]⟩)), none, 0⟩,
                    ⟨some 197, .mv (.tmp 198), none, 0⟩]) <|
                  .cond (.tmp 197)
                    (.seq (.ops [
                      ⟨some 199, .buildSl 1 [.int .i64 0, .int .i64 0] [(0, 1, (.const (.int .i64 5))), (1, 1, (.const (.int .i64 11)))] 2, none, 0⟩,
                      ⟨some 200, .call k_spec_l01Jumps [(.const (.int .i64 16)), (.tmp 199)], none, 0⟩,
                      ⟨none, .store 2 (.tmp 2) (.tmp 200), none, 0⟩,
                      ⟨some 3, .mv (.const (.bool true)), none, 0⟩]) <|
                    .keep [2, 3] <|
                    .ret)
                    (.seq (.ops [
                      ⟨some 202, .bin .eql (.tmp 17) (.const (.string ⟨#[112, 97, 112, 112, 117, 115]⟩)), none, 0⟩,
                      ⟨some 201, .mv (.tmp 202), none, 0⟩]) <|
                    .cond (.tmp 201)
                      (.seq (.ops [
                        ⟨some 203, .buildSl 1 [.int .i64 0, .int .i64 0, .int .i64 0, .int .i64 0, .int .i64 0, .int .i64 0] [(0, 1, (.const (.int .i64 5))), (1, 1, (.const (.int .i64 7))), (2, 1, (.const (.int .i64 11))), (3, 1, (.const (.int .i64 7))), (4, 1, (.const (.int .i64 11))), (5, 1, (.const (.int .i64 13)))] 6, none, 0⟩,
                        ⟨some 204, .call k_spec_l01Jumps [(.const (.int .i64 18)), (.tmp 203)], none, 0⟩,
                        ⟨none, .store 2 (.tmp 2) (.tmp 204), none, 0⟩,
                        ⟨some 3, .mv (.const (.bool true)), none, 0⟩]) <|
                      .keep [2, 3] <|
                      .ret)
                      (.seq (.ops [
                        ⟨some 206, .bin .eql (.tmp 17) (.const (.string ⟨#[100, 101, 115, 97, 114, 103, 117, 101, 115]⟩)), none, 0⟩,
                        ⟨some 205, .mv (.tmp 206), none, 0⟩]) <|
                      .cond (.tmp 205)
                        (.seq (.ops [
                          ⟨some 207, .buildSl 1 [.int .i64 0, .int .i64 0, .int .i64 0, .int .i64 0] [(0, 1, (.const (.int .i64 5))), (1, 1, (.const (.int .i64 15))), (2, 1, (.const (.int .i64 9))), (3, 1, (.const (.int .i64 11)))] 4, none, 0⟩,
                          ⟨some 208, .call k_spec_l01Jumps [(.const (.int .i64 20)), (.tmp 207)], none, 0⟩,
                          ⟨none, .store 2 (.tmp 2) (.tmp 208), none, 0⟩,
                          ⟨some 3, .mv (.const (.bool true)), none, 0⟩]) <|
                        .keep [2, 3] <|
                        .ret)
                        (.seq (.ops [
                          ⟨some 210, .bin .eql (.tmp 17) (.const (.string ⟨#[100, 111, 100, 101, 99, 97, 104, 101, 100, 114, 111, 110]⟩)), none, 0⟩,
                          ⟨some 209, .mv (.tmp 210), none, 0⟩]) <|
                        .cond (.tmp 209)
                          (.seq (.ops [
                            ⟨some 211, .buildSl 1 [.int .i64 0, .int .i64 0, .int .i64 0, .int .i64 0, .int .i64 0, .int .i64 0, .int .i64 0, .int .i64 0, .int .i64 0, .int .i64 0] [(0, 1, (.const (.int .i64 10))), (1, 1, (.const (.int .i64 7))), (2, 1, (.const (.int .i64 4))), (3, 1, (.const (.int .i64 16))), (4, 1, (.const (.int .i64 13))), (5, 1, (.const (.int .i64 10))), (6, 1, (.const (.int .i64 16))), (7, 1, (.const (.int .i64 7))), (8, 1, (.const (.int .i64 13))), (9, 1, (.const (.int .i64 4)))] 10, none, 0⟩,
                            ⟨some 212, .call k_spec_l01Jumps [(.const (.int .i64 20)), (.tmp 211)], none, 0⟩,
                            ⟨none, .store 2 (.tmp 2) (.tmp 212), none, 0⟩,
                            ⟨some 3, .mv (.const (.bool true)), none, 0⟩]) <|
                          .keep [2, 3] <|
                          .ret)
                          (.seq (.ops [
                            ⟨some 214, .bin .eql (.tmp 17) (.const (.string ⟨#[109, 99, 103, 101, 101]⟩)), none, 0⟩,
                            ⟨some 213, .mv (.tmp 214), none, 0⟩]) <|
                          .cond (.tmp 213)
                            (.seq (.ops [
                              ⟨some 215, .buildSl 1 [.int .i64 0, .int .i64 0, .int .i64 0] [(0, 1, (.const (.int .i64 12))), (1, 1, (.const (.int .i64 7))), (2, 1, (.const (.int .i64 17)))] 3, none, 0⟩,
                              ⟨some 216, .call k_spec_l01Jumps [(.const (.int .i64 24)), (.tmp 215)], none, 0⟩,
                              ⟨none, .store 2 (.tmp 2) (.tmp 216), none, 0⟩,
                              ⟨some 3, .mv (.const (.bool true)), none, 0⟩]) <|
                            .keep [2, 3] <|
                            .ret)
                            (.seq (.ops [
                              ⟨some 218, .bin .eql (.tmp 17) (.const (.string ⟨#[116, 117, 116, 116, 101, 99, 111, 120, 101, 116, 101, 114]⟩)), none, 0⟩,
                              ⟨some 217, .mv (.tmp 218), none, 0⟩]) <|
                            .cond (.tmp 217)
                              (.seq (.ops [
                                ⟨some 219, .buildSl 1 [.int .i64 0, .int .i64 0, .int .i64 0, .int .i64 0, .int .i64 0, .int .i64 0] [(0, 1, (.const (.int .i64 17))), (1, 1, (.const (.int .i64 21))), (2, 1, (.const (.int .i64 7))), (3, 1, (.const (.int .i64 23))), (4, 1, (.const (.int .i64 9))), (5, 1, (.const (.int .i64 13)))] 6, none, 0⟩,
                                ⟨some 220, .call k_spec_l01Jumps [(.const (.int .i64 30)), (.tmp 219)], none, 0⟩,
                                ⟨none, .store 2 (.tmp 2) (.tmp 220), none, 0⟩,
                                ⟨some 3, .mv (.const (.bool true)), none, 0⟩]) <|
                              .keep [2, 3] <|
                              .ret)
                              (.skip))))))))))))))) <|
  .seq (.ops [
    ⟨some 221, .build [.int .i64 0, .slice none 0 0] [], none, 0⟩,
    ⟨none, .store 2 (.tmp 2) (.tmp 221), none, 0⟩,
    ⟨some 3, .mv (.const (.bool false)), none, 0⟩]) <|
  .keep [2, 3] <|
  .ret⟩

theorem e_spec_l01Named : EntOK Tryd.prog (compD Tryd.prog) k_spec_l01Named i_spec_l01Named.vf :=
  ⟨Tryd.f163, Tryd.f163.body.getD .skip, Tryd.func163, by kernel_rfl, by kernel_rfl, by kernel_rfl, by kernel_rfl, by kernel_rfl⟩

/-- loop.example/g01331/spec.l01Jumps -/
def i_spec_l01Jumps_B1 : FC :=
  .seq (.seq (.ops [
    ⟨some 9, .mv (.tmp 6), none, 0⟩,
    ⟨some 10, .mv (.tmp 0), none, 0⟩,
    ⟨some 11, .bin .lss (.tmp 9) (.tmp 10), none, 0⟩]) <|
  .cond (.tmp 11)
    (.skip)
    (.keep [4, 5] <|
    .exit 0)) <|
  .seq (.block 1 <|
  .seq (.dops [
    ⟨some 14, .load true 2 (.tmp 5), none, 0⟩,
    ⟨some 15, .mv (.tmp 6), none, 0⟩,
    ⟨some 16, .mv (.tmp 6), none, 0⟩,
    ⟨some 17, .bin .add (.tmp 16) (.const (.int .i64 1)), none, 0⟩,
    ⟨some 18, .mv (.tmp 0), none, 0⟩,
    ⟨some 19, .bin .rem (.tmp 17) (.tmp 18), none, 0⟩,
    ⟨some 20, .call k_spec_l01Put [(.tmp 14), (.tmp 15), (.tmp 19)], none, 0⟩]) <|
  .seq (.ops [
    ⟨some 21, .mv (.tmp 1), none, 0⟩,
    ⟨some 22, .len (.tmp 21), none, 0⟩,
    ⟨some 23, .bin .gtr (.tmp 22) (.const (.int .i64 0)), none, 0⟩]) <|
  .cond (.tmp 23)
    (.dops [
      ⟨some 24, .load true 2 (.tmp 5), none, 0⟩,
      ⟨some 25, .mv (.tmp 6), none, 0⟩,
      ⟨some 26, .mv (.tmp 6), none, 0⟩,
      ⟨some 27, .mv (.tmp 1), none, 0⟩,
      ⟨some 28, .mv (.tmp 6), none, 0⟩,
      ⟨some 29, .mv (.tmp 1), none, 0⟩,
      ⟨some 30, .len (.tmp 29), none, 0⟩,
      ⟨some 31, .bin .rem (.tmp 28) (.tmp 30), none, 0⟩,
      ⟨some 32, .idx 1 (.tmp 27) (.tmp 31), none, 0⟩,
      ⟨some 33, .load false 1 (.tmp 32), none, 0⟩,
      ⟨some 34, .bin .add (.tmp 26) (.tmp 33), none, 0⟩,
      ⟨some 35, .mv (.tmp 0), none, 0⟩,
      ⟨some 36, .bin .rem (.tmp 34) (.tmp 35), none, 0⟩,
      ⟨some 37, .call k_spec_l01Put [(.tmp 24), (.tmp 25), (.tmp 36)], none, 0⟩])
    (.skip)) <|
  .ops [
    ⟨some 12, .mv (.tmp 6), none, 0⟩,
    ⟨some 13, .bin .add (.tmp 12) (.const (.int .i64 1)), none, 0⟩,
    ⟨some 6, .mv (.tmp 13), none, 0⟩]
def i_spec_l01Jumps : FF := ⟨39, [.cell 4 true 2],
  .seq (.ops [
    ⟨some 4, .alloc [.int .i64 0, .slice none 0 0], none, 0⟩]) <|
  .seq (.ops [
    ⟨some 7, .mv (.tmp 0), none, 0⟩,
    ⟨some 8, .call k_spec_l01Empty [(.tmp 7)], none, 0⟩,
    ⟨some 5, .alloc [.int .i64 0, .slice none 0 0], none, 0⟩,
    ⟨none, .store 2 (.tmp 5) (.tmp 8), none, 0⟩]) <|
  .seq (.seq (.ops [
    ⟨some 6, .mv (.const (.int .i64 0)), none, 0⟩]) <|
  .block 0 <|
  .loop [0, 1, 4, 5, 6] i_spec_l01Jumps_B1) <|
  .seq (.ops [
    ⟨some 38, .load true 2 (.tmp 5), none, 0⟩,
    ⟨none, .store 2 (.tmp 4) (.tmp 38), none, 0⟩]) <|
  .keep [4] <|
  .ret⟩

theorem e_spec_l01Jumps : EntOK Tryd.prog (compD Tryd.prog) k_spec_l01Jumps i_spec_l01Jumps.vf :=
  ⟨Tryd.f164, Tryd.f164.body.getD .skip, Tryd.func164, by kernel_rfl, by kernel_rfl, by kernel_rfl, by kernel_rfl, by kernel_rfl⟩

/-- loop.example/g01331/spec.l01Renamed -/
def i_spec_l01Renamed_B1 : FC :=
  .seq (.seq (.ops [
    ⟨some 17, .mv (.tmp 7), none, 0⟩,
    ⟨some 18, .mv (.tmp 6), none, 0⟩,
    ⟨some 19, .bin .lss (.tmp 17) (.tmp 18), none, 0⟩]) <|
  .cond (.tmp 19)
    (.skip)
    (.keep [1, 2, 4, 5, 6] <|
    .exit 2)) <|
  .seq (.block 3 <|
  .seq (.ops [
    ⟨some 22, .load true 2 (.tmp 2), none, 0⟩,
    ⟨some 23, .mv (.tmp 6), none, 0⟩,
    ⟨some 24, .mv (.tmp 7), none, 0⟩,
    ⟨some 25, .call k_spec_l01Has [(.tmp 22), (.tmp 23), (.tmp 24)], none, 0⟩]) <|
  .cond (.tmp 25)
    (.dops [
      ⟨some 26, .load true 2 (.tmp 5), none, 0⟩,
      ⟨some 27, .mv (.tmp 1), none, 0⟩,
      ⟨some 28, .mv (.tmp 6), none, 0⟩,
      ⟨some 29, .idx 1 (.tmp 27) (.tmp 28), none, 0⟩,
      ⟨some 30, .load false 1 (.tmp 29), none, 0⟩,
      ⟨some 31, .mv (.tmp 1), none, 0⟩,
      ⟨some 32, .mv (.tmp 7), none, 0⟩,
      ⟨some 33, .idx 1 (.tmp 31) (.tmp 32), none, 0⟩,
      ⟨some 34, .load false 1 (.tmp 33), none, 0⟩,
      ⟨some 35, .call k_spec_l01Put [(.tmp 26), (.tmp 30), (.tmp 34)], none, 0⟩])
    (.skip)) <|
  .ops [
    ⟨some 20, .mv (.tmp 7), none, 0⟩,
    ⟨some 21, .bin .add (.tmp 20) (.const (.int .i64 1)), none, 0⟩,
    ⟨some 7, .mv (.tmp 21), none, 0⟩]
def i_spec_l01Renamed_B2 : FC :=
  .seq (.seq (.ops [
    ⟨some 11, .mv (.tmp 6), none, 0⟩,
    ⟨some 12, .fld 0 (.tmp 2), none, 0⟩,
    ⟨some 13, .load false 1 (.tmp 12), none, 0⟩,
    ⟨some 14, .bin .lss (.tmp 11) (.tmp 13), none, 0⟩]) <|
  .cond (.tmp 14)
    (.skip)
    (.keep [4, 5] <|
    .exit 0)) <|
  .seq (.block 1 <|
  .seq (.ops [
    ⟨some 7, .mv (.const (.int .i64 0)), none, 0⟩]) <|
  .block 2 <|
  .loop [1, 2, 4, 5, 6, 7] i_spec_l01Renamed_B1) <|
  .ops [
    ⟨some 15, .mv (.tmp 6), none, 0⟩,
    ⟨some 16, .bin .add (.tmp 15) (.const (.int .i64 1)), none, 0⟩,
    ⟨some 6, .mv (.tmp 16), none, 0⟩]
def i_spec_l01Renamed : FF := ⟨37, [.cell 4 true 2],
  .seq (.ops [
    ⟨some 2, .box 2 (.tmp 0), none, 0⟩,
    ⟨some 4, .alloc [.int .i64 0, .slice none 0 0], none, 0⟩]) <|
  .seq (.ops [
    ⟨some 8, .fld 0 (.tmp 2), none, 0⟩,
    ⟨some 9, .load false 1 (.tmp 8), none, 0⟩,
    ⟨some 10, .call k_spec_l01Empty [(.tmp 9)], none, 0⟩,
    ⟨some 5, .alloc [.int .i64 0, .slice none 0 0], none, 0⟩,
    ⟨none, .store 2 (.tmp 5) (.tmp 10), none, 0⟩]) <|
  .seq (.seq (.ops [
    ⟨some 6, .mv (.const (.int .i64 0)), none, 0⟩]) <|
  .block 0 <|
  .loop [1, 2, 4, 5, 6] i_spec_l01Renamed_B2) <|
  .seq (.ops [
    ⟨some 36, .load true 2 (.tmp 5), none, 0⟩,
    ⟨none, .store 2 (.tmp 4) (.tmp 36), none, 0⟩]) <|
  .keep [4] <|
  .ret⟩

theorem e_spec_l01Renamed : EntOK Tryd.prog (compD Tryd.prog) k_spec_l01Renamed i_spec_l01Renamed.vf :=
  ⟨Tryd.f165, Tryd.f165.body.getD .skip, Tryd.func165, by kernel_rfl, by kernel_rfl, by kernel_rfl, by kernel_rfl, by kernel_rfl⟩

/-- loop.example/g01331/spec.l01DrawOrder -/
def i_spec_l01DrawOrder_B1 : FC :=
  .seq (.seq (.ops [
    ⟨some 9, .mv (.tmp 6), none, 0⟩,
    ⟨some 10, .mv (.tmp 1), none, 0⟩,
    ⟨some 11, .bin .lss (.tmp 9) (.tmp 10), none, 0⟩]) <|
  .cond (.tmp 11)
    (.skip)
    (.keep [5] <|
    .exit 0)) <|
  .seq (.block 1 <|
  .seq (.ops [
    ⟨some 14, .mv (.tmp 0), none, 0⟩,
    ⟨some 15, .mv (.tmp 6), none, 0⟩,
    ⟨some 16, .bin .add (.tmp 15) (.const (.int .i64 1)), none, 0⟩,
    ⟨some 17, .call k_spec_l01Next [(.tmp 14), (.tmp 16)], none, 0⟩,
    ⟨some 7, .mv (.tmp 17), none, 0⟩]) <|
  .dops [
    ⟨some 18, .mv (.tmp 5), none, 0⟩,
    ⟨some 19, .mv (.tmp 7), none, 0⟩,
    ⟨some 20, .slc 1 (.tmp 18) none (some (.tmp 19)), none, 0⟩,
    ⟨some 21, .call k_spec_l01Own [(.tmp 20)], none, 0⟩,
    ⟨some 22, .mv (.tmp 6), none, 1⟩,
    ⟨some 23, .buildSl 1 [.int .i64 0] [(0, 1, (.tmp 22))] 1, none, 1⟩,
    ⟨some 24, .app 1 8 [.int .i64 0] (.tmp 21) (.tmp 23), none, 1⟩,
    ⟨some 25, .mv (.tmp 5), none, 3⟩,
    ⟨some 26, .mv (.tmp 7), none, 3⟩,
    ⟨some 27, .slc 1 (.tmp 25) (some (.tmp 26)) none, none, 3⟩,
    ⟨some 28, .app 1 8 [.int .i64 0] (.tmp 24) (.tmp 27), none, 1⟩,
    ⟨some 5, .mv (.tmp 28), none, 1⟩]) <|
  .ops [
    ⟨some 12, .mv (.tmp 6), none, 0⟩,
    ⟨some 13, .bin .add (.tmp 12) (.const (.int .i64 1)), none, 0⟩,
    ⟨some 6, .mv (.tmp 13), none, 0⟩]
def i_spec_l01DrawOrder : FF := ⟨30, [.tmp 4],
  .seq (.ops [
    ⟨some 4, .mv (.const (.slice none 0 0)), none, 0⟩]) <|
  .seq (.ops [
    ⟨some 8, .buildSl 1 [] [] 0, none, 0⟩,
    ⟨some 5, .mv (.tmp 8), none, 0⟩]) <|
  .seq (.seq (.ops [
    ⟨some 6, .mv (.const (.int .i64 0)), none, 0⟩]) <|
  .block 0 <|
  .loop [0, 1, 5, 6] i_spec_l01DrawOrder_B1) <|
  .seq (.ops [
    ⟨some 29, .mv (.tmp 5), none, 0⟩,
    ⟨some 4, .mv (.tmp 29), none, 0⟩]) <|
  .keep [4] <|
  .ret⟩

theorem e_spec_l01DrawOrder : EntOK Tryd.prog (compD Tryd.prog) k_spec_l01DrawOrder i_spec_l01DrawOrder.vf :=
  ⟨Tryd.f166, Tryd.f166.body.getD .skip, Tryd.func166, by kernel_rfl, by kernel_rfl, by kernel_rfl, by kernel_rfl, by kernel_rfl⟩

/-- slices.Repeat[[]int64,int64] -/
def i_slices_Repeat_int64_int64_B1 : FC :=
  .seq (.seq (.ops [
    ⟨some 34, .mv (.tmp 8), none, 0⟩,
    ⟨some 35, .mv (.tmp 7), none, 0⟩,
    ⟨some 36, .len (.tmp 35), none, 0⟩,
    ⟨some 37, .bin .lss (.tmp 34) (.tmp 36), none, 0⟩]) <|
  .cond (.tmp 37)
    (.skip)
    (.keep [7] <|
    .exit 0)) <|
  .block 1 <|
  .dops [
    ⟨some 39, .mv (.tmp 7), none, 0⟩,
    ⟨some 40, .mv (.tmp 8), none, 0⟩,
    ⟨some 41, .slc 1 (.tmp 39) (some (.tmp 40)) none, none, 0⟩,
    ⟨some 42, .mv (.tmp 7), none, 0⟩,
    ⟨some 43, .mv (.tmp 8), none, 0⟩,
    ⟨some 44, .slc 1 (.tmp 42) none (some (.tmp 43)), none, 0⟩,
    ⟨some 45, .cpy 1 (.tmp 41) (.tmp 44), none, 0⟩,
    ⟨some 38, .mv (.tmp 8), none, 1⟩,
    ⟨some 46, .bin .add (.tmp 38) (.tmp 45), none, 0⟩,
    ⟨some 8, .mv (.tmp 46), none, 0⟩]
def i_slices_Repeat_int64_int64 : FF := ⟨48, [.tmp 4],
  .seq (.ops [
    ⟨some 4, .mv (.const (.slice none 0 0)), none, 0⟩]) <|
  .seq (.seq (.ops [
    ⟨some 9, .mv (.tmp 1), none, 0⟩,
    ⟨some 10, .bin .lss (.tmp 9) (.const (.int .i64 0)), none, 0⟩]) <|
  .cond (.tmp 10)
    (.ops [
      ⟨some 11, .stop, none, 0⟩,
      ⟨none, .stop, none, 0⟩])
    (.skip)) <|
  .seq (.ops [
    ⟨some 13, .mv (.tmp 0), none, 0⟩,
    ⟨some 14, .len (.tmp 13), none, 0⟩,
    ⟨some 15, .conv .u64 (.tmp 14), none, 0⟩,
    ⟨some 16, .mv (.tmp 1), none, 0⟩,
    ⟨some 17, .conv .u64 (.tmp 16), none, 0⟩,
    ⟨some 18, .call k_math_bits_Mul [(.tmp 15), (.tmp 17)], none, 0⟩,
    ⟨some 12, .mv (.tmp 18), none, 0⟩,
    ⟨some 19, .ext (.tmp 12) 0, none, 0⟩,
    ⟨some 20, .ext (.tmp 12) 1, none, 0⟩,
    ⟨some 5, .mv (.tmp 19), none, 0⟩,
    ⟨some 6, .mv (.tmp 20), none, 0⟩]) <|
  .seq (.seq (.ops [
    ⟨some 21, .mv (.tmp 5), none, 0⟩,
    ⟨some 22, .bin .gtr (.tmp 21) (.const (.int .u64 0)), none, 0⟩,
    ⟨some 23, .mv (.tmp 22), none, 0⟩,
    ⟨some 24, .mv (.tmp 6), some (23, false), 0⟩,
    ⟨some 25, .bin .gtr (.tmp 24) (.const (.int .u64 9223372036854775807)), some (23, false), 0⟩,
    ⟨some 26, .pick (.tmp 23) (.const (.bool true)) (.tmp 25), none, 0⟩]) <|
  .cond (.tmp 26)
    (.ops [
      ⟨some 27, .stop, none, 0⟩,
      ⟨none, .stop, none, 0⟩])
    (.skip)) <|
  .seq (.ops [
    ⟨some 28, .mv (.tmp 6), none, 0⟩,
    ⟨some 29, .conv .i64 (.tmp 28), none, 0⟩,
    ⟨some 30, .mkSl 1 [.int .i64 0] 8 (.tmp 29) (.tmp 29), none, 0⟩,
    ⟨some 7, .mv (.tmp 30), none, 0⟩]) <|
  .seq (.ops [
    ⟨some 31, .mv (.tmp 7), none, 0⟩,
    ⟨some 32, .mv (.tmp 0), none, 0⟩,
    ⟨some 33, .cpy 1 (.tmp 31) (.tmp 32), none, 0⟩,
    ⟨some 8, .mv (.tmp 33), none, 0⟩]) <|
  .seq (.block 0 <|
  .loop [7, 8] i_slices_Repeat_int64_int64_B1) <|
  .seq (.ops [
    ⟨some 47, .mv (.tmp 7), none, 0⟩,
    ⟨some 4, .mv (.tmp 47), none, 0⟩]) <|
  .keep [4] <|
  .ret⟩

theorem e_slices_Repeat_int64_int64 : EntOK Tryd.prog (compD Tryd.prog) k_slices_Repeat_int64_int64 i_slices_Repeat_int64_int64.vf :=
  ⟨Tryd.f168, Tryd.f168.body.getD .skip, Tryd.func168, by kernel_rfl, by kernel_rfl, by kernel_rfl, by kernel_rfl, by kernel_rfl⟩

/-- loop.example/g01331/spec.l01Complement -/
def i_spec_l01Complement_B1 : FC :=
  .seq (.seq (.ops [
    ⟨some 8, .mv (.tmp 4), none, 0⟩,
    ⟨some 9, .fld 0 (.tmp 1), none, 0⟩,
    ⟨some 10, .load false 1 (.tmp 9), none, 0⟩,
    ⟨some 11, .bin .lss (.tmp 8) (.tmp 10), none, 0⟩]) <|
  .cond (.tmp 11)
    (.skip)
    (.keep [2, 3] <|
    .exit 0)) <|
  .seq (.block 1 <|
  .dops [
    ⟨some 14, .fld 1 (.tmp 3), none, 0⟩,
    ⟨some 15, .load false 1 (.tmp 14), none, 0⟩,
    ⟨some 16, .mv (.tmp 4), none, 0⟩,
    ⟨some 17, .fld 0 (.tmp 1), none, 0⟩,
    ⟨some 18, .load false 1 (.tmp 17), none, 0⟩,
    ⟨some 19, .conv .u64 (.tmp 18), none, 0⟩,
    ⟨some 20, .bin .shl (.const (.int .i64 1)) (.tmp 19), none, 0⟩,
    ⟨some 21, .bin .sub (.tmp 20) (.const (.int .i64 1)), none, 0⟩,
    ⟨some 22, .fld 1 (.tmp 1), none, 0⟩,
    ⟨some 23, .load false 1 (.tmp 22), none, 0⟩,
    ⟨some 24, .mv (.tmp 4), none, 0⟩,
    ⟨some 25, .idx 1 (.tmp 23) (.tmp 24), none, 0⟩,
    ⟨some 26, .load false 1 (.tmp 25), none, 0⟩,
    ⟨some 27, .bin .sub (.tmp 21) (.tmp 26), none, 0⟩,
    ⟨some 28, .mv (.tmp 4), none, 0⟩,
    ⟨some 29, .conv .u64 (.tmp 28), none, 0⟩,
    ⟨some 30, .bin .shl (.const (.int .i64 1)) (.tmp 29), none, 0⟩,
    ⟨some 31, .bin .sub (.tmp 27) (.tmp 30), none, 0⟩,
    ⟨some 32, .idx 1 (.tmp 15) (.tmp 16), none, 0⟩,
    ⟨none, .store 1 (.tmp 32) (.tmp 31), none, 0⟩]) <|
  .ops [
    ⟨some 12, .mv (.tmp 4), none, 0⟩,
    ⟨some 13, .bin .add (.tmp 12) (.const (.int .i64 1)), none, 0⟩,
    ⟨some 4, .mv (.tmp 13), none, 0⟩]
def i_spec_l01Complement : FF := ⟨34, [.cell 2 true 2],
  .seq (.ops [
    ⟨some 1, .box 2 (.tmp 0), none, 0⟩,
    ⟨some 2, .alloc [.int .i64 0, .slice none 0 0], none, 0⟩]) <|
  .seq (.ops [
    ⟨some 5, .fld 0 (.tmp 1), none, 0⟩,
    ⟨some 6, .load false 1 (.tmp 5), none, 0⟩,
    ⟨some 7, .call k_spec_l01Empty [(.tmp 6)], none, 0⟩,
    ⟨some 3, .alloc [.int .i64 0, .slice none 0 0], none, 0⟩,
    ⟨none, .store 2 (.tmp 3) (.tmp 7), none, 0⟩]) <|
  .seq (.seq (.ops [
    ⟨some 4, .mv (.const (.int .i64 0)), none, 0⟩]) <|
  .block 0 <|
  .loop [1, 2, 3, 4] i_spec_l01Complement_B1) <|
  .seq (.ops [
    ⟨some 33, .load true 2 (.tmp 3), none, 0⟩,
    ⟨none, .store 2 (.tmp 2) (.tmp 33), none, 0⟩]) <|
  .keep [2] <|
  .ret⟩

theorem e_spec_l01Complement : EntOK Tryd.prog (compD Tryd.prog) k_spec_l01Complement i_spec_l01Complement.vf :=
  ⟨Tryd.f180, Tryd.f180.body.getD .skip, Tryd.func180, by kernel_rfl, by kernel_rfl, by kernel_rfl, by kernel_rfl, by kernel_rfl⟩

/-- loop.example/g01331/spec.l01Beside -/
def i_spec_l01Beside_B1 : FC :=
  .seq (.seq (.ops [
    ⟨some 16, .mv (.tmp 6), none, 0⟩,
    ⟨some 17, .fld 0 (.tmp 3), none, 0⟩,
    ⟨some 18, .load false 1 (.tmp 17), none, 0⟩,
    ⟨some 19, .bin .lss (.tmp 16) (.tmp 18), none, 0⟩]) <|
  .cond (.tmp 19)
    (.skip)
    (.keep [4, 5] <|
    .exit 0)) <|
  .seq (.block 1 <|
  .dops [
    ⟨some 24, .fld 1 (.tmp 3), none, 0⟩,
    ⟨some 25, .load false 1 (.tmp 24), none, 0⟩,
    ⟨some 26, .mv (.tmp 6), none, 0⟩,
    ⟨some 27, .idx 1 (.tmp 25) (.tmp 26), none, 0⟩,
    ⟨some 28, .load false 1 (.tmp 27), none, 0⟩,
    ⟨some 29, .fld 0 (.tmp 2), none, 0⟩,
    ⟨some 30, .load false 1 (.tmp 29), none, 0⟩,
    ⟨some 31, .conv .u64 (.tmp 30), none, 0⟩,
    ⟨some 32, .bin .shl (.tmp 28) (.tmp 31), none, 0⟩,
    ⟨some 33, .buildSl 1 [.int .i64 0] [(0, 1, (.tmp 32))] 1, none, 0⟩,
    ⟨some 22, .fld 1 (.tmp 5), none, 1⟩,
    ⟨some 23, .load false 1 (.tmp 22), none, 1⟩,
    ⟨some 34, .app 1 8 [.int .i64 0] (.tmp 23) (.tmp 33), none, 0⟩,
    ⟨some 35, .fld 1 (.tmp 5), none, 0⟩,
    ⟨none, .store 1 (.tmp 35) (.tmp 34), none, 0⟩]) <|
  .ops [
    ⟨some 20, .mv (.tmp 6), none, 0⟩,
    ⟨some 21, .bin .add (.tmp 20) (.const (.int .i64 1)), none, 0⟩,
    ⟨some 6, .mv (.tmp 21), none, 0⟩]
def i_spec_l01Beside : FF := ⟨37, [.cell 4 true 2],
  .seq (.ops [
    ⟨some 2, .box 2 (.tmp 0), none, 0⟩,
    ⟨some 3, .box 2 (.tmp 1), none, 0⟩,
    ⟨some 4, .alloc [.int .i64 0, .slice none 0 0], none, 0⟩]) <|
  .seq (.dops [
    ⟨some 12, .fld 1 (.tmp 2), none, 0⟩,
    ⟨some 13, .load false 1 (.tmp 12), none, 0⟩,
    ⟨some 14, .call k_spec_l01Own [(.tmp 13)], none, 0⟩,
    ⟨some 7, .fld 0 (.tmp 2), none, 1⟩,
    ⟨some 8, .load false 1 (.tmp 7), none, 1⟩,
    ⟨some 9, .fld 0 (.tmp 3), none, 1⟩,
    ⟨some 10, .load false 1 (.tmp 9), none, 1⟩,
    ⟨some 11, .bin .add (.tmp 8) (.tmp 10), none, 1⟩,
    ⟨some 15, .build [.int .i64 0, .slice none 0 0] [(0, 1, (.tmp 11)), (1, 1, (.tmp 14))], none, 0⟩,
    ⟨some 5, .alloc [.int .i64 0, .slice none 0 0], none, 1⟩,
    ⟨none, .store 2 (.tmp 5) (.tmp 15), none, 1⟩]) <|
  .seq (.seq (.ops [
    ⟨some 6, .mv (.const (.int .i64 0)), none, 0⟩]) <|
  .block 0 <|
  .loop [2, 3, 4, 5, 6] i_spec_l01Beside_B1) <|
  .seq (.ops [
    ⟨some 36, .load true 2 (.tmp 5), none, 0⟩,
    ⟨none, .store 2 (.tmp 4) (.tmp 36), none, 0⟩]) <|
  .keep [4] <|
  .ret⟩

theorem e_spec_l01Beside : EntOK Tryd.prog (compD Tryd.prog) k_spec_l01Beside i_spec_l01Beside.vf :=
  ⟨Tryd.f181, Tryd.f181.body.getD .skip, Tryd.func181, by kernel_rfl, by kernel_rfl, by kernel_rfl, by kernel_rfl, by kernel_rfl⟩

/-- math/bits.Mul -/
def i_math_bits_Mul : FF := ⟨30, [.tmp 4, .tmp 5],
  .seq (.ops [
    ⟨some 4, .mv (.const (.int .u64 0)), none, 0⟩,
    ⟨some 5, .mv (.const (.int .u64 0)), none, 0⟩]) <|
  .seq (.cond (.const (.bool false))
    (.seq (.ops [
      ⟨some 11, .mv (.tmp 0), none, 0⟩,
      ⟨some 12, .conv .u32 (.tmp 11), none, 0⟩,
      ⟨some 13, .mv (.tmp 1), none, 0⟩,
      ⟨some 14, .conv .u32 (.tmp 13), none, 0⟩,
      ⟨some 15, .call k_math_bits_Mul32 [(.tmp 12), (.tmp 14)], none, 0⟩,
      ⟨some 10, .mv (.tmp 15), none, 0⟩,
      ⟨some 16, .ext (.tmp 10) 0, none, 0⟩,
      ⟨some 17, .ext (.tmp 10) 1, none, 0⟩,
      ⟨some 6, .mv (.tmp 16), none, 0⟩,
      ⟨some 7, .mv (.tmp 17), none, 0⟩]) <|
    .seq (.ops [
      ⟨some 18, .mv (.tmp 6), none, 0⟩,
      ⟨some 19, .conv .u64 (.tmp 18), none, 0⟩,
      ⟨some 20, .mv (.tmp 7), none, 0⟩,
      ⟨some 21, .conv .u64 (.tmp 20), none, 0⟩,
      ⟨some 4, .mv (.tmp 19), none, 0⟩,
      ⟨some 5, .mv (.tmp 21), none, 0⟩]) <|
    .keep [4, 5] <|
    .ret)
    (.skip)) <|
  .seq (.ops [
    ⟨some 23, .mv (.tmp 0), none, 0⟩,
    ⟨some 24, .mv (.tmp 1), none, 0⟩,
    ⟨some 25, .call k_math_bits_Mul64 [(.tmp 23), (.tmp 24)], none, 0⟩,
    ⟨some 22, .mv (.tmp 25), none, 0⟩,
    ⟨some 26, .ext (.tmp 22) 0, none, 0⟩,
    ⟨some 27, .ext (.tmp 22) 1, none, 0⟩,
    ⟨some 8, .mv (.tmp 26), none, 0⟩,
    ⟨some 9, .mv (.tmp 27), none, 0⟩]) <|
  .seq (.ops [
    ⟨some 28, .mv (.tmp 8), none, 0⟩,
    ⟨some 29, .mv (.tmp 9), none, 0⟩,
    ⟨some 4, .mv (.tmp 28), none, 0⟩,
    ⟨some 5, .mv (.tmp 29), none, 0⟩]) <|
  .keep [4, 5] <|
  .ret⟩

theorem e_math_bits_Mul : EntOK Tryd.prog (compD Tryd.prog) k_math_bits_Mul i_math_bits_Mul.vf :=
  ⟨Tryd.f182, Tryd.f182.body.getD .skip, Tryd.func182, by kernel_rfl, by kernel_rfl, by kernel_rfl, by kernel_rfl, by kernel_rfl⟩

/-- math/bits.Mul32 -/
def i_math_bits_Mul32 : FF := ⟨17, [.tmp 4, .tmp 5],
  .seq (.ops [
    ⟨some 4, .mv (.const (.int .u32 0)), none, 0⟩,
    ⟨some 5, .mv (.const (.int .u32 0)), none, 0⟩]) <|
  .seq (.ops [
    ⟨some 7, .mv (.tmp 0), none, 0⟩,
    ⟨some 8, .conv .u64 (.tmp 7), none, 0⟩,
    ⟨some 9, .mv (.tmp 1), none, 0⟩,
    ⟨some 10, .conv .u64 (.tmp 9), none, 0⟩,
    ⟨some 11, .bin .mul (.tmp 8) (.tmp 10), none, 0⟩,
    ⟨some 6, .mv (.tmp 11), none, 0⟩]) <|
  .seq (.ops [
    ⟨some 12, .mv (.tmp 6), none, 0⟩,
    ⟨some 13, .bin .shr (.tmp 12) (.const (.int .u64 32)), none, 0⟩,
    ⟨some 14, .conv .u32 (.tmp 13), none, 0⟩,
    ⟨some 15, .mv (.tmp 6), none, 0⟩,
    ⟨some 16, .conv .u32 (.tmp 15), none, 0⟩,
    ⟨some 4, .mv (.tmp 14), none, 0⟩,
    ⟨some 5, .mv (.tmp 16), none, 0⟩]) <|
  .keep [4, 5] <|
  .ret⟩

theorem e_math_bits_Mul32 : EntOK Tryd.prog (compD Tryd.prog) k_math_bits_Mul32 i_math_bits_Mul32.vf :=
  ⟨Tryd.f190, Tryd.f190.body.getD .skip, Tryd.func190, by kernel_rfl, by kernel_rfl, by kernel_rfl, by kernel_rfl, by kernel_rfl⟩

/-- math/bits.Mul64 -/
def i_math_bits_Mul64 : FF := ⟨51, [.tmp 4, .tmp 5],
  .seq (.ops [
    ⟨some 4, .mv (.const (.int .u64 0)), none, 0⟩,
    ⟨some 5, .mv (.const (.int .u64 0)), none, 0⟩]) <|
  .seq (.ops [
    ⟨some 14, .mv (.tmp 0), none, 0⟩,
    ⟨some 15, .bin .and (.tmp 14) (.const (.int .u64 4294967295)), none, 0⟩,
    ⟨some 6, .mv (.tmp 15), none, 0⟩]) <|
  .seq (.ops [
    ⟨some 16, .mv (.tmp 0), none, 0⟩,
    ⟨some 17, .bin .shr (.tmp 16) (.const (.int .u64 32)), none, 0⟩,
    ⟨some 7, .mv (.tmp 17), none, 0⟩]) <|
  .seq (.ops [
    ⟨some 18, .mv (.tmp 1), none, 0⟩,
    ⟨some 19, .bin .and (.tmp 18) (.const (.int .u64 4294967295)), none, 0⟩,
    ⟨some 8, .mv (.tmp 19), none, 0⟩]) <|
  .seq (.ops [
    ⟨some 20, .mv (.tmp 1), none, 0⟩,
    ⟨some 21, .bin .shr (.tmp 20) (.const (.int .u64 32)), none, 0⟩,
    ⟨some 9, .mv (.tmp 21), none, 0⟩]) <|
  .seq (.ops [
    ⟨some 22, .mv (.tmp 6), none, 0⟩,
    ⟨some 23, .mv (.tmp 8), none, 0⟩,
    ⟨some 24, .bin .mul (.tmp 22) (.tmp 23), none, 0⟩,
    ⟨some 10, .mv (.tmp 24), none, 0⟩]) <|
  .seq (.ops [
    ⟨some 25, .mv (.tmp 7), none, 0⟩,
    ⟨some 26, .mv (.tmp 8), none, 0⟩,
    ⟨some 27, .bin .mul (.tmp 25) (.tmp 26), none, 0⟩,
    ⟨some 28, .mv (.tmp 10), none, 0⟩,
    ⟨some 29, .bin .shr (.tmp 28) (.const (.int .u64 32)), none, 0⟩,
    ⟨some 30, .bin .add (.tmp 27) (.tmp 29), none, 0⟩,
    ⟨some 11, .mv (.tmp 30), none, 0⟩]) <|
  .seq (.ops [
    ⟨some 31, .mv (.tmp 11), none, 0⟩,
    ⟨some 32, .bin .and (.tmp 31) (.const (.int .u64 4294967295)), none, 0⟩,
    ⟨some 12, .mv (.tmp 32), none, 0⟩]) <|
  .seq (.ops [
    ⟨some 33, .mv (.tmp 11), none, 0⟩,
    ⟨some 34, .bin .shr (.tmp 33) (.const (.int .u64 32)), none, 0⟩,
    ⟨some 13, .mv (.tmp 34), none, 0⟩]) <|
  .seq (.ops [
    ⟨some 35, .mv (.tmp 12), none, 0⟩,
    ⟨some 36, .mv (.tmp 6), none, 0⟩,
    ⟨some 37, .mv (.tmp 9), none, 0⟩,
    ⟨some 38, .bin .mul (.tmp 36) (.tmp 37), none, 0⟩,
    ⟨some 39, .bin .add (.tmp 35) (.tmp 38), none, 0⟩,
    ⟨some 12, .mv (.tmp 39), none, 0⟩]) <|
  .seq (.ops [
    ⟨some 40, .mv (.tmp 7), none, 0⟩,
    ⟨some 41, .mv (.tmp 9), none, 0⟩,
    ⟨some 42, .bin .mul (.tmp 40) (.tmp 41), none, 0⟩,
    ⟨some 43, .mv (.tmp 13), none, 0⟩,
    ⟨some 44, .bin .add (.tmp 42) (.tmp 43), none, 0⟩,
    ⟨some 45, .mv (.tmp 12), none, 0⟩,
    ⟨some 46, .bin .shr (.tmp 45) (.const (.int .u64 32)), none, 0⟩,
    ⟨some 47, .bin .add (.tmp 44) (.tmp 46), none, 0⟩,
    ⟨some 4, .mv (.tmp 47), none, 0⟩]) <|
  .seq (.ops [
    ⟨some 48, .mv (.tmp 0), none, 0⟩,
    ⟨some 49, .mv (.tmp 1), none, 0⟩,
    ⟨some 50, .bin .mul (.tmp 48) (.tmp 49), none, 0⟩,
    ⟨some 5, .mv (.tmp 50), none, 0⟩]) <|
  .keep [4, 5] <|
  .ret⟩

theorem e_math_bits_Mul64 : EntOK Tryd.prog (compD Tryd.prog) k_math_bits_Mul64 i_math_bits_Mul64.vf :=
  ⟨Tryd.f191, Tryd.f191.body.getD .skip, Tryd.func191, by kernel_rfl, by kernel_rfl, by kernel_rfl, by kernel_rfl, by kernel_rfl⟩

def tab : List (Nat × FF) := [(k_laws_FnGirths, i_laws_FnGirths), (k_laws_big, i_laws_big), (k_spec_DrawCountShortest, i_spec_DrawCountShortest), (k_impl_CountShortest, i_impl_CountShortest), (k_spec_CountShortest, i_spec_CountShortest), (k_impl_GirthOf, i_impl_GirthOf), (k_spec_GirthOf, i_spec_GirthOf), (k_spec_DrawShortestThrough, i_spec_DrawShortestThrough), (k_impl_ShortestThrough, i_impl_ShortestThrough), (k_spec_ShortestThrough, i_spec_ShortestThrough), (k_spec_DrawGirthAt, i_spec_DrawGirthAt), (k_impl_GirthAt, i_impl_GirthAt), (k_spec_GirthAt, i_spec_GirthAt), (k_impl_EdgesOf, i_impl_EdgesOf), (k_spec_l02Draw, i_spec_l02Draw), (k_spec_l01From, i_spec_l01From), (k_impl_IsGraph, i_impl_IsGraph), (k_impl_Graph_girth, i_impl_Graph_girth), (k_impl_Graph_edges, i_impl_Graph_edges), (k_impl_Graph_around, i_impl_Graph_around), (k_impl_Graph_through, i_impl_Graph_through), (k_spec_l01Is, i_spec_l01Is), (k_spec_l02Girth, i_spec_l02Girth), (k_spec_l02Around, i_spec_l02Around), (k_impl_found, i_impl_found), (k_spec_l02Pair, i_spec_l02Pair), (k_impl_graphCode, i_impl_graphCode), (k_impl_Graph_has, i_impl_Graph_has), (k_spec_l02Code, i_spec_l02Code), (k_spec_l02At, i_spec_l02At), (k_impl_Graph_girthAt, i_impl_Graph_girthAt), (k_spec_l01Next, i_spec_l01Next), (k_spec_l01Pick, i_spec_l01Pick), (k_spec_l01In, i_spec_l01In), (k_spec_l01Empty, i_spec_l01Empty), (k_impl_own, i_impl_own), (k_spec_l01DrawOf, i_spec_l01DrawOf), (k_spec_l01Put, i_spec_l01Put), (k_spec_l01Bad, i_spec_l01Bad), (k_spec_l01Neighbours, i_spec_l01Neighbours), (k_spec_l01DrawRegular, i_spec_l01DrawRegular), (k_spec_l01Spoil, i_spec_l01Spoil), (k_impl_list, i_impl_list), (k_impl_Graph_take, i_impl_Graph_take), (k_impl_Graph_distances, i_impl_Graph_distances), (k_impl_Graph_walks, i_impl_Graph_walks), (k_spec_l01Has, i_spec_l01Has), (k_spec_l02From, i_spec_l02From), (k_spec_l01Draw, i_spec_l01Draw), (k_slices_Clone_int64_int64, i_slices_Clone_int64_int64), (k_spec_l01Own, i_spec_l01Own), (k_spec_l01Names, i_spec_l01Names), (k_spec_l01Named, i_spec_l01Named), (k_spec_l01Jumps, i_spec_l01Jumps), (k_spec_l01Renamed, i_spec_l01Renamed), (k_spec_l01DrawOrder, i_spec_l01DrawOrder), (k_slices_Repeat_int64_int64, i_slices_Repeat_int64_int64), (k_spec_l01Complement, i_spec_l01Complement), (k_spec_l01Beside, i_spec_l01Beside), (k_math_bits_Mul, i_math_bits_Mul), (k_math_bits_Mul32, i_math_bits_Mul32), (k_math_bits_Mul64, i_math_bits_Mul64)]
theorem tabOK : ∀ p ∈ tab, EntOK Tryd.prog (compD Tryd.prog) p.1 p.2.vf := by
  intro p hp
  simp only [tab, List.mem_cons, List.not_mem_nil, or_false] at hp
  rcases hp with rfl | rfl | rfl | rfl | rfl | rfl | rfl | rfl | rfl | rfl | rfl | rfl | rfl | rfl | rfl | rfl | rfl | rfl | rfl | rfl | rfl | rfl | rfl | rfl | rfl | rfl | rfl | rfl | rfl | rfl | rfl | rfl | rfl | rfl | rfl | rfl | rfl | rfl | rfl | rfl | rfl | rfl | rfl | rfl | rfl | rfl | rfl | rfl | rfl | rfl | rfl | rfl | rfl | rfl | rfl | rfl | rfl | rfl | rfl | rfl | rfl | rfl
  · exact e_laws_FnGirths
  · exact e_laws_big
  · exact e_spec_DrawCountShortest
  · exact e_impl_CountShortest
  · exact e_spec_CountShortest
  · exact e_impl_GirthOf
  · exact e_spec_GirthOf
  · exact e_spec_DrawShortestThrough
  · exact e_impl_ShortestThrough
  · exact e_spec_ShortestThrough
  · exact e_spec_DrawGirthAt
  · exact e_impl_GirthAt
  · exact e_spec_GirthAt
  · exact e_impl_EdgesOf
  · exact e_spec_l02Draw
  · exact e_spec_l01From
  · exact e_impl_IsGraph
  · exact e_impl_Graph_girth
  · exact e_impl_Graph_edges
  · exact e_impl_Graph_around
  · exact e_impl_Graph_through
  · exact e_spec_l01Is
  · exact e_spec_l02Girth
  · exact e_spec_l02Around
  · exact e_impl_found
  · exact e_spec_l02Pair
  · exact e_impl_graphCode
  · exact e_impl_Graph_has
  · exact e_spec_l02Code
  · exact e_spec_l02At
  · exact e_impl_Graph_girthAt
  · exact e_spec_l01Next
  · exact e_spec_l01Pick
  · exact e_spec_l01In
  · exact e_spec_l01Empty
  · exact e_impl_own
  · exact e_spec_l01DrawOf
  · exact e_spec_l01Put
  · exact e_spec_l01Bad
  · exact e_spec_l01Neighbours
  · exact e_spec_l01DrawRegular
  · exact e_spec_l01Spoil
  · exact e_impl_list
  · exact e_impl_Graph_take
  · exact e_impl_Graph_distances
  · exact e_impl_Graph_walks
  · exact e_spec_l01Has
  · exact e_spec_l02From
  · exact e_spec_l01Draw
  · exact e_slices_Clone_int64_int64
  · exact e_spec_l01Own
  · exact e_spec_l01Names
  · exact e_spec_l01Named
  · exact e_spec_l01Jumps
  · exact e_spec_l01Renamed
  · exact e_spec_l01DrawOrder
  · exact e_slices_Repeat_int64_int64
  · exact e_spec_l01Complement
  · exact e_spec_l01Beside
  · exact e_math_bits_Mul
  · exact e_math_bits_Mul32
  · exact e_math_bits_Mul64

def F (n : Nat) : Option Ent := match tab.lookup n with
  | some f => some (.ir f.vf)
  | none => if n = k_math_bits_TrailingZeros64 then some (.ext tzX) else none
theorem v_laws_FnGirths {nro : Nat} {args : List Value} {h : VH} {r : Value × VH} (ha : args.length ≤ i_laws_FnGirths.ntmps) (hr : fbody (vcall F nro) nro i_laws_FnGirths args h = some r) : vcall F nro k_laws_FnGirths args h = some r := vcall_f (by kernel_rfl) (by kernel_rfl) ha hr
theorem v_laws_big {nro : Nat} {args : List Value} {h : VH} {r : Value × VH} (ha : args.length ≤ i_laws_big.ntmps) (hr : fbody (vcall F nro) nro i_laws_big args h = some r) : vcall F nro k_laws_big args h = some r := vcall_f (by kernel_rfl) (by kernel_rfl) ha hr
theorem v_spec_DrawCountShortest {nro : Nat} {args : List Value} {h : VH} {r : Value × VH} (ha : args.length ≤ i_spec_DrawCountShortest.ntmps) (hr : fbody (vcall F nro) nro i_spec_DrawCountShortest args h = some r) : vcall F nro k_spec_DrawCountShortest args h = some r := vcall_f (by kernel_rfl) (by kernel_rfl) ha hr
theorem v_impl_CountShortest {nro : Nat} {args : List Value} {h : VH} {r : Value × VH} (ha : args.length ≤ i_impl_CountShortest.ntmps) (hr : fbody (vcall F nro) nro i_impl_CountShortest args h = some r) : vcall F nro k_impl_CountShortest args h = some r := vcall_f (by kernel_rfl) (by kernel_rfl) ha hr
theorem v_spec_CountShortest {nro : Nat} {args : List Value} {h : VH} {r : Value × VH} (ha : args.length ≤ i_spec_CountShortest.ntmps) (hr : fbody (vcall F nro) nro i_spec_CountShortest args h = some r) : vcall F nro k_spec_CountShortest args h = some r := vcall_f (by kernel_rfl) (by kernel_rfl) ha hr
theorem v_impl_GirthOf {nro : Nat} {args : List Value} {h : VH} {r : Value × VH} (ha : args.length ≤ i_impl_GirthOf.ntmps) (hr : fbody (vcall F nro) nro i_impl_GirthOf args h = some r) : vcall F nro k_impl_GirthOf args h = some r := vcall_f (by kernel_rfl) (by kernel_rfl) ha hr
theorem v_spec_GirthOf {nro : Nat} {args : List Value} {h : VH} {r : Value × VH} (ha : args.length ≤ i_spec_GirthOf.ntmps) (hr : fbody (vcall F nro) nro i_spec_GirthOf args h = some r) : vcall F nro k_spec_GirthOf args h = some r := vcall_f (by kernel_rfl) (by kernel_rfl) ha hr
theorem v_spec_DrawShortestThrough {nro : Nat} {args : List Value} {h : VH} {r : Value × VH} (ha : args.length ≤ i_spec_DrawShortestThrough.ntmps) (hr : fbody (vcall F nro) nro i_spec_DrawShortestThrough args h = some r) : vcall F nro k_spec_DrawShortestThrough args h = some r := vcall_f (by kernel_rfl) (by kernel_rfl) ha hr
theorem v_impl_ShortestThrough {nro : Nat} {args : List Value} {h : VH} {r : Value × VH} (ha : args.length ≤ i_impl_ShortestThrough.ntmps) (hr : fbody (vcall F nro) nro i_impl_ShortestThrough args h = some r) : vcall F nro k_impl_ShortestThrough args h = some r := vcall_f (by kernel_rfl) (by kernel_rfl) ha hr
theorem v_spec_ShortestThrough {nro : Nat} {args : List Value} {h : VH} {r : Value × VH} (ha : args.length ≤ i_spec_ShortestThrough.ntmps) (hr : fbody (vcall F nro) nro i_spec_ShortestThrough args h = some r) : vcall F nro k_spec_ShortestThrough args h = some r := vcall_f (by kernel_rfl) (by kernel_rfl) ha hr
theorem v_spec_DrawGirthAt {nro : Nat} {args : List Value} {h : VH} {r : Value × VH} (ha : args.length ≤ i_spec_DrawGirthAt.ntmps) (hr : fbody (vcall F nro) nro i_spec_DrawGirthAt args h = some r) : vcall F nro k_spec_DrawGirthAt args h = some r := vcall_f (by kernel_rfl) (by kernel_rfl) ha hr
theorem v_impl_GirthAt {nro : Nat} {args : List Value} {h : VH} {r : Value × VH} (ha : args.length ≤ i_impl_GirthAt.ntmps) (hr : fbody (vcall F nro) nro i_impl_GirthAt args h = some r) : vcall F nro k_impl_GirthAt args h = some r := vcall_f (by kernel_rfl) (by kernel_rfl) ha hr
theorem v_spec_GirthAt {nro : Nat} {args : List Value} {h : VH} {r : Value × VH} (ha : args.length ≤ i_spec_GirthAt.ntmps) (hr : fbody (vcall F nro) nro i_spec_GirthAt args h = some r) : vcall F nro k_spec_GirthAt args h = some r := vcall_f (by kernel_rfl) (by kernel_rfl) ha hr
theorem v_impl_EdgesOf {nro : Nat} {args : List Value} {h : VH} {r : Value × VH} (ha : args.length ≤ i_impl_EdgesOf.ntmps) (hr : fbody (vcall F nro) nro i_impl_EdgesOf args h = some r) : vcall F nro k_impl_EdgesOf args h = some r := vcall_f (by kernel_rfl) (by kernel_rfl) ha hr
theorem v_spec_l02Draw {nro : Nat} {args : List Value} {h : VH} {r : Value × VH} (ha : args.length ≤ i_spec_l02Draw.ntmps) (hr : fbody (vcall F nro) nro i_spec_l02Draw args h = some r) : vcall F nro k_spec_l02Draw args h = some r := vcall_f (by kernel_rfl) (by kernel_rfl) ha hr
theorem v_spec_l01From {nro : Nat} {args : List Value} {h : VH} {r : Value × VH} (ha : args.length ≤ i_spec_l01From.ntmps) (hr : fbody (vcall F nro) nro i_spec_l01From args h = some r) : vcall F nro k_spec_l01From args h = some r := vcall_f (by kernel_rfl) (by kernel_rfl) ha hr
theorem v_impl_IsGraph {nro : Nat} {args : List Value} {h : VH} {r : Value × VH} (ha : args.length ≤ i_impl_IsGraph.ntmps) (hr : fbody (vcall F nro) nro i_impl_IsGraph args h = some r) : vcall F nro k_impl_IsGraph args h = some r := vcall_f (by kernel_rfl) (by kernel_rfl) ha hr
theorem v_impl_Graph_girth {nro : Nat} {args : List Value} {h : VH} {r : Value × VH} (ha : args.length ≤ i_impl_Graph_girth.ntmps) (hr : fbody (vcall F nro) nro i_impl_Graph_girth args h = some r) : vcall F nro k_impl_Graph_girth args h = some r := vcall_f (by kernel_rfl) (by kernel_rfl) ha hr
theorem v_impl_Graph_edges {nro : Nat} {args : List Value} {h : VH} {r : Value × VH} (ha : args.length ≤ i_impl_Graph_edges.ntmps) (hr : fbody (vcall F nro) nro i_impl_Graph_edges args h = some r) : vcall F nro k_impl_Graph_edges args h = some r := vcall_f (by kernel_rfl) (by kernel_rfl) ha hr
theorem v_impl_Graph_around {nro : Nat} {args : List Value} {h : VH} {r : Value × VH} (ha : args.length ≤ i_impl_Graph_around.ntmps) (hr : fbody (vcall F nro) nro i_impl_Graph_around args h = some r) : vcall F nro k_impl_Graph_around args h = some r := vcall_f (by kernel_rfl) (by kernel_rfl) ha hr
theorem v_impl_Graph_through {nro : Nat} {args : List Value} {h : VH} {r : Value × VH} (ha : args.length ≤ i_impl_Graph_through.ntmps) (hr : fbody (vcall F nro) nro i_impl_Graph_through args h = some r) : vcall F nro k_impl_Graph_through args h = some r := vcall_f (by kernel_rfl) (by kernel_rfl) ha hr
theorem v_spec_l01Is {nro : Nat} {args : List Value} {h : VH} {r : Value × VH} (ha : args.length ≤ i_spec_l01Is.ntmps) (hr : fbody (vcall F nro) nro i_spec_l01Is args h = some r) : vcall F nro k_spec_l01Is args h = some r := vcall_f (by kernel_rfl) (by kernel_rfl) ha hr
theorem v_spec_l02Girth {nro : Nat} {args : List Value} {h : VH} {r : Value × VH} (ha : args.length ≤ i_spec_l02Girth.ntmps) (hr : fbody (vcall F nro) nro i_spec_l02Girth args h = some r) : vcall F nro k_spec_l02Girth args h = some r := vcall_f (by kernel_rfl) (by kernel_rfl) ha hr
theorem v_spec_l02Around {nro : Nat} {args : List Value} {h : VH} {r : Value × VH} (ha : args.length ≤ i_spec_l02Around.ntmps) (hr : fbody (vcall F nro) nro i_spec_l02Around args h = some r) : vcall F nro k_spec_l02Around args h = some r := vcall_f (by kernel_rfl) (by kernel_rfl) ha hr
theorem v_impl_found {nro : Nat} {args : List Value} {h : VH} {r : Value × VH} (ha : args.length ≤ i_impl_found.ntmps) (hr : fbody (vcall F nro) nro i_impl_found args h = some r) : vcall F nro k_impl_found args h = some r := vcall_f (by kernel_rfl) (by kernel_rfl) ha hr
theorem v_spec_l02Pair {nro : Nat} {args : List Value} {h : VH} {r : Value × VH} (ha : args.length ≤ i_spec_l02Pair.ntmps) (hr : fbody (vcall F nro) nro i_spec_l02Pair args h = some r) : vcall F nro k_spec_l02Pair args h = some r := vcall_f (by kernel_rfl) (by kernel_rfl) ha hr
theorem v_impl_graphCode {nro : Nat} {args : List Value} {h : VH} {r : Value × VH} (ha : args.length ≤ i_impl_graphCode.ntmps) (hr : fbody (vcall F nro) nro i_impl_graphCode args h = some r) : vcall F nro k_impl_graphCode args h = some r := vcall_f (by kernel_rfl) (by kernel_rfl) ha hr
theorem v_impl_Graph_has {nro : Nat} {args : List Value} {h : VH} {r : Value × VH} (ha : args.length ≤ i_impl_Graph_has.ntmps) (hr : fbody (vcall F nro) nro i_impl_Graph_has args h = some r) : vcall F nro k_impl_Graph_has args h = some r := vcall_f (by kernel_rfl) (by kernel_rfl) ha hr
theorem v_spec_l02Code {nro : Nat} {args : List Value} {h : VH} {r : Value × VH} (ha : args.length ≤ i_spec_l02Code.ntmps) (hr : fbody (vcall F nro) nro i_spec_l02Code args h = some r) : vcall F nro k_spec_l02Code args h = some r := vcall_f (by kernel_rfl) (by kernel_rfl) ha hr
theorem v_spec_l02At {nro : Nat} {args : List Value} {h : VH} {r : Value × VH} (ha : args.length ≤ i_spec_l02At.ntmps) (hr : fbody (vcall F nro) nro i_spec_l02At args h = some r) : vcall F nro k_spec_l02At args h = some r := vcall_f (by kernel_rfl) (by kernel_rfl) ha hr
theorem v_impl_Graph_girthAt {nro : Nat} {args : List Value} {h : VH} {r : Value × VH} (ha : args.length ≤ i_impl_Graph_girthAt.ntmps) (hr : fbody (vcall F nro) nro i_impl_Graph_girthAt args h = some r) : vcall F nro k_impl_Graph_girthAt args h = some r := vcall_f (by kernel_rfl) (by kernel_rfl) ha hr
theorem v_spec_l01Next {nro : Nat} {args : List Value} {h : VH} {r : Value × VH} (ha : args.length ≤ i_spec_l01Next.ntmps) (hr : fbody (vcall F nro) nro i_spec_l01Next args h = some r) : vcall F nro k_spec_l01Next args h = some r := vcall_f (by kernel_rfl) (by kernel_rfl) ha hr
theorem v_spec_l01Pick {nro : Nat} {args : List Value} {h : VH} {r : Value × VH} (ha : args.length ≤ i_spec_l01Pick.ntmps) (hr : fbody (vcall F nro) nro i_spec_l01Pick args h = some r) : vcall F nro k_spec_l01Pick args h = some r := vcall_f (by kernel_rfl) (by kernel_rfl) ha hr
theorem v_spec_l01In {nro : Nat} {args : List Value} {h : VH} {r : Value × VH} (ha : args.length ≤ i_spec_l01In.ntmps) (hr : fbody (vcall F nro) nro i_spec_l01In args h = some r) : vcall F nro k_spec_l01In args h = some r := vcall_f (by kernel_rfl) (by kernel_rfl) ha hr
theorem v_spec_l01Empty {nro : Nat} {args : List Value} {h : VH} {r : Value × VH} (ha : args.length ≤ i_spec_l01Empty.ntmps) (hr : fbody (vcall F nro) nro i_spec_l01Empty args h = some r) : vcall F nro k_spec_l01Empty args h = some r := vcall_f (by kernel_rfl) (by kernel_rfl) ha hr
theorem v_impl_own {nro : Nat} {args : List Value} {h : VH} {r : Value × VH} (ha : args.length ≤ i_impl_own.ntmps) (hr : fbody (vcall F nro) nro i_impl_own args h = some r) : vcall F nro k_impl_own args h = some r := vcall_f (by kernel_rfl) (by kernel_rfl) ha hr
theorem v_spec_l01DrawOf {nro : Nat} {args : List Value} {h : VH} {r : Value × VH} (ha : args.length ≤ i_spec_l01DrawOf.ntmps) (hr : fbody (vcall F nro) nro i_spec_l01DrawOf args h = some r) : vcall F nro k_spec_l01DrawOf args h = some r := vcall_f (by kernel_rfl) (by kernel_rfl) ha hr
theorem v_spec_l01Put {nro : Nat} {args : List Value} {h : VH} {r : Value × VH} (ha : args.length ≤ i_spec_l01Put.ntmps) (hr : fbody (vcall F nro) nro i_spec_l01Put args h = some r) : vcall F nro k_spec_l01Put args h = some r := vcall_f (by kernel_rfl) (by kernel_rfl) ha hr
theorem v_spec_l01Bad {nro : Nat} {args : List Value} {h : VH} {r : Value × VH} (ha : args.length ≤ i_spec_l01Bad.ntmps) (hr : fbody (vcall F nro) nro i_spec_l01Bad args h = some r) : vcall F nro k_spec_l01Bad args h = some r := vcall_f (by kernel_rfl) (by kernel_rfl) ha hr
theorem v_spec_l01Neighbours {nro : Nat} {args : List Value} {h : VH} {r : Value × VH} (ha : args.length ≤ i_spec_l01Neighbours.ntmps) (hr : fbody (vcall F nro) nro i_spec_l01Neighbours args h = some r) : vcall F nro k_spec_l01Neighbours args h = some r := vcall_f (by kernel_rfl) (by kernel_rfl) ha hr
theorem v_spec_l01DrawRegular {nro : Nat} {args : List Value} {h : VH} {r : Value × VH} (ha : args.length ≤ i_spec_l01DrawRegular.ntmps) (hr : fbody (vcall F nro) nro i_spec_l01DrawRegular args h = some r) : vcall F nro k_spec_l01DrawRegular args h = some r := vcall_f (by kernel_rfl) (by kernel_rfl) ha hr
theorem v_spec_l01Spoil {nro : Nat} {args : List Value} {h : VH} {r : Value × VH} (ha : args.length ≤ i_spec_l01Spoil.ntmps) (hr : fbody (vcall F nro) nro i_spec_l01Spoil args h = some r) : vcall F nro k_spec_l01Spoil args h = some r := vcall_f (by kernel_rfl) (by kernel_rfl) ha hr
theorem v_impl_list {nro : Nat} {args : List Value} {h : VH} {r : Value × VH} (ha : args.length ≤ i_impl_list.ntmps) (hr : fbody (vcall F nro) nro i_impl_list args h = some r) : vcall F nro k_impl_list args h = some r := vcall_f (by kernel_rfl) (by kernel_rfl) ha hr
theorem v_impl_Graph_take {nro : Nat} {args : List Value} {h : VH} {r : Value × VH} (ha : args.length ≤ i_impl_Graph_take.ntmps) (hr : fbody (vcall F nro) nro i_impl_Graph_take args h = some r) : vcall F nro k_impl_Graph_take args h = some r := vcall_f (by kernel_rfl) (by kernel_rfl) ha hr
theorem v_impl_Graph_distances {nro : Nat} {args : List Value} {h : VH} {r : Value × VH} (ha : args.length ≤ i_impl_Graph_distances.ntmps) (hr : fbody (vcall F nro) nro i_impl_Graph_distances args h = some r) : vcall F nro k_impl_Graph_distances args h = some r := vcall_f (by kernel_rfl) (by kernel_rfl) ha hr
theorem v_impl_Graph_walks {nro : Nat} {args : List Value} {h : VH} {r : Value × VH} (ha : args.length ≤ i_impl_Graph_walks.ntmps) (hr : fbody (vcall F nro) nro i_impl_Graph_walks args h = some r) : vcall F nro k_impl_Graph_walks args h = some r := vcall_f (by kernel_rfl) (by kernel_rfl) ha hr
theorem v_spec_l01Has {nro : Nat} {args : List Value} {h : VH} {r : Value × VH} (ha : args.length ≤ i_spec_l01Has.ntmps) (hr : fbody (vcall F nro) nro i_spec_l01Has args h = some r) : vcall F nro k_spec_l01Has args h = some r := vcall_f (by kernel_rfl) (by kernel_rfl) ha hr
theorem v_spec_l02From {nro : Nat} {args : List Value} {h : VH} {r : Value × VH} (ha : args.length ≤ i_spec_l02From.ntmps) (hr : fbody (vcall F nro) nro i_spec_l02From args h = some r) : vcall F nro k_spec_l02From args h = some r := vcall_f (by kernel_rfl) (by kernel_rfl) ha hr
theorem v_spec_l01Draw {nro : Nat} {args : List Value} {h : VH} {r : Value × VH} (ha : args.length ≤ i_spec_l01Draw.ntmps) (hr : fbody (vcall F nro) nro i_spec_l01Draw args h = some r) : vcall F nro k_spec_l01Draw args h = some r := vcall_f (by kernel_rfl) (by kernel_rfl) ha hr
theorem v_slices_Clone_int64_int64 {nro : Nat} {args : List Value} {h : VH} {r : Value × VH} (ha : args.length ≤ i_slices_Clone_int64_int64.ntmps) (hr : fbody (vcall F nro) nro i_slices_Clone_int64_int64 args h = some r) : vcall F nro k_slices_Clone_int64_int64 args h = some r := vcall_f (by kernel_rfl) (by kernel_rfl) ha hr
theorem v_spec_l01Own {nro : Nat} {args : List Value} {h : VH} {r : Value × VH} (ha : args.length ≤ i_spec_l01Own.ntmps) (hr : fbody (vcall F nro) nro i_spec_l01Own args h = some r) : vcall F nro k_spec_l01Own args h = some r := vcall_f (by kernel_rfl) (by kernel_rfl) ha hr
theorem v_spec_l01Names {nro : Nat} {args : List Value} {h : VH} {r : Value × VH} (ha : args.length ≤ i_spec_l01Names.ntmps) (hr : fbody (vcall F nro) nro i_spec_l01Names args h = some r) : vcall F nro k_spec_l01Names args h = some r := vcall_f (by kernel_rfl) (by kernel_rfl) ha hr
theorem v_spec_l01Named {nro : Nat} {args : List Value} {h : VH} {r : Value × VH} (ha : args.length ≤ i_spec_l01Named.ntmps) (hr : fbody (vcall F nro) nro i_spec_l01Named args h = some r) : vcall F nro k_spec_l01Named args h = some r := vcall_f (by kernel_rfl) (by kernel_rfl) ha hr
theorem v_spec_l01Jumps {nro : Nat} {args : List Value} {h : VH} {r : Value × VH} (ha : args.length ≤ i_spec_l01Jumps.ntmps) (hr : fbody (vcall F nro) nro i_spec_l01Jumps args h = some r) : vcall F nro k_spec_l01Jumps args h = some r := vcall_f (by kernel_rfl) (by kernel_rfl) ha hr
theorem v_spec_l01Renamed {nro : Nat} {args : List Value} {h : VH} {r : Value × VH} (ha : args.length ≤ i_spec_l01Renamed.ntmps) (hr : fbody (vcall F nro) nro i_spec_l01Renamed args h = some r) : vcall F nro k_spec_l01Renamed args h = some r := vcall_f (by kernel_rfl) (by kernel_rfl) ha hr
theorem v_spec_l01DrawOrder {nro : Nat} {args : List Value} {h : VH} {r : Value × VH} (ha : args.length ≤ i_spec_l01DrawOrder.ntmps) (hr : fbody (vcall F nro) nro i_spec_l01DrawOrder args h = some r) : vcall F nro k_spec_l01DrawOrder args h = some r := vcall_f (by kernel_rfl) (by kernel_rfl) ha hr
theorem v_slices_Repeat_int64_int64 {nro : Nat} {args : List Value} {h : VH} {r : Value × VH} (ha : args.length ≤ i_slices_Repeat_int64_int64.ntmps) (hr : fbody (vcall F nro) nro i_slices_Repeat_int64_int64 args h = some r) : vcall F nro k_slices_Repeat_int64_int64 args h = some r := vcall_f (by kernel_rfl) (by kernel_rfl) ha hr
theorem v_spec_l01Complement {nro : Nat} {args : List Value} {h : VH} {r : Value × VH} (ha : args.length ≤ i_spec_l01Complement.ntmps) (hr : fbody (vcall F nro) nro i_spec_l01Complement args h = some r) : vcall F nro k_spec_l01Complement args h = some r := vcall_f (by kernel_rfl) (by kernel_rfl) ha hr
theorem v_spec_l01Beside {nro : Nat} {args : List Value} {h : VH} {r : Value × VH} (ha : args.length ≤ i_spec_l01Beside.ntmps) (hr : fbody (vcall F nro) nro i_spec_l01Beside args h = some r) : vcall F nro k_spec_l01Beside args h = some r := vcall_f (by kernel_rfl) (by kernel_rfl) ha hr
theorem v_math_bits_Mul {nro : Nat} {args : List Value} {h : VH} {r : Value × VH} (ha : args.length ≤ i_math_bits_Mul.ntmps) (hr : fbody (vcall F nro) nro i_math_bits_Mul args h = some r) : vcall F nro k_math_bits_Mul args h = some r := vcall_f (by kernel_rfl) (by kernel_rfl) ha hr
theorem v_math_bits_Mul32 {nro : Nat} {args : List Value} {h : VH} {r : Value × VH} (ha : args.length ≤ i_math_bits_Mul32.ntmps) (hr : fbody (vcall F nro) nro i_math_bits_Mul32 args h = some r) : vcall F nro k_math_bits_Mul32 args h = some r := vcall_f (by kernel_rfl) (by kernel_rfl) ha hr
theorem v_math_bits_Mul64 {nro : Nat} {args : List Value} {h : VH} {r : Value × VH} (ha : args.length ≤ i_math_bits_Mul64.ntmps) (hr : fbody (vcall F nro) nro i_math_bits_Mul64 args h = some r) : vcall F nro k_math_bits_Mul64 args h = some r := vcall_f (by kernel_rfl) (by kernel_rfl) ha hr

end Go.Proofs.YtghondlbkjponaaDoor.Zv

