/- Part C of the proof: ZwIr1. Conditions: none. -/
import Derived.Test.YtghondlbkjponaaDoorProg
import Derived.Test.YtghondlbkjponaaDoorZpB
set_option linter.unusedSimpArgs false
set_option linter.unusedVariables false
/- The functions' intermediate form. -/
namespace Go.Proofs.YtghondlbkjponaaDoor.Zv
open Go
def k_math_bits_TrailingZeros64 : Nat := 167
def k_laws_FnGreedy : Nat := 4
def k_laws_big : Nat := 7
def k_impl_GirthOf : Nat := 11
def k_spec_DrawGreedyGraph : Nat := 20
def k_impl_GreedyGraph : Nat := 21
def k_spec_GreedyGraph : Nat := 22
def k_laws_graphs5 : Nat := 23
def k_impl_IsFull : Nat := 24
def k_impl_FitsBoth : Nat := 25
def k_spec_DrawFillGraph : Nat := 26
def k_impl_FillGraph : Nat := 27
def k_spec_FillGraph : Nat := 28
def k_impl_EdgesLeft : Nat := 29
def k_spec_DrawPairsToJoin : Nat := 30
def k_impl_PairsToJoin : Nat := 31
def k_spec_PairsToJoin : Nat := 32
def k_laws_rows5 : Nat := 33
def k_impl_PutEdge : Nat := 34
def k_spec_DrawFitsBoth : Nat := 35
def k_spec_FitsBoth : Nat := 36
def k_spec_DrawIsFull : Nat := 37
def k_spec_IsFull : Nat := 38
def k_spec_DrawEdgesLeft : Nat := 39
def k_spec_EdgesLeft : Nat := 40
def k_laws_likeInts : Nat := 62
def k_spec_l01From : Nat := 69
def k_impl_IsGraph : Nat := 70
def k_impl_Graph_girth : Nat := 71
def k_impl_Graph_around : Nat := 73
def k_spec_l01Is : Nat := 75
def k_impl_found : Nat := 78
def k_impl_graphCode : Nat := 80
def k_impl_Graph_has : Nat := 81
def k_impl_Graph_girthAt : Nat := 84
def k_spec_l07DrawNumbers : Nat := 85
def k_spec_l01Next : Nat := 86
def k_spec_l01Pick : Nat := 87
def k_impl_isBoth : Nat := 88
def k_impl_filled : Nat := 89
def k_impl_empty : Nat := 90
def k_spec_l01In : Nat := 91
def k_spec_l07Numbers : Nat := 92
def k_spec_l07Fill : Nat := 93
def k_spec_l01Empty : Nat := 94
def k_impl_fitCode : Nat := 95
def k_impl_Graph_pairs : Nat := 96
def k_impl_bothCode : Nat := 97
def k_impl_Graph_fits : Nat := 98
def k_spec_l07With : Nat := 99
def k_spec_l07Given : Nat := 100
def k_impl_Graph_degrees : Nat := 101
def k_spec_l07May : Nat := 102
def k_impl_pairCode : Nat := 103
def k_impl_own : Nat := 104
def k_impl_Graph_put : Nat := 105
def k_spec_l07Fits : Nat := 106
def k_spec_l01Degree : Nat := 107
def k_impl_size : Nat := 118
def k_impl_Graph_degree : Nat := 119
def k_spec_l01DrawOf : Nat := 122
def k_spec_l01Edges : Nat := 123
def k_spec_l01Put : Nat := 124
def k_spec_l01Cut : Nat := 125
def k_spec_l01Bad : Nat := 126
def k_spec_l01DrawRegular : Nat := 133
def k_impl_list : Nat := 135
def k_impl_Graph_take : Nat := 136
def k_impl_Graph_distances : Nat := 137
def k_spec_l01Has : Nat := 139
def k_impl_Graph_mayJoin : Nat := 141
def k_spec_l01Copy : Nat := 142
def k_slices_Max_int64_int64 : Nat := 143
def k_spec_l01Draw : Nat := 144
def k_spec_l07Far : Nat := 145
def k_slices_Clone_int64_int64 : Nat := 146
def k_spec_l01Bits : Nat := 147
def k_math_bits_OnesCount64 : Nat := 154
def k_spec_l01Join : Nat := 157
def k_spec_l01Own : Nat := 158
def k_spec_l01Names : Nat := 162
def k_spec_l01Named : Nat := 163
def k_spec_l01Jumps : Nat := 164
def k_spec_l01Renamed : Nat := 165
def k_spec_l01DrawOrder : Nat := 166
def k_slices_Repeat_int64_int64 : Nat := 168
def k_spec_l01Complement : Nat := 180
def k_spec_l01Beside : Nat := 181
def k_math_bits_Mul : Nat := 182
def k_math_bits_Mul32 : Nat := 190
def k_math_bits_Mul64 : Nat := 191
/-- loop.example/g01331/laws.FnGreedy -/
def i_laws_FnGreedy_B1 : FC :=
  .seq (.seq (.ops [
    ⟨some 208, .mv (.tmp 29), none, 0⟩,
    ⟨some 209, .fld 1 (.tmp 16), none, 0⟩,
    ⟨some 210, .load false 1 (.tmp 209), none, 0⟩,
    ⟨some 211, .len (.tmp 210), none, 0⟩,
    ⟨some 212, .bin .lss (.tmp 208) (.tmp 211), none, 0⟩]) <|
  .cond (.tmp 212)
    (.skip)
    (.keep [0] <|
    .exit 0)) <|
  .seq (.block 1 <|
  .seq (.dops [
    ⟨some 215, .fld 1 (.tmp 19), none, 0⟩,
    ⟨some 216, .load false 1 (.tmp 215), none, 0⟩,
    ⟨some 217, .mv (.tmp 29), none, 0⟩,
    ⟨some 218, .idx 1 (.tmp 216) (.tmp 217), none, 0⟩,
    ⟨some 219, .load false 1 (.tmp 218), none, 0⟩,
    ⟨some 220, .fld 1 (.tmp 16), none, 0⟩,
    ⟨some 221, .load false 1 (.tmp 220), none, 0⟩,
    ⟨some 222, .mv (.tmp 29), none, 0⟩,
    ⟨some 223, .idx 1 (.tmp 221) (.tmp 222), none, 0⟩,
    ⟨some 224, .load false 1 (.tmp 223), none, 0⟩,
    ⟨some 225, .bin .and (.tmp 219) (.tmp 224), none, 0⟩,
    ⟨some 226, .fld 1 (.tmp 16), none, 0⟩,
    ⟨some 227, .load false 1 (.tmp 226), none, 0⟩,
    ⟨some 228, .mv (.tmp 29), none, 0⟩,
    ⟨some 229, .idx 1 (.tmp 227) (.tmp 228), none, 0⟩,
    ⟨some 230, .load false 1 (.tmp 229), none, 0⟩,
    ⟨some 231, .bin .neq (.tmp 225) (.tmp 230), none, 0⟩]) <|
  .cond (.tmp 231)
    (.seq (.ops [
      ⟨some 2, .mv (.const (.bool false)), none, 0⟩]) <|
    .keep [2] <|
    .ret)
    (.skip)) <|
  .ops [
    ⟨some 213, .mv (.tmp 29), none, 0⟩,
    ⟨some 214, .bin .add (.tmp 213) (.const (.int .i64 1)), none, 0⟩,
    ⟨some 29, .mv (.tmp 214), none, 0⟩]
def i_laws_FnGreedy_B2 : FC :=
  .seq (.seq (.ops [
    ⟨some 279, .mv (.tmp 39), none, 0⟩,
    ⟨some 280, .mv (.tmp 33), none, 0⟩,
    ⟨some 281, .len (.tmp 280), none, 0⟩,
    ⟨some 282, .bin .lss (.tmp 279) (.tmp 281), none, 0⟩,
    ⟨some 283, .mv (.tmp 282), none, 0⟩,
    ⟨some 284, .mv (.tmp 39), some (283, true), 0⟩,
    ⟨some 285, .bin .lss (.tmp 284) (.const (.int .i64 8)), some (283, true), 0⟩,
    ⟨some 286, .pick (.tmp 283) (.tmp 285) (.const (.bool false)), none, 0⟩]) <|
  .cond (.tmp 286)
    (.skip)
    (.keep [0] <|
    .exit 2)) <|
  .seq (.block 3 <|
  .seq (.dops [
    ⟨some 290, .load true 2 (.tmp 30), none, 0⟩,
    ⟨some 291, .mv (.tmp 33), none, 0⟩,
    ⟨some 292, .mv (.tmp 39), none, 0⟩,
    ⟨some 293, .idx 1 (.tmp 291) (.tmp 292), none, 0⟩,
    ⟨some 294, .load false 1 (.tmp 293), none, 0⟩,
    ⟨some 295, .idx 1 (.tmp 294) (.const (.int .i64 0)), none, 0⟩,
    ⟨some 296, .load false 1 (.tmp 295), none, 0⟩,
    ⟨some 297, .mv (.tmp 33), none, 0⟩,
    ⟨some 298, .mv (.tmp 39), none, 0⟩,
    ⟨some 299, .idx 1 (.tmp 297) (.tmp 298), none, 0⟩,
    ⟨some 300, .load false 1 (.tmp 299), none, 0⟩,
    ⟨some 301, .idx 1 (.tmp 300) (.const (.int .i64 1)), none, 0⟩,
    ⟨some 302, .load false 1 (.tmp 301), none, 0⟩,
    ⟨some 303, .call k_impl_PutEdge [(.tmp 290), (.tmp 296), (.tmp 302)], none, 0⟩,
    ⟨some 289, .mv (.tmp 303), none, 0⟩,
    ⟨some 304, .ext (.tmp 289) 0, none, 0⟩,
    ⟨some 40, .alloc [.int .i64 0, .slice none 0 0], none, 1⟩,
    ⟨none, .store 2 (.tmp 40) (.tmp 304), none, 1⟩,
    ⟨some 305, .ext (.tmp 289) 1, none, 2⟩,
    ⟨some 41, .mv (.tmp 305), none, 1⟩]) <|
  .seq (.ops [
    ⟨some 307, .load true 2 (.tmp 40), none, 0⟩,
    ⟨some 308, .mv (.tmp 31), none, 0⟩,
    ⟨some 309, .mv (.tmp 32), none, 0⟩,
    ⟨some 310, .call k_impl_FitsBoth [(.tmp 307), (.tmp 308), (.tmp 309)], none, 0⟩,
    ⟨some 306, .mv (.tmp 310), none, 0⟩,
    ⟨some 311, .ext (.tmp 306) 0, none, 0⟩,
    ⟨some 312, .ext (.tmp 306) 1, none, 0⟩,
    ⟨some 42, .mv (.tmp 311), none, 0⟩,
    ⟨some 43, .mv (.tmp 312), none, 0⟩]) <|
  .seq (.ops [
    ⟨some 313, .mv (.tmp 41), none, 0⟩,
    ⟨some 314, .bin .neq (.tmp 313) (.const (.int .i64 0)), none, 0⟩,
    ⟨some 315, .mv (.tmp 314), none, 0⟩,
    ⟨some 316, .mv (.tmp 43), some (315, false), 0⟩,
    ⟨some 317, .bin .neq (.tmp 316) (.const (.int .i64 0)), some (315, false), 0⟩,
    ⟨some 318, .pick (.tmp 315) (.const (.bool true)) (.tmp 317), none, 0⟩,
    ⟨some 319, .mv (.tmp 318), none, 0⟩,
    ⟨some 320, .mv (.tmp 42), some (319, false), 0⟩,
    ⟨some 321, .un .not (.tmp 320), some (319, false), 0⟩,
    ⟨some 322, .pick (.tmp 319) (.const (.bool true)) (.tmp 321), none, 0⟩]) <|
  .cond (.tmp 322)
    (.seq (.ops [
      ⟨some 2, .mv (.const (.bool false)), none, 0⟩]) <|
    .keep [2] <|
    .ret)
    (.skip)) <|
  .ops [
    ⟨some 287, .mv (.tmp 39), none, 0⟩,
    ⟨some 288, .bin .add (.tmp 287) (.const (.int .i64 1)), none, 0⟩,
    ⟨some 39, .mv (.tmp 288), none, 0⟩]
def i_laws_FnGreedy : FF := ⟨408, [.tmp 2],
  .seq (.ops [
    ⟨some 2, .mv (.const (.bool false)), none, 0⟩]) <|
  .seq (.seq (.ops [
    ⟨some 64, .mv (.tmp 0), none, 0⟩,
    ⟨some 65, .call k_laws_big [(.tmp 64)], none, 0⟩]) <|
  .cond (.tmp 65)
    (.seq (.ops [
      ⟨some 2, .mv (.const (.bool true)), none, 0⟩]) <|
    .keep [2] <|
    .ret)
    (.skip)) <|
  .seq (.ops [
    ⟨some 67, .mv (.tmp 0), none, 0⟩,
    ⟨some 68, .call k_spec_DrawGreedyGraph [(.tmp 67)], none, 0⟩,
    ⟨some 66, .mv (.tmp 68), none, 0⟩,
    ⟨some 69, .ext (.tmp 66) 0, none, 0⟩,
    ⟨some 70, .ext (.tmp 66) 1, none, 0⟩,
    ⟨some 71, .ext (.tmp 66) 2, none, 0⟩,
    ⟨some 3, .mv (.tmp 69), none, 0⟩,
    ⟨some 4, .mv (.tmp 70), none, 0⟩,
    ⟨some 5, .mv (.tmp 71), none, 0⟩]) <|
  .seq (.ops [
    ⟨some 73, .mv (.tmp 3), none, 0⟩,
    ⟨some 74, .mv (.tmp 4), none, 0⟩,
    ⟨some 75, .mv (.tmp 5), none, 0⟩,
    ⟨some 76, .call k_impl_GreedyGraph [(.tmp 73), (.tmp 74), (.tmp 75)], none, 0⟩,
    ⟨some 72, .mv (.tmp 76), none, 0⟩,
    ⟨some 77, .ext (.tmp 72) 0, none, 0⟩,
    ⟨some 78, .ext (.tmp 72) 1, none, 0⟩,
    ⟨some 6, .alloc [.int .i64 0, .slice none 0 0], none, 0⟩,
    ⟨none, .store 2 (.tmp 6) (.tmp 77), none, 0⟩,
    ⟨some 7, .mv (.tmp 78), none, 0⟩]) <|
  .seq (.ops [
    ⟨some 80, .mv (.tmp 3), none, 0⟩,
    ⟨some 81, .mv (.tmp 4), none, 0⟩,
    ⟨some 82, .mv (.tmp 5), none, 0⟩,
    ⟨some 83, .call k_spec_GreedyGraph [(.tmp 80), (.tmp 81), (.tmp 82)], none, 0⟩,
    ⟨some 79, .mv (.tmp 83), none, 0⟩,
    ⟨some 84, .ext (.tmp 79) 0, none, 0⟩,
    ⟨some 85, .ext (.tmp 79) 1, none, 0⟩,
    ⟨some 8, .alloc [.int .i64 0, .slice none 0 0], none, 0⟩,
    ⟨none, .store 2 (.tmp 8) (.tmp 84), none, 0⟩,
    ⟨some 9, .mv (.tmp 85), none, 0⟩]) <|
  .seq (.seq (.ops [
    ⟨some 86, .mv (.tmp 7), none, 0⟩,
    ⟨some 87, .mv (.tmp 9), none, 0⟩,
    ⟨some 88, .bin .neq (.tmp 86) (.tmp 87), none, 0⟩,
    ⟨some 89, .mv (.tmp 88), none, 0⟩,
    ⟨some 90, .load true 2 (.tmp 6), some (89, false), 0⟩,
    ⟨some 91, .load true 2 (.tmp 8), some (89, false), 0⟩,
    ⟨some 92, .call k_laws_graphs5 [(.tmp 90), (.tmp 91)], some (89, false), 0⟩,
    ⟨some 93, .un .not (.tmp 92), some (89, false), 0⟩,
    ⟨some 94, .pick (.tmp 89) (.const (.bool true)) (.tmp 93), none, 0⟩]) <|
  .cond (.tmp 94)
    (.seq (.ops [
      ⟨some 2, .mv (.const (.bool false)), none, 0⟩]) <|
    .keep [2] <|
    .ret)
    (.skip)) <|
  .seq (.seq (.ops [
    ⟨some 95, .mv (.tmp 7), none, 0⟩,
    ⟨some 96, .bin .eql (.tmp 95) (.const (.int .i64 0)), none, 0⟩]) <|
  .cond (.tmp 96)
    (.seq (.ops [
      ⟨some 98, .load true 2 (.tmp 6), none, 0⟩,
      ⟨some 99, .mv (.tmp 4), none, 0⟩,
      ⟨some 100, .mv (.tmp 5), none, 0⟩,
      ⟨some 101, .call k_impl_IsFull [(.tmp 98), (.tmp 99), (.tmp 100)], none, 0⟩,
      ⟨some 97, .mv (.tmp 101), none, 0⟩,
      ⟨some 102, .ext (.tmp 97) 0, none, 0⟩,
      ⟨some 103, .ext (.tmp 97) 1, none, 0⟩,
      ⟨some 10, .mv (.tmp 102), none, 0⟩,
      ⟨some 11, .mv (.tmp 103), none, 0⟩]) <|
    .seq (.ops [
      ⟨some 105, .load true 2 (.tmp 6), none, 0⟩,
      ⟨some 106, .mv (.tmp 4), none, 0⟩,
      ⟨some 107, .mv (.tmp 5), none, 0⟩,
      ⟨some 108, .call k_impl_FitsBoth [(.tmp 105), (.tmp 106), (.tmp 107)], none, 0⟩,
      ⟨some 104, .mv (.tmp 108), none, 0⟩,
      ⟨some 109, .ext (.tmp 104) 0, none, 0⟩,
      ⟨some 110, .ext (.tmp 104) 1, none, 0⟩,
      ⟨some 12, .mv (.tmp 109), none, 0⟩,
      ⟨some 13, .mv (.tmp 110), none, 0⟩]) <|
    .seq (.ops [
      ⟨some 112, .load true 2 (.tmp 6), none, 0⟩,
      ⟨some 113, .call k_impl_GirthOf [(.tmp 112)], none, 0⟩,
      ⟨some 111, .mv (.tmp 113), none, 0⟩,
      ⟨some 114, .ext (.tmp 111) 0, none, 0⟩,
      ⟨some 115, .ext (.tmp 111) 1, none, 0⟩,
      ⟨some 14, .mv (.tmp 114), none, 0⟩,
      ⟨some 15, .mv (.tmp 115), none, 0⟩]) <|
    .seq (.ops [
      ⟨some 116, .mv (.tmp 11), none, 0⟩,
      ⟨some 117, .bin .neq (.tmp 116) (.const (.int .i64 0)), none, 0⟩,
      ⟨some 118, .mv (.tmp 117), none, 0⟩,
      ⟨some 119, .mv (.tmp 13), some (118, false), 0⟩,
      ⟨some 120, .bin .neq (.tmp 119) (.const (.int .i64 0)), some (118, false), 0⟩,
      ⟨some 121, .pick (.tmp 118) (.const (.bool true)) (.tmp 120), none, 0⟩,
      ⟨some 122, .mv (.tmp 121), none, 0⟩,
      ⟨some 123, .mv (.tmp 10), some (122, false), 0⟩,
      ⟨some 124, .un .not (.tmp 123), some (122, false), 0⟩,
      ⟨some 125, .pick (.tmp 122) (.const (.bool true)) (.tmp 124), none, 0⟩,
      ⟨some 126, .mv (.tmp 125), none, 0⟩,
      ⟨some 127, .mv (.tmp 12), some (126, false), 0⟩,
      ⟨some 128, .un .not (.tmp 127), some (126, false), 0⟩,
      ⟨some 129, .pick (.tmp 126) (.const (.bool true)) (.tmp 128), none, 0⟩,
      ⟨some 130, .mv (.tmp 129), none, 0⟩,
      ⟨some 131, .mv (.tmp 15), some (130, false), 0⟩,
      ⟨some 132, .bin .eql (.tmp 131) (.const (.int .i64 0)), some (130, false), 0⟩,
      ⟨some 133, .mv (.tmp 132), some (130, false), 0⟩,
      ⟨some 134, .mv (.tmp 14), some (133, true), 0⟩,
      ⟨some 135, .mv (.tmp 5), some (133, true), 0⟩,
      ⟨some 136, .bin .lss (.tmp 134) (.tmp 135), some (133, true), 0⟩,
      ⟨some 137, .pick (.tmp 133) (.tmp 136) (.const (.bool false)), some (130, false), 0⟩,
      ⟨some 138, .pick (.tmp 130) (.const (.bool true)) (.tmp 137), none, 0⟩]) <|
    .cond (.tmp 138)
      (.seq (.ops [
        ⟨some 2, .mv (.const (.bool false)), none, 0⟩]) <|
      .keep [2] <|
      .ret)
      (.skip))
    (.skip)) <|
  .seq (.ops [
    ⟨some 140, .mv (.tmp 0), none, 0⟩,
    ⟨some 141, .call k_spec_DrawFillGraph [(.tmp 140)], none, 0⟩,
    ⟨some 139, .mv (.tmp 141), none, 0⟩,
    ⟨some 142, .ext (.tmp 139) 0, none, 0⟩,
    ⟨some 143, .ext (.tmp 139) 1, none, 0⟩,
    ⟨some 144, .ext (.tmp 139) 2, none, 0⟩,
    ⟨some 16, .alloc [.int .i64 0, .slice none 0 0], none, 0⟩,
    ⟨none, .store 2 (.tmp 16) (.tmp 142), none, 0⟩,
    ⟨some 17, .mv (.tmp 143), none, 0⟩,
    ⟨some 18, .mv (.tmp 144), none, 0⟩]) <|
  .seq (.ops [
    ⟨some 146, .load true 2 (.tmp 16), none, 0⟩,
    ⟨some 147, .mv (.tmp 17), none, 0⟩,
    ⟨some 148, .mv (.tmp 18), none, 0⟩,
    ⟨some 149, .call k_impl_FillGraph [(.tmp 146), (.tmp 147), (.tmp 148)], none, 0⟩,
    ⟨some 145, .mv (.tmp 149), none, 0⟩,
    ⟨some 150, .ext (.tmp 145) 0, none, 0⟩,
    ⟨some 151, .ext (.tmp 145) 1, none, 0⟩,
    ⟨some 19, .alloc [.int .i64 0, .slice none 0 0], none, 0⟩,
    ⟨none, .store 2 (.tmp 19) (.tmp 150), none, 0⟩,
    ⟨some 20, .mv (.tmp 151), none, 0⟩]) <|
  .seq (.ops [
    ⟨some 153, .load true 2 (.tmp 16), none, 0⟩,
    ⟨some 154, .mv (.tmp 17), none, 0⟩,
    ⟨some 155, .mv (.tmp 18), none, 0⟩,
    ⟨some 156, .call k_spec_FillGraph [(.tmp 153), (.tmp 154), (.tmp 155)], none, 0⟩,
    ⟨some 152, .mv (.tmp 156), none, 0⟩,
    ⟨some 157, .ext (.tmp 152) 0, none, 0⟩,
    ⟨some 158, .ext (.tmp 152) 1, none, 0⟩,
    ⟨some 21, .alloc [.int .i64 0, .slice none 0 0], none, 0⟩,
    ⟨none, .store 2 (.tmp 21) (.tmp 157), none, 0⟩,
    ⟨some 22, .mv (.tmp 158), none, 0⟩]) <|
  .seq (.seq (.ops [
    ⟨some 159, .mv (.tmp 20), none, 0⟩,
    ⟨some 160, .mv (.tmp 22), none, 0⟩,
    ⟨some 161, .bin .neq (.tmp 159) (.tmp 160), none, 0⟩,
    ⟨some 162, .mv (.tmp 161), none, 0⟩,
    ⟨some 163, .load true 2 (.tmp 19), some (162, false), 0⟩,
    ⟨some 164, .load true 2 (.tmp 21), some (162, false), 0⟩,
    ⟨some 165, .call k_laws_graphs5 [(.tmp 163), (.tmp 164)], some (162, false), 0⟩,
    ⟨some 166, .un .not (.tmp 165), some (162, false), 0⟩,
    ⟨some 167, .pick (.tmp 162) (.const (.bool true)) (.tmp 166), none, 0⟩]) <|
  .cond (.tmp 167)
    (.seq (.ops [
      ⟨some 2, .mv (.const (.bool false)), none, 0⟩]) <|
    .keep [2] <|
    .ret)
    (.skip)) <|
  .seq (.seq (.ops [
    ⟨some 168, .mv (.tmp 20), none, 0⟩,
    ⟨some 169, .bin .eql (.tmp 168) (.const (.int .i64 0)), none, 0⟩]) <|
  .cond (.tmp 169)
    (.seq (.ops [
      ⟨some 171, .load true 2 (.tmp 19), none, 0⟩,
      ⟨some 172, .mv (.tmp 17), none, 0⟩,
      ⟨some 173, .mv (.tmp 18), none, 0⟩,
      ⟨some 174, .call k_impl_IsFull [(.tmp 171), (.tmp 172), (.tmp 173)], none, 0⟩,
      ⟨some 170, .mv (.tmp 174), none, 0⟩,
      ⟨some 175, .ext (.tmp 170) 0, none, 0⟩,
      ⟨some 176, .ext (.tmp 170) 1, none, 0⟩,
      ⟨some 23, .mv (.tmp 175), none, 0⟩,
      ⟨some 24, .mv (.tmp 176), none, 0⟩]) <|
    .seq (.ops [
      ⟨some 178, .load true 2 (.tmp 19), none, 0⟩,
      ⟨some 179, .mv (.tmp 17), none, 0⟩,
      ⟨some 180, .call k_impl_EdgesLeft [(.tmp 178), (.tmp 179)], none, 0⟩,
      ⟨some 177, .mv (.tmp 180), none, 0⟩,
      ⟨some 181, .ext (.tmp 177) 0, none, 0⟩,
      ⟨some 182, .ext (.tmp 177) 1, none, 0⟩,
      ⟨some 25, .mv (.tmp 181), none, 0⟩,
      ⟨some 26, .mv (.tmp 182), none, 0⟩]) <|
    .seq (.ops [
      ⟨some 184, .load true 2 (.tmp 16), none, 0⟩,
      ⟨some 185, .mv (.tmp 17), none, 0⟩,
      ⟨some 186, .call k_impl_EdgesLeft [(.tmp 184), (.tmp 185)], none, 0⟩,
      ⟨some 183, .mv (.tmp 186), none, 0⟩,
      ⟨some 187, .ext (.tmp 183) 0, none, 0⟩,
      ⟨some 188, .ext (.tmp 183) 1, none, 0⟩,
      ⟨some 27, .mv (.tmp 187), none, 0⟩,
      ⟨some 28, .mv (.tmp 188), none, 0⟩]) <|
    .seq (.seq (.ops [
      ⟨some 189, .mv (.tmp 24), none, 0⟩,
      ⟨some 190, .bin .neq (.tmp 189) (.const (.int .i64 0)), none, 0⟩,
      ⟨some 191, .mv (.tmp 190), none, 0⟩,
      ⟨some 192, .mv (.tmp 26), some (191, false), 0⟩,
      ⟨some 193, .bin .neq (.tmp 192) (.const (.int .i64 0)), some (191, false), 0⟩,
      ⟨some 194, .pick (.tmp 191) (.const (.bool true)) (.tmp 193), none, 0⟩,
      ⟨some 195, .mv (.tmp 194), none, 0⟩,
      ⟨some 196, .mv (.tmp 28), some (195, false), 0⟩,
      ⟨some 197, .bin .neq (.tmp 196) (.const (.int .i64 0)), some (195, false), 0⟩,
      ⟨some 198, .pick (.tmp 195) (.const (.bool true)) (.tmp 197), none, 0⟩,
      ⟨some 199, .mv (.tmp 198), none, 0⟩,
      ⟨some 200, .mv (.tmp 23), some (199, false), 0⟩,
      ⟨some 201, .un .not (.tmp 200), some (199, false), 0⟩,
      ⟨some 202, .pick (.tmp 199) (.const (.bool true)) (.tmp 201), none, 0⟩,
      ⟨some 203, .mv (.tmp 202), none, 0⟩,
      ⟨some 204, .mv (.tmp 25), some (203, false), 0⟩,
      ⟨some 205, .mv (.tmp 27), some (203, false), 0⟩,
      ⟨some 206, .bin .gtr (.tmp 204) (.tmp 205), some (203, false), 0⟩,
      ⟨some 207, .pick (.tmp 203) (.const (.bool true)) (.tmp 206), none, 0⟩]) <|
    .cond (.tmp 207)
      (.seq (.ops [
        ⟨some 2, .mv (.const (.bool false)), none, 0⟩]) <|
      .keep [2] <|
      .ret)
      (.skip)) <|
    .seq (.ops [
      ⟨some 29, .mv (.const (.int .i64 0)), none, 0⟩]) <|
    .block 0 <|
    .loop [0, 16, 19, 29] i_laws_FnGreedy_B1)
    (.skip)) <|
  .seq (.ops [
    ⟨some 233, .mv (.tmp 0), none, 0⟩,
    ⟨some 234, .call k_spec_DrawPairsToJoin [(.tmp 233)], none, 0⟩,
    ⟨some 232, .mv (.tmp 234), none, 0⟩,
    ⟨some 235, .ext (.tmp 232) 0, none, 0⟩,
    ⟨some 236, .ext (.tmp 232) 1, none, 0⟩,
    ⟨some 237, .ext (.tmp 232) 2, none, 0⟩,
    ⟨some 30, .alloc [.int .i64 0, .slice none 0 0], none, 0⟩,
    ⟨none, .store 2 (.tmp 30) (.tmp 235), none, 0⟩,
    ⟨some 31, .mv (.tmp 236), none, 0⟩,
    ⟨some 32, .mv (.tmp 237), none, 0⟩]) <|
  .seq (.ops [
    ⟨some 239, .load true 2 (.tmp 30), none, 0⟩,
    ⟨some 240, .mv (.tmp 31), none, 0⟩,
    ⟨some 241, .mv (.tmp 32), none, 0⟩,
    ⟨some 242, .call k_impl_PairsToJoin [(.tmp 239), (.tmp 240), (.tmp 241)], none, 0⟩,
    ⟨some 238, .mv (.tmp 242), none, 0⟩,
    ⟨some 243, .ext (.tmp 238) 0, none, 0⟩,
    ⟨some 244, .ext (.tmp 238) 1, none, 0⟩,
    ⟨some 33, .mv (.tmp 243), none, 0⟩,
    ⟨some 34, .mv (.tmp 244), none, 0⟩]) <|
  .seq (.ops [
    ⟨some 246, .load true 2 (.tmp 30), none, 0⟩,
    ⟨some 247, .mv (.tmp 31), none, 0⟩,
    ⟨some 248, .mv (.tmp 32), none, 0⟩,
    ⟨some 249, .call k_spec_PairsToJoin [(.tmp 246), (.tmp 247), (.tmp 248)], none, 0⟩,
    ⟨some 245, .mv (.tmp 249), none, 0⟩,
    ⟨some 250, .ext (.tmp 245) 0, none, 0⟩,
    ⟨some 251, .ext (.tmp 245) 1, none, 0⟩,
    ⟨some 35, .mv (.tmp 250), none, 0⟩,
    ⟨some 36, .mv (.tmp 251), none, 0⟩]) <|
  .seq (.seq (.ops [
    ⟨some 252, .mv (.tmp 34), none, 0⟩,
    ⟨some 253, .mv (.tmp 36), none, 0⟩,
    ⟨some 254, .bin .neq (.tmp 252) (.tmp 253), none, 0⟩,
    ⟨some 255, .mv (.tmp 254), none, 0⟩,
    ⟨some 256, .mv (.tmp 33), some (255, false), 0⟩,
    ⟨some 257, .mv (.tmp 35), some (255, false), 0⟩,
    ⟨some 258, .call k_laws_rows5 [(.tmp 256), (.tmp 257)], some (255, false), 0⟩,
    ⟨some 259, .un .not (.tmp 258), some (255, false), 0⟩,
    ⟨some 260, .pick (.tmp 255) (.const (.bool true)) (.tmp 259), none, 0⟩]) <|
  .cond (.tmp 260)
    (.seq (.ops [
      ⟨some 2, .mv (.const (.bool false)), none, 0⟩]) <|
    .keep [2] <|
    .ret)
    (.skip)) <|
  .seq (.seq (.ops [
    ⟨some 261, .mv (.tmp 34), none, 0⟩,
    ⟨some 262, .bin .eql (.tmp 261) (.const (.int .i64 0)), none, 0⟩]) <|
  .cond (.tmp 262)
    (.seq (.ops [
      ⟨some 264, .load true 2 (.tmp 30), none, 0⟩,
      ⟨some 265, .mv (.tmp 31), none, 0⟩,
      ⟨some 266, .mv (.tmp 32), none, 0⟩,
      ⟨some 267, .call k_impl_IsFull [(.tmp 264), (.tmp 265), (.tmp 266)], none, 0⟩,
      ⟨some 263, .mv (.tmp 267), none, 0⟩,
      ⟨some 268, .ext (.tmp 263) 0, none, 0⟩,
      ⟨some 269, .ext (.tmp 263) 1, none, 0⟩,
      ⟨some 37, .mv (.tmp 268), none, 0⟩,
      ⟨some 38, .mv (.tmp 269), none, 0⟩]) <|
    .seq (.seq (.ops [
      ⟨some 270, .mv (.tmp 38), none, 0⟩,
      ⟨some 271, .bin .neq (.tmp 270) (.const (.int .i64 0)), none, 0⟩,
      ⟨some 272, .mv (.tmp 271), none, 0⟩,
      ⟨some 273, .mv (.tmp 37), some (272, false), 0⟩,
      ⟨some 274, .mv (.tmp 33), some (272, false), 0⟩,
      ⟨some 275, .len (.tmp 274), some (272, false), 0⟩,
      ⟨some 276, .bin .eql (.tmp 275) (.const (.int .i64 0)), some (272, false), 0⟩,
      ⟨some 277, .beq true (.tmp 273) (.tmp 276), some (272, false), 0⟩,
      ⟨some 278, .pick (.tmp 272) (.const (.bool true)) (.tmp 277), none, 0⟩]) <|
    .cond (.tmp 278)
      (.seq (.ops [
        ⟨some 2, .mv (.const (.bool false)), none, 0⟩]) <|
      .keep [2] <|
      .ret)
      (.skip)) <|
    .seq (.ops [
      ⟨some 39, .mv (.const (.int .i64 0)), none, 0⟩]) <|
    .block 2 <|
    .loop [0, 30, 31, 32, 33, 39] i_laws_FnGreedy_B2)
    (.skip)) <|
  .seq (.ops [
    ⟨some 324, .mv (.tmp 0), none, 0⟩,
    ⟨some 325, .call k_spec_DrawFitsBoth [(.tmp 324)], none, 0⟩,
    ⟨some 323, .mv (.tmp 325), none, 0⟩,
    ⟨some 326, .ext (.tmp 323) 0, none, 0⟩,
    ⟨some 327, .ext (.tmp 323) 1, none, 0⟩,
    ⟨some 328, .ext (.tmp 323) 2, none, 0⟩,
    ⟨some 44, .alloc [.int .i64 0, .slice none 0 0], none, 0⟩,
    ⟨none, .store 2 (.tmp 44) (.tmp 326), none, 0⟩,
    ⟨some 45, .mv (.tmp 327), none, 0⟩,
    ⟨some 46, .mv (.tmp 328), none, 0⟩]) <|
  .seq (.ops [
    ⟨some 330, .load true 2 (.tmp 44), none, 0⟩,
    ⟨some 331, .mv (.tmp 45), none, 0⟩,
    ⟨some 332, .mv (.tmp 46), none, 0⟩,
    ⟨some 333, .call k_impl_FitsBoth [(.tmp 330), (.tmp 331), (.tmp 332)], none, 0⟩,
    ⟨some 329, .mv (.tmp 333), none, 0⟩,
    ⟨some 334, .ext (.tmp 329) 0, none, 0⟩,
    ⟨some 335, .ext (.tmp 329) 1, none, 0⟩,
    ⟨some 47, .mv (.tmp 334), none, 0⟩,
    ⟨some 48, .mv (.tmp 335), none, 0⟩]) <|
  .seq (.ops [
    ⟨some 337, .load true 2 (.tmp 44), none, 0⟩,
    ⟨some 338, .mv (.tmp 45), none, 0⟩,
    ⟨some 339, .mv (.tmp 46), none, 0⟩,
    ⟨some 340, .call k_spec_FitsBoth [(.tmp 337), (.tmp 338), (.tmp 339)], none, 0⟩,
    ⟨some 336, .mv (.tmp 340), none, 0⟩,
    ⟨some 341, .ext (.tmp 336) 0, none, 0⟩,
    ⟨some 342, .ext (.tmp 336) 1, none, 0⟩,
    ⟨some 49, .mv (.tmp 341), none, 0⟩,
    ⟨some 50, .mv (.tmp 342), none, 0⟩]) <|
  .seq (.ops [
    ⟨some 344, .mv (.tmp 0), none, 0⟩,
    ⟨some 345, .call k_spec_DrawIsFull [(.tmp 344)], none, 0⟩,
    ⟨some 343, .mv (.tmp 345), none, 0⟩,
    ⟨some 346, .ext (.tmp 343) 0, none, 0⟩,
    ⟨some 347, .ext (.tmp 343) 1, none, 0⟩,
    ⟨some 348, .ext (.tmp 343) 2, none, 0⟩,
    ⟨some 51, .alloc [.int .i64 0, .slice none 0 0], none, 0⟩,
    ⟨none, .store 2 (.tmp 51) (.tmp 346), none, 0⟩,
    ⟨some 52, .mv (.tmp 347), none, 0⟩,
    ⟨some 53, .mv (.tmp 348), none, 0⟩]) <|
  .seq (.ops [
    ⟨some 350, .load true 2 (.tmp 51), none, 0⟩,
    ⟨some 351, .mv (.tmp 52), none, 0⟩,
    ⟨some 352, .mv (.tmp 53), none, 0⟩,
    ⟨some 353, .call k_impl_IsFull [(.tmp 350), (.tmp 351), (.tmp 352)], none, 0⟩,
    ⟨some 349, .mv (.tmp 353), none, 0⟩,
    ⟨some 354, .ext (.tmp 349) 0, none, 0⟩,
    ⟨some 355, .ext (.tmp 349) 1, none, 0⟩,
    ⟨some 54, .mv (.tmp 354), none, 0⟩,
    ⟨some 55, .mv (.tmp 355), none, 0⟩]) <|
  .seq (.ops [
    ⟨some 357, .load true 2 (.tmp 51), none, 0⟩,
    ⟨some 358, .mv (.tmp 52), none, 0⟩,
    ⟨some 359, .mv (.tmp 53), none, 0⟩,
    ⟨some 360, .call k_spec_IsFull [(.tmp 357), (.tmp 358), (.tmp 359)], none, 0⟩,
    ⟨some 356, .mv (.tmp 360), none, 0⟩,
    ⟨some 361, .ext (.tmp 356) 0, none, 0⟩,
    ⟨some 362, .ext (.tmp 356) 1, none, 0⟩,
    ⟨some 56, .mv (.tmp 361), none, 0⟩,
    ⟨some 57, .mv (.tmp 362), none, 0⟩]) <|
  .seq (.ops [
    ⟨some 364, .mv (.tmp 0), none, 0⟩,
    ⟨some 365, .call k_spec_DrawEdgesLeft [(.tmp 364)], none, 0⟩,
    ⟨some 363, .mv (.tmp 365), none, 0⟩,
    ⟨some 366, .ext (.tmp 363) 0, none, 0⟩,
    ⟨some 367, .ext (.tmp 363) 1, none, 0⟩,
    ⟨some 58, .alloc [.int .i64 0, .slice none 0 0], none, 0⟩,
    ⟨none, .store 2 (.tmp 58) (.tmp 366), none, 0⟩,
    ⟨some 59, .mv (.tmp 367), none, 0⟩]) <|
  .seq (.ops [
    ⟨some 369, .load true 2 (.tmp 58), none, 0⟩,
    ⟨some 370, .mv (.tmp 59), none, 0⟩,
    ⟨some 371, .call k_impl_EdgesLeft [(.tmp 369), (.tmp 370)], none, 0⟩,
    ⟨some 368, .mv (.tmp 371), none, 0⟩,
    ⟨some 372, .ext (.tmp 368) 0, none, 0⟩,
    ⟨some 373, .ext (.tmp 368) 1, none, 0⟩,
    ⟨some 60, .mv (.tmp 372), none, 0⟩,
    ⟨some 61, .mv (.tmp 373), none, 0⟩]) <|
  .seq (.ops [
    ⟨some 375, .load true 2 (.tmp 58), none, 0⟩,
    ⟨some 376, .mv (.tmp 59), none, 0⟩,
    ⟨some 377, .call k_spec_EdgesLeft [(.tmp 375), (.tmp 376)], none, 0⟩,
    ⟨some 374, .mv (.tmp 377), none, 0⟩,
    ⟨some 378, .ext (.tmp 374) 0, none, 0⟩,
    ⟨some 379, .ext (.tmp 374) 1, none, 0⟩,
    ⟨some 62, .mv (.tmp 378), none, 0⟩,
    ⟨some 63, .mv (.tmp 379), none, 0⟩]) <|
  .seq (.ops [
    ⟨some 380, .mv (.tmp 48), none, 0⟩,
    ⟨some 381, .mv (.tmp 50), none, 0⟩,
    ⟨some 382, .bin .eql (.tmp 380) (.tmp 381), none, 0⟩,
    ⟨some 383, .mv (.tmp 382), none, 0⟩,
    ⟨some 384, .mv (.tmp 47), some (383, true), 0⟩,
    ⟨some 385, .mv (.tmp 49), some (383, true), 0⟩,
    ⟨some 386, .beq false (.tmp 384) (.tmp 385), some (383, true), 0⟩,
    ⟨some 387, .pick (.tmp 383) (.tmp 386) (.const (.bool false)), none, 0⟩,
    ⟨some 388, .mv (.tmp 387), none, 0⟩,
    ⟨some 389, .mv (.tmp 55), some (388, true), 0⟩,
    ⟨some 390, .mv (.tmp 57), some (388, true), 0⟩,
    ⟨some 391, .bin .eql (.tmp 389) (.tmp 390), some (388, true), 0⟩,
    ⟨some 392, .pick (.tmp 388) (.tmp 391) (.const (.bool false)), none, 0⟩,
    ⟨some 393, .mv (.tmp 392), none, 0⟩,
    ⟨some 394, .mv (.tmp 54), some (393, true), 0⟩,
    ⟨some 395, .mv (.tmp 56), some (393, true), 0⟩,
    ⟨some 396, .beq false (.tmp 394) (.tmp 395), some (393, true), 0⟩,
    ⟨some 397, .pick (.tmp 393) (.tmp 396) (.const (.bool false)), none, 0⟩,
    ⟨some 398, .mv (.tmp 397), none, 0⟩,
    ⟨some 399, .mv (.tmp 61), some (398, true), 0⟩,
    ⟨some 400, .mv (.tmp 63), some (398, true), 0⟩,
    ⟨some 401, .bin .eql (.tmp 399) (.tmp 400), some (398, true), 0⟩,
    ⟨some 402, .pick (.tmp 398) (.tmp 401) (.const (.bool false)), none, 0⟩,
    ⟨some 403, .mv (.tmp 402), none, 0⟩,
    ⟨some 404, .mv (.tmp 60), some (403, true), 0⟩,
    ⟨some 405, .mv (.tmp 62), some (403, true), 0⟩,
    ⟨some 406, .bin .eql (.tmp 404) (.tmp 405), some (403, true), 0⟩,
    ⟨some 407, .pick (.tmp 403) (.tmp 406) (.const (.bool false)), none, 0⟩,
    ⟨some 2, .mv (.tmp 407), none, 0⟩]) <|
  .keep [2] <|
  .ret⟩

theorem e_laws_FnGreedy : EntOK Tryd.prog (compD Tryd.prog) k_laws_FnGreedy i_laws_FnGreedy.vf :=
  ⟨Tryd.f4, Tryd.f4.body.getD .skip, Tryd.func4, by kernel_rfl, by kernel_rfl, by kernel_rfl, by kernel_rfl, by kernel_rfl⟩

/-- loop.example/g01331/laws.big -/
def i_laws_big : FF := ⟨6, [.tmp 2],
  .seq (.ops [
    ⟨some 2, .mv (.const (.bool false)), none, 0⟩]) <|
  .seq (.ops [
    ⟨some 3, .mv (.tmp 0), none, 0⟩,
    ⟨some 4, .len (.tmp 3), none, 0⟩,
    ⟨some 5, .bin .gtr (.tmp 4) (.const (.int .i64 4096)), none, 0⟩,
    ⟨some 2, .mv (.tmp 5), none, 0⟩]) <|
  .keep [2] <|
  .ret⟩

theorem e_laws_big : EntOK Tryd.prog (compD Tryd.prog) k_laws_big i_laws_big.vf :=
  ⟨Tryd.f7, Tryd.f7.body.getD .skip, Tryd.func7, by kernel_rfl, by kernel_rfl, by kernel_rfl, by kernel_rfl, by kernel_rfl⟩

/-- loop.example/g01331/impl.GirthOf -/
def i_impl_GirthOf : FF := ⟨12, [.tmp 2, .tmp 3],
  .seq (.ops [
    ⟨some 1, .box 2 (.tmp 0), none, 0⟩,
    ⟨some 2, .mv (.const (.int .i64 0)), none, 0⟩,
    ⟨some 3, .mv (.const (.int .i64 0)), none, 0⟩]) <|
  .seq (.seq (.ops [
    ⟨some 4, .load true 2 (.tmp 1), none, 0⟩,
    ⟨some 5, .call k_impl_IsGraph [(.tmp 4)], none, 0⟩,
    ⟨some 6, .un .not (.tmp 5), none, 0⟩]) <|
  .cond (.tmp 6)
    (.seq (.ops [
      ⟨some 2, .mv (.const (.int .i64 0)), none, 0⟩,
      ⟨some 3, .mv (.const (.int .i64 1)), none, 0⟩]) <|
    .keep [2, 3] <|
    .ret)
    (.skip)) <|
  .seq (.ops [
    ⟨some 7, .load true 2 (.tmp 1), none, 0⟩,
    ⟨some 8, .call k_impl_Graph_girth [(.tmp 7)], none, 0⟩,
    ⟨some 9, .call k_impl_found [(.tmp 8)], none, 0⟩,
    ⟨some 10, .ext (.tmp 9) 0, none, 0⟩,
    ⟨some 11, .ext (.tmp 9) 1, none, 0⟩,
    ⟨some 2, .mv (.tmp 10), none, 0⟩,
    ⟨some 3, .mv (.tmp 11), none, 0⟩]) <|
  .keep [2, 3] <|
  .ret⟩

theorem e_impl_GirthOf : EntOK Tryd.prog (compD Tryd.prog) k_impl_GirthOf i_impl_GirthOf.vf :=
  ⟨Tryd.f11, Tryd.f11.body.getD .skip, Tryd.func11, by kernel_rfl, by kernel_rfl, by kernel_rfl, by kernel_rfl, by kernel_rfl⟩

/-- loop.example/g01331/spec.DrawGreedyGraph -/
def i_spec_DrawGreedyGraph : FF := ⟨33, [.tmp 2, .tmp 3, .tmp 4],
  .seq (.ops [
    ⟨some 2, .mv (.const (.int .i64 0)), none, 0⟩,
    ⟨some 3, .mv (.const (.int .i64 0)), none, 0⟩,
    ⟨some 4, .mv (.const (.int .i64 0)), none, 0⟩]) <|
  .seq (.ops [
    ⟨some 9, .mv (.tmp 0), none, 0⟩,
    ⟨some 10, .call k_spec_l01From [(.tmp 9)], none, 0⟩,
    ⟨some 5, .mv (.tmp 10), none, 0⟩]) <|
  .seq (.ops [
    ⟨some 12, .mv (.tmp 5), none, 0⟩,
    ⟨some 13, .call k_spec_l07DrawNumbers [(.tmp 12)], none, 0⟩,
    ⟨some 11, .mv (.tmp 13), none, 0⟩,
    ⟨some 14, .ext (.tmp 11) 0, none, 0⟩,
    ⟨some 15, .ext (.tmp 11) 1, none, 0⟩,
    ⟨some 6, .mv (.tmp 14), none, 0⟩,
    ⟨some 7, .mv (.tmp 15), none, 0⟩]) <|
  .seq (.ops [
    ⟨some 16, .mv (.tmp 5), none, 0⟩,
    ⟨some 17, .mv (.tmp 5), none, 0⟩,
    ⟨some 18, .buildSl 1 [.int .i64 0, .int .i64 0, .int .i64 0] [(0, 1, (.const (.int .i64 10))), (1, 1, (.const (.int .i64 20))), (2, 1, (.const (.int .i64 62)))] 3, none, 0⟩,
    ⟨some 19, .call k_spec_l01Pick [(.tmp 17), (.tmp 18)], none, 0⟩,
    ⟨some 20, .call k_spec_l01Next [(.tmp 16), (.tmp 19)], none, 0⟩,
    ⟨some 21, .bin .add (.const (.int .i64 1)) (.tmp 20), none, 0⟩,
    ⟨some 8, .mv (.tmp 21), none, 0⟩]) <|
  .seq (.ops [
    ⟨some 22, .mv (.tmp 5), none, 0⟩,
    ⟨some 23, .mv (.tmp 8), none, 0⟩,
    ⟨some 24, .mv (.tmp 8), none, 0⟩,
    ⟨some 25, .mv (.tmp 8), none, 0⟩,
    ⟨some 26, .mv (.tmp 8), none, 0⟩,
    ⟨some 27, .mv (.tmp 8), none, 0⟩,
    ⟨some 28, .mv (.tmp 8), none, 0⟩,
    ⟨some 29, .buildSl 1 [.int .i64 0, .int .i64 0, .int .i64 0, .int .i64 0, .int .i64 0, .int .i64 0, .int .i64 0, .int .i64 0] [(0, 1, (.tmp 23)), (1, 1, (.tmp 24)), (2, 1, (.tmp 25)), (3, 1, (.tmp 26)), (4, 1, (.tmp 27)), (5, 1, (.tmp 28)), (6, 1, (.const (.int .i64 0))), (7, 1, (.const (.int .i64 63)))] 8, none, 0⟩,
    ⟨some 30, .call k_spec_l01Pick [(.tmp 22), (.tmp 29)], none, 0⟩,
    ⟨some 31, .mv (.tmp 6), none, 0⟩,
    ⟨some 32, .mv (.tmp 7), none, 0⟩,
    ⟨some 2, .mv (.tmp 30), none, 0⟩,
    ⟨some 3, .mv (.tmp 31), none, 0⟩,
    ⟨some 4, .mv (.tmp 32), none, 0⟩]) <|
  .keep [2, 3, 4] <|
  .ret⟩

theorem e_spec_DrawGreedyGraph : EntOK Tryd.prog (compD Tryd.prog) k_spec_DrawGreedyGraph i_spec_DrawGreedyGraph.vf :=
  ⟨Tryd.f20, Tryd.f20.body.getD .skip, Tryd.func20, by kernel_rfl, by kernel_rfl, by kernel_rfl, by kernel_rfl, by kernel_rfl⟩

/-- loop.example/g01331/impl.GreedyGraph -/
def i_impl_GreedyGraph : FF := ⟨26, [.cell 6 true 2, .tmp 7],
  .seq (.ops [
    ⟨some 6, .alloc [.int .i64 0, .slice none 0 0], none, 0⟩,
    ⟨some 7, .mv (.const (.int .i64 0)), none, 0⟩]) <|
  .seq (.seq (.ops [
    ⟨some 8, .mv (.tmp 0), none, 0⟩,
    ⟨some 9, .bin .lss (.tmp 8) (.const (.int .i64 1)), none, 0⟩,
    ⟨some 10, .mv (.tmp 9), none, 0⟩,
    ⟨some 11, .mv (.tmp 0), some (10, false), 0⟩,
    ⟨some 12, .bin .gtr (.tmp 11) (.const (.int .i64 62)), some (10, false), 0⟩,
    ⟨some 13, .pick (.tmp 10) (.const (.bool true)) (.tmp 12), none, 0⟩,
    ⟨some 14, .mv (.tmp 13), none, 0⟩,
    ⟨some 15, .mv (.tmp 1), some (14, false), 0⟩,
    ⟨some 16, .mv (.tmp 2), some (14, false), 0⟩,
    ⟨some 17, .call k_impl_isBoth [(.tmp 15), (.tmp 16)], some (14, false), 0⟩,
    ⟨some 18, .un .not (.tmp 17), some (14, false), 0⟩,
    ⟨some 19, .pick (.tmp 14) (.const (.bool true)) (.tmp 18), none, 0⟩]) <|
  .cond (.tmp 19)
    (.seq (.ops [
      ⟨some 20, .build [.int .i64 0, .slice none 0 0] [], none, 0⟩,
      ⟨none, .store 2 (.tmp 6) (.tmp 20), none, 0⟩,
      ⟨some 7, .mv (.const (.int .i64 2)), none, 0⟩]) <|
    .keep [6, 7] <|
    .ret)
    (.skip)) <|
  .seq (.ops [
    ⟨some 21, .mv (.tmp 0), none, 0⟩,
    ⟨some 22, .call k_impl_empty [(.tmp 21)], none, 0⟩,
    ⟨some 23, .mv (.tmp 1), none, 0⟩,
    ⟨some 24, .mv (.tmp 2), none, 0⟩,
    ⟨some 25, .call k_impl_filled [(.tmp 22), (.tmp 23), (.tmp 24)], none, 0⟩,
    ⟨none, .store 2 (.tmp 6) (.tmp 25), none, 0⟩,
    ⟨some 7, .mv (.const (.int .i64 0)), none, 0⟩]) <|
  .keep [6, 7] <|
  .ret⟩

theorem e_impl_GreedyGraph : EntOK Tryd.prog (compD Tryd.prog) k_impl_GreedyGraph i_impl_GreedyGraph.vf :=
  ⟨Tryd.f21, Tryd.f21.body.getD .skip, Tryd.func21, by kernel_rfl, by kernel_rfl, by kernel_rfl, by kernel_rfl, by kernel_rfl⟩

/-- loop.example/g01331/spec.GreedyGraph -/
def i_spec_GreedyGraph : FF := ⟨23, [.cell 6 true 2, .tmp 7],
  .seq (.ops [
    ⟨some 6, .alloc [.int .i64 0, .slice none 0 0], none, 0⟩,
    ⟨some 7, .mv (.const (.int .i64 0)), none, 0⟩]) <|
  .seq (.seq (.ops [
    ⟨some 8, .mv (.tmp 0), none, 0⟩,
    ⟨some 9, .call k_spec_l01In [(.tmp 8), (.const (.int .i64 1)), (.const (.int .i64 62))], none, 0⟩,
    ⟨some 10, .un .not (.tmp 9), none, 0⟩,
    ⟨some 11, .mv (.tmp 10), none, 0⟩,
    ⟨some 12, .mv (.tmp 1), some (11, false), 0⟩,
    ⟨some 13, .mv (.tmp 2), some (11, false), 0⟩,
    ⟨some 14, .call k_spec_l07Numbers [(.tmp 12), (.tmp 13)], some (11, false), 0⟩,
    ⟨some 15, .un .not (.tmp 14), some (11, false), 0⟩,
    ⟨some 16, .pick (.tmp 11) (.const (.bool true)) (.tmp 15), none, 0⟩]) <|
  .cond (.tmp 16)
    (.seq (.ops [
      ⟨some 17, .build [.int .i64 0, .slice none 0 0] [], none, 0⟩,
      ⟨none, .store 2 (.tmp 6) (.tmp 17), none, 0⟩,
      ⟨some 7, .mv (.const (.int .i64 2)), none, 0⟩]) <|
    .keep [6, 7] <|
    .ret)
    (.skip)) <|
  .seq (.ops [
    ⟨some 18, .mv (.tmp 0), none, 0⟩,
    ⟨some 19, .call k_spec_l01Empty [(.tmp 18)], none, 0⟩,
    ⟨some 20, .mv (.tmp 1), none, 0⟩,
    ⟨some 21, .mv (.tmp 2), none, 0⟩,
    ⟨some 22, .call k_spec_l07Fill [(.tmp 19), (.tmp 20), (.tmp 21)], none, 0⟩,
    ⟨none, .store 2 (.tmp 6) (.tmp 22), none, 0⟩,
    ⟨some 7, .mv (.const (.int .i64 0)), none, 0⟩]) <|
  .keep [6, 7] <|
  .ret⟩

theorem e_spec_GreedyGraph : EntOK Tryd.prog (compD Tryd.prog) k_spec_GreedyGraph i_spec_GreedyGraph.vf :=
  ⟨Tryd.f22, Tryd.f22.body.getD .skip, Tryd.func22, by kernel_rfl, by kernel_rfl, by kernel_rfl, by kernel_rfl, by kernel_rfl⟩

/-- loop.example/g01331/laws.graphs5 -/
def i_laws_graphs5 : FF := ⟨17, [.tmp 4],
  .seq (.ops [
    ⟨some 2, .box 2 (.tmp 0), none, 0⟩,
    ⟨some 3, .box 2 (.tmp 1), none, 0⟩,
    ⟨some 4, .mv (.const (.bool false)), none, 0⟩]) <|
  .seq (.ops [
    ⟨some 5, .fld 0 (.tmp 2), none, 0⟩,
    ⟨some 6, .load false 1 (.tmp 5), none, 0⟩,
    ⟨some 7, .fld 0 (.tmp 3), none, 0⟩,
    ⟨some 8, .load false 1 (.tmp 7), none, 0⟩,
    ⟨some 9, .bin .eql (.tmp 6) (.tmp 8), none, 0⟩,
    ⟨some 10, .mv (.tmp 9), none, 0⟩,
    ⟨some 11, .fld 1 (.tmp 2), some (10, true), 0⟩,
    ⟨some 12, .load false 1 (.tmp 11), some (10, true), 0⟩,
    ⟨some 13, .fld 1 (.tmp 3), some (10, true), 0⟩,
    ⟨some 14, .load false 1 (.tmp 13), some (10, true), 0⟩,
    ⟨some 15, .call k_laws_likeInts [(.tmp 12), (.tmp 14)], some (10, true), 0⟩,
    ⟨some 16, .pick (.tmp 10) (.tmp 15) (.const (.bool false)), none, 0⟩,
    ⟨some 4, .mv (.tmp 16), none, 0⟩]) <|
  .keep [4] <|
  .ret⟩

theorem e_laws_graphs5 : EntOK Tryd.prog (compD Tryd.prog) k_laws_graphs5 i_laws_graphs5.vf :=
  ⟨Tryd.f23, Tryd.f23.body.getD .skip, Tryd.func23, by kernel_rfl, by kernel_rfl, by kernel_rfl, by kernel_rfl, by kernel_rfl⟩

/-- loop.example/g01331/impl.IsFull -/
def i_impl_IsFull : FF := ⟨22, [.tmp 6, .tmp 7],
  .seq (.ops [
    ⟨some 3, .box 2 (.tmp 0), none, 0⟩,
    ⟨some 6, .mv (.const (.bool false)), none, 0⟩,
    ⟨some 7, .mv (.const (.int .i64 0)), none, 0⟩]) <|
  .seq (.seq (.ops [
    ⟨some 9, .load true 2 (.tmp 3), none, 0⟩,
    ⟨some 10, .mv (.tmp 1), none, 0⟩,
    ⟨some 11, .mv (.tmp 2), none, 0⟩,
    ⟨some 12, .call k_impl_fitCode [(.tmp 9), (.tmp 10), (.tmp 11)], none, 0⟩,
    ⟨some 8, .mv (.tmp 12), none, 0⟩]) <|
  .seq (.ops [
    ⟨some 13, .mv (.tmp 8), none, 0⟩,
    ⟨some 14, .bin .neq (.tmp 13) (.const (.int .i64 0)), none, 0⟩]) <|
  .cond (.tmp 14)
    (.seq (.ops [
      ⟨some 15, .mv (.tmp 8), none, 0⟩,
      ⟨some 6, .mv (.const (.bool false)), none, 0⟩,
      ⟨some 7, .mv (.tmp 15), none, 0⟩]) <|
    .keep [6, 7] <|
    .ret)
    (.skip)) <|
  .seq (.ops [
    ⟨some 16, .load true 2 (.tmp 3), none, 0⟩,
    ⟨some 17, .mv (.tmp 1), none, 0⟩,
    ⟨some 18, .mv (.tmp 2), none, 0⟩,
    ⟨some 19, .call k_impl_Graph_pairs [(.tmp 16), (.tmp 17), (.tmp 18)], none, 0⟩,
    ⟨some 20, .len (.tmp 19), none, 0⟩,
    ⟨some 21, .bin .eql (.tmp 20) (.const (.int .i64 0)), none, 0⟩,
    ⟨some 6, .mv (.tmp 21), none, 0⟩,
    ⟨some 7, .mv (.const (.int .i64 0)), none, 0⟩]) <|
  .keep [6, 7] <|
  .ret⟩

theorem e_impl_IsFull : EntOK Tryd.prog (compD Tryd.prog) k_impl_IsFull i_impl_IsFull.vf :=
  ⟨Tryd.f24, Tryd.f24.body.getD .skip, Tryd.func24, by kernel_rfl, by kernel_rfl, by kernel_rfl, by kernel_rfl, by kernel_rfl⟩

/-- loop.example/g01331/impl.FitsBoth -/
def i_impl_FitsBoth : FF := ⟨20, [.tmp 6, .tmp 7],
  .seq (.ops [
    ⟨some 3, .box 2 (.tmp 0), none, 0⟩,
    ⟨some 6, .mv (.const (.bool false)), none, 0⟩,
    ⟨some 7, .mv (.const (.int .i64 0)), none, 0⟩]) <|
  .seq (.seq (.ops [
    ⟨some 9, .load true 2 (.tmp 3), none, 0⟩,
    ⟨some 10, .mv (.tmp 1), none, 0⟩,
    ⟨some 11, .mv (.tmp 2), none, 0⟩,
    ⟨some 12, .call k_impl_bothCode [(.tmp 9), (.tmp 10), (.tmp 11)], none, 0⟩,
    ⟨some 8, .mv (.tmp 12), none, 0⟩]) <|
  .seq (.ops [
    ⟨some 13, .mv (.tmp 8), none, 0⟩,
    ⟨some 14, .bin .neq (.tmp 13) (.const (.int .i64 0)), none, 0⟩]) <|
  .cond (.tmp 14)
    (.seq (.ops [
      ⟨some 15, .mv (.tmp 8), none, 0⟩,
      ⟨some 6, .mv (.const (.bool false)), none, 0⟩,
      ⟨some 7, .mv (.tmp 15), none, 0⟩]) <|
    .keep [6, 7] <|
    .ret)
    (.skip)) <|
  .seq (.ops [
    ⟨some 16, .load true 2 (.tmp 3), none, 0⟩,
    ⟨some 17, .mv (.tmp 1), none, 0⟩,
    ⟨some 18, .mv (.tmp 2), none, 0⟩,
    ⟨some 19, .call k_impl_Graph_fits [(.tmp 16), (.tmp 17), (.tmp 18)], none, 0⟩,
    ⟨some 6, .mv (.tmp 19), none, 0⟩,
    ⟨some 7, .mv (.const (.int .i64 0)), none, 0⟩]) <|
  .keep [6, 7] <|
  .ret⟩

theorem e_impl_FitsBoth : EntOK Tryd.prog (compD Tryd.prog) k_impl_FitsBoth i_impl_FitsBoth.vf :=
  ⟨Tryd.f25, Tryd.f25.body.getD .skip, Tryd.func25, by kernel_rfl, by kernel_rfl, by kernel_rfl, by kernel_rfl, by kernel_rfl⟩

/-- loop.example/g01331/spec.DrawFillGraph -/
def i_spec_DrawFillGraph : FF := ⟨17, [.cell 2 true 2, .tmp 3, .tmp 4],
  .seq (.ops [
    ⟨some 2, .alloc [.int .i64 0, .slice none 0 0], none, 0⟩,
    ⟨some 3, .mv (.const (.int .i64 0)), none, 0⟩,
    ⟨some 4, .mv (.const (.int .i64 0)), none, 0⟩]) <|
  .seq (.ops [
    ⟨some 9, .mv (.tmp 0), none, 0⟩,
    ⟨some 10, .call k_spec_l07With [(.tmp 9)], none, 0⟩,
    ⟨some 8, .mv (.tmp 10), none, 0⟩,
    ⟨some 11, .ext (.tmp 8) 0, none, 0⟩,
    ⟨some 12, .ext (.tmp 8) 1, none, 0⟩,
    ⟨some 13, .ext (.tmp 8) 2, none, 0⟩,
    ⟨some 5, .alloc [.int .i64 0, .slice none 0 0], none, 0⟩,
    ⟨none, .store 2 (.tmp 5) (.tmp 11), none, 0⟩,
    ⟨some 6, .mv (.tmp 12), none, 0⟩,
    ⟨some 7, .mv (.tmp 13), none, 0⟩]) <|
  .seq (.ops [
    ⟨some 14, .load true 2 (.tmp 5), none, 0⟩,
    ⟨some 15, .mv (.tmp 6), none, 0⟩,
    ⟨some 16, .mv (.tmp 7), none, 0⟩,
    ⟨none, .store 2 (.tmp 2) (.tmp 14), none, 0⟩,
    ⟨some 3, .mv (.tmp 15), none, 0⟩,
    ⟨some 4, .mv (.tmp 16), none, 0⟩]) <|
  .keep [2, 3, 4] <|
  .ret⟩

theorem e_spec_DrawFillGraph : EntOK Tryd.prog (compD Tryd.prog) k_spec_DrawFillGraph i_spec_DrawFillGraph.vf :=
  ⟨Tryd.f26, Tryd.f26.body.getD .skip, Tryd.func26, by kernel_rfl, by kernel_rfl, by kernel_rfl, by kernel_rfl, by kernel_rfl⟩

/-- loop.example/g01331/impl.FillGraph -/
def i_impl_FillGraph : FF := ⟨21, [.cell 6 true 2, .tmp 7],
  .seq (.ops [
    ⟨some 3, .box 2 (.tmp 0), none, 0⟩,
    ⟨some 6, .alloc [.int .i64 0, .slice none 0 0], none, 0⟩,
    ⟨some 7, .mv (.const (.int .i64 0)), none, 0⟩]) <|
  .seq (.seq (.ops [
    ⟨some 9, .load true 2 (.tmp 3), none, 0⟩,
    ⟨some 10, .mv (.tmp 1), none, 0⟩,
    ⟨some 11, .mv (.tmp 2), none, 0⟩,
    ⟨some 12, .call k_impl_fitCode [(.tmp 9), (.tmp 10), (.tmp 11)], none, 0⟩,
    ⟨some 8, .mv (.tmp 12), none, 0⟩]) <|
  .seq (.ops [
    ⟨some 13, .mv (.tmp 8), none, 0⟩,
    ⟨some 14, .bin .neq (.tmp 13) (.const (.int .i64 0)), none, 0⟩]) <|
  .cond (.tmp 14)
    (.seq (.ops [
      ⟨some 15, .build [.int .i64 0, .slice none 0 0] [], none, 0⟩,
      ⟨some 16, .mv (.tmp 8), none, 0⟩,
      ⟨none, .store 2 (.tmp 6) (.tmp 15), none, 0⟩,
      ⟨some 7, .mv (.tmp 16), none, 0⟩]) <|
    .keep [6, 7] <|
    .ret)
    (.skip)) <|
  .seq (.ops [
    ⟨some 17, .load true 2 (.tmp 3), none, 0⟩,
    ⟨some 18, .mv (.tmp 1), none, 0⟩,
    ⟨some 19, .mv (.tmp 2), none, 0⟩,
    ⟨some 20, .call k_impl_filled [(.tmp 17), (.tmp 18), (.tmp 19)], none, 0⟩,
    ⟨none, .store 2 (.tmp 6) (.tmp 20), none, 0⟩,
    ⟨some 7, .mv (.const (.int .i64 0)), none, 0⟩]) <|
  .keep [6, 7] <|
  .ret⟩

theorem e_impl_FillGraph : EntOK Tryd.prog (compD Tryd.prog) k_impl_FillGraph i_impl_FillGraph.vf :=
  ⟨Tryd.f27, Tryd.f27.body.getD .skip, Tryd.func27, by kernel_rfl, by kernel_rfl, by kernel_rfl, by kernel_rfl, by kernel_rfl⟩

/-- loop.example/g01331/spec.FillGraph -/
def i_spec_FillGraph : FF := ⟨21, [.cell 6 true 2, .tmp 7],
  .seq (.ops [
    ⟨some 3, .box 2 (.tmp 0), none, 0⟩,
    ⟨some 6, .alloc [.int .i64 0, .slice none 0 0], none, 0⟩,
    ⟨some 7, .mv (.const (.int .i64 0)), none, 0⟩]) <|
  .seq (.seq (.ops [
    ⟨some 9, .load true 2 (.tmp 3), none, 0⟩,
    ⟨some 10, .mv (.tmp 1), none, 0⟩,
    ⟨some 11, .mv (.tmp 2), none, 0⟩,
    ⟨some 12, .call k_spec_l07Given [(.tmp 9), (.tmp 10), (.tmp 11)], none, 0⟩,
    ⟨some 8, .mv (.tmp 12), none, 0⟩]) <|
  .seq (.ops [
    ⟨some 13, .mv (.tmp 8), none, 0⟩,
    ⟨some 14, .bin .neq (.tmp 13) (.const (.int .i64 0)), none, 0⟩]) <|
  .cond (.tmp 14)
    (.seq (.ops [
      ⟨some 15, .build [.int .i64 0, .slice none 0 0] [], none, 0⟩,
      ⟨some 16, .mv (.tmp 8), none, 0⟩,
      ⟨none, .store 2 (.tmp 6) (.tmp 15), none, 0⟩,
      ⟨some 7, .mv (.tmp 16), none, 0⟩]) <|
    .keep [6, 7] <|
    .ret)
    (.skip)) <|
  .seq (.ops [
    ⟨some 17, .load true 2 (.tmp 3), none, 0⟩,
    ⟨some 18, .mv (.tmp 1), none, 0⟩,
    ⟨some 19, .mv (.tmp 2), none, 0⟩,
    ⟨some 20, .call k_spec_l07Fill [(.tmp 17), (.tmp 18), (.tmp 19)], none, 0⟩,
    ⟨none, .store 2 (.tmp 6) (.tmp 20), none, 0⟩,
    ⟨some 7, .mv (.const (.int .i64 0)), none, 0⟩]) <|
  .keep [6, 7] <|
  .ret⟩

theorem e_spec_FillGraph : EntOK Tryd.prog (compD Tryd.prog) k_spec_FillGraph i_spec_FillGraph.vf :=
  ⟨Tryd.f28, Tryd.f28.body.getD .skip, Tryd.func28, by kernel_rfl, by kernel_rfl, by kernel_rfl, by kernel_rfl, by kernel_rfl⟩

/-- loop.example/g01331/impl.EdgesLeft -/
def i_impl_EdgesLeft_B1 : FC :=
  .seq (.ops [
    ⟨some 24, .bin .lss (.tmp 23) (.tmp 22), none, 0⟩]) <|
  .seq (.cond (.tmp 24)
    (.skip)
    (.keep [6] <|
    .exit 1)) <|
  .seq (.block 2 <|
  .seq (.ops [
    ⟨some 25, .idx 1 (.tmp 21) (.tmp 23), none, 0⟩,
    ⟨some 26, .load false 1 (.tmp 25), none, 0⟩,
    ⟨some 8, .mv (.tmp 26), none, 0⟩]) <|
  .seq (.seq (.ops [
    ⟨some 27, .mv (.tmp 8), none, 0⟩,
    ⟨some 28, .mv (.tmp 1), none, 0⟩,
    ⟨some 29, .bin .gtr (.tmp 27) (.tmp 28), none, 0⟩]) <|
  .cond (.tmp 29)
    (.seq (.ops [
      ⟨some 4, .mv (.const (.int .i64 0)), none, 0⟩,
      ⟨some 5, .mv (.const (.int .i64 5)), none, 0⟩]) <|
    .keep [4, 5] <|
    .ret)
    (.skip)) <|
  .ops [
    ⟨some 30, .mv (.tmp 6), none, 0⟩,
    ⟨some 31, .mv (.tmp 1), none, 0⟩,
    ⟨some 32, .mv (.tmp 8), none, 0⟩,
    ⟨some 33, .bin .sub (.tmp 31) (.tmp 32), none, 0⟩,
    ⟨some 34, .bin .add (.tmp 30) (.tmp 33), none, 0⟩,
    ⟨some 6, .mv (.tmp 34), none, 0⟩]) <|
  .ops [
    ⟨some 35, .bin .add (.tmp 23) (.const (.int .i64 1)), none, 0⟩,
    ⟨some 23, .mv (.tmp 35), none, 0⟩]
def i_impl_EdgesLeft : FF := ⟨38, [.tmp 4, .tmp 5],
  .seq (.ops [
    ⟨some 2, .box 2 (.tmp 0), none, 0⟩,
    ⟨some 4, .mv (.const (.int .i64 0)), none, 0⟩,
    ⟨some 5, .mv (.const (.int .i64 0)), none, 0⟩]) <|
  .seq (.block 0 <|
  .seq (.ops [
    ⟨some 10, .load true 2 (.tmp 2), none, 0⟩,
    ⟨some 11, .call k_impl_IsGraph [(.tmp 10)], none, 0⟩,
    ⟨some 12, .un .not (.tmp 11), none, 0⟩,
    ⟨some 9, .mv (.tmp 12), none, 0⟩]) <|
  .cond (.tmp 9)
    (.seq (.ops [
      ⟨some 4, .mv (.const (.int .i64 0)), none, 0⟩,
      ⟨some 5, .mv (.const (.int .i64 1)), none, 0⟩]) <|
    .keep [4, 5] <|
    .ret)
    (.seq (.ops [
      ⟨some 14, .mv (.tmp 1), none, 0⟩,
      ⟨some 15, .bin .lss (.tmp 14) (.const (.int .i64 1)), none, 0⟩,
      ⟨some 16, .mv (.tmp 15), none, 0⟩,
      ⟨some 17, .mv (.tmp 1), some (16, false), 0⟩,
      ⟨some 18, .bin .gtr (.tmp 17) (.const (.int .i64 6)), some (16, false), 0⟩,
      ⟨some 19, .pick (.tmp 16) (.const (.bool true)) (.tmp 18), none, 0⟩,
      ⟨some 13, .mv (.tmp 19), none, 0⟩]) <|
    .cond (.tmp 13)
      (.seq (.ops [
        ⟨some 4, .mv (.const (.int .i64 0)), none, 0⟩,
        ⟨some 5, .mv (.const (.int .i64 2)), none, 0⟩]) <|
      .keep [4, 5] <|
      .ret)
      (.skip))) <|
  .seq (.ops [
    ⟨some 6, .mv (.const (.int .i64 0)), none, 0⟩]) <|
  .seq (.seq (.ops [
    ⟨some 20, .load true 2 (.tmp 2), none, 0⟩,
    ⟨some 21, .call k_impl_Graph_degrees [(.tmp 20)], none, 0⟩,
    ⟨some 22, .len (.tmp 21), none, 0⟩,
    ⟨some 23, .mv (.const (.int .i64 0)), none, 0⟩]) <|
  .block 1 <|
  .loop [1, 6, 21, 22, 23] i_impl_EdgesLeft_B1) <|
  .seq (.ops [
    ⟨some 36, .mv (.tmp 6), none, 0⟩,
    ⟨some 37, .bin .quo (.tmp 36) (.const (.int .i64 2)), none, 0⟩,
    ⟨some 4, .mv (.tmp 37), none, 0⟩,
    ⟨some 5, .mv (.const (.int .i64 0)), none, 0⟩]) <|
  .keep [4, 5] <|
  .ret⟩

theorem e_impl_EdgesLeft : EntOK Tryd.prog (compD Tryd.prog) k_impl_EdgesLeft i_impl_EdgesLeft.vf :=
  ⟨Tryd.f29, Tryd.f29.body.getD .skip, Tryd.func29, by kernel_rfl, by kernel_rfl, by kernel_rfl, by kernel_rfl, by kernel_rfl⟩

/-- loop.example/g01331/spec.DrawPairsToJoin -/
def i_spec_DrawPairsToJoin : FF := ⟨17, [.cell 2 true 2, .tmp 3, .tmp 4],
  .seq (.ops [
    ⟨some 2, .alloc [.int .i64 0, .slice none 0 0], none, 0⟩,
    ⟨some 3, .mv (.const (.int .i64 0)), none, 0⟩,
    ⟨some 4, .mv (.const (.int .i64 0)), none, 0⟩]) <|
  .seq (.ops [
    ⟨some 9, .mv (.tmp 0), none, 0⟩,
    ⟨some 10, .call k_spec_l07With [(.tmp 9)], none, 0⟩,
    ⟨some 8, .mv (.tmp 10), none, 0⟩,
    ⟨some 11, .ext (.tmp 8) 0, none, 0⟩,
    ⟨some 12, .ext (.tmp 8) 1, none, 0⟩,
    ⟨some 13, .ext (.tmp 8) 2, none, 0⟩,
    ⟨some 5, .alloc [.int .i64 0, .slice none 0 0], none, 0⟩,
    ⟨none, .store 2 (.tmp 5) (.tmp 11), none, 0⟩,
    ⟨some 6, .mv (.tmp 12), none, 0⟩,
    ⟨some 7, .mv (.tmp 13), none, 0⟩]) <|
  .seq (.ops [
    ⟨some 14, .load true 2 (.tmp 5), none, 0⟩,
    ⟨some 15, .mv (.tmp 6), none, 0⟩,
    ⟨some 16, .mv (.tmp 7), none, 0⟩,
    ⟨none, .store 2 (.tmp 2) (.tmp 14), none, 0⟩,
    ⟨some 3, .mv (.tmp 15), none, 0⟩,
    ⟨some 4, .mv (.tmp 16), none, 0⟩]) <|
  .keep [2, 3, 4] <|
  .ret⟩

theorem e_spec_DrawPairsToJoin : EntOK Tryd.prog (compD Tryd.prog) k_spec_DrawPairsToJoin i_spec_DrawPairsToJoin.vf :=
  ⟨Tryd.f30, Tryd.f30.body.getD .skip, Tryd.func30, by kernel_rfl, by kernel_rfl, by kernel_rfl, by kernel_rfl, by kernel_rfl⟩

/-- loop.example/g01331/impl.PairsToJoin -/
def i_impl_PairsToJoin : FF := ⟨20, [.tmp 6, .tmp 7],
  .seq (.ops [
    ⟨some 3, .box 2 (.tmp 0), none, 0⟩,
    ⟨some 6, .mv (.const (.slice none 0 0)), none, 0⟩,
    ⟨some 7, .mv (.const (.int .i64 0)), none, 0⟩]) <|
  .seq (.seq (.ops [
    ⟨some 9, .load true 2 (.tmp 3), none, 0⟩,
    ⟨some 10, .mv (.tmp 1), none, 0⟩,
    ⟨some 11, .mv (.tmp 2), none, 0⟩,
    ⟨some 12, .call k_impl_fitCode [(.tmp 9), (.tmp 10), (.tmp 11)], none, 0⟩,
    ⟨some 8, .mv (.tmp 12), none, 0⟩]) <|
  .seq (.ops [
    ⟨some 13, .mv (.tmp 8), none, 0⟩,
    ⟨some 14, .bin .neq (.tmp 13) (.const (.int .i64 0)), none, 0⟩]) <|
  .cond (.tmp 14)
    (.seq (.ops [
      ⟨some 15, .mv (.tmp 8), none, 0⟩,
      ⟨some 6, .mv (.const (.slice none 0 0)), none, 0⟩,
      ⟨some 7, .mv (.tmp 15), none, 0⟩]) <|
    .keep [6, 7] <|
    .ret)
    (.skip)) <|
  .seq (.ops [
    ⟨some 16, .load true 2 (.tmp 3), none, 0⟩,
    ⟨some 17, .mv (.tmp 1), none, 0⟩,
    ⟨some 18, .mv (.tmp 2), none, 0⟩,
    ⟨some 19, .call k_impl_Graph_pairs [(.tmp 16), (.tmp 17), (.tmp 18)], none, 0⟩,
    ⟨some 6, .mv (.tmp 19), none, 0⟩,
    ⟨some 7, .mv (.const (.int .i64 0)), none, 0⟩]) <|
  .keep [6, 7] <|
  .ret⟩

theorem e_impl_PairsToJoin : EntOK Tryd.prog (compD Tryd.prog) k_impl_PairsToJoin i_impl_PairsToJoin.vf :=
  ⟨Tryd.f31, Tryd.f31.body.getD .skip, Tryd.func31, by kernel_rfl, by kernel_rfl, by kernel_rfl, by kernel_rfl, by kernel_rfl⟩

/-- loop.example/g01331/spec.PairsToJoin -/
def i_spec_PairsToJoin_B1 : FC :=
  .seq (.seq (.ops [
    ⟨some 28, .mv (.tmp 11), none, 0⟩,
    ⟨some 29, .fld 0 (.tmp 3), none, 0⟩,
    ⟨some 30, .load false 1 (.tmp 29), none, 0⟩,
    ⟨some 31, .bin .lss (.tmp 28) (.tmp 30), none, 0⟩]) <|
  .cond (.tmp 31)
    (.skip)
    (.keep [1, 2, 3, 9, 10] <|
    .exit 2)) <|
  .seq (.block 3 <|
  .seq (.ops [
    ⟨some 34, .load true 2 (.tmp 3), none, 0⟩,
    ⟨some 35, .mv (.tmp 1), none, 0⟩,
    ⟨some 36, .mv (.tmp 2), none, 0⟩,
    ⟨some 37, .mv (.tmp 10), none, 0⟩,
    ⟨some 38, .mv (.tmp 11), none, 0⟩,
    ⟨some 39, .call k_spec_l07May [(.tmp 34), (.tmp 35), (.tmp 36), (.tmp 37), (.tmp 38)], none, 0⟩]) <|
  .cond (.tmp 39)
    (.ops [
      ⟨some 40, .mv (.tmp 9), none, 0⟩,
      ⟨some 41, .mv (.tmp 10), none, 0⟩,
      ⟨some 42, .mv (.tmp 11), none, 0⟩,
      ⟨some 43, .buildSl 1 [.int .i64 0, .int .i64 0] [(0, 1, (.tmp 41)), (1, 1, (.tmp 42))] 2, none, 0⟩,
      ⟨some 44, .buildSl 1 [.slice none 0 0] [(0, 1, (.tmp 43))] 1, none, 0⟩,
      ⟨some 45, .app 1 24 [.slice none 0 0] (.tmp 40) (.tmp 44), none, 0⟩,
      ⟨some 9, .mv (.tmp 45), none, 0⟩])
    (.skip)) <|
  .ops [
    ⟨some 32, .mv (.tmp 11), none, 0⟩,
    ⟨some 33, .bin .add (.tmp 32) (.const (.int .i64 1)), none, 0⟩,
    ⟨some 11, .mv (.tmp 33), none, 0⟩]
def i_spec_PairsToJoin_B2 : FC :=
  .seq (.seq (.ops [
    ⟨some 20, .mv (.tmp 10), none, 0⟩,
    ⟨some 21, .fld 0 (.tmp 3), none, 0⟩,
    ⟨some 22, .load false 1 (.tmp 21), none, 0⟩,
    ⟨some 23, .bin .lss (.tmp 20) (.tmp 22), none, 0⟩]) <|
  .cond (.tmp 23)
    (.skip)
    (.keep [9] <|
    .exit 0)) <|
  .seq (.block 1 <|
  .seq (.ops [
    ⟨some 26, .mv (.tmp 10), none, 0⟩,
    ⟨some 27, .bin .add (.tmp 26) (.const (.int .i64 1)), none, 0⟩,
    ⟨some 11, .mv (.tmp 27), none, 0⟩]) <|
  .block 2 <|
  .loop [1, 2, 3, 9, 10, 11] i_spec_PairsToJoin_B1) <|
  .ops [
    ⟨some 24, .mv (.tmp 10), none, 0⟩,
    ⟨some 25, .bin .add (.tmp 24) (.const (.int .i64 1)), none, 0⟩,
    ⟨some 10, .mv (.tmp 25), none, 0⟩]
def i_spec_PairsToJoin : FF := ⟨47, [.tmp 6, .tmp 7],
  .seq (.ops [
    ⟨some 3, .box 2 (.tmp 0), none, 0⟩,
    ⟨some 6, .mv (.const (.slice none 0 0)), none, 0⟩,
    ⟨some 7, .mv (.const (.int .i64 0)), none, 0⟩]) <|
  .seq (.seq (.ops [
    ⟨some 12, .load true 2 (.tmp 3), none, 0⟩,
    ⟨some 13, .mv (.tmp 1), none, 0⟩,
    ⟨some 14, .mv (.tmp 2), none, 0⟩,
    ⟨some 15, .call k_spec_l07Given [(.tmp 12), (.tmp 13), (.tmp 14)], none, 0⟩,
    ⟨some 8, .mv (.tmp 15), none, 0⟩]) <|
  .seq (.ops [
    ⟨some 16, .mv (.tmp 8), none, 0⟩,
    ⟨some 17, .bin .neq (.tmp 16) (.const (.int .i64 0)), none, 0⟩]) <|
  .cond (.tmp 17)
    (.seq (.ops [
      ⟨some 18, .mv (.tmp 8), none, 0⟩,
      ⟨some 6, .mv (.const (.slice none 0 0)), none, 0⟩,
      ⟨some 7, .mv (.tmp 18), none, 0⟩]) <|
    .keep [6, 7] <|
    .ret)
    (.skip)) <|
  .seq (.ops [
    ⟨some 19, .buildSl 1 [] [] 0, none, 0⟩,
    ⟨some 9, .mv (.tmp 19), none, 0⟩]) <|
  .seq (.seq (.ops [
    ⟨some 10, .mv (.const (.int .i64 0)), none, 0⟩]) <|
  .block 0 <|
  .loop [1, 2, 3, 9, 10] i_spec_PairsToJoin_B2) <|
  .seq (.ops [
    ⟨some 46, .mv (.tmp 9), none, 0⟩,
    ⟨some 6, .mv (.tmp 46), none, 0⟩,
    ⟨some 7, .mv (.const (.int .i64 0)), none, 0⟩]) <|
  .keep [6, 7] <|
  .ret⟩

theorem e_spec_PairsToJoin : EntOK Tryd.prog (compD Tryd.prog) k_spec_PairsToJoin i_spec_PairsToJoin.vf :=
  ⟨Tryd.f32, Tryd.f32.body.getD .skip, Tryd.func32, by kernel_rfl, by kernel_rfl, by kernel_rfl, by kernel_rfl, by kernel_rfl⟩

/-- loop.example/g01331/laws.rows5 -/
def i_laws_rows5_B1 : FC :=
  .seq (.seq (.ops [
    ⟨some 11, .mv (.tmp 5), none, 0⟩,
    ⟨some 12, .mv (.tmp 0), none, 0⟩,
    ⟨some 13, .len (.tmp 12), none, 0⟩,
    ⟨some 14, .bin .lss (.tmp 11) (.tmp 13), none, 0⟩]) <|
  .cond (.tmp 14)
    (.skip)
    (.keep [] <|
    .exit 0)) <|
  .seq (.block 1 <|
  .seq (.dops [
    ⟨some 17, .mv (.tmp 0), none, 0⟩,
    ⟨some 18, .mv (.tmp 5), none, 0⟩,
    ⟨some 19, .idx 1 (.tmp 17) (.tmp 18), none, 0⟩,
    ⟨some 20, .load false 1 (.tmp 19), none, 0⟩,
    ⟨some 21, .mv (.tmp 1), none, 0⟩,
    ⟨some 22, .mv (.tmp 5), none, 0⟩,
    ⟨some 23, .idx 1 (.tmp 21) (.tmp 22), none, 0⟩,
    ⟨some 24, .load false 1 (.tmp 23), none, 0⟩,
    ⟨some 25, .call k_laws_likeInts [(.tmp 20), (.tmp 24)], none, 0⟩,
    ⟨some 26, .un .not (.tmp 25), none, 0⟩]) <|
  .cond (.tmp 26)
    (.seq (.ops [
      ⟨some 4, .mv (.const (.bool false)), none, 0⟩]) <|
    .keep [4] <|
    .ret)
    (.skip)) <|
  .ops [
    ⟨some 15, .mv (.tmp 5), none, 0⟩,
    ⟨some 16, .bin .add (.tmp 15) (.const (.int .i64 1)), none, 0⟩,
    ⟨some 5, .mv (.tmp 16), none, 0⟩]
def i_laws_rows5 : FF := ⟨27, [.tmp 4],
  .seq (.ops [
    ⟨some 4, .mv (.const (.bool false)), none, 0⟩]) <|
  .seq (.seq (.ops [
    ⟨some 6, .mv (.tmp 0), none, 0⟩,
    ⟨some 7, .len (.tmp 6), none, 0⟩,
    ⟨some 8, .mv (.tmp 1), none, 0⟩,
    ⟨some 9, .len (.tmp 8), none, 0⟩,
    ⟨some 10, .bin .neq (.tmp 7) (.tmp 9), none, 0⟩]) <|
  .cond (.tmp 10)
    (.seq (.ops [
      ⟨some 4, .mv (.const (.bool false)), none, 0⟩]) <|
    .keep [4] <|
    .ret)
    (.skip)) <|
  .seq (.seq (.ops [
    ⟨some 5, .mv (.const (.int .i64 0)), none, 0⟩]) <|
  .block 0 <|
  .loop [0, 1, 5] i_laws_rows5_B1) <|
  .seq (.ops [
    ⟨some 4, .mv (.const (.bool true)), none, 0⟩]) <|
  .keep [4] <|
  .ret⟩

theorem e_laws_rows5 : EntOK Tryd.prog (compD Tryd.prog) k_laws_rows5 i_laws_rows5.vf :=
  ⟨Tryd.f33, Tryd.f33.body.getD .skip, Tryd.func33, by kernel_rfl, by kernel_rfl, by kernel_rfl, by kernel_rfl, by kernel_rfl⟩

/-- loop.example/g01331/impl.PutEdge -/
def i_impl_PutEdge : FF := ⟨30, [.cell 6 true 2, .tmp 7],
  .seq (.ops [
    ⟨some 3, .box 2 (.tmp 0), none, 0⟩,
    ⟨some 6, .alloc [.int .i64 0, .slice none 0 0], none, 0⟩,
    ⟨some 7, .mv (.const (.int .i64 0)), none, 0⟩]) <|
  .seq (.seq (.ops [
    ⟨some 10, .load true 2 (.tmp 3), none, 0⟩,
    ⟨some 11, .mv (.tmp 1), none, 0⟩,
    ⟨some 12, .mv (.tmp 2), none, 0⟩,
    ⟨some 13, .call k_impl_pairCode [(.tmp 10), (.tmp 11), (.tmp 12)], none, 0⟩,
    ⟨some 8, .mv (.tmp 13), none, 0⟩]) <|
  .seq (.ops [
    ⟨some 14, .mv (.tmp 8), none, 0⟩,
    ⟨some 15, .bin .neq (.tmp 14) (.const (.int .i64 0)), none, 0⟩]) <|
  .cond (.tmp 15)
    (.seq (.ops [
      ⟨some 16, .build [.int .i64 0, .slice none 0 0] [], none, 0⟩,
      ⟨some 17, .mv (.tmp 8), none, 0⟩,
      ⟨none, .store 2 (.tmp 6) (.tmp 16), none, 0⟩,
      ⟨some 7, .mv (.tmp 17), none, 0⟩]) <|
    .keep [6, 7] <|
    .ret)
    (.skip)) <|
  .seq (.seq (.ops [
    ⟨some 18, .load true 2 (.tmp 3), none, 0⟩,
    ⟨some 19, .mv (.tmp 1), none, 0⟩,
    ⟨some 20, .mv (.tmp 2), none, 0⟩,
    ⟨some 21, .call k_impl_Graph_has [(.tmp 18), (.tmp 19), (.tmp 20)], none, 0⟩]) <|
  .cond (.tmp 21)
    (.seq (.ops [
      ⟨some 22, .build [.int .i64 0, .slice none 0 0] [], none, 0⟩,
      ⟨none, .store 2 (.tmp 6) (.tmp 22), none, 0⟩,
      ⟨some 7, .mv (.const (.int .i64 5)), none, 0⟩]) <|
    .keep [6, 7] <|
    .ret)
    (.skip)) <|
  .seq (.ops [
    ⟨some 23, .load true 2 (.tmp 3), none, 0⟩,
    ⟨some 24, .call k_impl_own [(.tmp 23)], none, 0⟩,
    ⟨some 9, .alloc [.int .i64 0, .slice none 0 0], none, 0⟩,
    ⟨none, .store 2 (.tmp 9) (.tmp 24), none, 0⟩]) <|
  .seq (.ops [
    ⟨some 25, .load true 2 (.tmp 9), none, 0⟩,
    ⟨some 26, .mv (.tmp 1), none, 0⟩,
    ⟨some 27, .mv (.tmp 2), none, 0⟩,
    ⟨some 28, .call k_impl_Graph_put [(.tmp 25), (.tmp 26), (.tmp 27)], none, 0⟩]) <|
  .seq (.ops [
    ⟨some 29, .load true 2 (.tmp 9), none, 0⟩,
    ⟨none, .store 2 (.tmp 6) (.tmp 29), none, 0⟩,
    ⟨some 7, .mv (.const (.int .i64 0)), none, 0⟩]) <|
  .keep [6, 7] <|
  .ret⟩

theorem e_impl_PutEdge : EntOK Tryd.prog (compD Tryd.prog) k_impl_PutEdge i_impl_PutEdge.vf :=
  ⟨Tryd.f34, Tryd.f34.body.getD .skip, Tryd.func34, by kernel_rfl, by kernel_rfl, by kernel_rfl, by kernel_rfl, by kernel_rfl⟩

/-- loop.example/g01331/spec.DrawFitsBoth -/
def i_spec_DrawFitsBoth : FF := ⟨17, [.cell 2 true 2, .tmp 3, .tmp 4],
  .seq (.ops [
    ⟨some 2, .alloc [.int .i64 0, .slice none 0 0], none, 0⟩,
    ⟨some 3, .mv (.const (.int .i64 0)), none, 0⟩,
    ⟨some 4, .mv (.const (.int .i64 0)), none, 0⟩]) <|
  .seq (.ops [
    ⟨some 9, .mv (.tmp 0), none, 0⟩,
    ⟨some 10, .call k_spec_l07With [(.tmp 9)], none, 0⟩,
    ⟨some 8, .mv (.tmp 10), none, 0⟩,
    ⟨some 11, .ext (.tmp 8) 0, none, 0⟩,
    ⟨some 12, .ext (.tmp 8) 1, none, 0⟩,
    ⟨some 13, .ext (.tmp 8) 2, none, 0⟩,
    ⟨some 5, .alloc [.int .i64 0, .slice none 0 0], none, 0⟩,
    ⟨none, .store 2 (.tmp 5) (.tmp 11), none, 0⟩,
    ⟨some 6, .mv (.tmp 12), none, 0⟩,
    ⟨some 7, .mv (.tmp 13), none, 0⟩]) <|
  .seq (.ops [
    ⟨some 14, .load true 2 (.tmp 5), none, 0⟩,
    ⟨some 15, .mv (.tmp 6), none, 0⟩,
    ⟨some 16, .mv (.tmp 7), none, 0⟩,
    ⟨none, .store 2 (.tmp 2) (.tmp 14), none, 0⟩,
    ⟨some 3, .mv (.tmp 15), none, 0⟩,
    ⟨some 4, .mv (.tmp 16), none, 0⟩]) <|
  .keep [2, 3, 4] <|
  .ret⟩

theorem e_spec_DrawFitsBoth : EntOK Tryd.prog (compD Tryd.prog) k_spec_DrawFitsBoth i_spec_DrawFitsBoth.vf :=
  ⟨Tryd.f35, Tryd.f35.body.getD .skip, Tryd.func35, by kernel_rfl, by kernel_rfl, by kernel_rfl, by kernel_rfl, by kernel_rfl⟩

/-- loop.example/g01331/spec.FitsBoth -/
def i_spec_FitsBoth : FF := ⟨21, [.tmp 6, .tmp 7],
  .seq (.ops [
    ⟨some 3, .box 2 (.tmp 0), none, 0⟩,
    ⟨some 6, .mv (.const (.bool false)), none, 0⟩,
    ⟨some 7, .mv (.const (.int .i64 0)), none, 0⟩]) <|
  .seq (.block 0 <|
  .seq (.ops [
    ⟨some 9, .load true 2 (.tmp 3), none, 0⟩,
    ⟨some 10, .call k_spec_l01Is [(.tmp 9)], none, 0⟩,
    ⟨some 11, .un .not (.tmp 10), none, 0⟩,
    ⟨some 8, .mv (.tmp 11), none, 0⟩]) <|
  .cond (.tmp 8)
    (.seq (.ops [
      ⟨some 6, .mv (.const (.bool false)), none, 0⟩,
      ⟨some 7, .mv (.const (.int .i64 1)), none, 0⟩]) <|
    .keep [6, 7] <|
    .ret)
    (.seq (.ops [
      ⟨some 13, .mv (.tmp 1), none, 0⟩,
      ⟨some 14, .mv (.tmp 2), none, 0⟩,
      ⟨some 15, .call k_spec_l07Numbers [(.tmp 13), (.tmp 14)], none, 0⟩,
      ⟨some 16, .un .not (.tmp 15), none, 0⟩,
      ⟨some 12, .mv (.tmp 16), none, 0⟩]) <|
    .cond (.tmp 12)
      (.seq (.ops [
        ⟨some 6, .mv (.const (.bool false)), none, 0⟩,
        ⟨some 7, .mv (.const (.int .i64 2)), none, 0⟩]) <|
      .keep [6, 7] <|
      .ret)
      (.skip))) <|
  .seq (.ops [
    ⟨some 17, .load true 2 (.tmp 3), none, 0⟩,
    ⟨some 18, .mv (.tmp 1), none, 0⟩,
    ⟨some 19, .mv (.tmp 2), none, 0⟩,
    ⟨some 20, .call k_spec_l07Fits [(.tmp 17), (.tmp 18), (.tmp 19)], none, 0⟩,
    ⟨some 6, .mv (.tmp 20), none, 0⟩,
    ⟨some 7, .mv (.const (.int .i64 0)), none, 0⟩]) <|
  .keep [6, 7] <|
  .ret⟩

theorem e_spec_FitsBoth : EntOK Tryd.prog (compD Tryd.prog) k_spec_FitsBoth i_spec_FitsBoth.vf :=
  ⟨Tryd.f36, Tryd.f36.body.getD .skip, Tryd.func36, by kernel_rfl, by kernel_rfl, by kernel_rfl, by kernel_rfl, by kernel_rfl⟩

/-- loop.example/g01331/spec.DrawIsFull -/
def i_spec_DrawIsFull : FF := ⟨17, [.cell 2 true 2, .tmp 3, .tmp 4],
  .seq (.ops [
    ⟨some 2, .alloc [.int .i64 0, .slice none 0 0], none, 0⟩,
    ⟨some 3, .mv (.const (.int .i64 0)), none, 0⟩,
    ⟨some 4, .mv (.const (.int .i64 0)), none, 0⟩]) <|
  .seq (.ops [
    ⟨some 9, .mv (.tmp 0), none, 0⟩,
    ⟨some 10, .call k_spec_l07With [(.tmp 9)], none, 0⟩,
    ⟨some 8, .mv (.tmp 10), none, 0⟩,
    ⟨some 11, .ext (.tmp 8) 0, none, 0⟩,
    ⟨some 12, .ext (.tmp 8) 1, none, 0⟩,
    ⟨some 13, .ext (.tmp 8) 2, none, 0⟩,
    ⟨some 5, .alloc [.int .i64 0, .slice none 0 0], none, 0⟩,
    ⟨none, .store 2 (.tmp 5) (.tmp 11), none, 0⟩,
    ⟨some 6, .mv (.tmp 12), none, 0⟩,
    ⟨some 7, .mv (.tmp 13), none, 0⟩]) <|
  .seq (.ops [
    ⟨some 14, .load true 2 (.tmp 5), none, 0⟩,
    ⟨some 15, .mv (.tmp 6), none, 0⟩,
    ⟨some 16, .mv (.tmp 7), none, 0⟩,
    ⟨none, .store 2 (.tmp 2) (.tmp 14), none, 0⟩,
    ⟨some 3, .mv (.tmp 15), none, 0⟩,
    ⟨some 4, .mv (.tmp 16), none, 0⟩]) <|
  .keep [2, 3, 4] <|
  .ret⟩

theorem e_spec_DrawIsFull : EntOK Tryd.prog (compD Tryd.prog) k_spec_DrawIsFull i_spec_DrawIsFull.vf :=
  ⟨Tryd.f37, Tryd.f37.body.getD .skip, Tryd.func37, by kernel_rfl, by kernel_rfl, by kernel_rfl, by kernel_rfl, by kernel_rfl⟩

/-- loop.example/g01331/spec.IsFull -/
def i_spec_IsFull_B1 : FC :=
  .seq (.seq (.ops [
    ⟨some 26, .mv (.tmp 10), none, 0⟩,
    ⟨some 27, .fld 0 (.tmp 3), none, 0⟩,
    ⟨some 28, .load false 1 (.tmp 27), none, 0⟩,
    ⟨some 29, .bin .lss (.tmp 26) (.tmp 28), none, 0⟩]) <|
  .cond (.tmp 29)
    (.skip)
    (.keep [1, 2, 3, 9] <|
    .exit 2)) <|
  .seq (.block 3 <|
  .seq (.ops [
    ⟨some 32, .load true 2 (.tmp 3), none, 0⟩,
    ⟨some 33, .mv (.tmp 1), none, 0⟩,
    ⟨some 34, .mv (.tmp 2), none, 0⟩,
    ⟨some 35, .mv (.tmp 9), none, 0⟩,
    ⟨some 36, .mv (.tmp 10), none, 0⟩,
    ⟨some 37, .call k_spec_l07May [(.tmp 32), (.tmp 33), (.tmp 34), (.tmp 35), (.tmp 36)], none, 0⟩]) <|
  .cond (.tmp 37)
    (.seq (.ops [
      ⟨some 6, .mv (.const (.bool false)), none, 0⟩,
      ⟨some 7, .mv (.const (.int .i64 0)), none, 0⟩]) <|
    .keep [6, 7] <|
    .ret)
    (.skip)) <|
  .ops [
    ⟨some 30, .mv (.tmp 10), none, 0⟩,
    ⟨some 31, .bin .add (.tmp 30) (.const (.int .i64 1)), none, 0⟩,
    ⟨some 10, .mv (.tmp 31), none, 0⟩]
def i_spec_IsFull_B2 : FC :=
  .seq (.seq (.ops [
    ⟨some 18, .mv (.tmp 9), none, 0⟩,
    ⟨some 19, .fld 0 (.tmp 3), none, 0⟩,
    ⟨some 20, .load false 1 (.tmp 19), none, 0⟩,
    ⟨some 21, .bin .lss (.tmp 18) (.tmp 20), none, 0⟩]) <|
  .cond (.tmp 21)
    (.skip)
    (.keep [] <|
    .exit 0)) <|
  .seq (.block 1 <|
  .seq (.ops [
    ⟨some 24, .mv (.tmp 9), none, 0⟩,
    ⟨some 25, .bin .add (.tmp 24) (.const (.int .i64 1)), none, 0⟩,
    ⟨some 10, .mv (.tmp 25), none, 0⟩]) <|
  .block 2 <|
  .loop [1, 2, 3, 9, 10] i_spec_IsFull_B1) <|
  .ops [
    ⟨some 22, .mv (.tmp 9), none, 0⟩,
    ⟨some 23, .bin .add (.tmp 22) (.const (.int .i64 1)), none, 0⟩,
    ⟨some 9, .mv (.tmp 23), none, 0⟩]
def i_spec_IsFull : FF := ⟨38, [.tmp 6, .tmp 7],
  .seq (.ops [
    ⟨some 3, .box 2 (.tmp 0), none, 0⟩,
    ⟨some 6, .mv (.const (.bool false)), none, 0⟩,
    ⟨some 7, .mv (.const (.int .i64 0)), none, 0⟩]) <|
  .seq (.seq (.ops [
    ⟨some 11, .load true 2 (.tmp 3), none, 0⟩,
    ⟨some 12, .mv (.tmp 1), none, 0⟩,
    ⟨some 13, .mv (.tmp 2), none, 0⟩,
    ⟨some 14, .call k_spec_l07Given [(.tmp 11), (.tmp 12), (.tmp 13)], none, 0⟩,
    ⟨some 8, .mv (.tmp 14), none, 0⟩]) <|
  .seq (.ops [
    ⟨some 15, .mv (.tmp 8), none, 0⟩,
    ⟨some 16, .bin .neq (.tmp 15) (.const (.int .i64 0)), none, 0⟩]) <|
  .cond (.tmp 16)
    (.seq (.ops [
      ⟨some 17, .mv (.tmp 8), none, 0⟩,
      ⟨some 6, .mv (.const (.bool false)), none, 0⟩,
      ⟨some 7, .mv (.tmp 17), none, 0⟩]) <|
    .keep [6, 7] <|
    .ret)
    (.skip)) <|
  .seq (.seq (.ops [
    ⟨some 9, .mv (.const (.int .i64 0)), none, 0⟩]) <|
  .block 0 <|
  .loop [1, 2, 3, 9] i_spec_IsFull_B2) <|
  .seq (.ops [
    ⟨some 6, .mv (.const (.bool true)), none, 0⟩,
    ⟨some 7, .mv (.const (.int .i64 0)), none, 0⟩]) <|
  .keep [6, 7] <|
  .ret⟩

theorem e_spec_IsFull : EntOK Tryd.prog (compD Tryd.prog) k_spec_IsFull i_spec_IsFull.vf :=
  ⟨Tryd.f38, Tryd.f38.body.getD .skip, Tryd.func38, by kernel_rfl, by kernel_rfl, by kernel_rfl, by kernel_rfl, by kernel_rfl⟩

/-- loop.example/g01331/spec.DrawEdgesLeft -/
def i_spec_DrawEdgesLeft : FF := ⟨15, [.cell 2 true 2, .tmp 3],
  .seq (.ops [
    ⟨some 2, .alloc [.int .i64 0, .slice none 0 0], none, 0⟩,
    ⟨some 3, .mv (.const (.int .i64 0)), none, 0⟩]) <|
  .seq (.ops [
    ⟨some 8, .mv (.tmp 0), none, 0⟩,
    ⟨some 9, .call k_spec_l07With [(.tmp 8)], none, 0⟩,
    ⟨some 7, .mv (.tmp 9), none, 0⟩,
    ⟨some 10, .ext (.tmp 7) 0, none, 0⟩,
    ⟨some 11, .ext (.tmp 7) 1, none, 0⟩,
    ⟨some 12, .ext (.tmp 7) 2, none, 0⟩,
    ⟨some 4, .alloc [.int .i64 0, .slice none 0 0], none, 0⟩,
    ⟨none, .store 2 (.tmp 4) (.tmp 10), none, 0⟩,
    ⟨some 5, .mv (.tmp 11), none, 0⟩,
    ⟨some 6, .mv (.tmp 12), none, 0⟩]) <|
  .seq (.ops [
    ⟨some 13, .load true 2 (.tmp 4), none, 0⟩,
    ⟨some 14, .mv (.tmp 5), none, 0⟩,
    ⟨none, .store 2 (.tmp 2) (.tmp 13), none, 0⟩,
    ⟨some 3, .mv (.tmp 14), none, 0⟩]) <|
  .keep [2, 3] <|
  .ret⟩

theorem e_spec_DrawEdgesLeft : EntOK Tryd.prog (compD Tryd.prog) k_spec_DrawEdgesLeft i_spec_DrawEdgesLeft.vf :=
  ⟨Tryd.f39, Tryd.f39.body.getD .skip, Tryd.func39, by kernel_rfl, by kernel_rfl, by kernel_rfl, by kernel_rfl, by kernel_rfl⟩

/-- loop.example/g01331/spec.EdgesLeft -/
def i_spec_EdgesLeft_B1 : FC :=
  .seq (.seq (.ops [
    ⟨some 16, .mv (.tmp 7), none, 0⟩,
    ⟨some 17, .fld 0 (.tmp 2), none, 0⟩,
    ⟨some 18, .load false 1 (.tmp 17), none, 0⟩,
    ⟨some 19, .bin .lss (.tmp 16) (.tmp 18), none, 0⟩]) <|
  .cond (.tmp 19)
    (.skip)
    (.keep [6] <|
    .exit 1)) <|
  .seq (.block 2 <|
  .seq (.seq (.ops [
    ⟨some 22, .load true 2 (.tmp 2), none, 0⟩,
    ⟨some 23, .mv (.tmp 7), none, 0⟩,
    ⟨some 24, .call k_spec_l01Degree [(.tmp 22), (.tmp 23)], none, 0⟩,
    ⟨some 25, .mv (.tmp 1), none, 0⟩,
    ⟨some 26, .bin .gtr (.tmp 24) (.tmp 25), none, 0⟩]) <|
  .cond (.tmp 26)
    (.seq (.ops [
      ⟨some 4, .mv (.const (.int .i64 0)), none, 0⟩,
      ⟨some 5, .mv (.const (.int .i64 5)), none, 0⟩]) <|
    .keep [4, 5] <|
    .ret)
    (.skip)) <|
  .ops [
    ⟨some 27, .mv (.tmp 6), none, 0⟩,
    ⟨some 28, .mv (.tmp 1), none, 0⟩,
    ⟨some 29, .bin .add (.tmp 27) (.tmp 28), none, 0⟩,
    ⟨some 30, .load true 2 (.tmp 2), none, 0⟩,
    ⟨some 31, .mv (.tmp 7), none, 0⟩,
    ⟨some 32, .call k_spec_l01Degree [(.tmp 30), (.tmp 31)], none, 0⟩,
    ⟨some 33, .bin .sub (.tmp 29) (.tmp 32), none, 0⟩,
    ⟨some 6, .mv (.tmp 33), none, 0⟩]) <|
  .ops [
    ⟨some 20, .mv (.tmp 7), none, 0⟩,
    ⟨some 21, .bin .add (.tmp 20) (.const (.int .i64 1)), none, 0⟩,
    ⟨some 7, .mv (.tmp 21), none, 0⟩]
def i_spec_EdgesLeft : FF := ⟨36, [.tmp 4, .tmp 5],
  .seq (.ops [
    ⟨some 2, .box 2 (.tmp 0), none, 0⟩,
    ⟨some 4, .mv (.const (.int .i64 0)), none, 0⟩,
    ⟨some 5, .mv (.const (.int .i64 0)), none, 0⟩]) <|
  .seq (.block 0 <|
  .seq (.ops [
    ⟨some 9, .load true 2 (.tmp 2), none, 0⟩,
    ⟨some 10, .call k_spec_l01Is [(.tmp 9)], none, 0⟩,
    ⟨some 11, .un .not (.tmp 10), none, 0⟩,
    ⟨some 8, .mv (.tmp 11), none, 0⟩]) <|
  .cond (.tmp 8)
    (.seq (.ops [
      ⟨some 4, .mv (.const (.int .i64 0)), none, 0⟩,
      ⟨some 5, .mv (.const (.int .i64 1)), none, 0⟩]) <|
    .keep [4, 5] <|
    .ret)
    (.seq (.ops [
      ⟨some 13, .mv (.tmp 1), none, 0⟩,
      ⟨some 14, .call k_spec_l01In [(.tmp 13), (.const (.int .i64 1)), (.const (.int .i64 6))], none, 0⟩,
      ⟨some 15, .un .not (.tmp 14), none, 0⟩,
      ⟨some 12, .mv (.tmp 15), none, 0⟩]) <|
    .cond (.tmp 12)
      (.seq (.ops [
        ⟨some 4, .mv (.const (.int .i64 0)), none, 0⟩,
        ⟨some 5, .mv (.const (.int .i64 2)), none, 0⟩]) <|
      .keep [4, 5] <|
      .ret)
      (.skip))) <|
  .seq (.ops [
    ⟨some 6, .mv (.const (.int .i64 0)), none, 0⟩]) <|
  .seq (.seq (.ops [
    ⟨some 7, .mv (.const (.int .i64 0)), none, 0⟩]) <|
  .block 1 <|
  .loop [1, 2, 6, 7] i_spec_EdgesLeft_B1) <|
  .seq (.ops [
    ⟨some 34, .mv (.tmp 6), none, 0⟩,
    ⟨some 35, .bin .quo (.tmp 34) (.const (.int .i64 2)), none, 0⟩,
    ⟨some 4, .mv (.tmp 35), none, 0⟩,
    ⟨some 5, .mv (.const (.int .i64 0)), none, 0⟩]) <|
  .keep [4, 5] <|
  .ret⟩

theorem e_spec_EdgesLeft : EntOK Tryd.prog (compD Tryd.prog) k_spec_EdgesLeft i_spec_EdgesLeft.vf :=
  ⟨Tryd.f40, Tryd.f40.body.getD .skip, Tryd.func40, by kernel_rfl, by kernel_rfl, by kernel_rfl, by kernel_rfl, by kernel_rfl⟩

/-- loop.example/g01331/laws.likeInts -/
def i_laws_likeInts_B1 : FC :=
  .seq (.seq (.ops [
    ⟨some 11, .mv (.tmp 5), none, 0⟩,
    ⟨some 12, .mv (.tmp 0), none, 0⟩,
    ⟨some 13, .len (.tmp 12), none, 0⟩,
    ⟨some 14, .bin .lss (.tmp 11) (.tmp 13), none, 0⟩]) <|
  .cond (.tmp 14)
    (.skip)
    (.keep [] <|
    .exit 0)) <|
  .seq (.block 1 <|
  .seq (.dops [
    ⟨some 17, .mv (.tmp 0), none, 0⟩,
    ⟨some 18, .mv (.tmp 5), none, 0⟩,
    ⟨some 19, .idx 1 (.tmp 17) (.tmp 18), none, 0⟩,
    ⟨some 20, .load false 1 (.tmp 19), none, 0⟩,
    ⟨some 21, .mv (.tmp 1), none, 0⟩,
    ⟨some 22, .mv (.tmp 5), none, 0⟩,
    ⟨some 23, .idx 1 (.tmp 21) (.tmp 22), none, 0⟩,
    ⟨some 24, .load false 1 (.tmp 23), none, 0⟩,
    ⟨some 25, .bin .neq (.tmp 20) (.tmp 24), none, 0⟩]) <|
  .cond (.tmp 25)
    (.seq (.ops [
      ⟨some 4, .mv (.const (.bool false)), none, 0⟩]) <|
    .keep [4] <|
    .ret)
    (.skip)) <|
  .ops [
    ⟨some 15, .mv (.tmp 5), none, 0⟩,
    ⟨some 16, .bin .add (.tmp 15) (.const (.int .i64 1)), none, 0⟩,
    ⟨some 5, .mv (.tmp 16), none, 0⟩]
def i_laws_likeInts : FF := ⟨26, [.tmp 4],
  .seq (.ops [
    ⟨some 4, .mv (.const (.bool false)), none, 0⟩]) <|
  .seq (.seq (.ops [
    ⟨some 6, .mv (.tmp 0), none, 0⟩,
    ⟨some 7, .len (.tmp 6), none, 0⟩,
    ⟨some 8, .mv (.tmp 1), none, 0⟩,
    ⟨some 9, .len (.tmp 8), none, 0⟩,
    ⟨some 10, .bin .neq (.tmp 7) (.tmp 9), none, 0⟩]) <|
  .cond (.tmp 10)
    (.seq (.ops [
      ⟨some 4, .mv (.const (.bool false)), none, 0⟩]) <|
    .keep [4] <|
    .ret)
    (.skip)) <|
  .seq (.seq (.ops [
    ⟨some 5, .mv (.const (.int .i64 0)), none, 0⟩]) <|
  .block 0 <|
  .loop [0, 1, 5] i_laws_likeInts_B1) <|
  .seq (.ops [
    ⟨some 4, .mv (.const (.bool true)), none, 0⟩]) <|
  .keep [4] <|
  .ret⟩

theorem e_laws_likeInts : EntOK Tryd.prog (compD Tryd.prog) k_laws_likeInts i_laws_likeInts.vf :=
  ⟨Tryd.f62, Tryd.f62.body.getD .skip, Tryd.func62, by kernel_rfl, by kernel_rfl, by kernel_rfl, by kernel_rfl, by kernel_rfl⟩

/-- loop.example/g01331/spec.l01From -/
def i_spec_l01From_B1 : FC :=
  .seq (.seq (.ops [
    ⟨some 12, .mv (.tmp 4), none, 0⟩,
    ⟨some 13, .mv (.tmp 0), none, 0⟩,
    ⟨some 14, .len (.tmp 13), none, 0⟩,
    ⟨some 15, .bin .lss (.tmp 12) (.tmp 14), none, 0⟩,
    ⟨some 16, .mv (.tmp 15), none, 0⟩,
    ⟨some 17, .mv (.tmp 4), some (16, true), 0⟩,
    ⟨some 18, .bin .lss (.tmp 17) (.const (.int .i64 4096)), some (16, true), 0⟩,
    ⟨some 19, .pick (.tmp 16) (.tmp 18) (.const (.bool false)), none, 0⟩]) <|
  .cond (.tmp 19)
    (.skip)
    (.keep [3] <|
    .exit 0)) <|
  .seq (.block 1 <|
  .dops [
    ⟨some 22, .mv (.tmp 3), none, 0⟩,
    ⟨some 23, .mv (.tmp 3), none, 0⟩,
    ⟨some 24, .nilchk (.tmp 23), none, 0⟩,
    ⟨some 25, .fld 2 (.tmp 24), none, 0⟩,
    ⟨some 26, .load false 1 (.tmp 25), none, 0⟩,
    ⟨some 27, .bin .mul (.tmp 26) (.const (.int .u64 1099511628211)), none, 0⟩,
    ⟨some 28, .mv (.tmp 0), none, 0⟩,
    ⟨some 29, .mv (.tmp 4), none, 0⟩,
    ⟨some 30, .idx 1 (.tmp 28) (.tmp 29), none, 0⟩,
    ⟨some 31, .load false 1 (.tmp 30), none, 0⟩,
    ⟨some 32, .conv .u64 (.tmp 31), none, 0⟩,
    ⟨some 33, .bin .add (.tmp 27) (.tmp 32), none, 0⟩,
    ⟨some 34, .bin .add (.tmp 33) (.const (.int .u64 157)), none, 0⟩,
    ⟨some 35, .nilchk (.tmp 22), none, 0⟩,
    ⟨some 36, .fld 2 (.tmp 35), none, 0⟩,
    ⟨none, .store 1 (.tmp 36) (.tmp 34), none, 0⟩]) <|
  .ops [
    ⟨some 20, .mv (.tmp 4), none, 0⟩,
    ⟨some 21, .bin .add (.tmp 20) (.const (.int .i64 1)), none, 0⟩,
    ⟨some 4, .mv (.tmp 21), none, 0⟩]
def i_spec_l01From : FF := ⟨38, [.tmp 2],
  .seq (.ops [
    ⟨some 2, .mv (.const (.pointer none)), none, 0⟩]) <|
  .seq (.ops [
    ⟨some 5, .mv (.tmp 0), none, 0⟩,
    ⟨some 6, .mv (.tmp 0), none, 0⟩,
    ⟨some 7, .len (.tmp 6), none, 0⟩,
    ⟨some 8, .conv .u64 (.tmp 7), none, 0⟩,
    ⟨some 9, .bin .add (.const (.int .u64 13311)) (.tmp 8), none, 0⟩,
    ⟨some 10, .build [.slice none 0 0, .int .i64 0, .int .u64 0] [(0, 1, (.tmp 5)), (2, 1, (.tmp 9))], none, 0⟩,
    ⟨some 11, .box 3 (.tmp 10), none, 0⟩,
    ⟨some 3, .mv (.tmp 11), none, 0⟩]) <|
  .seq (.seq (.ops [
    ⟨some 4, .mv (.const (.int .i64 0)), none, 0⟩]) <|
  .block 0 <|
  .loop [0, 3, 4] i_spec_l01From_B1) <|
  .seq (.ops [
    ⟨some 37, .mv (.tmp 3), none, 0⟩,
    ⟨some 2, .mv (.tmp 37), none, 0⟩]) <|
  .keep [2] <|
  .ret⟩

theorem e_spec_l01From : EntOK Tryd.prog (compD Tryd.prog) k_spec_l01From i_spec_l01From.vf :=
  ⟨Tryd.f69, Tryd.f69.body.getD .skip, Tryd.func69, by kernel_rfl, by kernel_rfl, by kernel_rfl, by kernel_rfl, by kernel_rfl⟩

/-- loop.example/g01331/impl.IsGraph -/
def i_impl_IsGraph_B1 : FC :=
  .seq (.ops [
    ⟨some 47, .bin .lss (.tmp 46) (.tmp 45), none, 0⟩]) <|
  .seq (.cond (.tmp 47)
    (.skip)
    (.keep [1, 3, 23, 24, 25] <|
    .exit 2)) <|
  .seq (.block 3 <|
  .seq (.ops [
    ⟨some 48, .mv (.tmp 46), none, 0⟩,
    ⟨some 6, .mv (.tmp 48), none, 0⟩]) <|
  .seq (.dops [
    ⟨some 49, .mv (.tmp 5), none, 0⟩,
    ⟨some 50, .mv (.tmp 6), none, 0⟩,
    ⟨some 51, .bin .shr (.tmp 49) (.tmp 50), none, 0⟩,
    ⟨some 52, .bin .and (.tmp 51) (.const (.int .i64 1)), none, 0⟩,
    ⟨some 53, .fld 1 (.tmp 1), none, 0⟩,
    ⟨some 54, .load false 1 (.tmp 53), none, 0⟩,
    ⟨some 55, .mv (.tmp 6), none, 0⟩,
    ⟨some 56, .idx 1 (.tmp 54) (.tmp 55), none, 0⟩,
    ⟨some 57, .load false 1 (.tmp 56), none, 0⟩,
    ⟨some 58, .mv (.tmp 4), none, 0⟩,
    ⟨some 59, .bin .shr (.tmp 57) (.tmp 58), none, 0⟩,
    ⟨some 60, .bin .and (.tmp 59) (.const (.int .i64 1)), none, 0⟩,
    ⟨some 61, .bin .neq (.tmp 52) (.tmp 60), none, 0⟩]) <|
  .cond (.tmp 61)
    (.seq (.ops [
      ⟨some 2, .mv (.const (.bool false)), none, 0⟩]) <|
    .keep [2] <|
    .ret)
    (.skip)) <|
  .ops [
    ⟨some 62, .bin .add (.tmp 46) (.const (.int .i64 1)), none, 0⟩,
    ⟨some 46, .mv (.tmp 62), none, 0⟩]
def i_impl_IsGraph_B2 : FC :=
  .seq (.ops [
    ⟨some 26, .bin .lss (.tmp 25) (.tmp 24), none, 0⟩]) <|
  .seq (.cond (.tmp 26)
    (.skip)
    (.keep [] <|
    .exit 0)) <|
  .seq (.block 1 <|
  .seq (.ops [
    ⟨some 27, .mv (.tmp 25), none, 0⟩,
    ⟨some 28, .idx 1 (.tmp 23) (.tmp 25), none, 0⟩,
    ⟨some 29, .load false 1 (.tmp 28), none, 0⟩,
    ⟨some 4, .mv (.tmp 27), none, 0⟩,
    ⟨some 5, .mv (.tmp 29), none, 0⟩]) <|
  .seq (.seq (.ops [
    ⟨some 30, .mv (.tmp 5), none, 0⟩,
    ⟨some 31, .bin .lss (.tmp 30) (.const (.int .i64 0)), none, 0⟩,
    ⟨some 32, .mv (.tmp 31), none, 0⟩,
    ⟨some 33, .mv (.tmp 5), some (32, false), 0⟩,
    ⟨some 34, .mv (.tmp 3), some (32, false), 0⟩,
    ⟨some 35, .bin .shl (.const (.int .i64 1)) (.tmp 34), some (32, false), 0⟩,
    ⟨some 36, .bin .geq (.tmp 33) (.tmp 35), some (32, false), 0⟩,
    ⟨some 37, .pick (.tmp 32) (.const (.bool true)) (.tmp 36), none, 0⟩,
    ⟨some 38, .mv (.tmp 37), none, 0⟩,
    ⟨some 39, .mv (.tmp 5), some (38, false), 0⟩,
    ⟨some 40, .mv (.tmp 4), some (38, false), 0⟩,
    ⟨some 41, .bin .shr (.tmp 39) (.tmp 40), some (38, false), 0⟩,
    ⟨some 42, .bin .and (.tmp 41) (.const (.int .i64 1)), some (38, false), 0⟩,
    ⟨some 43, .bin .eql (.tmp 42) (.const (.int .i64 1)), some (38, false), 0⟩,
    ⟨some 44, .pick (.tmp 38) (.const (.bool true)) (.tmp 43), none, 0⟩]) <|
  .cond (.tmp 44)
    (.seq (.ops [
      ⟨some 2, .mv (.const (.bool false)), none, 0⟩]) <|
    .keep [2] <|
    .ret)
    (.skip)) <|
  .seq (.ops [
    ⟨some 45, .mv (.tmp 3), none, 0⟩,
    ⟨some 46, .mv (.const (.int .i64 0)), none, 0⟩]) <|
  .block 2 <|
  .loop [1, 3, 4, 5, 23, 24, 25, 45, 46] i_impl_IsGraph_B1) <|
  .ops [
    ⟨some 63, .bin .add (.tmp 25) (.const (.int .i64 1)), none, 0⟩,
    ⟨some 25, .mv (.tmp 63), none, 0⟩]
def i_impl_IsGraph : FF := ⟨64, [.tmp 2],
  .seq (.ops [
    ⟨some 1, .box 2 (.tmp 0), none, 0⟩,
    ⟨some 2, .mv (.const (.bool false)), none, 0⟩]) <|
  .seq (.ops [
    ⟨some 7, .fld 0 (.tmp 1), none, 0⟩,
    ⟨some 8, .load false 1 (.tmp 7), none, 0⟩,
    ⟨some 3, .mv (.tmp 8), none, 0⟩]) <|
  .seq (.seq (.ops [
    ⟨some 9, .mv (.tmp 3), none, 0⟩,
    ⟨some 10, .bin .lss (.tmp 9) (.const (.int .i64 1)), none, 0⟩,
    ⟨some 11, .mv (.tmp 10), none, 0⟩,
    ⟨some 12, .mv (.tmp 3), some (11, false), 0⟩,
    ⟨some 13, .bin .gtr (.tmp 12) (.const (.int .i64 62)), some (11, false), 0⟩,
    ⟨some 14, .pick (.tmp 11) (.const (.bool true)) (.tmp 13), none, 0⟩,
    ⟨some 15, .mv (.tmp 14), none, 0⟩,
    ⟨some 16, .fld 1 (.tmp 1), some (15, false), 0⟩,
    ⟨some 17, .load false 1 (.tmp 16), some (15, false), 0⟩,
    ⟨some 18, .len (.tmp 17), some (15, false), 0⟩,
    ⟨some 19, .mv (.tmp 3), some (15, false), 0⟩,
    ⟨some 20, .bin .neq (.tmp 18) (.tmp 19), some (15, false), 0⟩,
    ⟨some 21, .pick (.tmp 15) (.const (.bool true)) (.tmp 20), none, 0⟩]) <|
  .cond (.tmp 21)
    (.seq (.ops [
      ⟨some 2, .mv (.const (.bool false)), none, 0⟩]) <|
    .keep [2] <|
    .ret)
    (.skip)) <|
  .seq (.seq (.ops [
    ⟨some 22, .fld 1 (.tmp 1), none, 0⟩,
    ⟨some 23, .load false 1 (.tmp 22), none, 0⟩,
    ⟨some 24, .len (.tmp 23), none, 0⟩,
    ⟨some 25, .mv (.const (.int .i64 0)), none, 0⟩]) <|
  .block 0 <|
  .loop [1, 3, 23, 24, 25] i_impl_IsGraph_B2) <|
  .seq (.ops [
    ⟨some 2, .mv (.const (.bool true)), none, 0⟩]) <|
  .keep [2] <|
  .ret⟩

theorem e_impl_IsGraph : EntOK Tryd.prog (compD Tryd.prog) k_impl_IsGraph i_impl_IsGraph.vf :=
  ⟨Tryd.f70, Tryd.f70.body.getD .skip, Tryd.func70, by kernel_rfl, by kernel_rfl, by kernel_rfl, by kernel_rfl, by kernel_rfl⟩

/-- (loop.example/g01331/impl.Graph).girth -/
def i_impl_Graph_girth_B1 : FC :=
  .seq (.ops [
    ⟨some 9, .bin .lss (.tmp 8) (.tmp 7), none, 0⟩]) <|
  .seq (.cond (.tmp 9)
    (.skip)
    (.keep [3] <|
    .exit 0)) <|
  .seq (.block 1 <|
  .seq (.ops [
    ⟨some 10, .mv (.tmp 8), none, 0⟩,
    ⟨some 4, .mv (.tmp 10), none, 0⟩]) <|
  .seq (.ops [
    ⟨some 11, .load true 2 (.tmp 1), none, 0⟩,
    ⟨some 12, .mv (.tmp 4), none, 0⟩,
    ⟨some 13, .call k_impl_Graph_girthAt [(.tmp 11), (.tmp 12)], none, 0⟩,
    ⟨some 5, .mv (.tmp 13), none, 0⟩]) <|
  .seq (.ops [
    ⟨some 14, .mv (.tmp 5), none, 0⟩,
    ⟨some 15, .bin .gtr (.tmp 14) (.const (.int .i64 0)), none, 0⟩,
    ⟨some 16, .mv (.tmp 15), none, 0⟩,
    ⟨some 17, .mv (.tmp 3), some (16, true), 0⟩,
    ⟨some 18, .bin .eql (.tmp 17) (.const (.int .i64 0)), some (16, true), 0⟩,
    ⟨some 19, .mv (.tmp 18), some (16, true), 0⟩,
    ⟨some 20, .mv (.tmp 5), some (19, false), 0⟩,
    ⟨some 21, .mv (.tmp 3), some (19, false), 0⟩,
    ⟨some 22, .bin .lss (.tmp 20) (.tmp 21), some (19, false), 0⟩,
    ⟨some 23, .pick (.tmp 19) (.const (.bool true)) (.tmp 22), some (16, true), 0⟩,
    ⟨some 24, .pick (.tmp 16) (.tmp 23) (.const (.bool false)), none, 0⟩]) <|
  .cond (.tmp 24)
    (.ops [
      ⟨some 25, .mv (.tmp 5), none, 0⟩,
      ⟨some 3, .mv (.tmp 25), none, 0⟩])
    (.skip)) <|
  .ops [
    ⟨some 26, .bin .add (.tmp 8) (.const (.int .i64 1)), none, 0⟩,
    ⟨some 8, .mv (.tmp 26), none, 0⟩]
def i_impl_Graph_girth : FF := ⟨28, [.tmp 2],
  .seq (.ops [
    ⟨some 1, .box 2 (.tmp 0), none, 0⟩,
    ⟨some 2, .mv (.const (.int .i64 0)), none, 0⟩]) <|
  .seq (.ops [
    ⟨some 3, .mv (.const (.int .i64 0)), none, 0⟩]) <|
  .seq (.seq (.ops [
    ⟨some 6, .fld 0 (.tmp 1), none, 0⟩,
    ⟨some 7, .load false 1 (.tmp 6), none, 0⟩,
    ⟨some 8, .mv (.const (.int .i64 0)), none, 0⟩]) <|
  .block 0 <|
  .loop [1, 3, 7, 8] i_impl_Graph_girth_B1) <|
  .seq (.ops [
    ⟨some 27, .mv (.tmp 3), none, 0⟩,
    ⟨some 2, .mv (.tmp 27), none, 0⟩]) <|
  .keep [2] <|
  .ret⟩

theorem e_impl_Graph_girth : EntOK Tryd.prog (compD Tryd.prog) k_impl_Graph_girth i_impl_Graph_girth.vf :=
  ⟨Tryd.f71, Tryd.f71.body.getD .skip, Tryd.func71, by kernel_rfl, by kernel_rfl, by kernel_rfl, by kernel_rfl, by kernel_rfl⟩

/-- (loop.example/g01331/impl.Graph).around -/
def i_impl_Graph_around : FF := ⟨21, [.tmp 6],
  .seq (.ops [
    ⟨some 3, .box 2 (.tmp 0), none, 0⟩,
    ⟨some 6, .mv (.const (.int .i64 0)), none, 0⟩]) <|
  .seq (.ops [
    ⟨some 8, .load true 2 (.tmp 3), none, 0⟩,
    ⟨some 9, .call k_impl_own [(.tmp 8)], none, 0⟩,
    ⟨some 7, .alloc [.int .i64 0, .slice none 0 0], none, 0⟩,
    ⟨none, .store 2 (.tmp 7) (.tmp 9), none, 0⟩]) <|
  .seq (.ops [
    ⟨some 10, .load true 2 (.tmp 7), none, 0⟩,
    ⟨some 11, .mv (.tmp 1), none, 0⟩,
    ⟨some 12, .mv (.tmp 2), none, 0⟩,
    ⟨some 13, .call k_impl_Graph_take [(.tmp 10), (.tmp 11), (.tmp 12)], none, 0⟩]) <|
  .seq (.ops [
    ⟨some 14, .load true 2 (.tmp 7), none, 0⟩,
    ⟨some 15, .mv (.tmp 1), none, 0⟩,
    ⟨some 16, .call k_impl_Graph_distances [(.tmp 14), (.tmp 15)], none, 0⟩,
    ⟨some 17, .mv (.tmp 2), none, 0⟩,
    ⟨some 18, .idx 1 (.tmp 16) (.tmp 17), none, 0⟩,
    ⟨some 19, .load false 1 (.tmp 18), none, 0⟩,
    ⟨some 20, .bin .add (.tmp 19) (.const (.int .i64 1)), none, 0⟩,
    ⟨some 6, .mv (.tmp 20), none, 0⟩]) <|
  .keep [6] <|
  .ret⟩

theorem e_impl_Graph_around : EntOK Tryd.prog (compD Tryd.prog) k_impl_Graph_around i_impl_Graph_around.vf :=
  ⟨Tryd.f73, Tryd.f73.body.getD .skip, Tryd.func73, by kernel_rfl, by kernel_rfl, by kernel_rfl, by kernel_rfl, by kernel_rfl⟩

/-- loop.example/g01331/spec.l01Is -/
def i_spec_l01Is_B1 : FC :=
  .seq (.seq (.ops [
    ⟨some 18, .mv (.tmp 3), none, 0⟩,
    ⟨some 19, .fld 0 (.tmp 1), none, 0⟩,
    ⟨some 20, .load false 1 (.tmp 19), none, 0⟩,
    ⟨some 21, .bin .lss (.tmp 18) (.tmp 20), none, 0⟩]) <|
  .cond (.tmp 21)
    (.skip)
    (.keep [1] <|
    .exit 0)) <|
  .seq (.block 1 <|
  .seq (.dops [
    ⟨some 24, .fld 1 (.tmp 1), none, 0⟩,
    ⟨some 25, .load false 1 (.tmp 24), none, 0⟩,
    ⟨some 26, .mv (.tmp 3), none, 0⟩,
    ⟨some 27, .idx 1 (.tmp 25) (.tmp 26), none, 0⟩,
    ⟨some 28, .load false 1 (.tmp 27), none, 0⟩,
    ⟨some 29, .fld 0 (.tmp 1), none, 0⟩,
    ⟨some 30, .load false 1 (.tmp 29), none, 0⟩,
    ⟨some 31, .conv .u64 (.tmp 30), none, 0⟩,
    ⟨some 32, .bin .shl (.const (.int .i64 1)) (.tmp 31), none, 0⟩,
    ⟨some 33, .bin .sub (.tmp 32) (.const (.int .i64 1)), none, 0⟩,
    ⟨some 34, .call k_spec_l01In [(.tmp 28), (.const (.int .i64 0)), (.tmp 33)], none, 0⟩,
    ⟨some 35, .un .not (.tmp 34), none, 0⟩,
    ⟨some 36, .mv (.tmp 35), none, 0⟩,
    ⟨some 37, .load true 2 (.tmp 1), some (36, false), 0⟩,
    ⟨some 38, .mv (.tmp 3), some (36, false), 0⟩,
    ⟨some 39, .mv (.tmp 3), some (36, false), 0⟩,
    ⟨some 40, .call k_spec_l01Has [(.tmp 37), (.tmp 38), (.tmp 39)], some (36, false), 0⟩,
    ⟨some 41, .pick (.tmp 36) (.const (.bool true)) (.tmp 40), none, 0⟩]) <|
  .cond (.tmp 41)
    (.seq (.ops [
      ⟨some 2, .mv (.const (.bool false)), none, 0⟩]) <|
    .keep [2] <|
    .ret)
    (.skip)) <|
  .ops [
    ⟨some 22, .mv (.tmp 3), none, 0⟩,
    ⟨some 23, .bin .add (.tmp 22) (.const (.int .i64 1)), none, 0⟩,
    ⟨some 3, .mv (.tmp 23), none, 0⟩]
def i_spec_l01Is_B2 : FC :=
  .seq (.seq (.ops [
    ⟨some 48, .mv (.tmp 5), none, 0⟩,
    ⟨some 49, .mv (.tmp 4), none, 0⟩,
    ⟨some 50, .bin .lss (.tmp 48) (.tmp 49), none, 0⟩]) <|
  .cond (.tmp 50)
    (.skip)
    (.keep [1, 4] <|
    .exit 4)) <|
  .seq (.block 5 <|
  .seq (.dops [
    ⟨some 53, .load true 2 (.tmp 1), none, 0⟩,
    ⟨some 54, .mv (.tmp 4), none, 0⟩,
    ⟨some 55, .mv (.tmp 5), none, 0⟩,
    ⟨some 56, .call k_spec_l01Has [(.tmp 53), (.tmp 54), (.tmp 55)], none, 0⟩,
    ⟨some 57, .load true 2 (.tmp 1), none, 1⟩,
    ⟨some 58, .mv (.tmp 5), none, 1⟩,
    ⟨some 59, .mv (.tmp 4), none, 1⟩,
    ⟨some 60, .call k_spec_l01Has [(.tmp 57), (.tmp 58), (.tmp 59)], none, 0⟩,
    ⟨some 61, .beq true (.tmp 56) (.tmp 60), none, 0⟩]) <|
  .cond (.tmp 61)
    (.seq (.ops [
      ⟨some 2, .mv (.const (.bool false)), none, 0⟩]) <|
    .keep [2] <|
    .ret)
    (.skip)) <|
  .ops [
    ⟨some 51, .mv (.tmp 5), none, 0⟩,
    ⟨some 52, .bin .add (.tmp 51) (.const (.int .i64 1)), none, 0⟩,
    ⟨some 5, .mv (.tmp 52), none, 0⟩]
def i_spec_l01Is_B3 : FC :=
  .seq (.seq (.ops [
    ⟨some 42, .mv (.tmp 4), none, 0⟩,
    ⟨some 43, .fld 0 (.tmp 1), none, 0⟩,
    ⟨some 44, .load false 1 (.tmp 43), none, 0⟩,
    ⟨some 45, .bin .lss (.tmp 42) (.tmp 44), none, 0⟩]) <|
  .cond (.tmp 45)
    (.skip)
    (.keep [] <|
    .exit 2)) <|
  .seq (.block 3 <|
  .seq (.ops [
    ⟨some 5, .mv (.const (.int .i64 0)), none, 0⟩]) <|
  .block 4 <|
  .loop [1, 4, 5] i_spec_l01Is_B2) <|
  .ops [
    ⟨some 46, .mv (.tmp 4), none, 0⟩,
    ⟨some 47, .bin .add (.tmp 46) (.const (.int .i64 1)), none, 0⟩,
    ⟨some 4, .mv (.tmp 47), none, 0⟩]
def i_spec_l01Is : FF := ⟨62, [.tmp 2],
  .seq (.ops [
    ⟨some 1, .box 2 (.tmp 0), none, 0⟩,
    ⟨some 2, .mv (.const (.bool false)), none, 0⟩]) <|
  .seq (.seq (.ops [
    ⟨some 6, .fld 0 (.tmp 1), none, 0⟩,
    ⟨some 7, .load false 1 (.tmp 6), none, 0⟩,
    ⟨some 8, .call k_spec_l01In [(.tmp 7), (.const (.int .i64 1)), (.const (.int .i64 62))], none, 0⟩,
    ⟨some 9, .un .not (.tmp 8), none, 0⟩,
    ⟨some 10, .mv (.tmp 9), none, 0⟩,
    ⟨some 11, .fld 1 (.tmp 1), some (10, false), 0⟩,
    ⟨some 12, .load false 1 (.tmp 11), some (10, false), 0⟩,
    ⟨some 13, .len (.tmp 12), some (10, false), 0⟩,
    ⟨some 14, .fld 0 (.tmp 1), some (10, false), 0⟩,
    ⟨some 15, .load false 1 (.tmp 14), some (10, false), 0⟩,
    ⟨some 16, .bin .neq (.tmp 13) (.tmp 15), some (10, false), 0⟩,
    ⟨some 17, .pick (.tmp 10) (.const (.bool true)) (.tmp 16), none, 0⟩]) <|
  .cond (.tmp 17)
    (.seq (.ops [
      ⟨some 2, .mv (.const (.bool false)), none, 0⟩]) <|
    .keep [2] <|
    .ret)
    (.skip)) <|
  .seq (.seq (.ops [
    ⟨some 3, .mv (.const (.int .i64 0)), none, 0⟩]) <|
  .block 0 <|
  .loop [1, 3] i_spec_l01Is_B1) <|
  .seq (.seq (.ops [
    ⟨some 4, .mv (.const (.int .i64 0)), none, 0⟩]) <|
  .block 2 <|
  .loop [1, 4] i_spec_l01Is_B3) <|
  .seq (.ops [
    ⟨some 2, .mv (.const (.bool true)), none, 0⟩]) <|
  .keep [2] <|
  .ret⟩

theorem e_spec_l01Is : EntOK Tryd.prog (compD Tryd.prog) k_spec_l01Is i_spec_l01Is.vf :=
  ⟨Tryd.f75, Tryd.f75.body.getD .skip, Tryd.func75, by kernel_rfl, by kernel_rfl, by kernel_rfl, by kernel_rfl, by kernel_rfl⟩

/-- loop.example/g01331/impl.found -/
def i_impl_found : FF := ⟨7, [.tmp 2, .tmp 3],
  .seq (.ops [
    ⟨some 2, .mv (.const (.int .i64 0)), none, 0⟩,
    ⟨some 3, .mv (.const (.int .i64 0)), none, 0⟩]) <|
  .seq (.seq (.ops [
    ⟨some 4, .mv (.tmp 0), none, 0⟩,
    ⟨some 5, .bin .eql (.tmp 4) (.const (.int .i64 0)), none, 0⟩]) <|
  .cond (.tmp 5)
    (.seq (.ops [
      ⟨some 2, .mv (.const (.int .i64 0)), none, 0⟩,
      ⟨some 3, .mv (.const (.int .i64 4)), none, 0⟩]) <|
    .keep [2, 3] <|
    .ret)
    (.skip)) <|
  .seq (.ops [
    ⟨some 6, .mv (.tmp 0), none, 0⟩,
    ⟨some 2, .mv (.tmp 6), none, 0⟩,
    ⟨some 3, .mv (.const (.int .i64 0)), none, 0⟩]) <|
  .keep [2, 3] <|
  .ret⟩

theorem e_impl_found : EntOK Tryd.prog (compD Tryd.prog) k_impl_found i_impl_found.vf :=
  ⟨Tryd.f78, Tryd.f78.body.getD .skip, Tryd.func78, by kernel_rfl, by kernel_rfl, by kernel_rfl, by kernel_rfl, by kernel_rfl⟩

/-- loop.example/g01331/impl.graphCode -/
def i_impl_graphCode_B1 : FC :=
  .seq (.ops [
    ⟨some 13, .bin .lss (.tmp 12) (.tmp 11), none, 0⟩]) <|
  .seq (.cond (.tmp 13)
    (.skip)
    (.keep [] <|
    .exit 0)) <|
  .seq (.block 1 <|
  .seq (.ops [
    ⟨some 14, .idx 1 (.tmp 10) (.tmp 12), none, 0⟩,
    ⟨some 15, .load false 1 (.tmp 14), none, 0⟩,
    ⟨some 6, .mv (.tmp 15), none, 0⟩]) <|
  .seq (.ops [
    ⟨some 16, .mv (.tmp 6), none, 0⟩,
    ⟨some 17, .bin .lss (.tmp 16) (.const (.int .i64 0)), none, 0⟩,
    ⟨some 18, .mv (.tmp 17), none, 0⟩,
    ⟨some 19, .mv (.tmp 6), some (18, false), 0⟩,
    ⟨some 20, .fld 0 (.tmp 2), some (18, false), 0⟩,
    ⟨some 21, .load false 1 (.tmp 20), some (18, false), 0⟩,
    ⟨some 22, .bin .geq (.tmp 19) (.tmp 21), some (18, false), 0⟩,
    ⟨some 23, .pick (.tmp 18) (.const (.bool true)) (.tmp 22), none, 0⟩]) <|
  .cond (.tmp 23)
    (.seq (.ops [
      ⟨some 4, .mv (.const (.int .i64 2)), none, 0⟩]) <|
    .keep [4] <|
    .ret)
    (.skip)) <|
  .ops [
    ⟨some 24, .bin .add (.tmp 12) (.const (.int .i64 1)), none, 0⟩,
    ⟨some 12, .mv (.tmp 24), none, 0⟩]
def i_impl_graphCode : FF := ⟨25, [.tmp 4],
  .seq (.ops [
    ⟨some 2, .box 2 (.tmp 0), none, 0⟩,
    ⟨some 4, .mv (.const (.int .i64 0)), none, 0⟩]) <|
  .seq (.seq (.ops [
    ⟨some 7, .load true 2 (.tmp 2), none, 0⟩,
    ⟨some 8, .call k_impl_IsGraph [(.tmp 7)], none, 0⟩,
    ⟨some 9, .un .not (.tmp 8), none, 0⟩]) <|
  .cond (.tmp 9)
    (.seq (.ops [
      ⟨some 4, .mv (.const (.int .i64 1)), none, 0⟩]) <|
    .keep [4] <|
    .ret)
    (.skip)) <|
  .seq (.seq (.ops [
    ⟨some 10, .mv (.tmp 1), none, 0⟩,
    ⟨some 11, .len (.tmp 10), none, 0⟩,
    ⟨some 12, .mv (.const (.int .i64 0)), none, 0⟩]) <|
  .block 0 <|
  .loop [2, 10, 11, 12] i_impl_graphCode_B1) <|
  .seq (.ops [
    ⟨some 4, .mv (.const (.int .i64 0)), none, 0⟩]) <|
  .keep [4] <|
  .ret⟩

theorem e_impl_graphCode : EntOK Tryd.prog (compD Tryd.prog) k_impl_graphCode i_impl_graphCode.vf :=
  ⟨Tryd.f80, Tryd.f80.body.getD .skip, Tryd.func80, by kernel_rfl, by kernel_rfl, by kernel_rfl, by kernel_rfl, by kernel_rfl⟩

/-- (loop.example/g01331/impl.Graph).has -/
def i_impl_Graph_has : FF := ⟨16, [.tmp 6],
  .seq (.ops [
    ⟨some 3, .box 2 (.tmp 0), none, 0⟩,
    ⟨some 6, .mv (.const (.bool false)), none, 0⟩]) <|
  .seq (.ops [
    ⟨some 7, .fld 1 (.tmp 3), none, 0⟩,
    ⟨some 8, .load false 1 (.tmp 7), none, 0⟩,
    ⟨some 9, .mv (.tmp 1), none, 0⟩,
    ⟨some 10, .idx 1 (.tmp 8) (.tmp 9), none, 0⟩,
    ⟨some 11, .load false 1 (.tmp 10), none, 0⟩,
    ⟨some 12, .mv (.tmp 2), none, 0⟩,
    ⟨some 13, .bin .shr (.tmp 11) (.tmp 12), none, 0⟩,
    ⟨some 14, .bin .and (.tmp 13) (.const (.int .i64 1)), none, 0⟩,
    ⟨some 15, .bin .eql (.tmp 14) (.const (.int .i64 1)), none, 0⟩,
    ⟨some 6, .mv (.tmp 15), none, 0⟩]) <|
  .keep [6] <|
  .ret⟩

theorem e_impl_Graph_has : EntOK Tryd.prog (compD Tryd.prog) k_impl_Graph_has i_impl_Graph_has.vf :=
  ⟨Tryd.f81, Tryd.f81.body.getD .skip, Tryd.func81, by kernel_rfl, by kernel_rfl, by kernel_rfl, by kernel_rfl, by kernel_rfl⟩

/-- (loop.example/g01331/impl.Graph).girthAt -/
def i_impl_Graph_girthAt_B1 : FC :=
  .seq (.ops [
    ⟨some 17, .bin .lss (.tmp 16) (.tmp 15), none, 0⟩]) <|
  .seq (.cond (.tmp 17)
    (.skip)
    (.keep [5] <|
    .exit 0)) <|
  .seq (.block 1 <|
  .seq (.ops [
    ⟨some 18, .idx 1 (.tmp 14) (.tmp 16), none, 0⟩,
    ⟨some 19, .load false 1 (.tmp 18), none, 0⟩,
    ⟨some 7, .mv (.tmp 19), none, 0⟩]) <|
  .seq (.ops [
    ⟨some 20, .load true 2 (.tmp 2), none, 0⟩,
    ⟨some 21, .mv (.tmp 1), none, 0⟩,
    ⟨some 22, .mv (.tmp 7), none, 0⟩,
    ⟨some 23, .call k_impl_Graph_around [(.tmp 20), (.tmp 21), (.tmp 22)], none, 0⟩,
    ⟨some 8, .mv (.tmp 23), none, 0⟩]) <|
  .seq (.ops [
    ⟨some 24, .mv (.tmp 8), none, 0⟩,
    ⟨some 25, .bin .gtr (.tmp 24) (.const (.int .i64 0)), none, 0⟩,
    ⟨some 26, .mv (.tmp 25), none, 0⟩,
    ⟨some 27, .mv (.tmp 5), some (26, true), 0⟩,
    ⟨some 28, .bin .eql (.tmp 27) (.const (.int .i64 0)), some (26, true), 0⟩,
    ⟨some 29, .mv (.tmp 28), some (26, true), 0⟩,
    ⟨some 30, .mv (.tmp 8), some (29, false), 0⟩,
    ⟨some 31, .mv (.tmp 5), some (29, false), 0⟩,
    ⟨some 32, .bin .lss (.tmp 30) (.tmp 31), some (29, false), 0⟩,
    ⟨some 33, .pick (.tmp 29) (.const (.bool true)) (.tmp 32), some (26, true), 0⟩,
    ⟨some 34, .pick (.tmp 26) (.tmp 33) (.const (.bool false)), none, 0⟩]) <|
  .cond (.tmp 34)
    (.ops [
      ⟨some 35, .mv (.tmp 8), none, 0⟩,
      ⟨some 5, .mv (.tmp 35), none, 0⟩])
    (.skip)) <|
  .ops [
    ⟨some 36, .bin .add (.tmp 16) (.const (.int .i64 1)), none, 0⟩,
    ⟨some 16, .mv (.tmp 36), none, 0⟩]
def i_impl_Graph_girthAt : FF := ⟨38, [.tmp 4],
  .seq (.ops [
    ⟨some 2, .box 2 (.tmp 0), none, 0⟩,
    ⟨some 4, .mv (.const (.int .i64 0)), none, 0⟩]) <|
  .seq (.ops [
    ⟨some 5, .mv (.const (.int .i64 0)), none, 0⟩]) <|
  .seq (.seq (.ops [
    ⟨some 9, .fld 1 (.tmp 2), none, 0⟩,
    ⟨some 10, .load false 1 (.tmp 9), none, 0⟩,
    ⟨some 11, .mv (.tmp 1), none, 0⟩,
    ⟨some 12, .idx 1 (.tmp 10) (.tmp 11), none, 0⟩,
    ⟨some 13, .load false 1 (.tmp 12), none, 0⟩,
    ⟨some 14, .call k_impl_list [(.tmp 13)], none, 0⟩,
    ⟨some 15, .len (.tmp 14), none, 0⟩,
    ⟨some 16, .mv (.const (.int .i64 0)), none, 0⟩]) <|
  .block 0 <|
  .loop [1, 2, 5, 14, 15, 16] i_impl_Graph_girthAt_B1) <|
  .seq (.ops [
    ⟨some 37, .mv (.tmp 5), none, 0⟩,
    ⟨some 4, .mv (.tmp 37), none, 0⟩]) <|
  .keep [4] <|
  .ret⟩

theorem e_impl_Graph_girthAt : EntOK Tryd.prog (compD Tryd.prog) k_impl_Graph_girthAt i_impl_Graph_girthAt.vf :=
  ⟨Tryd.f84, Tryd.f84.body.getD .skip, Tryd.func84, by kernel_rfl, by kernel_rfl, by kernel_rfl, by kernel_rfl, by kernel_rfl⟩

/-- loop.example/g01331/spec.l07DrawNumbers -/
def i_spec_l07DrawNumbers : FF := ⟨26, [.tmp 2, .tmp 3],
  .seq (.ops [
    ⟨some 2, .mv (.const (.int .i64 0)), none, 0⟩,
    ⟨some 3, .mv (.const (.int .i64 0)), none, 0⟩]) <|
  .seq (.ops [
    ⟨some 6, .mv (.tmp 0), none, 0⟩,
    ⟨some 7, .call k_spec_l01Next [(.tmp 6), (.const (.int .i64 6))], none, 0⟩,
    ⟨some 8, .bin .add (.const (.int .i64 1)) (.tmp 7), none, 0⟩,
    ⟨some 9, .mv (.tmp 0), none, 0⟩,
    ⟨some 10, .buildSl 1 [.int .i64 0, .int .i64 0, .int .i64 0, .int .i64 0, .int .i64 0, .int .i64 0, .int .i64 0, .int .i64 0, .int .i64 0] [(0, 1, (.const (.int .i64 3))), (1, 1, (.const (.int .i64 3))), (2, 1, (.const (.int .i64 4))), (3, 1, (.const (.int .i64 5))), (4, 1, (.const (.int .i64 5))), (5, 1, (.const (.int .i64 6))), (6, 1, (.const (.int .i64 7))), (7, 1, (.const (.int .i64 8))), (8, 1, (.const (.int .i64 12)))] 9, none, 0⟩,
    ⟨some 11, .call k_spec_l01Pick [(.tmp 9), (.tmp 10)], none, 0⟩,
    ⟨some 4, .mv (.tmp 8), none, 0⟩,
    ⟨some 5, .mv (.tmp 11), none, 0⟩]) <|
  .seq (.seq (.ops [
    ⟨some 12, .mv (.tmp 0), none, 0⟩,
    ⟨some 13, .call k_spec_l01Next [(.tmp 12), (.const (.int .i64 24))], none, 0⟩]) <|
  .block 0 <|
  .seq (.ops [
    ⟨some 15, .bin .eql (.tmp 13) (.const (.int .i64 0)), none, 0⟩,
    ⟨some 14, .mv (.tmp 15), none, 0⟩]) <|
  .cond (.tmp 14)
    (.ops [
      ⟨some 16, .mv (.tmp 0), none, 0⟩,
      ⟨some 17, .buildSl 1 [.int .i64 0, .int .i64 0] [(0, 1, (.const (.int .i64 0))), (1, 1, (.const (.int .i64 7)))] 2, none, 0⟩,
      ⟨some 18, .call k_spec_l01Pick [(.tmp 16), (.tmp 17)], none, 0⟩,
      ⟨some 4, .mv (.tmp 18), none, 0⟩])
    (.seq (.ops [
      ⟨some 20, .bin .eql (.tmp 13) (.const (.int .i64 1)), none, 0⟩,
      ⟨some 19, .mv (.tmp 20), none, 0⟩]) <|
    .cond (.tmp 19)
      (.ops [
        ⟨some 21, .mv (.tmp 0), none, 0⟩,
        ⟨some 22, .buildSl 1 [.int .i64 0, .int .i64 0] [(0, 1, (.const (.int .i64 2))), (1, 1, (.const (.int .i64 13)))] 2, none, 0⟩,
        ⟨some 23, .call k_spec_l01Pick [(.tmp 21), (.tmp 22)], none, 0⟩,
        ⟨some 5, .mv (.tmp 23), none, 0⟩])
      (.skip))) <|
  .seq (.ops [
    ⟨some 24, .mv (.tmp 4), none, 0⟩,
    ⟨some 25, .mv (.tmp 5), none, 0⟩,
    ⟨some 2, .mv (.tmp 24), none, 0⟩,
    ⟨some 3, .mv (.tmp 25), none, 0⟩]) <|
  .keep [2, 3] <|
  .ret⟩

theorem e_spec_l07DrawNumbers : EntOK Tryd.prog (compD Tryd.prog) k_spec_l07DrawNumbers i_spec_l07DrawNumbers.vf :=
  ⟨Tryd.f85, Tryd.f85.body.getD .skip, Tryd.func85, by kernel_rfl, by kernel_rfl, by kernel_rfl, by kernel_rfl, by kernel_rfl⟩

/-- loop.example/g01331/spec.l01Next -/
def i_spec_l01Next : FF := ⟨58, [.tmp 4],
  .seq (.ops [
    ⟨some 4, .mv (.const (.int .i64 0)), none, 0⟩]) <|
  .seq (.seq (.ops [
    ⟨some 6, .mv (.tmp 1), none, 0⟩,
    ⟨some 7, .bin .lss (.tmp 6) (.const (.int .i64 1)), none, 0⟩]) <|
  .cond (.tmp 7)
    (.seq (.ops [
      ⟨some 4, .mv (.const (.int .i64 0)), none, 0⟩]) <|
    .keep [4] <|
    .ret)
    (.skip)) <|
  .seq (.ops [
    ⟨some 8, .mv (.tmp 0), none, 0⟩,
    ⟨some 9, .mv (.tmp 0), none, 0⟩,
    ⟨some 10, .nilchk (.tmp 9), none, 0⟩,
    ⟨some 11, .fld 2 (.tmp 10), none, 0⟩,
    ⟨some 12, .load false 1 (.tmp 11), none, 0⟩,
    ⟨some 13, .bin .mul (.tmp 12) (.const (.int .u64 6364136223846793005)), none, 0⟩,
    ⟨some 14, .bin .add (.tmp 13) (.const (.int .u64 1442695040888963407)), none, 0⟩,
    ⟨some 15, .nilchk (.tmp 8), none, 0⟩,
    ⟨some 16, .fld 2 (.tmp 15), none, 0⟩,
    ⟨none, .store 1 (.tmp 16) (.tmp 14), none, 0⟩]) <|
  .seq (.ops [
    ⟨some 17, .mv (.tmp 0), none, 0⟩,
    ⟨some 18, .nilchk (.tmp 17), none, 0⟩,
    ⟨some 19, .fld 2 (.tmp 18), none, 0⟩,
    ⟨some 20, .load false 1 (.tmp 19), none, 0⟩,
    ⟨some 21, .bin .shr (.tmp 20) (.const (.int .u64 33)), none, 0⟩,
    ⟨some 22, .bin .and (.tmp 21) (.const (.int .u64 16777215)), none, 0⟩,
    ⟨some 23, .conv .i64 (.tmp 22), none, 0⟩,
    ⟨some 5, .mv (.tmp 23), none, 0⟩]) <|
  .seq (.seq (.dops [
    ⟨some 24, .mv (.tmp 0), none, 0⟩,
    ⟨some 25, .nilchk (.tmp 24), none, 0⟩,
    ⟨some 26, .fld 1 (.tmp 25), none, 0⟩,
    ⟨some 27, .load false 1 (.tmp 26), none, 0⟩,
    ⟨some 28, .mv (.tmp 0), none, 0⟩,
    ⟨some 29, .nilchk (.tmp 28), none, 0⟩,
    ⟨some 30, .fld 0 (.tmp 29), none, 0⟩,
    ⟨some 31, .load false 1 (.tmp 30), none, 0⟩,
    ⟨some 32, .len (.tmp 31), none, 0⟩,
    ⟨some 33, .bin .lss (.tmp 27) (.tmp 32), none, 0⟩]) <|
  .cond (.tmp 33)
    (.seq (.dops [
      ⟨some 34, .mv (.tmp 5), none, 0⟩,
      ⟨some 35, .mv (.tmp 0), none, 0⟩,
      ⟨some 36, .nilchk (.tmp 35), none, 0⟩,
      ⟨some 37, .fld 0 (.tmp 36), none, 0⟩,
      ⟨some 38, .load false 1 (.tmp 37), none, 0⟩,
      ⟨some 39, .mv (.tmp 0), none, 0⟩,
      ⟨some 40, .nilchk (.tmp 39), none, 0⟩,
      ⟨some 41, .fld 1 (.tmp 40), none, 0⟩,
      ⟨some 42, .load false 1 (.tmp 41), none, 0⟩,
      ⟨some 43, .idx 1 (.tmp 38) (.tmp 42), none, 0⟩,
      ⟨some 44, .load false 1 (.tmp 43), none, 0⟩,
      ⟨some 45, .conv .i64 (.tmp 44), none, 0⟩,
      ⟨some 46, .bin .add (.tmp 34) (.tmp 45), none, 0⟩,
      ⟨some 5, .mv (.tmp 46), none, 0⟩]) <|
    .ops [
      ⟨some 47, .mv (.tmp 0), none, 0⟩,
      ⟨some 48, .mv (.tmp 0), none, 0⟩,
      ⟨some 49, .nilchk (.tmp 48), none, 0⟩,
      ⟨some 50, .fld 1 (.tmp 49), none, 0⟩,
      ⟨some 51, .load false 1 (.tmp 50), none, 0⟩,
      ⟨some 52, .bin .add (.tmp 51) (.const (.int .i64 1)), none, 0⟩,
      ⟨some 53, .nilchk (.tmp 47), none, 0⟩,
      ⟨some 54, .fld 1 (.tmp 53), none, 0⟩,
      ⟨none, .store 1 (.tmp 54) (.tmp 52), none, 0⟩])
    (.skip)) <|
  .seq (.ops [
    ⟨some 55, .mv (.tmp 5), none, 0⟩,
    ⟨some 56, .mv (.tmp 1), none, 0⟩,
    ⟨some 57, .bin .rem (.tmp 55) (.tmp 56), none, 0⟩,
    ⟨some 4, .mv (.tmp 57), none, 0⟩]) <|
  .keep [4] <|
  .ret⟩

theorem e_spec_l01Next : EntOK Tryd.prog (compD Tryd.prog) k_spec_l01Next i_spec_l01Next.vf :=
  ⟨Tryd.f86, Tryd.f86.body.getD .skip, Tryd.func86, by kernel_rfl, by kernel_rfl, by kernel_rfl, by kernel_rfl, by kernel_rfl⟩

/-- loop.example/g01331/spec.l01Pick -/
def i_spec_l01Pick : FF := ⟨12, [.tmp 4],
  .seq (.ops [
    ⟨some 4, .mv (.const (.int .i64 0)), none, 0⟩]) <|
  .seq (.ops [
    ⟨some 5, .mv (.tmp 1), none, 0⟩,
    ⟨some 6, .mv (.tmp 0), none, 0⟩,
    ⟨some 7, .mv (.tmp 1), none, 0⟩,
    ⟨some 8, .len (.tmp 7), none, 0⟩,
    ⟨some 9, .call k_spec_l01Next [(.tmp 6), (.tmp 8)], none, 0⟩,
    ⟨some 10, .idx 1 (.tmp 5) (.tmp 9), none, 0⟩,
    ⟨some 11, .load false 1 (.tmp 10), none, 0⟩,
    ⟨some 4, .mv (.tmp 11), none, 0⟩]) <|
  .keep [4] <|
  .ret⟩

theorem e_spec_l01Pick : EntOK Tryd.prog (compD Tryd.prog) k_spec_l01Pick i_spec_l01Pick.vf :=
  ⟨Tryd.f87, Tryd.f87.body.getD .skip, Tryd.func87, by kernel_rfl, by kernel_rfl, by kernel_rfl, by kernel_rfl, by kernel_rfl⟩

/-- loop.example/g01331/impl.isBoth -/
def i_impl_isBoth : FF := ⟨19, [.tmp 4],
  .seq (.ops [
    ⟨some 4, .mv (.const (.bool false)), none, 0⟩]) <|
  .seq (.ops [
    ⟨some 5, .mv (.tmp 0), none, 0⟩,
    ⟨some 6, .bin .geq (.tmp 5) (.const (.int .i64 1)), none, 0⟩,
    ⟨some 7, .mv (.tmp 6), none, 0⟩,
    ⟨some 8, .mv (.tmp 0), some (7, true), 0⟩,
    ⟨some 9, .bin .leq (.tmp 8) (.const (.int .i64 6)), some (7, true), 0⟩,
    ⟨some 10, .pick (.tmp 7) (.tmp 9) (.const (.bool false)), none, 0⟩,
    ⟨some 11, .mv (.tmp 10), none, 0⟩,
    ⟨some 12, .mv (.tmp 1), some (11, true), 0⟩,
    ⟨some 13, .bin .geq (.tmp 12) (.const (.int .i64 3)), some (11, true), 0⟩,
    ⟨some 14, .pick (.tmp 11) (.tmp 13) (.const (.bool false)), none, 0⟩,
    ⟨some 15, .mv (.tmp 14), none, 0⟩,
    ⟨some 16, .mv (.tmp 1), some (15, true), 0⟩,
    ⟨some 17, .bin .leq (.tmp 16) (.const (.int .i64 12)), some (15, true), 0⟩,
    ⟨some 18, .pick (.tmp 15) (.tmp 17) (.const (.bool false)), none, 0⟩,
    ⟨some 4, .mv (.tmp 18), none, 0⟩]) <|
  .keep [4] <|
  .ret⟩

theorem e_impl_isBoth : EntOK Tryd.prog (compD Tryd.prog) k_impl_isBoth i_impl_isBoth.vf :=
  ⟨Tryd.f88, Tryd.f88.body.getD .skip, Tryd.func88, by kernel_rfl, by kernel_rfl, by kernel_rfl, by kernel_rfl, by kernel_rfl⟩

/-- loop.example/g01331/impl.filled -/
def i_impl_filled_B1 : FC :=
  .seq (.seq (.ops [
    ⟨some 19, .mv (.tmp 9), none, 0⟩,
    ⟨some 20, .fld 0 (.tmp 3), none, 0⟩,
    ⟨some 21, .load false 1 (.tmp 20), none, 0⟩,
    ⟨some 22, .bin .lss (.tmp 19) (.tmp 21), none, 0⟩]) <|
  .cond (.tmp 22)
    (.skip)
    (.keep [1, 2, 3, 6, 7, 13, 14] <|
    .exit 2)) <|
  .seq (.block 3 <|
  .seq (.ops [
    ⟨some 25, .load true 2 (.tmp 7), none, 0⟩,
    ⟨some 26, .mv (.tmp 8), none, 0⟩,
    ⟨some 27, .mv (.tmp 9), none, 0⟩,
    ⟨some 28, .mv (.tmp 1), none, 0⟩,
    ⟨some 29, .mv (.tmp 2), none, 0⟩,
    ⟨some 30, .call k_impl_Graph_mayJoin [(.tmp 25), (.tmp 26), (.tmp 27), (.tmp 28), (.tmp 29)], none, 0⟩]) <|
  .cond (.tmp 30)
    (.ops [
      ⟨some 31, .load true 2 (.tmp 7), none, 0⟩,
      ⟨some 32, .mv (.tmp 8), none, 0⟩,
      ⟨some 33, .mv (.tmp 9), none, 0⟩,
      ⟨some 34, .call k_impl_Graph_put [(.tmp 31), (.tmp 32), (.tmp 33)], none, 0⟩])
    (.skip)) <|
  .ops [
    ⟨some 23, .mv (.tmp 9), none, 0⟩,
    ⟨some 24, .bin .add (.tmp 23) (.const (.int .i64 1)), none, 0⟩,
    ⟨some 9, .mv (.tmp 24), none, 0⟩]
def i_impl_filled_B2 : FC :=
  .seq (.ops [
    ⟨some 15, .bin .lss (.tmp 14) (.tmp 13), none, 0⟩]) <|
  .seq (.cond (.tmp 15)
    (.skip)
    (.keep [6, 7] <|
    .exit 0)) <|
  .seq (.block 1 <|
  .seq (.ops [
    ⟨some 16, .mv (.tmp 14), none, 0⟩,
    ⟨some 8, .mv (.tmp 16), none, 0⟩]) <|
  .seq (.ops [
    ⟨some 17, .mv (.tmp 8), none, 0⟩,
    ⟨some 18, .bin .add (.tmp 17) (.const (.int .i64 1)), none, 0⟩,
    ⟨some 9, .mv (.tmp 18), none, 0⟩]) <|
  .block 2 <|
  .loop [1, 2, 3, 6, 7, 8, 9, 13, 14] i_impl_filled_B1) <|
  .ops [
    ⟨some 35, .bin .add (.tmp 14) (.const (.int .i64 1)), none, 0⟩,
    ⟨some 14, .mv (.tmp 35), none, 0⟩]
def i_impl_filled : FF := ⟨37, [.cell 6 true 2],
  .seq (.ops [
    ⟨some 3, .box 2 (.tmp 0), none, 0⟩,
    ⟨some 6, .alloc [.int .i64 0, .slice none 0 0], none, 0⟩]) <|
  .seq (.ops [
    ⟨some 10, .load true 2 (.tmp 3), none, 0⟩,
    ⟨some 11, .call k_impl_own [(.tmp 10)], none, 0⟩,
    ⟨some 7, .alloc [.int .i64 0, .slice none 0 0], none, 0⟩,
    ⟨none, .store 2 (.tmp 7) (.tmp 11), none, 0⟩]) <|
  .seq (.seq (.ops [
    ⟨some 12, .fld 0 (.tmp 3), none, 0⟩,
    ⟨some 13, .load false 1 (.tmp 12), none, 0⟩,
    ⟨some 14, .mv (.const (.int .i64 0)), none, 0⟩]) <|
  .block 0 <|
  .loop [1, 2, 3, 6, 7, 13, 14] i_impl_filled_B2) <|
  .seq (.ops [
    ⟨some 36, .load true 2 (.tmp 7), none, 0⟩,
    ⟨none, .store 2 (.tmp 6) (.tmp 36), none, 0⟩]) <|
  .keep [6] <|
  .ret⟩

theorem e_impl_filled : EntOK Tryd.prog (compD Tryd.prog) k_impl_filled i_impl_filled.vf :=
  ⟨Tryd.f89, Tryd.f89.body.getD .skip, Tryd.func89, by kernel_rfl, by kernel_rfl, by kernel_rfl, by kernel_rfl, by kernel_rfl⟩

/-- loop.example/g01331/impl.empty -/
def i_impl_empty : FF := ⟨7, [.cell 2 true 2],
  .seq (.ops [
    ⟨some 2, .alloc [.int .i64 0, .slice none 0 0], none, 0⟩]) <|
  .seq (.ops [
    ⟨some 3, .mv (.tmp 0), none, 0⟩,
    ⟨some 4, .mv (.tmp 0), none, 0⟩,
    ⟨some 5, .mkSl 1 [.int .i64 0] 8 (.tmp 4) (.tmp 4), none, 0⟩,
    ⟨some 6, .build [.int .i64 0, .slice none 0 0] [(0, 1, (.tmp 3)), (1, 1, (.tmp 5))], none, 0⟩,
    ⟨none, .store 2 (.tmp 2) (.tmp 6), none, 0⟩]) <|
  .keep [2] <|
  .ret⟩

theorem e_impl_empty : EntOK Tryd.prog (compD Tryd.prog) k_impl_empty i_impl_empty.vf :=
  ⟨Tryd.f90, Tryd.f90.body.getD .skip, Tryd.func90, by kernel_rfl, by kernel_rfl, by kernel_rfl, by kernel_rfl, by kernel_rfl⟩

/-- loop.example/g01331/spec.l01In -/
def i_spec_l01In : FF := ⟨15, [.tmp 6],
  .seq (.ops [
    ⟨some 6, .mv (.const (.bool false)), none, 0⟩]) <|
  .seq (.ops [
    ⟨some 7, .mv (.tmp 0), none, 0⟩,
    ⟨some 8, .mv (.tmp 1), none, 0⟩,
    ⟨some 9, .bin .geq (.tmp 7) (.tmp 8), none, 0⟩,
    ⟨some 10, .mv (.tmp 9), none, 0⟩,
    ⟨some 11, .mv (.tmp 0), some (10, true), 0⟩,
    ⟨some 12, .mv (.tmp 2), some (10, true), 0⟩,
    ⟨some 13, .bin .leq (.tmp 11) (.tmp 12), some (10, true), 0⟩,
    ⟨some 14, .pick (.tmp 10) (.tmp 13) (.const (.bool false)), none, 0⟩,
    ⟨some 6, .mv (.tmp 14), none, 0⟩]) <|
  .keep [6] <|
  .ret⟩

theorem e_spec_l01In : EntOK Tryd.prog (compD Tryd.prog) k_spec_l01In i_spec_l01In.vf :=
  ⟨Tryd.f91, Tryd.f91.body.getD .skip, Tryd.func91, by kernel_rfl, by kernel_rfl, by kernel_rfl, by kernel_rfl, by kernel_rfl⟩

/-- loop.example/g01331/spec.l07Numbers -/
def i_spec_l07Numbers : FF := ⟨11, [.tmp 4],
  .seq (.ops [
    ⟨some 4, .mv (.const (.bool false)), none, 0⟩]) <|
  .seq (.ops [
    ⟨some 5, .mv (.tmp 0), none, 0⟩,
    ⟨some 6, .call k_spec_l01In [(.tmp 5), (.const (.int .i64 1)), (.const (.int .i64 6))], none, 0⟩,
    ⟨some 7, .mv (.tmp 6), none, 0⟩,
    ⟨some 8, .mv (.tmp 1), some (7, true), 0⟩,
    ⟨some 9, .call k_spec_l01In [(.tmp 8), (.const (.int .i64 3)), (.const (.int .i64 12))], some (7, true), 0⟩,
    ⟨some 10, .pick (.tmp 7) (.tmp 9) (.const (.bool false)), none, 0⟩,
    ⟨some 4, .mv (.tmp 10), none, 0⟩]) <|
  .keep [4] <|
  .ret⟩

theorem e_spec_l07Numbers : EntOK Tryd.prog (compD Tryd.prog) k_spec_l07Numbers i_spec_l07Numbers.vf :=
  ⟨Tryd.f92, Tryd.f92.body.getD .skip, Tryd.func92, by kernel_rfl, by kernel_rfl, by kernel_rfl, by kernel_rfl, by kernel_rfl⟩

/-- loop.example/g01331/spec.l07Fill -/
def i_spec_l07Fill_B1 : FC :=
  .seq (.seq (.ops [
    ⟨some 20, .mv (.tmp 9), none, 0⟩,
    ⟨some 21, .fld 0 (.tmp 3), none, 0⟩,
    ⟨some 22, .load false 1 (.tmp 21), none, 0⟩,
    ⟨some 23, .bin .lss (.tmp 20) (.tmp 22), none, 0⟩]) <|
  .cond (.tmp 23)
    (.skip)
    (.keep [1, 2, 3, 6, 7, 8] <|
    .exit 2)) <|
  .seq (.block 3 <|
  .seq (.ops [
    ⟨some 26, .load true 2 (.tmp 7), none, 0⟩,
    ⟨some 27, .mv (.tmp 1), none, 0⟩,
    ⟨some 28, .mv (.tmp 2), none, 0⟩,
    ⟨some 29, .mv (.tmp 8), none, 0⟩,
    ⟨some 30, .mv (.tmp 9), none, 0⟩,
    ⟨some 31, .call k_spec_l07May [(.tmp 26), (.tmp 27), (.tmp 28), (.tmp 29), (.tmp 30)], none, 0⟩]) <|
  .cond (.tmp 31)
    (.ops [
      ⟨some 32, .load true 2 (.tmp 7), none, 0⟩,
      ⟨some 33, .mv (.tmp 8), none, 0⟩,
      ⟨some 34, .mv (.tmp 9), none, 0⟩,
      ⟨some 35, .call k_spec_l01Put [(.tmp 32), (.tmp 33), (.tmp 34)], none, 0⟩])
    (.skip)) <|
  .ops [
    ⟨some 24, .mv (.tmp 9), none, 0⟩,
    ⟨some 25, .bin .add (.tmp 24) (.const (.int .i64 1)), none, 0⟩,
    ⟨some 9, .mv (.tmp 25), none, 0⟩]
def i_spec_l07Fill_B2 : FC :=
  .seq (.seq (.ops [
    ⟨some 12, .mv (.tmp 8), none, 0⟩,
    ⟨some 13, .fld 0 (.tmp 3), none, 0⟩,
    ⟨some 14, .load false 1 (.tmp 13), none, 0⟩,
    ⟨some 15, .bin .lss (.tmp 12) (.tmp 14), none, 0⟩]) <|
  .cond (.tmp 15)
    (.skip)
    (.keep [6, 7] <|
    .exit 0)) <|
  .seq (.block 1 <|
  .seq (.ops [
    ⟨some 18, .mv (.tmp 8), none, 0⟩,
    ⟨some 19, .bin .add (.tmp 18) (.const (.int .i64 1)), none, 0⟩,
    ⟨some 9, .mv (.tmp 19), none, 0⟩]) <|
  .block 2 <|
  .loop [1, 2, 3, 6, 7, 8, 9] i_spec_l07Fill_B1) <|
  .ops [
    ⟨some 16, .mv (.tmp 8), none, 0⟩,
    ⟨some 17, .bin .add (.tmp 16) (.const (.int .i64 1)), none, 0⟩,
    ⟨some 8, .mv (.tmp 17), none, 0⟩]
def i_spec_l07Fill : FF := ⟨37, [.cell 6 true 2],
  .seq (.ops [
    ⟨some 3, .box 2 (.tmp 0), none, 0⟩,
    ⟨some 6, .alloc [.int .i64 0, .slice none 0 0], none, 0⟩]) <|
  .seq (.ops [
    ⟨some 10, .load true 2 (.tmp 3), none, 0⟩,
    ⟨some 11, .call k_spec_l01Copy [(.tmp 10)], none, 0⟩,
    ⟨some 7, .alloc [.int .i64 0, .slice none 0 0], none, 0⟩,
    ⟨none, .store 2 (.tmp 7) (.tmp 11), none, 0⟩]) <|
  .seq (.seq (.ops [
    ⟨some 8, .mv (.const (.int .i64 0)), none, 0⟩]) <|
  .block 0 <|
  .loop [1, 2, 3, 6, 7, 8] i_spec_l07Fill_B2) <|
  .seq (.ops [
    ⟨some 36, .load true 2 (.tmp 7), none, 0⟩,
    ⟨none, .store 2 (.tmp 6) (.tmp 36), none, 0⟩]) <|
  .keep [6] <|
  .ret⟩

theorem e_spec_l07Fill : EntOK Tryd.prog (compD Tryd.prog) k_spec_l07Fill i_spec_l07Fill.vf :=
  ⟨Tryd.f93, Tryd.f93.body.getD .skip, Tryd.func93, by kernel_rfl, by kernel_rfl, by kernel_rfl, by kernel_rfl, by kernel_rfl⟩

/-- loop.example/g01331/spec.l01Empty -/
def i_spec_l01Empty : FF := ⟨7, [.cell 2 true 2],
  .seq (.ops [
    ⟨some 2, .alloc [.int .i64 0, .slice none 0 0], none, 0⟩]) <|
  .seq (.ops [
    ⟨some 3, .mv (.tmp 0), none, 0⟩,
    ⟨some 4, .mv (.tmp 0), none, 0⟩,
    ⟨some 5, .mkSl 1 [.int .i64 0] 8 (.tmp 4) (.tmp 4), none, 0⟩,
    ⟨some 6, .build [.int .i64 0, .slice none 0 0] [(0, 1, (.tmp 3)), (1, 1, (.tmp 5))], none, 0⟩,
    ⟨none, .store 2 (.tmp 2) (.tmp 6), none, 0⟩]) <|
  .keep [2] <|
  .ret⟩

theorem e_spec_l01Empty : EntOK Tryd.prog (compD Tryd.prog) k_spec_l01Empty i_spec_l01Empty.vf :=
  ⟨Tryd.f94, Tryd.f94.body.getD .skip, Tryd.func94, by kernel_rfl, by kernel_rfl, by kernel_rfl, by kernel_rfl, by kernel_rfl⟩

/-- loop.example/g01331/impl.fitCode -/
def i_impl_fitCode : FF := ⟨20, [.tmp 6],
  .seq (.ops [
    ⟨some 3, .box 2 (.tmp 0), none, 0⟩,
    ⟨some 6, .mv (.const (.int .i64 0)), none, 0⟩]) <|
  .seq (.seq (.ops [
    ⟨some 8, .load true 2 (.tmp 3), none, 0⟩,
    ⟨some 9, .mv (.tmp 1), none, 0⟩,
    ⟨some 10, .mv (.tmp 2), none, 0⟩,
    ⟨some 11, .call k_impl_bothCode [(.tmp 8), (.tmp 9), (.tmp 10)], none, 0⟩,
    ⟨some 7, .mv (.tmp 11), none, 0⟩]) <|
  .seq (.ops [
    ⟨some 12, .mv (.tmp 7), none, 0⟩,
    ⟨some 13, .bin .neq (.tmp 12) (.const (.int .i64 0)), none, 0⟩]) <|
  .cond (.tmp 13)
    (.seq (.ops [
      ⟨some 14, .mv (.tmp 7), none, 0⟩,
      ⟨some 6, .mv (.tmp 14), none, 0⟩]) <|
    .keep [6] <|
    .ret)
    (.skip)) <|
  .seq (.seq (.ops [
    ⟨some 15, .load true 2 (.tmp 3), none, 0⟩,
    ⟨some 16, .mv (.tmp 1), none, 0⟩,
    ⟨some 17, .mv (.tmp 2), none, 0⟩,
    ⟨some 18, .call k_impl_Graph_fits [(.tmp 15), (.tmp 16), (.tmp 17)], none, 0⟩,
    ⟨some 19, .un .not (.tmp 18), none, 0⟩]) <|
  .cond (.tmp 19)
    (.seq (.ops [
      ⟨some 6, .mv (.const (.int .i64 5)), none, 0⟩]) <|
    .keep [6] <|
    .ret)
    (.skip)) <|
  .seq (.ops [
    ⟨some 6, .mv (.const (.int .i64 0)), none, 0⟩]) <|
  .keep [6] <|
  .ret⟩

theorem e_impl_fitCode : EntOK Tryd.prog (compD Tryd.prog) k_impl_fitCode i_impl_fitCode.vf :=
  ⟨Tryd.f95, Tryd.f95.body.getD .skip, Tryd.func95, by kernel_rfl, by kernel_rfl, by kernel_rfl, by kernel_rfl, by kernel_rfl⟩

/-- (loop.example/g01331/impl.Graph).pairs -/
def i_impl_Graph_pairs_B1 : FC :=
  .seq (.seq (.ops [
    ⟨some 18, .mv (.tmp 9), none, 0⟩,
    ⟨some 19, .fld 0 (.tmp 3), none, 0⟩,
    ⟨some 20, .load false 1 (.tmp 19), none, 0⟩,
    ⟨some 21, .bin .lss (.tmp 18) (.tmp 20), none, 0⟩]) <|
  .cond (.tmp 21)
    (.skip)
    (.keep [1, 2, 3, 7, 12, 13] <|
    .exit 2)) <|
  .seq (.block 3 <|
  .seq (.ops [
    ⟨some 24, .load true 2 (.tmp 3), none, 0⟩,
    ⟨some 25, .mv (.tmp 8), none, 0⟩,
    ⟨some 26, .mv (.tmp 9), none, 0⟩,
    ⟨some 27, .mv (.tmp 1), none, 0⟩,
    ⟨some 28, .mv (.tmp 2), none, 0⟩,
    ⟨some 29, .call k_impl_Graph_mayJoin [(.tmp 24), (.tmp 25), (.tmp 26), (.tmp 27), (.tmp 28)], none, 0⟩]) <|
  .cond (.tmp 29)
    (.ops [
      ⟨some 30, .mv (.tmp 7), none, 0⟩,
      ⟨some 31, .mv (.tmp 8), none, 0⟩,
      ⟨some 32, .mv (.tmp 9), none, 0⟩,
      ⟨some 33, .buildSl 1 [.int .i64 0, .int .i64 0] [(0, 1, (.tmp 31)), (1, 1, (.tmp 32))] 2, none, 0⟩,
      ⟨some 34, .buildSl 1 [.slice none 0 0] [(0, 1, (.tmp 33))] 1, none, 0⟩,
      ⟨some 35, .app 1 24 [.slice none 0 0] (.tmp 30) (.tmp 34), none, 0⟩,
      ⟨some 7, .mv (.tmp 35), none, 0⟩])
    (.skip)) <|
  .ops [
    ⟨some 22, .mv (.tmp 9), none, 0⟩,
    ⟨some 23, .bin .add (.tmp 22) (.const (.int .i64 1)), none, 0⟩,
    ⟨some 9, .mv (.tmp 23), none, 0⟩]
def i_impl_Graph_pairs_B2 : FC :=
  .seq (.ops [
    ⟨some 14, .bin .lss (.tmp 13) (.tmp 12), none, 0⟩]) <|
  .seq (.cond (.tmp 14)
    (.skip)
    (.keep [7] <|
    .exit 0)) <|
  .seq (.block 1 <|
  .seq (.ops [
    ⟨some 15, .mv (.tmp 13), none, 0⟩,
    ⟨some 8, .mv (.tmp 15), none, 0⟩]) <|
  .seq (.ops [
    ⟨some 16, .mv (.tmp 8), none, 0⟩,
    ⟨some 17, .bin .add (.tmp 16) (.const (.int .i64 1)), none, 0⟩,
    ⟨some 9, .mv (.tmp 17), none, 0⟩]) <|
  .block 2 <|
  .loop [1, 2, 3, 7, 8, 9, 12, 13] i_impl_Graph_pairs_B1) <|
  .ops [
    ⟨some 36, .bin .add (.tmp 13) (.const (.int .i64 1)), none, 0⟩,
    ⟨some 13, .mv (.tmp 36), none, 0⟩]
def i_impl_Graph_pairs : FF := ⟨38, [.tmp 6],
  .seq (.ops [
    ⟨some 3, .box 2 (.tmp 0), none, 0⟩,
    ⟨some 6, .mv (.const (.slice none 0 0)), none, 0⟩]) <|
  .seq (.ops [
    ⟨some 10, .buildSl 1 [] [] 0, none, 0⟩,
    ⟨some 7, .mv (.tmp 10), none, 0⟩]) <|
  .seq (.seq (.ops [
    ⟨some 11, .fld 0 (.tmp 3), none, 0⟩,
    ⟨some 12, .load false 1 (.tmp 11), none, 0⟩,
    ⟨some 13, .mv (.const (.int .i64 0)), none, 0⟩]) <|
  .block 0 <|
  .loop [1, 2, 3, 7, 12, 13] i_impl_Graph_pairs_B2) <|
  .seq (.ops [
    ⟨some 37, .mv (.tmp 7), none, 0⟩,
    ⟨some 6, .mv (.tmp 37), none, 0⟩]) <|
  .keep [6] <|
  .ret⟩

theorem e_impl_Graph_pairs : EntOK Tryd.prog (compD Tryd.prog) k_impl_Graph_pairs i_impl_Graph_pairs.vf :=
  ⟨Tryd.f96, Tryd.f96.body.getD .skip, Tryd.func96, by kernel_rfl, by kernel_rfl, by kernel_rfl, by kernel_rfl, by kernel_rfl⟩

/-- loop.example/g01331/impl.bothCode -/
def i_impl_bothCode : FF := ⟨16, [.tmp 6],
  .seq (.ops [
    ⟨some 3, .box 2 (.tmp 0), none, 0⟩,
    ⟨some 6, .mv (.const (.int .i64 0)), none, 0⟩]) <|
  .seq (.block 0 <|
  .seq (.ops [
    ⟨some 8, .load true 2 (.tmp 3), none, 0⟩,
    ⟨some 9, .call k_impl_IsGraph [(.tmp 8)], none, 0⟩,
    ⟨some 10, .un .not (.tmp 9), none, 0⟩,
    ⟨some 7, .mv (.tmp 10), none, 0⟩]) <|
  .cond (.tmp 7)
    (.seq (.ops [
      ⟨some 6, .mv (.const (.int .i64 1)), none, 0⟩]) <|
    .keep [6] <|
    .ret)
    (.seq (.ops [
      ⟨some 12, .mv (.tmp 1), none, 0⟩,
      ⟨some 13, .mv (.tmp 2), none, 0⟩,
      ⟨some 14, .call k_impl_isBoth [(.tmp 12), (.tmp 13)], none, 0⟩,
      ⟨some 15, .un .not (.tmp 14), none, 0⟩,
      ⟨some 11, .mv (.tmp 15), none, 0⟩]) <|
    .cond (.tmp 11)
      (.seq (.ops [
        ⟨some 6, .mv (.const (.int .i64 2)), none, 0⟩]) <|
      .keep [6] <|
      .ret)
      (.skip))) <|
  .seq (.ops [
    ⟨some 6, .mv (.const (.int .i64 0)), none, 0⟩]) <|
  .keep [6] <|
  .ret⟩

theorem e_impl_bothCode : EntOK Tryd.prog (compD Tryd.prog) k_impl_bothCode i_impl_bothCode.vf :=
  ⟨Tryd.f97, Tryd.f97.body.getD .skip, Tryd.func97, by kernel_rfl, by kernel_rfl, by kernel_rfl, by kernel_rfl, by kernel_rfl⟩

/-- (loop.example/g01331/impl.Graph).fits -/
def i_impl_Graph_fits : FF := ⟨24, [.tmp 6],
  .seq (.ops [
    ⟨some 3, .box 2 (.tmp 0), none, 0⟩,
    ⟨some 6, .mv (.const (.bool false)), none, 0⟩]) <|
  .seq (.ops [
    ⟨some 8, .load true 2 (.tmp 3), none, 0⟩,
    ⟨some 9, .call k_impl_Graph_girth [(.tmp 8)], none, 0⟩,
    ⟨some 7, .mv (.tmp 9), none, 0⟩]) <|
  .seq (.ops [
    ⟨some 10, .load true 2 (.tmp 3), none, 0⟩,
    ⟨some 11, .call k_impl_Graph_degrees [(.tmp 10)], none, 0⟩,
    ⟨some 12, .call k_slices_Max_int64_int64 [(.tmp 11)], none, 0⟩,
    ⟨some 13, .mv (.tmp 1), none, 0⟩,
    ⟨some 14, .bin .leq (.tmp 12) (.tmp 13), none, 0⟩,
    ⟨some 15, .mv (.tmp 14), none, 0⟩,
    ⟨some 16, .mv (.tmp 7), some (15, true), 0⟩,
    ⟨some 17, .bin .eql (.tmp 16) (.const (.int .i64 0)), some (15, true), 0⟩,
    ⟨some 18, .mv (.tmp 17), some (15, true), 0⟩,
    ⟨some 19, .mv (.tmp 7), some (18, false), 0⟩,
    ⟨some 20, .mv (.tmp 2), some (18, false), 0⟩,
    ⟨some 21, .bin .geq (.tmp 19) (.tmp 20), some (18, false), 0⟩,
    ⟨some 22, .pick (.tmp 18) (.const (.bool true)) (.tmp 21), some (15, true), 0⟩,
    ⟨some 23, .pick (.tmp 15) (.tmp 22) (.const (.bool false)), none, 0⟩,
    ⟨some 6, .mv (.tmp 23), none, 0⟩]) <|
  .keep [6] <|
  .ret⟩

theorem e_impl_Graph_fits : EntOK Tryd.prog (compD Tryd.prog) k_impl_Graph_fits i_impl_Graph_fits.vf :=
  ⟨Tryd.f98, Tryd.f98.body.getD .skip, Tryd.func98, by kernel_rfl, by kernel_rfl, by kernel_rfl, by kernel_rfl, by kernel_rfl⟩

/-- loop.example/g01331/spec.l07With -/
def i_spec_l07With_B1 : FC :=
  .seq (.seq (.ops [
    ⟨some 43, .mv (.tmp 9), none, 0⟩,
    ⟨some 44, .bin .gtr (.tmp 43) (.const (.int .i64 0)), none, 0⟩]) <|
  .cond (.tmp 44)
    (.skip)
    (.keep [2, 5, 6, 7, 8] <|
    .exit 0)) <|
  .seq (.block 1 <|
  .seq (.ops [
    ⟨some 47, .mv (.tmp 5), none, 0⟩,
    ⟨some 48, .fld 0 (.tmp 8), none, 0⟩,
    ⟨some 49, .load false 1 (.tmp 48), none, 0⟩,
    ⟨some 50, .call k_spec_l01Next [(.tmp 47), (.tmp 49)], none, 0⟩,
    ⟨some 10, .mv (.tmp 50), none, 0⟩]) <|
  .seq (.ops [
    ⟨some 51, .mv (.tmp 5), none, 0⟩,
    ⟨some 52, .fld 0 (.tmp 8), none, 0⟩,
    ⟨some 53, .load false 1 (.tmp 52), none, 0⟩,
    ⟨some 54, .call k_spec_l01Next [(.tmp 51), (.tmp 53)], none, 0⟩,
    ⟨some 11, .mv (.tmp 54), none, 0⟩]) <|
  .seq (.ops [
    ⟨some 55, .load true 2 (.tmp 8), none, 0⟩,
    ⟨some 56, .mv (.tmp 6), none, 0⟩,
    ⟨some 57, .mv (.tmp 7), none, 0⟩,
    ⟨some 58, .mv (.tmp 10), none, 0⟩,
    ⟨some 59, .mv (.tmp 11), none, 0⟩,
    ⟨some 60, .call k_spec_l07May [(.tmp 55), (.tmp 56), (.tmp 57), (.tmp 58), (.tmp 59)], none, 0⟩]) <|
  .cond (.tmp 60)
    (.ops [
      ⟨some 61, .load true 2 (.tmp 8), none, 0⟩,
      ⟨some 62, .mv (.tmp 10), none, 0⟩,
      ⟨some 63, .mv (.tmp 11), none, 0⟩,
      ⟨some 64, .call k_spec_l01Put [(.tmp 61), (.tmp 62), (.tmp 63)], none, 0⟩])
    (.skip)) <|
  .ops [
    ⟨some 45, .mv (.tmp 9), none, 0⟩,
    ⟨some 46, .bin .sub (.tmp 45) (.const (.int .i64 1)), none, 0⟩,
    ⟨some 9, .mv (.tmp 46), none, 0⟩]
def i_spec_l07With : FF := ⟨77, [.cell 2 true 2, .tmp 3, .tmp 4],
  .seq (.ops [
    ⟨some 2, .alloc [.int .i64 0, .slice none 0 0], none, 0⟩,
    ⟨some 3, .mv (.const (.int .i64 0)), none, 0⟩,
    ⟨some 4, .mv (.const (.int .i64 0)), none, 0⟩]) <|
  .seq (.ops [
    ⟨some 12, .mv (.tmp 0), none, 0⟩,
    ⟨some 13, .call k_spec_l01From [(.tmp 12)], none, 0⟩,
    ⟨some 5, .mv (.tmp 13), none, 0⟩]) <|
  .seq (.ops [
    ⟨some 15, .mv (.tmp 5), none, 0⟩,
    ⟨some 16, .call k_spec_l07DrawNumbers [(.tmp 15)], none, 0⟩,
    ⟨some 14, .mv (.tmp 16), none, 0⟩,
    ⟨some 17, .ext (.tmp 14) 0, none, 0⟩,
    ⟨some 18, .ext (.tmp 14) 1, none, 0⟩,
    ⟨some 6, .mv (.tmp 17), none, 0⟩,
    ⟨some 7, .mv (.tmp 18), none, 0⟩]) <|
  .seq (.seq (.ops [
    ⟨some 19, .mv (.tmp 5), none, 0⟩,
    ⟨some 20, .call k_spec_l01Next [(.tmp 19), (.const (.int .i64 5))], none, 0⟩,
    ⟨some 21, .bin .eql (.tmp 20) (.const (.int .i64 0)), none, 0⟩]) <|
  .cond (.tmp 21)
    (.seq (.ops [
      ⟨some 22, .mv (.tmp 5), none, 0⟩,
      ⟨some 23, .mv (.tmp 5), none, 0⟩,
      ⟨some 24, .call k_spec_l01Draw [(.tmp 23)], none, 0⟩,
      ⟨some 25, .call k_spec_l01Bad [(.tmp 22), (.tmp 24)], none, 0⟩,
      ⟨some 26, .mv (.tmp 6), none, 0⟩,
      ⟨some 27, .mv (.tmp 7), none, 0⟩,
      ⟨none, .store 2 (.tmp 2) (.tmp 25), none, 0⟩,
      ⟨some 3, .mv (.tmp 26), none, 0⟩,
      ⟨some 4, .mv (.tmp 27), none, 0⟩]) <|
    .keep [2, 3, 4] <|
    .ret)
    (.skip)) <|
  .seq (.ops [
    ⟨some 28, .mv (.tmp 5), none, 0⟩,
    ⟨some 29, .mv (.tmp 5), none, 0⟩,
    ⟨some 30, .buildSl 1 [.int .i64 0, .int .i64 0, .int .i64 0] [(0, 1, (.const (.int .i64 8))), (1, 1, (.const (.int .i64 14))), (2, 1, (.const (.int .i64 24)))] 3, none, 0⟩,
    ⟨some 31, .call k_spec_l01Pick [(.tmp 29), (.tmp 30)], none, 0⟩,
    ⟨some 32, .call k_spec_l01Next [(.tmp 28), (.tmp 31)], none, 0⟩,
    ⟨some 33, .bin .add (.const (.int .i64 1)) (.tmp 32), none, 0⟩,
    ⟨some 34, .call k_spec_l01Empty [(.tmp 33)], none, 0⟩,
    ⟨some 8, .alloc [.int .i64 0, .slice none 0 0], none, 0⟩,
    ⟨none, .store 2 (.tmp 8) (.tmp 34), none, 0⟩]) <|
  .seq (.seq (.ops [
    ⟨some 35, .mv (.tmp 6), none, 0⟩,
    ⟨some 36, .mv (.tmp 7), none, 0⟩,
    ⟨some 37, .call k_spec_l07Numbers [(.tmp 35), (.tmp 36)], none, 0⟩]) <|
  .cond (.tmp 37)
    (.seq (.seq (.ops [
      ⟨some 38, .mv (.tmp 5), none, 0⟩,
      ⟨some 39, .fld 0 (.tmp 8), none, 0⟩,
      ⟨some 40, .load false 1 (.tmp 39), none, 0⟩,
      ⟨some 41, .bin .mul (.const (.int .i64 2)) (.tmp 40), none, 0⟩,
      ⟨some 42, .call k_spec_l01Next [(.tmp 38), (.tmp 41)], none, 0⟩,
      ⟨some 9, .mv (.tmp 42), none, 0⟩]) <|
    .block 0 <|
    .loop [2, 5, 6, 7, 8, 9] i_spec_l07With_B1) <|
    .seq (.ops [
      ⟨some 65, .mv (.tmp 5), none, 0⟩,
      ⟨some 66, .call k_spec_l01Next [(.tmp 65), (.const (.int .i64 5))], none, 0⟩,
      ⟨some 67, .bin .eql (.tmp 66) (.const (.int .i64 0)), none, 0⟩]) <|
    .cond (.tmp 67)
      (.ops [
        ⟨some 68, .load true 2 (.tmp 8), none, 0⟩,
        ⟨some 69, .mv (.tmp 6), none, 0⟩,
        ⟨some 70, .mv (.tmp 7), none, 0⟩,
        ⟨some 71, .call k_spec_l07Fill [(.tmp 68), (.tmp 69), (.tmp 70)], none, 0⟩,
        ⟨none, .store 2 (.tmp 8) (.tmp 71), none, 0⟩])
      (.skip))
    (.skip)) <|
  .seq (.ops [
    ⟨some 72, .mv (.tmp 5), none, 0⟩,
    ⟨some 73, .load true 2 (.tmp 8), none, 0⟩,
    ⟨some 74, .call k_spec_l01Bad [(.tmp 72), (.tmp 73)], none, 0⟩,
    ⟨some 75, .mv (.tmp 6), none, 0⟩,
    ⟨some 76, .mv (.tmp 7), none, 0⟩,
    ⟨none, .store 2 (.tmp 2) (.tmp 74), none, 0⟩,
    ⟨some 3, .mv (.tmp 75), none, 0⟩,
    ⟨some 4, .mv (.tmp 76), none, 0⟩]) <|
  .keep [2, 3, 4] <|
  .ret⟩

theorem e_spec_l07With : EntOK Tryd.prog (compD Tryd.prog) k_spec_l07With i_spec_l07With.vf :=
  ⟨Tryd.f99, Tryd.f99.body.getD .skip, Tryd.func99, by kernel_rfl, by kernel_rfl, by kernel_rfl, by kernel_rfl, by kernel_rfl⟩

/-- loop.example/g01331/spec.l07Given -/
def i_spec_l07Given : FF := ⟨22, [.tmp 6],
  .seq (.ops [
    ⟨some 3, .box 2 (.tmp 0), none, 0⟩,
    ⟨some 6, .mv (.const (.int .i64 0)), none, 0⟩]) <|
  .seq (.block 0 <|
  .seq (.ops [
    ⟨some 8, .load true 2 (.tmp 3), none, 0⟩,
    ⟨some 9, .call k_spec_l01Is [(.tmp 8)], none, 0⟩,
    ⟨some 10, .un .not (.tmp 9), none, 0⟩,
    ⟨some 7, .mv (.tmp 10), none, 0⟩]) <|
  .cond (.tmp 7)
    (.seq (.ops [
      ⟨some 6, .mv (.const (.int .i64 1)), none, 0⟩]) <|
    .keep [6] <|
    .ret)
    (.seq (.ops [
      ⟨some 12, .mv (.tmp 1), none, 0⟩,
      ⟨some 13, .mv (.tmp 2), none, 0⟩,
      ⟨some 14, .call k_spec_l07Numbers [(.tmp 12), (.tmp 13)], none, 0⟩,
      ⟨some 15, .un .not (.tmp 14), none, 0⟩,
      ⟨some 11, .mv (.tmp 15), none, 0⟩]) <|
    .cond (.tmp 11)
      (.seq (.ops [
        ⟨some 6, .mv (.const (.int .i64 2)), none, 0⟩]) <|
      .keep [6] <|
      .ret)
      (.seq (.ops [
        ⟨some 17, .load true 2 (.tmp 3), none, 0⟩,
        ⟨some 18, .mv (.tmp 1), none, 0⟩,
        ⟨some 19, .mv (.tmp 2), none, 0⟩,
        ⟨some 20, .call k_spec_l07Fits [(.tmp 17), (.tmp 18), (.tmp 19)], none, 0⟩,
        ⟨some 21, .un .not (.tmp 20), none, 0⟩,
        ⟨some 16, .mv (.tmp 21), none, 0⟩]) <|
      .cond (.tmp 16)
        (.seq (.ops [
          ⟨some 6, .mv (.const (.int .i64 5)), none, 0⟩]) <|
        .keep [6] <|
        .ret)
        (.skip)))) <|
  .seq (.ops [
    ⟨some 6, .mv (.const (.int .i64 0)), none, 0⟩]) <|
  .keep [6] <|
  .ret⟩

theorem e_spec_l07Given : EntOK Tryd.prog (compD Tryd.prog) k_spec_l07Given i_spec_l07Given.vf :=
  ⟨Tryd.f100, Tryd.f100.body.getD .skip, Tryd.func100, by kernel_rfl, by kernel_rfl, by kernel_rfl, by kernel_rfl, by kernel_rfl⟩

/-- (loop.example/g01331/impl.Graph).degrees -/
def i_impl_Graph_degrees_B1 : FC :=
  .seq (.ops [
    ⟨some 9, .bin .lss (.tmp 8) (.tmp 7), none, 0⟩]) <|
  .seq (.cond (.tmp 9)
    (.skip)
    (.keep [3] <|
    .exit 0)) <|
  .seq (.block 1 <|
  .seq (.ops [
    ⟨some 10, .mv (.tmp 8), none, 0⟩,
    ⟨some 4, .mv (.tmp 10), none, 0⟩]) <|
  .ops [
    ⟨some 11, .mv (.tmp 3), none, 0⟩,
    ⟨some 12, .load true 2 (.tmp 1), none, 0⟩,
    ⟨some 13, .mv (.tmp 4), none, 0⟩,
    ⟨some 14, .call k_impl_Graph_degree [(.tmp 12), (.tmp 13)], none, 0⟩,
    ⟨some 15, .buildSl 1 [.int .i64 0] [(0, 1, (.tmp 14))] 1, none, 0⟩,
    ⟨some 16, .app 1 8 [.int .i64 0] (.tmp 11) (.tmp 15), none, 0⟩,
    ⟨some 3, .mv (.tmp 16), none, 0⟩]) <|
  .ops [
    ⟨some 17, .bin .add (.tmp 8) (.const (.int .i64 1)), none, 0⟩,
    ⟨some 8, .mv (.tmp 17), none, 0⟩]
def i_impl_Graph_degrees : FF := ⟨19, [.tmp 2],
  .seq (.ops [
    ⟨some 1, .box 2 (.tmp 0), none, 0⟩,
    ⟨some 2, .mv (.const (.slice none 0 0)), none, 0⟩]) <|
  .seq (.ops [
    ⟨some 5, .buildSl 1 [] [] 0, none, 0⟩,
    ⟨some 3, .mv (.tmp 5), none, 0⟩]) <|
  .seq (.seq (.ops [
    ⟨some 6, .fld 0 (.tmp 1), none, 0⟩,
    ⟨some 7, .load false 1 (.tmp 6), none, 0⟩,
    ⟨some 8, .mv (.const (.int .i64 0)), none, 0⟩]) <|
  .block 0 <|
  .loop [1, 3, 7, 8] i_impl_Graph_degrees_B1) <|
  .seq (.ops [
    ⟨some 18, .mv (.tmp 3), none, 0⟩,
    ⟨some 2, .mv (.tmp 18), none, 0⟩]) <|
  .keep [2] <|
  .ret⟩

theorem e_impl_Graph_degrees : EntOK Tryd.prog (compD Tryd.prog) k_impl_Graph_degrees i_impl_Graph_degrees.vf :=
  ⟨Tryd.f101, Tryd.f101.body.getD .skip, Tryd.func101, by kernel_rfl, by kernel_rfl, by kernel_rfl, by kernel_rfl, by kernel_rfl⟩

/-- loop.example/g01331/spec.l07May -/
def i_spec_l07May : FF := ⟨47, [.tmp 10],
  .seq (.ops [
    ⟨some 5, .box 2 (.tmp 0), none, 0⟩,
    ⟨some 10, .mv (.const (.bool false)), none, 0⟩]) <|
  .seq (.seq (.ops [
    ⟨some 12, .mv (.tmp 3), none, 0⟩,
    ⟨some 13, .mv (.tmp 4), none, 0⟩,
    ⟨some 14, .bin .eql (.tmp 12) (.tmp 13), none, 0⟩,
    ⟨some 15, .mv (.tmp 14), none, 0⟩,
    ⟨some 16, .load true 2 (.tmp 5), some (15, false), 0⟩,
    ⟨some 17, .mv (.tmp 3), some (15, false), 0⟩,
    ⟨some 18, .mv (.tmp 4), some (15, false), 0⟩,
    ⟨some 19, .call k_spec_l01Has [(.tmp 16), (.tmp 17), (.tmp 18)], some (15, false), 0⟩,
    ⟨some 20, .pick (.tmp 15) (.const (.bool true)) (.tmp 19), none, 0⟩,
    ⟨some 21, .mv (.tmp 20), none, 0⟩,
    ⟨some 22, .load true 2 (.tmp 5), some (21, false), 0⟩,
    ⟨some 23, .mv (.tmp 3), some (21, false), 0⟩,
    ⟨some 24, .call k_spec_l01Degree [(.tmp 22), (.tmp 23)], some (21, false), 0⟩,
    ⟨some 25, .mv (.tmp 1), some (21, false), 0⟩,
    ⟨some 26, .bin .geq (.tmp 24) (.tmp 25), some (21, false), 0⟩,
    ⟨some 27, .pick (.tmp 21) (.const (.bool true)) (.tmp 26), none, 0⟩,
    ⟨some 28, .mv (.tmp 27), none, 0⟩,
    ⟨some 29, .load true 2 (.tmp 5), some (28, false), 0⟩,
    ⟨some 30, .mv (.tmp 4), some (28, false), 0⟩,
    ⟨some 31, .call k_spec_l01Degree [(.tmp 29), (.tmp 30)], some (28, false), 0⟩,
    ⟨some 32, .mv (.tmp 1), some (28, false), 0⟩,
    ⟨some 33, .bin .geq (.tmp 31) (.tmp 32), some (28, false), 0⟩,
    ⟨some 34, .pick (.tmp 28) (.const (.bool true)) (.tmp 33), none, 0⟩]) <|
  .cond (.tmp 34)
    (.seq (.ops [
      ⟨some 10, .mv (.const (.bool false)), none, 0⟩]) <|
    .keep [10] <|
    .ret)
    (.skip)) <|
  .seq (.ops [
    ⟨some 35, .load true 2 (.tmp 5), none, 0⟩,
    ⟨some 36, .mv (.tmp 3), none, 0⟩,
    ⟨some 37, .mv (.tmp 4), none, 0⟩,
    ⟨some 38, .call k_spec_l07Far [(.tmp 35), (.tmp 36), (.tmp 37)], none, 0⟩,
    ⟨some 11, .mv (.tmp 38), none, 0⟩]) <|
  .seq (.ops [
    ⟨some 39, .mv (.tmp 11), none, 0⟩,
    ⟨some 40, .bin .lss (.tmp 39) (.const (.int .i64 0)), none, 0⟩,
    ⟨some 41, .mv (.tmp 40), none, 0⟩,
    ⟨some 42, .mv (.tmp 11), some (41, false), 0⟩,
    ⟨some 43, .bin .add (.tmp 42) (.const (.int .i64 1)), some (41, false), 0⟩,
    ⟨some 44, .mv (.tmp 2), some (41, false), 0⟩,
    ⟨some 45, .bin .geq (.tmp 43) (.tmp 44), some (41, false), 0⟩,
    ⟨some 46, .pick (.tmp 41) (.const (.bool true)) (.tmp 45), none, 0⟩,
    ⟨some 10, .mv (.tmp 46), none, 0⟩]) <|
  .keep [10] <|
  .ret⟩

theorem e_spec_l07May : EntOK Tryd.prog (compD Tryd.prog) k_spec_l07May i_spec_l07May.vf :=
  ⟨Tryd.f102, Tryd.f102.body.getD .skip, Tryd.func102, by kernel_rfl, by kernel_rfl, by kernel_rfl, by kernel_rfl, by kernel_rfl⟩

/-- loop.example/g01331/impl.pairCode -/
def i_impl_pairCode : FF := ⟨19, [.tmp 6],
  .seq (.ops [
    ⟨some 3, .box 2 (.tmp 0), none, 0⟩,
    ⟨some 6, .mv (.const (.int .i64 0)), none, 0⟩]) <|
  .seq (.seq (.ops [
    ⟨some 8, .load true 2 (.tmp 3), none, 0⟩,
    ⟨some 9, .mv (.tmp 1), none, 0⟩,
    ⟨some 10, .mv (.tmp 2), none, 0⟩,
    ⟨some 11, .buildSl 1 [.int .i64 0, .int .i64 0] [(0, 1, (.tmp 9)), (1, 1, (.tmp 10))] 2, none, 0⟩,
    ⟨some 12, .call k_impl_graphCode [(.tmp 8), (.tmp 11)], none, 0⟩,
    ⟨some 7, .mv (.tmp 12), none, 0⟩]) <|
  .seq (.ops [
    ⟨some 13, .mv (.tmp 7), none, 0⟩,
    ⟨some 14, .bin .neq (.tmp 13) (.const (.int .i64 0)), none, 0⟩]) <|
  .cond (.tmp 14)
    (.seq (.ops [
      ⟨some 15, .mv (.tmp 7), none, 0⟩,
      ⟨some 6, .mv (.tmp 15), none, 0⟩]) <|
    .keep [6] <|
    .ret)
    (.skip)) <|
  .seq (.seq (.ops [
    ⟨some 16, .mv (.tmp 1), none, 0⟩,
    ⟨some 17, .mv (.tmp 2), none, 0⟩,
    ⟨some 18, .bin .eql (.tmp 16) (.tmp 17), none, 0⟩]) <|
  .cond (.tmp 18)
    (.seq (.ops [
      ⟨some 6, .mv (.const (.int .i64 2)), none, 0⟩]) <|
    .keep [6] <|
    .ret)
    (.skip)) <|
  .seq (.ops [
    ⟨some 6, .mv (.const (.int .i64 0)), none, 0⟩]) <|
  .keep [6] <|
  .ret⟩

theorem e_impl_pairCode : EntOK Tryd.prog (compD Tryd.prog) k_impl_pairCode i_impl_pairCode.vf :=
  ⟨Tryd.f103, Tryd.f103.body.getD .skip, Tryd.func103, by kernel_rfl, by kernel_rfl, by kernel_rfl, by kernel_rfl, by kernel_rfl⟩

/-- loop.example/g01331/impl.own -/
def i_impl_own : FF := ⟨9, [.cell 2 true 2],
  .seq (.ops [
    ⟨some 1, .box 2 (.tmp 0), none, 0⟩,
    ⟨some 2, .alloc [.int .i64 0, .slice none 0 0], none, 0⟩]) <|
  .seq (.dops [
    ⟨some 5, .fld 1 (.tmp 1), none, 0⟩,
    ⟨some 6, .load false 1 (.tmp 5), none, 0⟩,
    ⟨some 7, .call k_slices_Clone_int64_int64 [(.tmp 6)], none, 0⟩,
    ⟨some 3, .fld 0 (.tmp 1), none, 1⟩,
    ⟨some 4, .load false 1 (.tmp 3), none, 1⟩,
    ⟨some 8, .build [.int .i64 0, .slice none 0 0] [(0, 1, (.tmp 4)), (1, 1, (.tmp 7))], none, 0⟩,
    ⟨none, .store 2 (.tmp 2) (.tmp 8), none, 0⟩]) <|
  .keep [2] <|
  .ret⟩

theorem e_impl_own : EntOK Tryd.prog (compD Tryd.prog) k_impl_own i_impl_own.vf :=
  ⟨Tryd.f104, Tryd.f104.body.getD .skip, Tryd.func104, by kernel_rfl, by kernel_rfl, by kernel_rfl, by kernel_rfl, by kernel_rfl⟩

/-- (loop.example/g01331/impl.Graph).put -/
def i_impl_Graph_put : FF := ⟨27, [],
  .seq (.ops [
    ⟨some 3, .box 2 (.tmp 0), none, 0⟩]) <|
  .seq (.ops [
    ⟨some 6, .mv (.tmp 1), none, 0⟩,
    ⟨some 7, .mv (.tmp 2), none, 0⟩,
    ⟨some 8, .bin .neq (.tmp 6) (.tmp 7), none, 0⟩]) <|
  .cond (.tmp 8)
    (.seq (.dops [
      ⟨some 9, .fld 1 (.tmp 3), none, 0⟩,
      ⟨some 10, .load false 1 (.tmp 9), none, 0⟩,
      ⟨some 11, .mv (.tmp 1), none, 0⟩,
      ⟨some 12, .idx 1 (.tmp 10) (.tmp 11), none, 0⟩,
      ⟨some 13, .load false 1 (.tmp 12), none, 0⟩,
      ⟨some 14, .mv (.tmp 2), none, 0⟩,
      ⟨some 15, .bin .shl (.const (.int .i64 1)) (.tmp 14), none, 0⟩,
      ⟨some 16, .bin .or (.tmp 13) (.tmp 15), none, 0⟩,
      ⟨some 17, .idx 1 (.tmp 10) (.tmp 11), none, 0⟩,
      ⟨none, .store 1 (.tmp 17) (.tmp 16), none, 0⟩]) <|
    .dops [
      ⟨some 18, .fld 1 (.tmp 3), none, 0⟩,
      ⟨some 19, .load false 1 (.tmp 18), none, 0⟩,
      ⟨some 20, .mv (.tmp 2), none, 0⟩,
      ⟨some 21, .idx 1 (.tmp 19) (.tmp 20), none, 0⟩,
      ⟨some 22, .load false 1 (.tmp 21), none, 0⟩,
      ⟨some 23, .mv (.tmp 1), none, 0⟩,
      ⟨some 24, .bin .shl (.const (.int .i64 1)) (.tmp 23), none, 0⟩,
      ⟨some 25, .bin .or (.tmp 22) (.tmp 24), none, 0⟩,
      ⟨some 26, .idx 1 (.tmp 19) (.tmp 20), none, 0⟩,
      ⟨none, .store 1 (.tmp 26) (.tmp 25), none, 0⟩])
    (.skip)⟩

theorem e_impl_Graph_put : EntOK Tryd.prog (compD Tryd.prog) k_impl_Graph_put i_impl_Graph_put.vf :=
  ⟨Tryd.f105, Tryd.f105.body.getD .skip, Tryd.func105, by kernel_rfl, by kernel_rfl, by kernel_rfl, by kernel_rfl, by kernel_rfl⟩

/-- loop.example/g01331/spec.l07Fits -/
def i_spec_l07Fits_B1 : FC :=
  .seq (.seq (.ops [
    ⟨some 11, .mv (.tmp 7), none, 0⟩,
    ⟨some 12, .fld 0 (.tmp 3), none, 0⟩,
    ⟨some 13, .load false 1 (.tmp 12), none, 0⟩,
    ⟨some 14, .bin .lss (.tmp 11) (.tmp 13), none, 0⟩]) <|
  .cond (.tmp 14)
    (.skip)
    (.keep [2, 3] <|
    .exit 0)) <|
  .seq (.block 1 <|
  .seq (.ops [
    ⟨some 17, .load true 2 (.tmp 3), none, 0⟩,
    ⟨some 18, .mv (.tmp 7), none, 0⟩,
    ⟨some 19, .call k_spec_l01Degree [(.tmp 17), (.tmp 18)], none, 0⟩,
    ⟨some 20, .mv (.tmp 1), none, 0⟩,
    ⟨some 21, .bin .gtr (.tmp 19) (.tmp 20), none, 0⟩]) <|
  .cond (.tmp 21)
    (.seq (.ops [
      ⟨some 6, .mv (.const (.bool false)), none, 0⟩]) <|
    .keep [6] <|
    .ret)
    (.skip)) <|
  .ops [
    ⟨some 15, .mv (.tmp 7), none, 0⟩,
    ⟨some 16, .bin .add (.tmp 15) (.const (.int .i64 1)), none, 0⟩,
    ⟨some 7, .mv (.tmp 16), none, 0⟩]
def i_spec_l07Fits_B2 : FC :=
  .seq (.seq (.ops [
    ⟨some 24, .mv (.tmp 9), none, 0⟩,
    ⟨some 25, .mv (.tmp 8), none, 0⟩,
    ⟨some 26, .len (.tmp 25), none, 0⟩,
    ⟨some 27, .bin .lss (.tmp 24) (.tmp 26), none, 0⟩]) <|
  .cond (.tmp 27)
    (.skip)
    (.keep [] <|
    .exit 2)) <|
  .seq (.block 3 <|
  .seq (.dops [
    ⟨some 30, .load true 2 (.tmp 3), none, 0⟩,
    ⟨some 31, .mv (.tmp 8), none, 0⟩,
    ⟨some 32, .mv (.tmp 9), none, 0⟩,
    ⟨some 33, .idx 1 (.tmp 31) (.tmp 32), none, 0⟩,
    ⟨some 34, .load false 1 (.tmp 33), none, 0⟩,
    ⟨some 35, .idx 1 (.tmp 34) (.const (.int .i64 0)), none, 0⟩,
    ⟨some 36, .load false 1 (.tmp 35), none, 0⟩,
    ⟨some 37, .mv (.tmp 8), none, 0⟩,
    ⟨some 38, .mv (.tmp 9), none, 0⟩,
    ⟨some 39, .idx 1 (.tmp 37) (.tmp 38), none, 0⟩,
    ⟨some 40, .load false 1 (.tmp 39), none, 0⟩,
    ⟨some 41, .idx 1 (.tmp 40) (.const (.int .i64 1)), none, 0⟩,
    ⟨some 42, .load false 1 (.tmp 41), none, 0⟩,
    ⟨some 43, .call k_spec_l01Cut [(.tmp 30), (.tmp 36), (.tmp 42)], none, 0⟩,
    ⟨some 44, .mv (.tmp 8), none, 1⟩,
    ⟨some 45, .mv (.tmp 9), none, 1⟩,
    ⟨some 46, .idx 1 (.tmp 44) (.tmp 45), none, 1⟩,
    ⟨some 47, .load false 1 (.tmp 46), none, 1⟩,
    ⟨some 48, .idx 1 (.tmp 47) (.const (.int .i64 0)), none, 1⟩,
    ⟨some 49, .load false 1 (.tmp 48), none, 1⟩,
    ⟨some 50, .mv (.tmp 8), none, 1⟩,
    ⟨some 51, .mv (.tmp 9), none, 1⟩,
    ⟨some 52, .idx 1 (.tmp 50) (.tmp 51), none, 1⟩,
    ⟨some 53, .load false 1 (.tmp 52), none, 1⟩,
    ⟨some 54, .idx 1 (.tmp 53) (.const (.int .i64 1)), none, 1⟩,
    ⟨some 55, .load false 1 (.tmp 54), none, 1⟩,
    ⟨some 56, .call k_spec_l07Far [(.tmp 43), (.tmp 49), (.tmp 55)], none, 0⟩,
    ⟨some 10, .mv (.tmp 56), none, 0⟩]) <|
  .seq (.ops [
    ⟨some 57, .mv (.tmp 10), none, 0⟩,
    ⟨some 58, .bin .gtr (.tmp 57) (.const (.int .i64 0)), none, 0⟩,
    ⟨some 59, .mv (.tmp 58), none, 0⟩,
    ⟨some 60, .mv (.tmp 10), some (59, true), 0⟩,
    ⟨some 61, .bin .add (.tmp 60) (.const (.int .i64 1)), some (59, true), 0⟩,
    ⟨some 62, .mv (.tmp 2), some (59, true), 0⟩,
    ⟨some 63, .bin .lss (.tmp 61) (.tmp 62), some (59, true), 0⟩,
    ⟨some 64, .pick (.tmp 59) (.tmp 63) (.const (.bool false)), none, 0⟩]) <|
  .cond (.tmp 64)
    (.seq (.ops [
      ⟨some 6, .mv (.const (.bool false)), none, 0⟩]) <|
    .keep [6] <|
    .ret)
    (.skip)) <|
  .ops [
    ⟨some 28, .mv (.tmp 9), none, 0⟩,
    ⟨some 29, .bin .add (.tmp 28) (.const (.int .i64 1)), none, 0⟩,
    ⟨some 9, .mv (.tmp 29), none, 0⟩]
def i_spec_l07Fits : FF := ⟨65, [.tmp 6],
  .seq (.ops [
    ⟨some 3, .box 2 (.tmp 0), none, 0⟩,
    ⟨some 6, .mv (.const (.bool false)), none, 0⟩]) <|
  .seq (.seq (.ops [
    ⟨some 7, .mv (.const (.int .i64 0)), none, 0⟩]) <|
  .block 0 <|
  .loop [1, 2, 3, 7] i_spec_l07Fits_B1) <|
  .seq (.ops [
    ⟨some 22, .load true 2 (.tmp 3), none, 0⟩,
    ⟨some 23, .call k_spec_l01Edges [(.tmp 22)], none, 0⟩,
    ⟨some 8, .mv (.tmp 23), none, 0⟩]) <|
  .seq (.seq (.ops [
    ⟨some 9, .mv (.const (.int .i64 0)), none, 0⟩]) <|
  .block 2 <|
  .loop [2, 3, 8, 9] i_spec_l07Fits_B2) <|
  .seq (.ops [
    ⟨some 6, .mv (.const (.bool true)), none, 0⟩]) <|
  .keep [6] <|
  .ret⟩

theorem e_spec_l07Fits : EntOK Tryd.prog (compD Tryd.prog) k_spec_l07Fits i_spec_l07Fits.vf :=
  ⟨Tryd.f106, Tryd.f106.body.getD .skip, Tryd.func106, by kernel_rfl, by kernel_rfl, by kernel_rfl, by kernel_rfl, by kernel_rfl⟩

/-- loop.example/g01331/spec.l01Degree -/
def i_spec_l01Degree : FF := ⟨11, [.tmp 4],
  .seq (.ops [
    ⟨some 2, .box 2 (.tmp 0), none, 0⟩,
    ⟨some 4, .mv (.const (.int .i64 0)), none, 0⟩]) <|
  .seq (.ops [
    ⟨some 5, .fld 1 (.tmp 2), none, 0⟩,
    ⟨some 6, .load false 1 (.tmp 5), none, 0⟩,
    ⟨some 7, .mv (.tmp 1), none, 0⟩,
    ⟨some 8, .idx 1 (.tmp 6) (.tmp 7), none, 0⟩,
    ⟨some 9, .load false 1 (.tmp 8), none, 0⟩,
    ⟨some 10, .call k_spec_l01Bits [(.tmp 9)], none, 0⟩,
    ⟨some 4, .mv (.tmp 10), none, 0⟩]) <|
  .keep [4] <|
  .ret⟩

theorem e_spec_l01Degree : EntOK Tryd.prog (compD Tryd.prog) k_spec_l01Degree i_spec_l01Degree.vf :=
  ⟨Tryd.f107, Tryd.f107.body.getD .skip, Tryd.func107, by kernel_rfl, by kernel_rfl, by kernel_rfl, by kernel_rfl, by kernel_rfl⟩

/-- loop.example/g01331/impl.size -/
def i_impl_size : FF := ⟨6, [.tmp 2],
  .seq (.ops [
    ⟨some 2, .mv (.const (.int .i64 0)), none, 0⟩]) <|
  .seq (.ops [
    ⟨some 3, .mv (.tmp 0), none, 0⟩,
    ⟨some 4, .conv .u64 (.tmp 3), none, 0⟩,
    ⟨some 5, .call k_math_bits_OnesCount64 [(.tmp 4)], none, 0⟩,
    ⟨some 2, .mv (.tmp 5), none, 0⟩]) <|
  .keep [2] <|
  .ret⟩

theorem e_impl_size : EntOK Tryd.prog (compD Tryd.prog) k_impl_size i_impl_size.vf :=
  ⟨Tryd.f118, Tryd.f118.body.getD .skip, Tryd.func118, by kernel_rfl, by kernel_rfl, by kernel_rfl, by kernel_rfl, by kernel_rfl⟩

/-- (loop.example/g01331/impl.Graph).degree -/
def i_impl_Graph_degree : FF := ⟨11, [.tmp 4],
  .seq (.ops [
    ⟨some 2, .box 2 (.tmp 0), none, 0⟩,
    ⟨some 4, .mv (.const (.int .i64 0)), none, 0⟩]) <|
  .seq (.ops [
    ⟨some 5, .fld 1 (.tmp 2), none, 0⟩,
    ⟨some 6, .load false 1 (.tmp 5), none, 0⟩,
    ⟨some 7, .mv (.tmp 1), none, 0⟩,
    ⟨some 8, .idx 1 (.tmp 6) (.tmp 7), none, 0⟩,
    ⟨some 9, .load false 1 (.tmp 8), none, 0⟩,
    ⟨some 10, .call k_impl_size [(.tmp 9)], none, 0⟩,
    ⟨some 4, .mv (.tmp 10), none, 0⟩]) <|
  .keep [4] <|
  .ret⟩

theorem e_impl_Graph_degree : EntOK Tryd.prog (compD Tryd.prog) k_impl_Graph_degree i_impl_Graph_degree.vf :=
  ⟨Tryd.f119, Tryd.f119.body.getD .skip, Tryd.func119, by kernel_rfl, by kernel_rfl, by kernel_rfl, by kernel_rfl, by kernel_rfl⟩

/-- loop.example/g01331/spec.l01DrawOf -/
def i_spec_l01DrawOf_B1 : FC :=
  .seq (.seq (.ops [
    ⟨some 20, .mv (.tmp 8), none, 0⟩,
    ⟨some 21, .mv (.tmp 7), none, 0⟩,
    ⟨some 22, .bin .lss (.tmp 20) (.tmp 21), none, 0⟩]) <|
  .cond (.tmp 22)
    (.skip)
    (.keep [0, 1, 4, 5, 6, 7] <|
    .exit 2)) <|
  .seq (.block 3 <|
  .seq (.ops [
    ⟨some 25, .mv (.tmp 0), none, 0⟩,
    ⟨some 26, .mv (.tmp 1), none, 0⟩,
    ⟨some 27, .call k_spec_l01Next [(.tmp 25), (.tmp 26)], none, 0⟩,
    ⟨some 28, .mv (.tmp 6), none, 0⟩,
    ⟨some 29, .bin .lss (.tmp 27) (.tmp 28), none, 0⟩]) <|
  .cond (.tmp 29)
    (.ops [
      ⟨some 30, .load true 2 (.tmp 5), none, 0⟩,
      ⟨some 31, .mv (.tmp 7), none, 0⟩,
      ⟨some 32, .mv (.tmp 8), none, 0⟩,
      ⟨some 33, .call k_spec_l01Put [(.tmp 30), (.tmp 31), (.tmp 32)], none, 0⟩])
    (.skip)) <|
  .ops [
    ⟨some 23, .mv (.tmp 8), none, 0⟩,
    ⟨some 24, .bin .add (.tmp 23) (.const (.int .i64 1)), none, 0⟩,
    ⟨some 8, .mv (.tmp 24), none, 0⟩]
def i_spec_l01DrawOf_B2 : FC :=
  .seq (.seq (.ops [
    ⟨some 15, .mv (.tmp 7), none, 0⟩,
    ⟨some 16, .mv (.tmp 1), none, 0⟩,
    ⟨some 17, .bin .lss (.tmp 15) (.tmp 16), none, 0⟩]) <|
  .cond (.tmp 17)
    (.skip)
    (.keep [4, 5] <|
    .exit 0)) <|
  .seq (.block 1 <|
  .seq (.ops [
    ⟨some 8, .mv (.const (.int .i64 0)), none, 0⟩]) <|
  .block 2 <|
  .loop [0, 1, 4, 5, 6, 7, 8] i_spec_l01DrawOf_B1) <|
  .ops [
    ⟨some 18, .mv (.tmp 7), none, 0⟩,
    ⟨some 19, .bin .add (.tmp 18) (.const (.int .i64 1)), none, 0⟩,
    ⟨some 7, .mv (.tmp 19), none, 0⟩]
def i_spec_l01DrawOf : FF := ⟨35, [.cell 4 true 2],
  .seq (.ops [
    ⟨some 4, .alloc [.int .i64 0, .slice none 0 0], none, 0⟩]) <|
  .seq (.ops [
    ⟨some 9, .mv (.tmp 1), none, 0⟩,
    ⟨some 10, .call k_spec_l01Empty [(.tmp 9)], none, 0⟩,
    ⟨some 11, .mv (.tmp 0), none, 0⟩,
    ⟨some 12, .mv (.tmp 1), none, 0⟩,
    ⟨some 13, .buildSl 1 [.int .i64 0, .int .i64 0, .int .i64 0, .int .i64 0, .int .i64 0] [(0, 1, (.const (.int .i64 1))), (1, 1, (.const (.int .i64 2))), (2, 1, (.const (.int .i64 3))), (3, 1, (.const (.int .i64 4))), (4, 1, (.tmp 12))] 5, none, 0⟩,
    ⟨some 14, .call k_spec_l01Pick [(.tmp 11), (.tmp 13)], none, 0⟩,
    ⟨some 5, .alloc [.int .i64 0, .slice none 0 0], none, 0⟩,
    ⟨none, .store 2 (.tmp 5) (.tmp 10), none, 0⟩,
    ⟨some 6, .mv (.tmp 14), none, 0⟩]) <|
  .seq (.seq (.ops [
    ⟨some 7, .mv (.const (.int .i64 0)), none, 0⟩]) <|
  .block 0 <|
  .loop [0, 1, 4, 5, 6, 7] i_spec_l01DrawOf_B2) <|
  .seq (.ops [
    ⟨some 34, .load true 2 (.tmp 5), none, 0⟩,
    ⟨none, .store 2 (.tmp 4) (.tmp 34), none, 0⟩]) <|
  .keep [4] <|
  .ret⟩

theorem e_spec_l01DrawOf : EntOK Tryd.prog (compD Tryd.prog) k_spec_l01DrawOf i_spec_l01DrawOf.vf :=
  ⟨Tryd.f122, Tryd.f122.body.getD .skip, Tryd.func122, by kernel_rfl, by kernel_rfl, by kernel_rfl, by kernel_rfl, by kernel_rfl⟩

/-- loop.example/g01331/spec.l01Edges -/
def i_spec_l01Edges_B1 : FC :=
  .seq (.seq (.ops [
    ⟨some 15, .mv (.tmp 5), none, 0⟩,
    ⟨some 16, .fld 0 (.tmp 1), none, 0⟩,
    ⟨some 17, .load false 1 (.tmp 16), none, 0⟩,
    ⟨some 18, .bin .lss (.tmp 15) (.tmp 17), none, 0⟩]) <|
  .cond (.tmp 18)
    (.skip)
    (.keep [1, 3, 4] <|
    .exit 2)) <|
  .seq (.block 3 <|
  .seq (.ops [
    ⟨some 21, .load true 2 (.tmp 1), none, 0⟩,
    ⟨some 22, .mv (.tmp 4), none, 0⟩,
    ⟨some 23, .mv (.tmp 5), none, 0⟩,
    ⟨some 24, .call k_spec_l01Has [(.tmp 21), (.tmp 22), (.tmp 23)], none, 0⟩]) <|
  .cond (.tmp 24)
    (.ops [
      ⟨some 25, .mv (.tmp 3), none, 0⟩,
      ⟨some 26, .mv (.tmp 4), none, 0⟩,
      ⟨some 27, .mv (.tmp 5), none, 0⟩,
      ⟨some 28, .buildSl 1 [.int .i64 0, .int .i64 0] [(0, 1, (.tmp 26)), (1, 1, (.tmp 27))] 2, none, 0⟩,
      ⟨some 29, .buildSl 1 [.slice none 0 0] [(0, 1, (.tmp 28))] 1, none, 0⟩,
      ⟨some 30, .app 1 24 [.slice none 0 0] (.tmp 25) (.tmp 29), none, 0⟩,
      ⟨some 3, .mv (.tmp 30), none, 0⟩])
    (.skip)) <|
  .ops [
    ⟨some 19, .mv (.tmp 5), none, 0⟩,
    ⟨some 20, .bin .add (.tmp 19) (.const (.int .i64 1)), none, 0⟩,
    ⟨some 5, .mv (.tmp 20), none, 0⟩]
def i_spec_l01Edges_B2 : FC :=
  .seq (.seq (.ops [
    ⟨some 7, .mv (.tmp 4), none, 0⟩,
    ⟨some 8, .fld 0 (.tmp 1), none, 0⟩,
    ⟨some 9, .load false 1 (.tmp 8), none, 0⟩,
    ⟨some 10, .bin .lss (.tmp 7) (.tmp 9), none, 0⟩]) <|
  .cond (.tmp 10)
    (.skip)
    (.keep [3] <|
    .exit 0)) <|
  .seq (.block 1 <|
  .seq (.ops [
    ⟨some 13, .mv (.tmp 4), none, 0⟩,
    ⟨some 14, .bin .add (.tmp 13) (.const (.int .i64 1)), none, 0⟩,
    ⟨some 5, .mv (.tmp 14), none, 0⟩]) <|
  .block 2 <|
  .loop [1, 3, 4, 5] i_spec_l01Edges_B1) <|
  .ops [
    ⟨some 11, .mv (.tmp 4), none, 0⟩,
    ⟨some 12, .bin .add (.tmp 11) (.const (.int .i64 1)), none, 0⟩,
    ⟨some 4, .mv (.tmp 12), none, 0⟩]
def i_spec_l01Edges : FF := ⟨32, [.tmp 2],
  .seq (.ops [
    ⟨some 1, .box 2 (.tmp 0), none, 0⟩,
    ⟨some 2, .mv (.const (.slice none 0 0)), none, 0⟩]) <|
  .seq (.ops [
    ⟨some 6, .buildSl 1 [] [] 0, none, 0⟩,
    ⟨some 3, .mv (.tmp 6), none, 0⟩]) <|
  .seq (.seq (.ops [
    ⟨some 4, .mv (.const (.int .i64 0)), none, 0⟩]) <|
  .block 0 <|
  .loop [1, 3, 4] i_spec_l01Edges_B2) <|
  .seq (.ops [
    ⟨some 31, .mv (.tmp 3), none, 0⟩,
    ⟨some 2, .mv (.tmp 31), none, 0⟩]) <|
  .keep [2] <|
  .ret⟩

theorem e_spec_l01Edges : EntOK Tryd.prog (compD Tryd.prog) k_spec_l01Edges i_spec_l01Edges.vf :=
  ⟨Tryd.f123, Tryd.f123.body.getD .skip, Tryd.func123, by kernel_rfl, by kernel_rfl, by kernel_rfl, by kernel_rfl, by kernel_rfl⟩

/-- loop.example/g01331/spec.l01Put -/
def i_spec_l01Put : FF := ⟨32, [],
  .seq (.ops [
    ⟨some 3, .box 2 (.tmp 0), none, 0⟩]) <|
  .seq (.dops [
    ⟨some 6, .fld 1 (.tmp 3), none, 0⟩,
    ⟨some 7, .load false 1 (.tmp 6), none, 0⟩,
    ⟨some 8, .mv (.tmp 1), none, 0⟩,
    ⟨some 9, .fld 1 (.tmp 3), none, 0⟩,
    ⟨some 10, .load false 1 (.tmp 9), none, 0⟩,
    ⟨some 11, .mv (.tmp 1), none, 0⟩,
    ⟨some 12, .idx 1 (.tmp 10) (.tmp 11), none, 0⟩,
    ⟨some 13, .load false 1 (.tmp 12), none, 0⟩,
    ⟨some 14, .mv (.tmp 2), none, 0⟩,
    ⟨some 15, .conv .u64 (.tmp 14), none, 0⟩,
    ⟨some 16, .bin .shl (.const (.int .i64 1)) (.tmp 15), none, 0⟩,
    ⟨some 17, .bin .or (.tmp 13) (.tmp 16), none, 0⟩,
    ⟨some 18, .idx 1 (.tmp 7) (.tmp 8), none, 0⟩,
    ⟨none, .store 1 (.tmp 18) (.tmp 17), none, 0⟩]) <|
  .dops [
    ⟨some 19, .fld 1 (.tmp 3), none, 0⟩,
    ⟨some 20, .load false 1 (.tmp 19), none, 0⟩,
    ⟨some 21, .mv (.tmp 2), none, 0⟩,
    ⟨some 22, .fld 1 (.tmp 3), none, 0⟩,
    ⟨some 23, .load false 1 (.tmp 22), none, 0⟩,
    ⟨some 24, .mv (.tmp 2), none, 0⟩,
    ⟨some 25, .idx 1 (.tmp 23) (.tmp 24), none, 0⟩,
    ⟨some 26, .load false 1 (.tmp 25), none, 0⟩,
    ⟨some 27, .mv (.tmp 1), none, 0⟩,
    ⟨some 28, .conv .u64 (.tmp 27), none, 0⟩,
    ⟨some 29, .bin .shl (.const (.int .i64 1)) (.tmp 28), none, 0⟩,
    ⟨some 30, .bin .or (.tmp 26) (.tmp 29), none, 0⟩,
    ⟨some 31, .idx 1 (.tmp 20) (.tmp 21), none, 0⟩,
    ⟨none, .store 1 (.tmp 31) (.tmp 30), none, 0⟩]⟩

theorem e_spec_l01Put : EntOK Tryd.prog (compD Tryd.prog) k_spec_l01Put i_spec_l01Put.vf :=
  ⟨Tryd.f124, Tryd.f124.body.getD .skip, Tryd.func124, by kernel_rfl, by kernel_rfl, by kernel_rfl, by kernel_rfl, by kernel_rfl⟩

/-- loop.example/g01331/spec.l01Cut -/
def i_spec_l01Cut : FF := ⟨39, [.cell 6 true 2],
  .seq (.ops [
    ⟨some 3, .box 2 (.tmp 0), none, 0⟩,
    ⟨some 6, .alloc [.int .i64 0, .slice none 0 0], none, 0⟩]) <|
  .seq (.ops [
    ⟨some 8, .load true 2 (.tmp 3), none, 0⟩,
    ⟨some 9, .mv (.tmp 1), none, 0⟩,
    ⟨some 10, .mv (.tmp 2), none, 0⟩,
    ⟨some 11, .call k_spec_l01Join [(.tmp 8), (.tmp 9), (.tmp 10)], none, 0⟩,
    ⟨some 7, .alloc [.int .i64 0, .slice none 0 0], none, 0⟩,
    ⟨none, .store 2 (.tmp 7) (.tmp 11), none, 0⟩]) <|
  .seq (.dops [
    ⟨some 12, .fld 1 (.tmp 7), none, 0⟩,
    ⟨some 13, .load false 1 (.tmp 12), none, 0⟩,
    ⟨some 14, .mv (.tmp 1), none, 0⟩,
    ⟨some 15, .fld 1 (.tmp 7), none, 0⟩,
    ⟨some 16, .load false 1 (.tmp 15), none, 0⟩,
    ⟨some 17, .mv (.tmp 1), none, 0⟩,
    ⟨some 18, .idx 1 (.tmp 16) (.tmp 17), none, 0⟩,
    ⟨some 19, .load false 1 (.tmp 18), none, 0⟩,
    ⟨some 20, .mv (.tmp 2), none, 0⟩,
    ⟨some 21, .conv .u64 (.tmp 20), none, 0⟩,
    ⟨some 22, .bin .shl (.const (.int .i64 1)) (.tmp 21), none, 0⟩,
    ⟨some 23, .bin .sub (.tmp 19) (.tmp 22), none, 0⟩,
    ⟨some 24, .idx 1 (.tmp 13) (.tmp 14), none, 0⟩,
    ⟨none, .store 1 (.tmp 24) (.tmp 23), none, 0⟩]) <|
  .seq (.dops [
    ⟨some 25, .fld 1 (.tmp 7), none, 0⟩,
    ⟨some 26, .load false 1 (.tmp 25), none, 0⟩,
    ⟨some 27, .mv (.tmp 2), none, 0⟩,
    ⟨some 28, .fld 1 (.tmp 7), none, 0⟩,
    ⟨some 29, .load false 1 (.tmp 28), none, 0⟩,
    ⟨some 30, .mv (.tmp 2), none, 0⟩,
    ⟨some 31, .idx 1 (.tmp 29) (.tmp 30), none, 0⟩,
    ⟨some 32, .load false 1 (.tmp 31), none, 0⟩,
    ⟨some 33, .mv (.tmp 1), none, 0⟩,
    ⟨some 34, .conv .u64 (.tmp 33), none, 0⟩,
    ⟨some 35, .bin .shl (.const (.int .i64 1)) (.tmp 34), none, 0⟩,
    ⟨some 36, .bin .sub (.tmp 32) (.tmp 35), none, 0⟩,
    ⟨some 37, .idx 1 (.tmp 26) (.tmp 27), none, 0⟩,
    ⟨none, .store 1 (.tmp 37) (.tmp 36), none, 0⟩]) <|
  .seq (.ops [
    ⟨some 38, .load true 2 (.tmp 7), none, 0⟩,
    ⟨none, .store 2 (.tmp 6) (.tmp 38), none, 0⟩]) <|
  .keep [6] <|
  .ret⟩

theorem e_spec_l01Cut : EntOK Tryd.prog (compD Tryd.prog) k_spec_l01Cut i_spec_l01Cut.vf :=
  ⟨Tryd.f125, Tryd.f125.body.getD .skip, Tryd.func125, by kernel_rfl, by kernel_rfl, by kernel_rfl, by kernel_rfl, by kernel_rfl⟩

/-- loop.example/g01331/spec.l01Bad -/
def i_spec_l01Bad : FF := ⟨46, [.cell 4 true 2],
  .seq (.ops [
    ⟨some 3, .box 2 (.tmp 1), none, 0⟩,
    ⟨some 4, .alloc [.int .i64 0, .slice none 0 0], none, 0⟩]) <|
  .seq (.ops [
    ⟨some 6, .fld 1 (.tmp 3), none, 0⟩,
    ⟨some 7, .load false 1 (.tmp 6), none, 0⟩,
    ⟨some 8, .call k_spec_l01Own [(.tmp 7)], none, 0⟩,
    ⟨some 5, .mv (.tmp 8), none, 0⟩]) <|
  .seq (.seq (.ops [
    ⟨some 9, .mv (.tmp 0), none, 0⟩,
    ⟨some 10, .call k_spec_l01Next [(.tmp 9), (.const (.int .i64 50))], none, 0⟩]) <|
  .block 0 <|
  .seq (.ops [
    ⟨some 13, .bin .eql (.tmp 10) (.const (.int .i64 0)), none, 0⟩,
    ⟨some 12, .mv (.tmp 13), none, 0⟩]) <|
  .cond (.tmp 12)
    (.seq (.ops [
      ⟨some 14, .mv (.tmp 0), none, 0⟩,
      ⟨some 15, .fld 0 (.tmp 3), none, 0⟩,
      ⟨some 16, .load false 1 (.tmp 15), none, 0⟩,
      ⟨some 17, .bin .add (.tmp 16) (.const (.int .i64 1)), none, 0⟩,
      ⟨some 18, .buildSl 1 [.int .i64 0, .int .i64 0, .int .i64 0, .int .i64 0] [(0, 1, (.const (.int .i64 0))), (1, 1, (.const (.int .i64 63))), (2, 1, (.const (.int .i64 (-1)))), (3, 1, (.tmp 17))] 4, none, 0⟩,
      ⟨some 19, .call k_spec_l01Pick [(.tmp 14), (.tmp 18)], none, 0⟩,
      ⟨some 20, .mv (.tmp 5), none, 0⟩,
      ⟨some 21, .build [.int .i64 0, .slice none 0 0] [(0, 1, (.tmp 19)), (1, 1, (.tmp 20))], none, 0⟩,
      ⟨none, .store 2 (.tmp 4) (.tmp 21), none, 0⟩]) <|
    .keep [4] <|
    .ret)
    (.seq (.ops [
      ⟨some 23, .bin .eql (.tmp 10) (.const (.int .i64 1)), none, 0⟩,
      ⟨some 22, .mv (.tmp 23), none, 0⟩]) <|
    .cond (.tmp 22)
      (.dops [
        ⟨some 25, .mv (.tmp 0), none, 0⟩,
        ⟨some 26, .fld 0 (.tmp 3), none, 0⟩,
        ⟨some 27, .load false 1 (.tmp 26), none, 0⟩,
        ⟨some 28, .call k_spec_l01Next [(.tmp 25), (.tmp 27)], none, 0⟩,
        ⟨some 29, .mv (.tmp 0), none, 1⟩,
        ⟨some 30, .fld 0 (.tmp 3), none, 1⟩,
        ⟨some 31, .load false 1 (.tmp 30), none, 1⟩,
        ⟨some 32, .conv .u64 (.tmp 31), none, 1⟩,
        ⟨some 33, .bin .shl (.const (.int .i64 1)) (.tmp 32), none, 1⟩,
        ⟨some 34, .buildSl 1 [.int .i64 0, .int .i64 0, .int .i64 0, .int .i64 0, .int .i64 0] [(0, 1, (.const (.int .i64 (-1)))), (1, 1, (.const (.int .i64 1))), (2, 1, (.const (.int .i64 2))), (3, 1, (.const (.int .i64 4611686018427387904))), (4, 1, (.tmp 33))] 5, none, 1⟩,
        ⟨some 35, .call k_spec_l01Pick [(.tmp 29), (.tmp 34)], none, 1⟩,
        ⟨some 24, .mv (.tmp 5), none, 3⟩,
        ⟨some 36, .idx 1 (.tmp 24) (.tmp 28), none, 1⟩,
        ⟨none, .store 1 (.tmp 36) (.tmp 35), none, 1⟩])
      (.seq (.ops [
        ⟨some 38, .bin .eql (.tmp 10) (.const (.int .i64 2)), none, 0⟩,
        ⟨some 37, .mv (.tmp 38), none, 0⟩]) <|
      .cond (.tmp 37)
        (.ops [
          ⟨some 39, .mv (.tmp 5), none, 0⟩,
          ⟨some 40, .buildSl 1 [.int .i64 0] [(0, 1, (.const (.int .i64 0)))] 1, none, 0⟩,
          ⟨some 41, .app 1 8 [.int .i64 0] (.tmp 39) (.tmp 40), none, 0⟩,
          ⟨some 5, .mv (.tmp 41), none, 0⟩])
        (.seq (.ops [
          ⟨some 11, .load true 2 (.tmp 3), none, 0⟩,
          ⟨none, .store 2 (.tmp 4) (.tmp 11), none, 0⟩]) <|
        .keep [4] <|
        .ret)))) <|
  .seq (.ops [
    ⟨some 42, .fld 0 (.tmp 3), none, 0⟩,
    ⟨some 43, .load false 1 (.tmp 42), none, 0⟩,
    ⟨some 44, .mv (.tmp 5), none, 0⟩,
    ⟨some 45, .build [.int .i64 0, .slice none 0 0] [(0, 1, (.tmp 43)), (1, 1, (.tmp 44))], none, 0⟩,
    ⟨none, .store 2 (.tmp 4) (.tmp 45), none, 0⟩]) <|
  .keep [4] <|
  .ret⟩

theorem e_spec_l01Bad : EntOK Tryd.prog (compD Tryd.prog) k_spec_l01Bad i_spec_l01Bad.vf :=
  ⟨Tryd.f126, Tryd.f126.body.getD .skip, Tryd.func126, by kernel_rfl, by kernel_rfl, by kernel_rfl, by kernel_rfl, by kernel_rfl⟩

/-- loop.example/g01331/spec.l01DrawRegular -/
def i_spec_l01DrawRegular : FF := ⟨49, [.cell 2 true 2],
  .seq (.ops [
    ⟨some 2, .alloc [.int .i64 0, .slice none 0 0], none, 0⟩]) <|
  .seq (.ops [
    ⟨some 7, .call k_spec_l01Names [], none, 0⟩,
    ⟨some 3, .mv (.tmp 7), none, 0⟩]) <|
  .seq (.ops [
    ⟨some 9, .mv (.tmp 3), none, 0⟩,
    ⟨some 10, .mv (.tmp 0), none, 0⟩,
    ⟨some 11, .mv (.tmp 0), none, 0⟩,
    ⟨some 12, .buildSl 1 [.int .i64 0, .int .i64 0, .int .i64 0] [(0, 1, (.const (.int .i64 6))), (1, 1, (.const (.int .i64 13))), (2, 1, (.const (.int .i64 15)))] 3, none, 0⟩,
    ⟨some 13, .call k_spec_l01Pick [(.tmp 11), (.tmp 12)], none, 0⟩,
    ⟨some 14, .call k_spec_l01Next [(.tmp 10), (.tmp 13)], none, 0⟩,
    ⟨some 15, .idx 1 (.tmp 9) (.tmp 14), none, 0⟩,
    ⟨some 16, .load false 1 (.tmp 15), none, 0⟩,
    ⟨some 17, .call k_spec_l01Named [(.tmp 16)], none, 0⟩,
    ⟨some 8, .mv (.tmp 17), none, 0⟩,
    ⟨some 18, .ext (.tmp 8) 0, none, 0⟩,
    ⟨some 19, .ext (.tmp 8) 1, none, 0⟩,
    ⟨some 4, .alloc [.int .i64 0, .slice none 0 0], none, 0⟩,
    ⟨none, .store 2 (.tmp 4) (.tmp 18), none, 0⟩,
    ⟨some 5, .mv (.tmp 19), none, 0⟩]) <|
  .seq (.seq (.ops [
    ⟨some 20, .mv (.tmp 0), none, 0⟩,
    ⟨some 21, .call k_spec_l01Next [(.tmp 20), (.const (.int .i64 3))], none, 0⟩,
    ⟨some 22, .bin .eql (.tmp 21) (.const (.int .i64 0)), none, 0⟩]) <|
  .cond (.tmp 22)
    (.seq (.ops [
      ⟨some 23, .mv (.tmp 0), none, 0⟩,
      ⟨some 24, .call k_spec_l01Next [(.tmp 23), (.const (.int .i64 14))], none, 0⟩,
      ⟨some 25, .bin .add (.const (.int .i64 3)) (.tmp 24), none, 0⟩,
      ⟨some 6, .mv (.tmp 25), none, 0⟩]) <|
    .seq (.ops [
      ⟨some 26, .mv (.tmp 6), none, 0⟩,
      ⟨some 27, .call k_spec_l01Jumps [(.tmp 26), (.const (.slice none 0 0))], none, 0⟩,
      ⟨none, .store 2 (.tmp 4) (.tmp 27), none, 0⟩]) <|
    .seq (.ops [
      ⟨some 28, .mv (.tmp 0), none, 0⟩,
      ⟨some 29, .call k_spec_l01Next [(.tmp 28), (.const (.int .i64 2))], none, 0⟩,
      ⟨some 30, .bin .eql (.tmp 29) (.const (.int .i64 0)), none, 0⟩]) <|
    .cond (.tmp 30)
      (.ops [
        ⟨some 31, .mv (.tmp 6), none, 0⟩,
        ⟨some 32, .mv (.tmp 0), none, 0⟩,
        ⟨some 33, .mv (.tmp 6), none, 0⟩,
        ⟨some 34, .bin .sub (.tmp 33) (.const (.int .i64 1)), none, 0⟩,
        ⟨some 35, .call k_spec_l01Next [(.tmp 32), (.tmp 34)], none, 0⟩,
        ⟨some 36, .bin .add (.const (.int .i64 1)) (.tmp 35), none, 0⟩,
        ⟨some 37, .buildSl 1 [.int .i64 0] [(0, 1, (.tmp 36))] 1, none, 0⟩,
        ⟨some 38, .call k_spec_l01Jumps [(.tmp 31), (.tmp 37)], none, 0⟩,
        ⟨none, .store 2 (.tmp 4) (.tmp 38), none, 0⟩])
      (.skip))
    (.skip)) <|
  .seq (.seq (.ops [
    ⟨some 39, .mv (.tmp 0), none, 0⟩,
    ⟨some 40, .call k_spec_l01Next [(.tmp 39), (.const (.int .i64 2))], none, 0⟩,
    ⟨some 41, .bin .eql (.tmp 40) (.const (.int .i64 0)), none, 0⟩]) <|
  .cond (.tmp 41)
    (.seq (.dops [
      ⟨some 43, .mv (.tmp 0), none, 0⟩,
      ⟨some 44, .fld 0 (.tmp 4), none, 0⟩,
      ⟨some 45, .load false 1 (.tmp 44), none, 0⟩,
      ⟨some 46, .call k_spec_l01DrawOrder [(.tmp 43), (.tmp 45)], none, 0⟩,
      ⟨some 42, .load true 2 (.tmp 4), none, 1⟩,
      ⟨some 47, .call k_spec_l01Renamed [(.tmp 42), (.tmp 46)], none, 0⟩,
      ⟨none, .store 2 (.tmp 2) (.tmp 47), none, 0⟩]) <|
    .keep [2] <|
    .ret)
    (.skip)) <|
  .seq (.ops [
    ⟨some 48, .load true 2 (.tmp 4), none, 0⟩,
    ⟨none, .store 2 (.tmp 2) (.tmp 48), none, 0⟩]) <|
  .keep [2] <|
  .ret⟩

theorem e_spec_l01DrawRegular : EntOK Tryd.prog (compD Tryd.prog) k_spec_l01DrawRegular i_spec_l01DrawRegular.vf :=
  ⟨Tryd.f133, Tryd.f133.body.getD .skip, Tryd.func133, by kernel_rfl, by kernel_rfl, by kernel_rfl, by kernel_rfl, by kernel_rfl⟩

/-- loop.example/g01331/impl.list -/
def i_impl_list_B1 : FC :=
  .seq (.seq (.ops [
    ⟨some 5, .mv (.tmp 0), none, 0⟩,
    ⟨some 6, .bin .neq (.tmp 5) (.const (.int .i64 0)), none, 0⟩]) <|
  .cond (.tmp 6)
    (.skip)
    (.keep [3] <|
    .exit 0)) <|
  .seq (.block 1 <|
  .ops [
    ⟨some 11, .mv (.tmp 3), none, 0⟩,
    ⟨some 12, .mv (.tmp 0), none, 0⟩,
    ⟨some 13, .conv .u64 (.tmp 12), none, 0⟩,
    ⟨some 14, .call k_math_bits_TrailingZeros64 [(.tmp 13)], none, 0⟩,
    ⟨some 15, .buildSl 1 [.int .i64 0] [(0, 1, (.tmp 14))] 1, none, 0⟩,
    ⟨some 16, .app 1 8 [.int .i64 0] (.tmp 11) (.tmp 15), none, 0⟩,
    ⟨some 3, .mv (.tmp 16), none, 0⟩]) <|
  .ops [
    ⟨some 7, .mv (.tmp 0), none, 0⟩,
    ⟨some 8, .mv (.tmp 0), none, 0⟩,
    ⟨some 9, .bin .sub (.tmp 8) (.const (.int .i64 1)), none, 0⟩,
    ⟨some 10, .bin .and (.tmp 7) (.tmp 9), none, 0⟩,
    ⟨some 0, .mv (.tmp 10), none, 0⟩]
def i_impl_list : FF := ⟨18, [.tmp 2],
  .seq (.ops [
    ⟨some 2, .mv (.const (.slice none 0 0)), none, 0⟩]) <|
  .seq (.ops [
    ⟨some 4, .buildSl 1 [] [] 0, none, 0⟩,
    ⟨some 3, .mv (.tmp 4), none, 0⟩]) <|
  .seq (.block 0 <|
  .loop [0, 3] i_impl_list_B1) <|
  .seq (.ops [
    ⟨some 17, .mv (.tmp 3), none, 0⟩,
    ⟨some 2, .mv (.tmp 17), none, 0⟩]) <|
  .keep [2] <|
  .ret⟩

theorem e_impl_list : EntOK Tryd.prog (compD Tryd.prog) k_impl_list i_impl_list.vf :=
  ⟨Tryd.f135, Tryd.f135.body.getD .skip, Tryd.func135, by kernel_rfl, by kernel_rfl, by kernel_rfl, by kernel_rfl, by kernel_rfl⟩

/-- (loop.example/g01331/impl.Graph).take -/
def i_impl_Graph_take : FF := ⟨24, [],
  .seq (.ops [
    ⟨some 3, .box 2 (.tmp 0), none, 0⟩]) <|
  .seq (.dops [
    ⟨some 6, .fld 1 (.tmp 3), none, 0⟩,
    ⟨some 7, .load false 1 (.tmp 6), none, 0⟩,
    ⟨some 8, .mv (.tmp 1), none, 0⟩,
    ⟨some 9, .idx 1 (.tmp 7) (.tmp 8), none, 0⟩,
    ⟨some 10, .load false 1 (.tmp 9), none, 0⟩,
    ⟨some 11, .mv (.tmp 2), none, 0⟩,
    ⟨some 12, .bin .shl (.const (.int .i64 1)) (.tmp 11), none, 0⟩,
    ⟨some 13, .bin .andNot (.tmp 10) (.tmp 12), none, 0⟩,
    ⟨some 14, .idx 1 (.tmp 7) (.tmp 8), none, 0⟩,
    ⟨none, .store 1 (.tmp 14) (.tmp 13), none, 0⟩]) <|
  .dops [
    ⟨some 15, .fld 1 (.tmp 3), none, 0⟩,
    ⟨some 16, .load false 1 (.tmp 15), none, 0⟩,
    ⟨some 17, .mv (.tmp 2), none, 0⟩,
    ⟨some 18, .idx 1 (.tmp 16) (.tmp 17), none, 0⟩,
    ⟨some 19, .load false 1 (.tmp 18), none, 0⟩,
    ⟨some 20, .mv (.tmp 1), none, 0⟩,
    ⟨some 21, .bin .shl (.const (.int .i64 1)) (.tmp 20), none, 0⟩,
    ⟨some 22, .bin .andNot (.tmp 19) (.tmp 21), none, 0⟩,
    ⟨some 23, .idx 1 (.tmp 16) (.tmp 17), none, 0⟩,
    ⟨none, .store 1 (.tmp 23) (.tmp 22), none, 0⟩]⟩

theorem e_impl_Graph_take : EntOK Tryd.prog (compD Tryd.prog) k_impl_Graph_take i_impl_Graph_take.vf :=
  ⟨Tryd.f136, Tryd.f136.body.getD .skip, Tryd.func136, by kernel_rfl, by kernel_rfl, by kernel_rfl, by kernel_rfl, by kernel_rfl⟩

/-- (loop.example/g01331/impl.Graph).distances -/
def i_impl_Graph_distances_B1 : FC :=
  .seq (.ops [
    ⟨some 28, .bin .lss (.tmp 27) (.tmp 26), none, 0⟩]) <|
  .seq (.cond (.tmp 28)
    (.skip)
    (.keep [2, 5, 6, 8, 9] <|
    .exit 2)) <|
  .seq (.block 3 <|
  .seq (.ops [
    ⟨some 29, .idx 1 (.tmp 25) (.tmp 27), none, 0⟩,
    ⟨some 30, .load false 1 (.tmp 29), none, 0⟩,
    ⟨some 11, .mv (.tmp 30), none, 0⟩]) <|
  .seq (.ops [
    ⟨some 31, .mv (.tmp 5), none, 0⟩,
    ⟨some 32, .mv (.tmp 11), none, 0⟩,
    ⟨some 33, .mv (.tmp 8), none, 0⟩,
    ⟨some 34, .idx 1 (.tmp 31) (.tmp 32), none, 0⟩,
    ⟨none, .store 1 (.tmp 34) (.tmp 33), none, 0⟩]) <|
  .ops [
    ⟨some 35, .mv (.tmp 9), none, 0⟩,
    ⟨some 36, .fld 1 (.tmp 2), none, 0⟩,
    ⟨some 37, .load false 1 (.tmp 36), none, 0⟩,
    ⟨some 38, .mv (.tmp 11), none, 0⟩,
    ⟨some 39, .idx 1 (.tmp 37) (.tmp 38), none, 0⟩,
    ⟨some 40, .load false 1 (.tmp 39), none, 0⟩,
    ⟨some 41, .bin .or (.tmp 35) (.tmp 40), none, 0⟩,
    ⟨some 9, .mv (.tmp 41), none, 0⟩]) <|
  .ops [
    ⟨some 42, .bin .add (.tmp 27) (.const (.int .i64 1)), none, 0⟩,
    ⟨some 27, .mv (.tmp 42), none, 0⟩]
def i_impl_Graph_distances_B2 : FC :=
  .seq (.seq (.ops [
    ⟨some 20, .mv (.tmp 7), none, 0⟩,
    ⟨some 21, .bin .neq (.tmp 20) (.const (.int .i64 0)), none, 0⟩]) <|
  .cond (.tmp 21)
    (.skip)
    (.keep [5] <|
    .exit 0)) <|
  .seq (.block 1 <|
  .seq (.ops [
    ⟨some 9, .mv (.const (.int .i64 0)), none, 0⟩]) <|
  .seq (.seq (.ops [
    ⟨some 24, .mv (.tmp 7), none, 0⟩,
    ⟨some 25, .call k_impl_list [(.tmp 24)], none, 0⟩,
    ⟨some 26, .len (.tmp 25), none, 0⟩,
    ⟨some 27, .mv (.const (.int .i64 0)), none, 0⟩]) <|
  .block 2 <|
  .loop [2, 5, 6, 8, 9, 25, 26, 27] i_impl_Graph_distances_B1) <|
  .seq (.ops [
    ⟨some 43, .mv (.tmp 9), none, 0⟩,
    ⟨some 44, .mv (.tmp 6), none, 0⟩,
    ⟨some 45, .bin .andNot (.tmp 43) (.tmp 44), none, 0⟩,
    ⟨some 7, .mv (.tmp 45), none, 0⟩]) <|
  .ops [
    ⟨some 46, .mv (.tmp 6), none, 0⟩,
    ⟨some 47, .mv (.tmp 9), none, 0⟩,
    ⟨some 48, .bin .or (.tmp 46) (.tmp 47), none, 0⟩,
    ⟨some 6, .mv (.tmp 48), none, 0⟩]) <|
  .ops [
    ⟨some 22, .mv (.tmp 8), none, 0⟩,
    ⟨some 23, .bin .add (.tmp 22) (.const (.int .i64 1)), none, 0⟩,
    ⟨some 8, .mv (.tmp 23), none, 0⟩]
def i_impl_Graph_distances : FF := ⟨50, [.tmp 4],
  .seq (.ops [
    ⟨some 2, .box 2 (.tmp 0), none, 0⟩,
    ⟨some 4, .mv (.const (.slice none 0 0)), none, 0⟩]) <|
  .seq (.ops [
    ⟨some 12, .buildSl 1 [.int .i64 0] [(0, 1, (.const (.int .i64 (-1))))] 1, none, 0⟩,
    ⟨some 13, .fld 0 (.tmp 2), none, 0⟩,
    ⟨some 14, .load false 1 (.tmp 13), none, 0⟩,
    ⟨some 15, .call k_slices_Repeat_int64_int64 [(.tmp 12), (.tmp 14)], none, 0⟩,
    ⟨some 5, .mv (.tmp 15), none, 0⟩]) <|
  .seq (.dops [
    ⟨some 16, .mv (.tmp 1), none, 0⟩,
    ⟨some 17, .bin .shl (.const (.int .i64 1)) (.tmp 16), none, 0⟩,
    ⟨some 18, .mv (.tmp 1), none, 0⟩,
    ⟨some 19, .bin .shl (.const (.int .i64 1)) (.tmp 18), none, 0⟩,
    ⟨some 6, .mv (.tmp 17), none, 0⟩,
    ⟨some 7, .mv (.tmp 19), none, 0⟩]) <|
  .seq (.seq (.ops [
    ⟨some 8, .mv (.const (.int .i64 0)), none, 0⟩]) <|
  .block 0 <|
  .loop [2, 5, 6, 7, 8] i_impl_Graph_distances_B2) <|
  .seq (.ops [
    ⟨some 49, .mv (.tmp 5), none, 0⟩,
    ⟨some 4, .mv (.tmp 49), none, 0⟩]) <|
  .keep [4] <|
  .ret⟩

theorem e_impl_Graph_distances : EntOK Tryd.prog (compD Tryd.prog) k_impl_Graph_distances i_impl_Graph_distances.vf :=
  ⟨Tryd.f137, Tryd.f137.body.getD .skip, Tryd.func137, by kernel_rfl, by kernel_rfl, by kernel_rfl, by kernel_rfl, by kernel_rfl⟩

/-- loop.example/g01331/spec.l01Has -/
def i_spec_l01Has : FF := ⟨17, [.tmp 6],
  .seq (.ops [
    ⟨some 3, .box 2 (.tmp 0), none, 0⟩,
    ⟨some 6, .mv (.const (.bool false)), none, 0⟩]) <|
  .seq (.ops [
    ⟨some 7, .fld 1 (.tmp 3), none, 0⟩,
    ⟨some 8, .load false 1 (.tmp 7), none, 0⟩,
    ⟨some 9, .mv (.tmp 1), none, 0⟩,
    ⟨some 10, .idx 1 (.tmp 8) (.tmp 9), none, 0⟩,
    ⟨some 11, .load false 1 (.tmp 10), none, 0⟩,
    ⟨some 12, .mv (.tmp 2), none, 0⟩,
    ⟨some 13, .conv .u64 (.tmp 12), none, 0⟩,
    ⟨some 14, .bin .shr (.tmp 11) (.tmp 13), none, 0⟩,
    ⟨some 15, .bin .and (.tmp 14) (.const (.int .i64 1)), none, 0⟩,
    ⟨some 16, .bin .eql (.tmp 15) (.const (.int .i64 1)), none, 0⟩,
    ⟨some 6, .mv (.tmp 16), none, 0⟩]) <|
  .keep [6] <|
  .ret⟩

theorem e_spec_l01Has : EntOK Tryd.prog (compD Tryd.prog) k_spec_l01Has i_spec_l01Has.vf :=
  ⟨Tryd.f139, Tryd.f139.body.getD .skip, Tryd.func139, by kernel_rfl, by kernel_rfl, by kernel_rfl, by kernel_rfl, by kernel_rfl⟩

/-- (loop.example/g01331/impl.Graph).mayJoin -/
def i_impl_Graph_mayJoin : FF := ⟨44, [.tmp 10],
  .seq (.ops [
    ⟨some 5, .box 2 (.tmp 0), none, 0⟩,
    ⟨some 10, .mv (.const (.bool false)), none, 0⟩]) <|
  .seq (.seq (.ops [
    ⟨some 12, .load true 2 (.tmp 5), none, 0⟩,
    ⟨some 13, .mv (.tmp 1), none, 0⟩,
    ⟨some 14, .mv (.tmp 2), none, 0⟩,
    ⟨some 15, .call k_impl_Graph_has [(.tmp 12), (.tmp 13), (.tmp 14)], none, 0⟩,
    ⟨some 16, .mv (.tmp 15), none, 0⟩,
    ⟨some 17, .load true 2 (.tmp 5), some (16, false), 0⟩,
    ⟨some 18, .mv (.tmp 1), some (16, false), 0⟩,
    ⟨some 19, .call k_impl_Graph_degree [(.tmp 17), (.tmp 18)], some (16, false), 0⟩,
    ⟨some 20, .mv (.tmp 3), some (16, false), 0⟩,
    ⟨some 21, .bin .geq (.tmp 19) (.tmp 20), some (16, false), 0⟩,
    ⟨some 22, .pick (.tmp 16) (.const (.bool true)) (.tmp 21), none, 0⟩,
    ⟨some 23, .mv (.tmp 22), none, 0⟩,
    ⟨some 24, .load true 2 (.tmp 5), some (23, false), 0⟩,
    ⟨some 25, .mv (.tmp 2), some (23, false), 0⟩,
    ⟨some 26, .call k_impl_Graph_degree [(.tmp 24), (.tmp 25)], some (23, false), 0⟩,
    ⟨some 27, .mv (.tmp 3), some (23, false), 0⟩,
    ⟨some 28, .bin .geq (.tmp 26) (.tmp 27), some (23, false), 0⟩,
    ⟨some 29, .pick (.tmp 23) (.const (.bool true)) (.tmp 28), none, 0⟩]) <|
  .cond (.tmp 29)
    (.seq (.ops [
      ⟨some 10, .mv (.const (.bool false)), none, 0⟩]) <|
    .keep [10] <|
    .ret)
    (.skip)) <|
  .seq (.ops [
    ⟨some 30, .load true 2 (.tmp 5), none, 0⟩,
    ⟨some 31, .mv (.tmp 1), none, 0⟩,
    ⟨some 32, .call k_impl_Graph_distances [(.tmp 30), (.tmp 31)], none, 0⟩,
    ⟨some 33, .mv (.tmp 2), none, 0⟩,
    ⟨some 34, .idx 1 (.tmp 32) (.tmp 33), none, 0⟩,
    ⟨some 35, .load false 1 (.tmp 34), none, 0⟩,
    ⟨some 11, .mv (.tmp 35), none, 0⟩]) <|
  .seq (.ops [
    ⟨some 36, .mv (.tmp 11), none, 0⟩,
    ⟨some 37, .bin .lss (.tmp 36) (.const (.int .i64 0)), none, 0⟩,
    ⟨some 38, .mv (.tmp 37), none, 0⟩,
    ⟨some 39, .mv (.tmp 11), some (38, false), 0⟩,
    ⟨some 40, .bin .add (.tmp 39) (.const (.int .i64 1)), some (38, false), 0⟩,
    ⟨some 41, .mv (.tmp 4), some (38, false), 0⟩,
    ⟨some 42, .bin .geq (.tmp 40) (.tmp 41), some (38, false), 0⟩,
    ⟨some 43, .pick (.tmp 38) (.const (.bool true)) (.tmp 42), none, 0⟩,
    ⟨some 10, .mv (.tmp 43), none, 0⟩]) <|
  .keep [10] <|
  .ret⟩

theorem e_impl_Graph_mayJoin : EntOK Tryd.prog (compD Tryd.prog) k_impl_Graph_mayJoin i_impl_Graph_mayJoin.vf :=
  ⟨Tryd.f141, Tryd.f141.body.getD .skip, Tryd.func141, by kernel_rfl, by kernel_rfl, by kernel_rfl, by kernel_rfl, by kernel_rfl⟩

/-- loop.example/g01331/spec.l01Copy -/
def i_spec_l01Copy : FF := ⟨9, [.cell 2 true 2],
  .seq (.ops [
    ⟨some 1, .box 2 (.tmp 0), none, 0⟩,
    ⟨some 2, .alloc [.int .i64 0, .slice none 0 0], none, 0⟩]) <|
  .seq (.dops [
    ⟨some 5, .fld 1 (.tmp 1), none, 0⟩,
    ⟨some 6, .load false 1 (.tmp 5), none, 0⟩,
    ⟨some 7, .call k_spec_l01Own [(.tmp 6)], none, 0⟩,
    ⟨some 3, .fld 0 (.tmp 1), none, 1⟩,
    ⟨some 4, .load false 1 (.tmp 3), none, 1⟩,
    ⟨some 8, .build [.int .i64 0, .slice none 0 0] [(0, 1, (.tmp 4)), (1, 1, (.tmp 7))], none, 0⟩,
    ⟨none, .store 2 (.tmp 2) (.tmp 8), none, 0⟩]) <|
  .keep [2] <|
  .ret⟩

theorem e_spec_l01Copy : EntOK Tryd.prog (compD Tryd.prog) k_spec_l01Copy i_spec_l01Copy.vf :=
  ⟨Tryd.f142, Tryd.f142.body.getD .skip, Tryd.func142, by kernel_rfl, by kernel_rfl, by kernel_rfl, by kernel_rfl, by kernel_rfl⟩

/-- slices.Max[[]int64,int64] -/
def i_slices_Max_int64_int64_B1 : FC :=
  .seq (.seq (.ops [
    ⟨some 12, .mv (.tmp 4), none, 0⟩,
    ⟨some 13, .mv (.tmp 0), none, 0⟩,
    ⟨some 14, .len (.tmp 13), none, 0⟩,
    ⟨some 15, .bin .lss (.tmp 12) (.tmp 14), none, 0⟩]) <|
  .cond (.tmp 15)
    (.skip)
    (.keep [3] <|
    .exit 0)) <|
  .seq (.block 1 <|
  .ops [
    ⟨some 18, .mv (.tmp 3), none, 0⟩,
    ⟨some 19, .mv (.tmp 0), none, 0⟩,
    ⟨some 20, .mv (.tmp 4), none, 0⟩,
    ⟨some 21, .idx 1 (.tmp 19) (.tmp 20), none, 0⟩,
    ⟨some 22, .load false 1 (.tmp 21), none, 0⟩,
    ⟨some 23, .minmax true [(.tmp 18), (.tmp 22)], none, 0⟩,
    ⟨some 3, .mv (.tmp 23), none, 0⟩]) <|
  .ops [
    ⟨some 16, .mv (.tmp 4), none, 0⟩,
    ⟨some 17, .bin .add (.tmp 16) (.const (.int .i64 1)), none, 0⟩,
    ⟨some 4, .mv (.tmp 17), none, 0⟩]
def i_slices_Max_int64_int64 : FF := ⟨25, [.tmp 2],
  .seq (.ops [
    ⟨some 2, .mv (.const (.int .i64 0)), none, 0⟩]) <|
  .seq (.seq (.ops [
    ⟨some 5, .mv (.tmp 0), none, 0⟩,
    ⟨some 6, .len (.tmp 5), none, 0⟩,
    ⟨some 7, .bin .lss (.tmp 6) (.const (.int .i64 1)), none, 0⟩]) <|
  .cond (.tmp 7)
    (.ops [
      ⟨some 8, .stop, none, 0⟩,
      ⟨none, .stop, none, 0⟩])
    (.skip)) <|
  .seq (.ops [
    ⟨some 9, .mv (.tmp 0), none, 0⟩,
    ⟨some 10, .idx 1 (.tmp 9) (.const (.int .i64 0)), none, 0⟩,
    ⟨some 11, .load false 1 (.tmp 10), none, 0⟩,
    ⟨some 3, .mv (.tmp 11), none, 0⟩]) <|
  .seq (.seq (.ops [
    ⟨some 4, .mv (.const (.int .i64 1)), none, 0⟩]) <|
  .block 0 <|
  .loop [0, 3, 4] i_slices_Max_int64_int64_B1) <|
  .seq (.ops [
    ⟨some 24, .mv (.tmp 3), none, 0⟩,
    ⟨some 2, .mv (.tmp 24), none, 0⟩]) <|
  .keep [2] <|
  .ret⟩

theorem e_slices_Max_int64_int64 : EntOK Tryd.prog (compD Tryd.prog) k_slices_Max_int64_int64 i_slices_Max_int64_int64.vf :=
  ⟨Tryd.f143, Tryd.f143.body.getD .skip, Tryd.func143, by kernel_rfl, by kernel_rfl, by kernel_rfl, by kernel_rfl, by kernel_rfl⟩

/-- loop.example/g01331/spec.l01Draw -/
def i_spec_l01Draw : FF := ⟨21, [.cell 2 true 2],
  .seq (.ops [
    ⟨some 2, .alloc [.int .i64 0, .slice none 0 0], none, 0⟩]) <|
  .seq (.seq (.ops [
    ⟨some 3, .mv (.tmp 0), none, 0⟩,
    ⟨some 4, .call k_spec_l01Next [(.tmp 3), (.const (.int .i64 4))], none, 0⟩]) <|
  .block 0 <|
  .seq (.ops [
    ⟨some 6, .bin .eql (.tmp 4) (.const (.int .i64 0)), none, 0⟩,
    ⟨some 5, .mv (.tmp 6), none, 0⟩]) <|
  .cond (.tmp 5)
    (.seq (.ops [
      ⟨some 7, .mv (.tmp 0), none, 0⟩,
      ⟨some 8, .call k_spec_l01DrawRegular [(.tmp 7)], none, 0⟩,
      ⟨none, .store 2 (.tmp 2) (.tmp 8), none, 0⟩]) <|
    .keep [2] <|
    .ret)
    (.seq (.ops [
      ⟨some 10, .bin .eql (.tmp 4) (.const (.int .i64 1)), none, 0⟩,
      ⟨some 9, .mv (.tmp 10), none, 0⟩]) <|
    .cond (.tmp 9)
      (.seq (.ops [
        ⟨some 11, .mv (.tmp 0), none, 0⟩,
        ⟨some 12, .mv (.tmp 0), none, 0⟩,
        ⟨some 13, .buildSl 1 [.int .i64 0, .int .i64 0, .int .i64 0, .int .i64 0, .int .i64 0, .int .i64 0] [(0, 1, (.const (.int .i64 1))), (1, 1, (.const (.int .i64 10))), (2, 1, (.const (.int .i64 20))), (3, 1, (.const (.int .i64 40))), (4, 1, (.const (.int .i64 61))), (5, 1, (.const (.int .i64 62)))] 6, none, 0⟩,
        ⟨some 14, .call k_spec_l01Pick [(.tmp 12), (.tmp 13)], none, 0⟩,
        ⟨some 15, .call k_spec_l01DrawOf [(.tmp 11), (.tmp 14)], none, 0⟩,
        ⟨none, .store 2 (.tmp 2) (.tmp 15), none, 0⟩]) <|
      .keep [2] <|
      .ret)
      (.skip))) <|
  .seq (.ops [
    ⟨some 16, .mv (.tmp 0), none, 0⟩,
    ⟨some 17, .mv (.tmp 0), none, 0⟩,
    ⟨some 18, .call k_spec_l01Next [(.tmp 17), (.const (.int .i64 14))], none, 0⟩,
    ⟨some 19, .bin .add (.const (.int .i64 1)) (.tmp 18), none, 0⟩,
    ⟨some 20, .call k_spec_l01DrawOf [(.tmp 16), (.tmp 19)], none, 0⟩,
    ⟨none, .store 2 (.tmp 2) (.tmp 20), none, 0⟩]) <|
  .keep [2] <|
  .ret⟩

theorem e_spec_l01Draw : EntOK Tryd.prog (compD Tryd.prog) k_spec_l01Draw i_spec_l01Draw.vf :=
  ⟨Tryd.f144, Tryd.f144.body.getD .skip, Tryd.func144, by kernel_rfl, by kernel_rfl, by kernel_rfl, by kernel_rfl, by kernel_rfl⟩

/-- loop.example/g01331/spec.l07Far -/
def i_spec_l07Far_B1 : FC :=
  .seq (.seq (.ops [
    ⟨some 27, .mv (.tmp 11), none, 0⟩,
    ⟨some 28, .fld 0 (.tmp 3), none, 0⟩,
    ⟨some 29, .load false 1 (.tmp 28), none, 0⟩,
    ⟨some 30, .bin .lss (.tmp 27) (.tmp 29), none, 0⟩]) <|
  .cond (.tmp 30)
    (.skip)
    (.keep [2, 3, 7, 9, 10] <|
    .exit 2)) <|
  .seq (.block 3 <|
  .seq (.ops [
    ⟨some 33, .mv (.tmp 8), none, 0⟩,
    ⟨some 34, .mv (.tmp 11), none, 0⟩,
    ⟨some 35, .conv .u64 (.tmp 34), none, 0⟩,
    ⟨some 36, .bin .shr (.tmp 33) (.tmp 35), none, 0⟩,
    ⟨some 37, .bin .and (.tmp 36) (.const (.int .i64 1)), none, 0⟩,
    ⟨some 38, .bin .eql (.tmp 37) (.const (.int .i64 1)), none, 0⟩]) <|
  .cond (.tmp 38)
    (.ops [
      ⟨some 39, .mv (.tmp 10), none, 0⟩,
      ⟨some 40, .fld 1 (.tmp 3), none, 0⟩,
      ⟨some 41, .load false 1 (.tmp 40), none, 0⟩,
      ⟨some 42, .mv (.tmp 11), none, 0⟩,
      ⟨some 43, .idx 1 (.tmp 41) (.tmp 42), none, 0⟩,
      ⟨some 44, .load false 1 (.tmp 43), none, 0⟩,
      ⟨some 45, .bin .or (.tmp 39) (.tmp 44), none, 0⟩,
      ⟨some 10, .mv (.tmp 45), none, 0⟩])
    (.skip)) <|
  .ops [
    ⟨some 31, .mv (.tmp 11), none, 0⟩,
    ⟨some 32, .bin .add (.tmp 31) (.const (.int .i64 1)), none, 0⟩,
    ⟨some 11, .mv (.tmp 32), none, 0⟩]
def i_spec_l07Far_B2 : FC :=
  .seq (.seq (.ops [
    ⟨some 18, .mv (.tmp 8), none, 0⟩,
    ⟨some 19, .bin .neq (.tmp 18) (.const (.int .i64 0)), none, 0⟩]) <|
  .cond (.tmp 19)
    (.skip)
    (.keep [] <|
    .exit 0)) <|
  .block 1 <|
  .seq (.seq (.ops [
    ⟨some 20, .mv (.tmp 8), none, 0⟩,
    ⟨some 21, .mv (.tmp 2), none, 0⟩,
    ⟨some 22, .conv .u64 (.tmp 21), none, 0⟩,
    ⟨some 23, .bin .shr (.tmp 20) (.tmp 22), none, 0⟩,
    ⟨some 24, .bin .and (.tmp 23) (.const (.int .i64 1)), none, 0⟩,
    ⟨some 25, .bin .eql (.tmp 24) (.const (.int .i64 1)), none, 0⟩]) <|
  .cond (.tmp 25)
    (.seq (.ops [
      ⟨some 26, .mv (.tmp 9), none, 0⟩,
      ⟨some 6, .mv (.tmp 26), none, 0⟩]) <|
    .keep [6] <|
    .ret)
    (.skip)) <|
  .seq (.ops [
    ⟨some 10, .mv (.const (.int .i64 0)), none, 0⟩]) <|
  .seq (.seq (.ops [
    ⟨some 11, .mv (.const (.int .i64 0)), none, 0⟩]) <|
  .block 2 <|
  .loop [2, 3, 7, 8, 9, 10, 11] i_spec_l07Far_B1) <|
  .seq (.ops [
    ⟨some 46, .mv (.tmp 10), none, 0⟩,
    ⟨some 47, .mv (.tmp 10), none, 0⟩,
    ⟨some 48, .mv (.tmp 7), none, 0⟩,
    ⟨some 49, .bin .and (.tmp 47) (.tmp 48), none, 0⟩,
    ⟨some 50, .bin .sub (.tmp 46) (.tmp 49), none, 0⟩,
    ⟨some 8, .mv (.tmp 50), none, 0⟩]) <|
  .seq (.ops [
    ⟨some 51, .mv (.tmp 7), none, 0⟩,
    ⟨some 52, .mv (.tmp 10), none, 0⟩,
    ⟨some 53, .bin .or (.tmp 51) (.tmp 52), none, 0⟩,
    ⟨some 7, .mv (.tmp 53), none, 0⟩]) <|
  .ops [
    ⟨some 54, .mv (.tmp 9), none, 0⟩,
    ⟨some 55, .bin .add (.tmp 54) (.const (.int .i64 1)), none, 0⟩,
    ⟨some 9, .mv (.tmp 55), none, 0⟩]
def i_spec_l07Far : FF := ⟨56, [.tmp 6],
  .seq (.ops [
    ⟨some 3, .box 2 (.tmp 0), none, 0⟩,
    ⟨some 6, .mv (.const (.int .i64 0)), none, 0⟩]) <|
  .seq (.ops [
    ⟨some 12, .mv (.tmp 1), none, 0⟩,
    ⟨some 13, .conv .u64 (.tmp 12), none, 0⟩,
    ⟨some 14, .bin .shl (.const (.int .i64 1)) (.tmp 13), none, 0⟩,
    ⟨some 15, .mv (.tmp 1), none, 0⟩,
    ⟨some 16, .conv .u64 (.tmp 15), none, 0⟩,
    ⟨some 17, .bin .shl (.const (.int .i64 1)) (.tmp 16), none, 0⟩,
    ⟨some 7, .mv (.tmp 14), none, 0⟩,
    ⟨some 8, .mv (.tmp 17), none, 0⟩,
    ⟨some 9, .mv (.const (.int .i64 0)), none, 0⟩]) <|
  .seq (.block 0 <|
  .loop [2, 3, 7, 8, 9] i_spec_l07Far_B2) <|
  .seq (.ops [
    ⟨some 6, .mv (.const (.int .i64 (-1))), none, 0⟩]) <|
  .keep [6] <|
  .ret⟩

theorem e_spec_l07Far : EntOK Tryd.prog (compD Tryd.prog) k_spec_l07Far i_spec_l07Far.vf :=
  ⟨Tryd.f145, Tryd.f145.body.getD .skip, Tryd.func145, by kernel_rfl, by kernel_rfl, by kernel_rfl, by kernel_rfl, by kernel_rfl⟩

/-- slices.Clone[[]int64,int64] -/
def i_slices_Clone_int64_int64 : FF := ⟨8, [.tmp 2],
  .seq (.ops [
    ⟨some 2, .mv (.const (.slice none 0 0)), none, 0⟩]) <|
  .seq (.seq (.ops [
    ⟨some 3, .mv (.tmp 0), none, 0⟩,
    ⟨some 4, .eqnilS false (.tmp 3), none, 0⟩]) <|
  .cond (.tmp 4)
    (.seq (.ops [
      ⟨some 2, .mv (.const (.slice none 0 0)), none, 0⟩]) <|
    .keep [2] <|
    .ret)
    (.skip)) <|
  .seq (.ops [
    ⟨some 5, .buildSl 1 [] [] 0, none, 0⟩,
    ⟨some 6, .mv (.tmp 0), none, 0⟩,
    ⟨some 7, .app 1 8 [.int .i64 0] (.tmp 5) (.tmp 6), none, 0⟩,
    ⟨some 2, .mv (.tmp 7), none, 0⟩]) <|
  .keep [2] <|
  .ret⟩

theorem e_slices_Clone_int64_int64 : EntOK Tryd.prog (compD Tryd.prog) k_slices_Clone_int64_int64 i_slices_Clone_int64_int64.vf :=
  ⟨Tryd.f146, Tryd.f146.body.getD .skip, Tryd.func146, by kernel_rfl, by kernel_rfl, by kernel_rfl, by kernel_rfl, by kernel_rfl⟩

/-- loop.example/g01331/spec.l01Bits -/
def i_spec_l01Bits_B1 : FC :=
  .seq (.seq (.ops [
    ⟨some 4, .mv (.tmp 0), none, 0⟩,
    ⟨some 5, .bin .gtr (.tmp 4) (.const (.int .i64 0)), none, 0⟩]) <|
  .cond (.tmp 5)
    (.skip)
    (.keep [3] <|
    .exit 0)) <|
  .seq (.block 1 <|
  .ops [
    ⟨some 8, .mv (.tmp 3), none, 0⟩,
    ⟨some 9, .mv (.tmp 0), none, 0⟩,
    ⟨some 10, .bin .rem (.tmp 9) (.const (.int .i64 2)), none, 0⟩,
    ⟨some 11, .bin .add (.tmp 8) (.tmp 10), none, 0⟩,
    ⟨some 3, .mv (.tmp 11), none, 0⟩]) <|
  .ops [
    ⟨some 6, .mv (.tmp 0), none, 0⟩,
    ⟨some 7, .bin .quo (.tmp 6) (.const (.int .i64 2)), none, 0⟩,
    ⟨some 0, .mv (.tmp 7), none, 0⟩]
def i_spec_l01Bits : FF := ⟨13, [.tmp 2],
  .seq (.ops [
    ⟨some 2, .mv (.const (.int .i64 0)), none, 0⟩]) <|
  .seq (.ops [
    ⟨some 3, .mv (.const (.int .i64 0)), none, 0⟩]) <|
  .seq (.block 0 <|
  .loop [0, 3] i_spec_l01Bits_B1) <|
  .seq (.ops [
    ⟨some 12, .mv (.tmp 3), none, 0⟩,
    ⟨some 2, .mv (.tmp 12), none, 0⟩]) <|
  .keep [2] <|
  .ret⟩

theorem e_spec_l01Bits : EntOK Tryd.prog (compD Tryd.prog) k_spec_l01Bits i_spec_l01Bits.vf :=
  ⟨Tryd.f147, Tryd.f147.body.getD .skip, Tryd.func147, by kernel_rfl, by kernel_rfl, by kernel_rfl, by kernel_rfl, by kernel_rfl⟩

/-- math/bits.OnesCount64 -/
def i_math_bits_OnesCount64 : FF := ⟨35, [.tmp 2],
  .seq (.ops [
    ⟨some 2, .mv (.const (.int .i64 0)), none, 0⟩]) <|
  .seq (.ops [
    ⟨some 3, .mv (.tmp 0), none, 0⟩,
    ⟨some 4, .bin .shr (.tmp 3) (.const (.int .u64 1)), none, 0⟩,
    ⟨some 5, .bin .and (.tmp 4) (.const (.int .u64 6148914691236517205)), none, 0⟩,
    ⟨some 6, .mv (.tmp 0), none, 0⟩,
    ⟨some 7, .bin .and (.tmp 6) (.const (.int .u64 6148914691236517205)), none, 0⟩,
    ⟨some 8, .bin .add (.tmp 5) (.tmp 7), none, 0⟩,
    ⟨some 0, .mv (.tmp 8), none, 0⟩]) <|
  .seq (.ops [
    ⟨some 9, .mv (.tmp 0), none, 0⟩,
    ⟨some 10, .bin .shr (.tmp 9) (.const (.int .u64 2)), none, 0⟩,
    ⟨some 11, .bin .and (.tmp 10) (.const (.int .u64 3689348814741910323)), none, 0⟩,
    ⟨some 12, .mv (.tmp 0), none, 0⟩,
    ⟨some 13, .bin .and (.tmp 12) (.const (.int .u64 3689348814741910323)), none, 0⟩,
    ⟨some 14, .bin .add (.tmp 11) (.tmp 13), none, 0⟩,
    ⟨some 0, .mv (.tmp 14), none, 0⟩]) <|
  .seq (.ops [
    ⟨some 15, .mv (.tmp 0), none, 0⟩,
    ⟨some 16, .bin .shr (.tmp 15) (.const (.int .u64 4)), none, 0⟩,
    ⟨some 17, .mv (.tmp 0), none, 0⟩,
    ⟨some 18, .bin .add (.tmp 16) (.tmp 17), none, 0⟩,
    ⟨some 19, .bin .and (.tmp 18) (.const (.int .u64 1085102592571150095)), none, 0⟩,
    ⟨some 0, .mv (.tmp 19), none, 0⟩]) <|
  .seq (.ops [
    ⟨some 20, .mv (.tmp 0), none, 0⟩,
    ⟨some 21, .mv (.tmp 0), none, 0⟩,
    ⟨some 22, .bin .shr (.tmp 21) (.const (.int .u64 8)), none, 0⟩,
    ⟨some 23, .bin .add (.tmp 20) (.tmp 22), none, 0⟩,
    ⟨some 0, .mv (.tmp 23), none, 0⟩]) <|
  .seq (.ops [
    ⟨some 24, .mv (.tmp 0), none, 0⟩,
    ⟨some 25, .mv (.tmp 0), none, 0⟩,
    ⟨some 26, .bin .shr (.tmp 25) (.const (.int .u64 16)), none, 0⟩,
    ⟨some 27, .bin .add (.tmp 24) (.tmp 26), none, 0⟩,
    ⟨some 0, .mv (.tmp 27), none, 0⟩]) <|
  .seq (.ops [
    ⟨some 28, .mv (.tmp 0), none, 0⟩,
    ⟨some 29, .mv (.tmp 0), none, 0⟩,
    ⟨some 30, .bin .shr (.tmp 29) (.const (.int .u64 32)), none, 0⟩,
    ⟨some 31, .bin .add (.tmp 28) (.tmp 30), none, 0⟩,
    ⟨some 0, .mv (.tmp 31), none, 0⟩]) <|
  .seq (.ops [
    ⟨some 32, .mv (.tmp 0), none, 0⟩,
    ⟨some 33, .conv .i64 (.tmp 32), none, 0⟩,
    ⟨some 34, .bin .and (.tmp 33) (.const (.int .i64 127)), none, 0⟩,
    ⟨some 2, .mv (.tmp 34), none, 0⟩]) <|
  .keep [2] <|
  .ret⟩

theorem e_math_bits_OnesCount64 : EntOK Tryd.prog (compD Tryd.prog) k_math_bits_OnesCount64 i_math_bits_OnesCount64.vf :=
  ⟨Tryd.f154, Tryd.f154.body.getD .skip, Tryd.func154, by kernel_rfl, by kernel_rfl, by kernel_rfl, by kernel_rfl, by kernel_rfl⟩

/-- loop.example/g01331/spec.l01Join -/
def i_spec_l01Join : FF := ⟨15, [.cell 6 true 2],
  .seq (.ops [
    ⟨some 3, .box 2 (.tmp 0), none, 0⟩,
    ⟨some 6, .alloc [.int .i64 0, .slice none 0 0], none, 0⟩]) <|
  .seq (.ops [
    ⟨some 8, .load true 2 (.tmp 3), none, 0⟩,
    ⟨some 9, .call k_spec_l01Copy [(.tmp 8)], none, 0⟩,
    ⟨some 7, .alloc [.int .i64 0, .slice none 0 0], none, 0⟩,
    ⟨none, .store 2 (.tmp 7) (.tmp 9), none, 0⟩]) <|
  .seq (.ops [
    ⟨some 10, .load true 2 (.tmp 7), none, 0⟩,
    ⟨some 11, .mv (.tmp 1), none, 0⟩,
    ⟨some 12, .mv (.tmp 2), none, 0⟩,
    ⟨some 13, .call k_spec_l01Put [(.tmp 10), (.tmp 11), (.tmp 12)], none, 0⟩]) <|
  .seq (.ops [
    ⟨some 14, .load true 2 (.tmp 7), none, 0⟩,
    ⟨none, .store 2 (.tmp 6) (.tmp 14), none, 0⟩]) <|
  .keep [6] <|
  .ret⟩

theorem e_spec_l01Join : EntOK Tryd.prog (compD Tryd.prog) k_spec_l01Join i_spec_l01Join.vf :=
  ⟨Tryd.f157, Tryd.f157.body.getD .skip, Tryd.func157, by kernel_rfl, by kernel_rfl, by kernel_rfl, by kernel_rfl, by kernel_rfl⟩

/-- loop.example/g01331/spec.l01Own -/
def i_spec_l01Own : FF := ⟨6, [.tmp 2],
  .seq (.ops [
    ⟨some 2, .mv (.const (.slice none 0 0)), none, 0⟩]) <|
  .seq (.ops [
    ⟨some 3, .buildSl 1 [] [] 0, none, 0⟩,
    ⟨some 4, .mv (.tmp 0), none, 0⟩,
    ⟨some 5, .app 1 8 [.int .i64 0] (.tmp 3) (.tmp 4), none, 0⟩,
    ⟨some 2, .mv (.tmp 5), none, 0⟩]) <|
  .keep [2] <|
  .ret⟩

theorem e_spec_l01Own : EntOK Tryd.prog (compD Tryd.prog) k_spec_l01Own i_spec_l01Own.vf :=
  ⟨Tryd.f158, Tryd.f158.body.getD .skip, Tryd.func158, by kernel_rfl, by kernel_rfl, by kernel_rfl, by kernel_rfl, by kernel_rfl⟩

/-- loop.example/g01331/spec.l01Names -/
def i_spec_l01Names : FF := ⟨2, [.tmp 0],
  .seq (.ops [
    ⟨some 0, .mv (.const (.slice none 0 0)), none, 0⟩]) <|
  .seq (.ops [
    ⟨some 1, .buildSl 1 [.string ⟨#[]⟩, .string ⟨#[]⟩, .string ⟨#[]⟩, .string ⟨#[]⟩, .string ⟨#[]⟩, .string ⟨#[]⟩, .string ⟨#[]⟩, .string ⟨#[]⟩, .string ⟨#[]⟩, .string ⟨#[]⟩, .string ⟨#[]⟩, .string ⟨#[]⟩, .string ⟨#[]⟩, .string ⟨#[]⟩, .string ⟨#[]⟩] [(0, 1, (.const (.string ⟨#[107, 52]⟩))), (1, 1, (.const (.string ⟨#[107, 53]⟩))), (2, 1, (.const (.string ⟨#[107, 51, 51]⟩))), (3, 1, (.const (.string ⟨#[99, 117, 98, 101]⟩))), (4, 1, (.const (.string ⟨#[112, 101, 116, 101, 114, 115, 101, 110]⟩))), (5, 1, (.const (.string ⟨#[104, 101, 97, 119, 111, 111, 100]⟩))), (6, 1, (.const (.string ⟨#[105, 99, 111, 115, 97, 104, 101, 100, 114, 111, 110]⟩))), (7, 1, (.const (.string ⟨#[99, 108, 101, 98, 115, 99, 104]⟩))), (8, 1, (.const (.string ⟨#[109, 111, 101, 98, 105, 117, 115, 107, 97, 110, 116, 111, 114]⟩))), (9, 1, (.const (.string ⟨#[112, 97, 112, 112, 117, 115]⟩))), (10, 1, (.const (.string ⟨#[100, 101, 115, 97, 114, 103, 117, 101, 115]⟩))), (11, 1, (.const (.string ⟨#[100, 111, 100, 101, 99, 97, 104, 101, 100, 114, 111, 110]⟩))), (12, 1, (.const (.string ⟨#[109, 99, 103, 101, 101]⟩))), (13, 1, (.const (.string ⟨#[116, 117, 116, 116, 101, 99, 111, 120, 101, 116, 101, 114]⟩))), (14, 1, (.const (.string ⟨#[104, 111, 102, 102, 109, 97, 110, 115, 105, 110, 103, 108, 101, 116, 111, 110]⟩)))] 15, none, 0⟩,
    ⟨some 0, .mv (.tmp 1), none, 0⟩]) <|
  .keep [0] <|
  .ret⟩

theorem e_spec_l01Names : EntOK Tryd.prog (compD Tryd.prog) k_spec_l01Names i_spec_l01Names.vf :=
  ⟨Tryd.f162, Tryd.f162.body.getD .skip, Tryd.func162, by kernel_rfl, by kernel_rfl, by kernel_rfl, by kernel_rfl, by kernel_rfl⟩


end Go.Proofs.YtghondlbkjponaaDoor.Zv

