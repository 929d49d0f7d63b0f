/- Part C of the proof: ZwIr. Conditions: none. -/
import Derived.Test.YthpgiimaadohcaaDoorProg
import Derived.Test.YthpgiimaadohcaaDoorZpB
set_option linter.unusedSimpArgs false
set_option linter.unusedVariables false
/- The functions' intermediate form. -/
namespace Go.Proofs.YthpgiimaadohcaaDoor.Zv
open Go
def k_math_bits_TrailingZeros64 : Nat := 119
def k_laws_FnFirstRegular : Nat := 11
def k_spec_LeastVertices : Nat := 17
def k_impl_LeastVertices : Nat := 18
def k_spec_FirstRegular : Nat := 19
def k_impl_FirstRegular : Nat := 20
def k_laws_big : Nat := 36
def k_spec_DrawFirstRegular : Nat := 37
def k_laws_graphs5 : Nat := 38
def k_impl_RegularDegree : Nat := 39
def k_impl_FitsBoth : Nat := 40
def k_spec_DrawLeastVertices : Nat := 41
def k_spec_l01In : Nat := 42
def k_spec_l07Numbers : Nat := 43
def k_spec_l01Empty : Nat := 45
def k_impl_isBoth : Nat := 46
def k_impl_empty : Nat := 48
def k_spec_l07First : Nat := 52
def k_impl_firstRegular : Nat := 53
def k_impl_Graph_has : Nat := 60
def k_impl_Graph_girth : Nat := 61
def k_impl_Graph_around : Nat := 62
def k_impl_Graph_distances : Nat := 70
def k_spec_l07May : Nat := 74
def k_spec_l01From : Nat := 77
def k_spec_l07DrawNumbers : Nat := 78
def k_spec_l01Next : Nat := 79
def k_spec_l01Pick : Nat := 80
def k_laws_likeInts : Nat := 81
def k_impl_IsGraph : Nat := 82
def k_impl_Graph_regular : Nat := 83
def k_impl_bothCode : Nat := 84
def k_impl_Graph_fits : Nat := 85
def k_spec_l01Put : Nat := 87
def k_impl_own : Nat := 88
def k_impl_Graph_mayJoin : Nat := 89
def k_impl_Graph_put : Nat := 90
def k_spec_l07Search : Nat := 91
def k_impl_girthBound : Nat := 92
def k_impl_firstRegular_1 : Nat := 93
def k_impl_Graph_degree : Nat := 94
def k_impl_Graph_take : Nat := 95
def k_impl_Graph_girthAt : Nat := 97
def k_slices_Repeat_int64_int64 : Nat := 103
def k_impl_list : Nat := 104
def k_spec_l01Has : Nat := 106
def k_spec_l01Degree : Nat := 107
def k_spec_l07Far : Nat := 108
def k_impl_Graph_degrees : Nat := 109
def k_slices_Min_int64_int64 : Nat := 110
def k_slices_Max_int64_int64 : Nat := 111
def k_slices_Clone_int64_int64 : Nat := 113
def k_impl_powers : Nat := 114
def k_impl_size : Nat := 115
def k_math_bits_Mul : Nat := 118
def k_spec_l01Bits : Nat := 122
def k_math_bits_OnesCount64 : Nat := 123
def k_math_bits_Mul32 : Nat := 124
def k_math_bits_Mul64 : Nat := 125
/-- loop.example/g01331/laws.FnFirstRegular -/
def i_laws_FnFirstRegular : FF := ⟨137, [.tmp 2],
  .seq (.ops [
    ⟨some 2, .mv (.const (.bool false)), none, 0⟩]) <|
  .seq (.seq (.ops [
    ⟨some 24, .mv (.tmp 0), none, 0⟩,
    ⟨some 25, .call k_laws_big [(.tmp 24)], none, 0⟩]) <|
  .cond (.tmp 25)
    (.seq (.ops [
      ⟨some 2, .mv (.const (.bool true)), none, 0⟩]) <|
    .keep [2] <|
    .ret)
    (.skip)) <|
  .seq (.ops [
    ⟨some 27, .mv (.tmp 0), none, 0⟩,
    ⟨some 28, .call k_spec_DrawFirstRegular [(.tmp 27)], none, 0⟩,
    ⟨some 26, .mv (.tmp 28), none, 0⟩,
    ⟨some 29, .ext (.tmp 26) 0, none, 0⟩,
    ⟨some 30, .ext (.tmp 26) 1, none, 0⟩,
    ⟨some 31, .ext (.tmp 26) 2, none, 0⟩,
    ⟨some 3, .mv (.tmp 29), none, 0⟩,
    ⟨some 4, .mv (.tmp 30), none, 0⟩,
    ⟨some 5, .mv (.tmp 31), none, 0⟩]) <|
  .seq (.ops [
    ⟨some 33, .mv (.tmp 3), none, 0⟩,
    ⟨some 34, .mv (.tmp 4), none, 0⟩,
    ⟨some 35, .mv (.tmp 5), none, 0⟩,
    ⟨some 36, .call k_impl_FirstRegular [(.tmp 33), (.tmp 34), (.tmp 35)], none, 0⟩,
    ⟨some 32, .mv (.tmp 36), none, 0⟩,
    ⟨some 37, .ext (.tmp 32) 0, none, 0⟩,
    ⟨some 38, .ext (.tmp 32) 1, none, 0⟩,
    ⟨some 6, .alloc [.int .i64 0, .slice none 0 0], none, 0⟩,
    ⟨none, .store 2 (.tmp 6) (.tmp 37), none, 0⟩,
    ⟨some 7, .mv (.tmp 38), none, 0⟩]) <|
  .seq (.ops [
    ⟨some 40, .mv (.tmp 3), none, 0⟩,
    ⟨some 41, .mv (.tmp 4), none, 0⟩,
    ⟨some 42, .mv (.tmp 5), none, 0⟩,
    ⟨some 43, .call k_spec_FirstRegular [(.tmp 40), (.tmp 41), (.tmp 42)], none, 0⟩,
    ⟨some 39, .mv (.tmp 43), none, 0⟩,
    ⟨some 44, .ext (.tmp 39) 0, none, 0⟩,
    ⟨some 45, .ext (.tmp 39) 1, none, 0⟩,
    ⟨some 8, .alloc [.int .i64 0, .slice none 0 0], none, 0⟩,
    ⟨none, .store 2 (.tmp 8) (.tmp 44), none, 0⟩,
    ⟨some 9, .mv (.tmp 45), none, 0⟩]) <|
  .seq (.seq (.ops [
    ⟨some 46, .mv (.tmp 7), none, 0⟩,
    ⟨some 47, .mv (.tmp 9), none, 0⟩,
    ⟨some 48, .bin .neq (.tmp 46) (.tmp 47), none, 0⟩,
    ⟨some 49, .mv (.tmp 48), none, 0⟩,
    ⟨some 50, .load true 2 (.tmp 6), some (49, false), 0⟩,
    ⟨some 51, .load true 2 (.tmp 8), some (49, false), 0⟩,
    ⟨some 52, .call k_laws_graphs5 [(.tmp 50), (.tmp 51)], some (49, false), 0⟩,
    ⟨some 53, .un .not (.tmp 52), some (49, false), 0⟩,
    ⟨some 54, .pick (.tmp 49) (.const (.bool true)) (.tmp 53), none, 0⟩]) <|
  .cond (.tmp 54)
    (.seq (.ops [
      ⟨some 2, .mv (.const (.bool false)), none, 0⟩]) <|
    .keep [2] <|
    .ret)
    (.skip)) <|
  .seq (.seq (.ops [
    ⟨some 55, .mv (.tmp 7), none, 0⟩,
    ⟨some 56, .bin .eql (.tmp 55) (.const (.int .i64 0)), none, 0⟩]) <|
  .cond (.tmp 56)
    (.seq (.ops [
      ⟨some 58, .load true 2 (.tmp 6), none, 0⟩,
      ⟨some 59, .call k_impl_RegularDegree [(.tmp 58)], none, 0⟩,
      ⟨some 57, .mv (.tmp 59), none, 0⟩,
      ⟨some 60, .ext (.tmp 57) 0, none, 0⟩,
      ⟨some 61, .ext (.tmp 57) 1, none, 0⟩,
      ⟨some 10, .mv (.tmp 60), none, 0⟩,
      ⟨some 11, .mv (.tmp 61), none, 0⟩]) <|
    .seq (.ops [
      ⟨some 63, .load true 2 (.tmp 6), none, 0⟩,
      ⟨some 64, .mv (.tmp 4), none, 0⟩,
      ⟨some 65, .mv (.tmp 5), none, 0⟩,
      ⟨some 66, .call k_impl_FitsBoth [(.tmp 63), (.tmp 64), (.tmp 65)], none, 0⟩,
      ⟨some 62, .mv (.tmp 66), none, 0⟩,
      ⟨some 67, .ext (.tmp 62) 0, none, 0⟩,
      ⟨some 68, .ext (.tmp 62) 1, none, 0⟩,
      ⟨some 12, .mv (.tmp 67), none, 0⟩,
      ⟨some 13, .mv (.tmp 68), none, 0⟩]) <|
    .seq (.ops [
      ⟨some 69, .mv (.tmp 11), none, 0⟩,
      ⟨some 70, .bin .neq (.tmp 69) (.const (.int .i64 0)), none, 0⟩,
      ⟨some 71, .mv (.tmp 70), none, 0⟩,
      ⟨some 72, .mv (.tmp 13), some (71, false), 0⟩,
      ⟨some 73, .bin .neq (.tmp 72) (.const (.int .i64 0)), some (71, false), 0⟩,
      ⟨some 74, .pick (.tmp 71) (.const (.bool true)) (.tmp 73), none, 0⟩,
      ⟨some 75, .mv (.tmp 74), none, 0⟩,
      ⟨some 76, .mv (.tmp 10), some (75, false), 0⟩,
      ⟨some 77, .mv (.tmp 4), some (75, false), 0⟩,
      ⟨some 78, .bin .neq (.tmp 76) (.tmp 77), some (75, false), 0⟩,
      ⟨some 79, .pick (.tmp 75) (.const (.bool true)) (.tmp 78), none, 0⟩,
      ⟨some 80, .mv (.tmp 79), none, 0⟩,
      ⟨some 81, .mv (.tmp 12), some (80, false), 0⟩,
      ⟨some 82, .un .not (.tmp 81), some (80, false), 0⟩,
      ⟨some 83, .pick (.tmp 80) (.const (.bool true)) (.tmp 82), none, 0⟩]) <|
    .cond (.tmp 83)
      (.seq (.ops [
        ⟨some 2, .mv (.const (.bool false)), none, 0⟩]) <|
      .keep [2] <|
      .ret)
      (.skip))
    (.skip)) <|
  .seq (.ops [
    ⟨some 85, .mv (.tmp 0), none, 0⟩,
    ⟨some 86, .call k_spec_DrawLeastVertices [(.tmp 85)], none, 0⟩,
    ⟨some 84, .mv (.tmp 86), none, 0⟩,
    ⟨some 87, .ext (.tmp 84) 0, none, 0⟩,
    ⟨some 88, .ext (.tmp 84) 1, none, 0⟩,
    ⟨some 14, .mv (.tmp 87), none, 0⟩,
    ⟨some 15, .mv (.tmp 88), none, 0⟩]) <|
  .seq (.ops [
    ⟨some 90, .mv (.tmp 14), none, 0⟩,
    ⟨some 91, .mv (.tmp 15), none, 0⟩,
    ⟨some 92, .call k_impl_LeastVertices [(.tmp 90), (.tmp 91)], none, 0⟩,
    ⟨some 89, .mv (.tmp 92), none, 0⟩,
    ⟨some 93, .ext (.tmp 89) 0, none, 0⟩,
    ⟨some 94, .ext (.tmp 89) 1, none, 0⟩,
    ⟨some 16, .mv (.tmp 93), none, 0⟩,
    ⟨some 17, .mv (.tmp 94), none, 0⟩]) <|
  .seq (.ops [
    ⟨some 96, .mv (.tmp 14), none, 0⟩,
    ⟨some 97, .mv (.tmp 15), none, 0⟩,
    ⟨some 98, .call k_spec_LeastVertices [(.tmp 96), (.tmp 97)], none, 0⟩,
    ⟨some 95, .mv (.tmp 98), none, 0⟩,
    ⟨some 99, .ext (.tmp 95) 0, none, 0⟩,
    ⟨some 100, .ext (.tmp 95) 1, none, 0⟩,
    ⟨some 18, .mv (.tmp 99), none, 0⟩,
    ⟨some 19, .mv (.tmp 100), none, 0⟩]) <|
  .seq (.seq (.ops [
    ⟨some 101, .mv (.tmp 17), none, 0⟩,
    ⟨some 102, .mv (.tmp 19), none, 0⟩,
    ⟨some 103, .bin .neq (.tmp 101) (.tmp 102), none, 0⟩,
    ⟨some 104, .mv (.tmp 103), none, 0⟩,
    ⟨some 105, .mv (.tmp 16), some (104, false), 0⟩,
    ⟨some 106, .mv (.tmp 18), some (104, false), 0⟩,
    ⟨some 107, .bin .neq (.tmp 105) (.tmp 106), some (104, false), 0⟩,
    ⟨some 108, .pick (.tmp 104) (.const (.bool true)) (.tmp 107), none, 0⟩]) <|
  .cond (.tmp 108)
    (.seq (.ops [
      ⟨some 2, .mv (.const (.bool false)), none, 0⟩]) <|
    .keep [2] <|
    .ret)
    (.skip)) <|
  .seq (.seq (.ops [
    ⟨some 109, .mv (.tmp 17), none, 0⟩,
    ⟨some 110, .bin .eql (.tmp 109) (.const (.int .i64 0)), none, 0⟩]) <|
  .cond (.tmp 110)
    (.seq (.ops [
      ⟨some 112, .mv (.tmp 16), none, 0⟩,
      ⟨some 113, .mv (.tmp 14), none, 0⟩,
      ⟨some 114, .mv (.tmp 15), none, 0⟩,
      ⟨some 115, .call k_impl_FirstRegular [(.tmp 112), (.tmp 113), (.tmp 114)], none, 0⟩,
      ⟨some 111, .mv (.tmp 115), none, 0⟩,
      ⟨some 116, .ext (.tmp 111) 0, none, 0⟩,
      ⟨some 117, .ext (.tmp 111) 1, none, 0⟩,
      ⟨some 20, .alloc [.int .i64 0, .slice none 0 0], none, 0⟩,
      ⟨none, .store 2 (.tmp 20) (.tmp 116), none, 0⟩,
      ⟨some 21, .mv (.tmp 117), none, 0⟩]) <|
    .seq (.seq (.ops [
      ⟨some 118, .mv (.tmp 21), none, 0⟩,
      ⟨some 119, .bin .neq (.tmp 118) (.const (.int .i64 0)), none, 0⟩,
      ⟨some 120, .mv (.tmp 119), none, 0⟩,
      ⟨some 121, .mv (.tmp 16), some (120, false), 0⟩,
      ⟨some 122, .mv (.tmp 14), some (120, false), 0⟩,
      ⟨some 123, .bin .leq (.tmp 121) (.tmp 122), some (120, false), 0⟩,
      ⟨some 124, .pick (.tmp 120) (.const (.bool true)) (.tmp 123), none, 0⟩]) <|
    .cond (.tmp 124)
      (.seq (.ops [
        ⟨some 2, .mv (.const (.bool false)), none, 0⟩]) <|
      .keep [2] <|
      .ret)
      (.skip)) <|
    .seq (.ops [
      ⟨some 125, .mv (.tmp 16), none, 0⟩,
      ⟨some 126, .bin .gtr (.tmp 125) (.const (.int .i64 1)), none, 0⟩]) <|
    .cond (.tmp 126)
      (.seq (.ops [
        ⟨some 128, .mv (.tmp 16), none, 0⟩,
        ⟨some 129, .bin .sub (.tmp 128) (.const (.int .i64 1)), none, 0⟩,
        ⟨some 130, .mv (.tmp 14), none, 0⟩,
        ⟨some 131, .mv (.tmp 15), none, 0⟩,
        ⟨some 132, .call k_impl_FirstRegular [(.tmp 129), (.tmp 130), (.tmp 131)], none, 0⟩,
        ⟨some 127, .mv (.tmp 132), none, 0⟩,
        ⟨some 133, .ext (.tmp 127) 0, none, 0⟩,
        ⟨some 134, .ext (.tmp 127) 1, none, 0⟩,
        ⟨some 22, .alloc [.int .i64 0, .slice none 0 0], none, 0⟩,
        ⟨none, .store 2 (.tmp 22) (.tmp 133), none, 0⟩,
        ⟨some 23, .mv (.tmp 134), none, 0⟩]) <|
      .seq (.ops [
        ⟨some 135, .mv (.tmp 23), none, 0⟩,
        ⟨some 136, .bin .neq (.tmp 135) (.const (.int .i64 4)), none, 0⟩]) <|
      .cond (.tmp 136)
        (.seq (.ops [
          ⟨some 2, .mv (.const (.bool false)), none, 0⟩]) <|
        .keep [2] <|
        .ret)
        (.skip))
      (.skip))
    (.skip)) <|
  .seq (.ops [
    ⟨some 2, .mv (.const (.bool true)), none, 0⟩]) <|
  .keep [2] <|
  .ret⟩

theorem e_laws_FnFirstRegular : EntOK Tryd.prog (compD Tryd.prog) k_laws_FnFirstRegular i_laws_FnFirstRegular.vf :=
  ⟨Tryd.f11, Tryd.f11.body.getD .skip, Tryd.func11, by kernel_rfl, by kernel_rfl, by kernel_rfl, by kernel_rfl, by kernel_rfl⟩

/-- loop.example/g01331/spec.LeastVertices -/
def i_spec_LeastVertices_B1 : FC :=
  .seq (.seq (.ops [
    ⟨some 13, .mv (.tmp 6), none, 0⟩,
    ⟨some 14, .bin .leq (.tmp 13) (.const (.int .i64 10)), none, 0⟩]) <|
  .cond (.tmp 14)
    (.skip)
    (.keep [] <|
    .exit 0)) <|
  .seq (.block 1 <|
  .seq (.ops [
    ⟨some 18, .mv (.tmp 6), none, 0⟩,
    ⟨some 19, .mv (.tmp 0), none, 0⟩,
    ⟨some 20, .mv (.tmp 1), none, 0⟩,
    ⟨some 21, .call k_spec_l07First [(.tmp 18), (.tmp 19), (.tmp 20)], none, 0⟩,
    ⟨some 17, .mv (.tmp 21), none, 0⟩,
    ⟨some 22, .ext (.tmp 17) 0, none, 0⟩,
    ⟨some 23, .ext (.tmp 17) 1, none, 0⟩,
    ⟨some 7, .alloc [.int .i64 0, .slice none 0 0], none, 0⟩,
    ⟨none, .store 2 (.tmp 7) (.tmp 22), none, 0⟩,
    ⟨some 8, .mv (.tmp 23), none, 0⟩]) <|
  .seq (.ops [
    ⟨some 24, .mv (.tmp 8), none, 0⟩]) <|
  .cond (.tmp 24)
    (.seq (.ops [
      ⟨some 25, .mv (.tmp 6), none, 0⟩,
      ⟨some 4, .mv (.tmp 25), none, 0⟩,
      ⟨some 5, .mv (.const (.int .i64 0)), none, 0⟩]) <|
    .keep [4, 5] <|
    .ret)
    (.skip)) <|
  .ops [
    ⟨some 15, .mv (.tmp 6), none, 0⟩,
    ⟨some 16, .bin .add (.tmp 15) (.const (.int .i64 1)), none, 0⟩,
    ⟨some 6, .mv (.tmp 16), none, 0⟩]
def i_spec_LeastVertices : FF := ⟨26, [.tmp 4, .tmp 5],
  .seq (.ops [
    ⟨some 4, .mv (.const (.int .i64 0)), none, 0⟩,
    ⟨some 5, .mv (.const (.int .i64 0)), none, 0⟩]) <|
  .seq (.seq (.ops [
    ⟨some 9, .mv (.tmp 0), none, 0⟩,
    ⟨some 10, .mv (.tmp 1), none, 0⟩,
    ⟨some 11, .call k_spec_l07Numbers [(.tmp 9), (.tmp 10)], none, 0⟩,
    ⟨some 12, .un .not (.tmp 11), none, 0⟩]) <|
  .cond (.tmp 12)
    (.seq (.ops [
      ⟨some 4, .mv (.const (.int .i64 0)), none, 0⟩,
      ⟨some 5, .mv (.const (.int .i64 2)), none, 0⟩]) <|
    .keep [4, 5] <|
    .ret)
    (.skip)) <|
  .seq (.seq (.ops [
    ⟨some 6, .mv (.const (.int .i64 1)), none, 0⟩]) <|
  .block 0 <|
  .loop [0, 1, 6] i_spec_LeastVertices_B1) <|
  .seq (.ops [
    ⟨some 4, .mv (.const (.int .i64 0)), none, 0⟩,
    ⟨some 5, .mv (.const (.int .i64 4)), none, 0⟩]) <|
  .keep [4, 5] <|
  .ret⟩

theorem e_spec_LeastVertices : EntOK Tryd.prog (compD Tryd.prog) k_spec_LeastVertices i_spec_LeastVertices.vf :=
  ⟨Tryd.f17, Tryd.f17.body.getD .skip, Tryd.func17, by kernel_rfl, by kernel_rfl, by kernel_rfl, by kernel_rfl, by kernel_rfl⟩

/-- loop.example/g01331/impl.LeastVertices -/
def i_impl_LeastVertices_B1 : FC :=
  .seq (.seq (.ops [
    ⟨some 13, .mv (.tmp 6), none, 0⟩,
    ⟨some 14, .bin .leq (.tmp 13) (.const (.int .i64 10)), none, 0⟩]) <|
  .cond (.tmp 14)
    (.skip)
    (.keep [] <|
    .exit 0)) <|
  .seq (.block 1 <|
  .seq (.ops [
    ⟨some 18, .mv (.tmp 6), none, 0⟩,
    ⟨some 19, .mv (.tmp 0), none, 0⟩,
    ⟨some 20, .mv (.tmp 1), none, 0⟩,
    ⟨some 21, .call k_impl_firstRegular [(.tmp 18), (.tmp 19), (.tmp 20)], none, 0⟩,
    ⟨some 17, .mv (.tmp 21), none, 0⟩,
    ⟨some 22, .ext (.tmp 17) 0, none, 0⟩,
    ⟨some 23, .ext (.tmp 17) 1, none, 0⟩,
    ⟨some 7, .alloc [.int .i64 0, .slice none 0 0], none, 0⟩,
    ⟨none, .store 2 (.tmp 7) (.tmp 22), none, 0⟩,
    ⟨some 8, .mv (.tmp 23), none, 0⟩]) <|
  .seq (.ops [
    ⟨some 24, .mv (.tmp 8), none, 0⟩]) <|
  .cond (.tmp 24)
    (.seq (.ops [
      ⟨some 25, .mv (.tmp 6), none, 0⟩,
      ⟨some 4, .mv (.tmp 25), none, 0⟩,
      ⟨some 5, .mv (.const (.int .i64 0)), none, 0⟩]) <|
    .keep [4, 5] <|
    .ret)
    (.skip)) <|
  .ops [
    ⟨some 15, .mv (.tmp 6), none, 0⟩,
    ⟨some 16, .bin .add (.tmp 15) (.const (.int .i64 1)), none, 0⟩,
    ⟨some 6, .mv (.tmp 16), none, 0⟩]
def i_impl_LeastVertices : FF := ⟨26, [.tmp 4, .tmp 5],
  .seq (.ops [
    ⟨some 4, .mv (.const (.int .i64 0)), none, 0⟩,
    ⟨some 5, .mv (.const (.int .i64 0)), none, 0⟩]) <|
  .seq (.seq (.ops [
    ⟨some 9, .mv (.tmp 0), none, 0⟩,
    ⟨some 10, .mv (.tmp 1), none, 0⟩,
    ⟨some 11, .call k_impl_isBoth [(.tmp 9), (.tmp 10)], none, 0⟩,
    ⟨some 12, .un .not (.tmp 11), none, 0⟩]) <|
  .cond (.tmp 12)
    (.seq (.ops [
      ⟨some 4, .mv (.const (.int .i64 0)), none, 0⟩,
      ⟨some 5, .mv (.const (.int .i64 2)), none, 0⟩]) <|
    .keep [4, 5] <|
    .ret)
    (.skip)) <|
  .seq (.seq (.ops [
    ⟨some 6, .mv (.const (.int .i64 1)), none, 0⟩]) <|
  .block 0 <|
  .loop [0, 1, 6] i_impl_LeastVertices_B1) <|
  .seq (.ops [
    ⟨some 4, .mv (.const (.int .i64 0)), none, 0⟩,
    ⟨some 5, .mv (.const (.int .i64 4)), none, 0⟩]) <|
  .keep [4, 5] <|
  .ret⟩

theorem e_impl_LeastVertices : EntOK Tryd.prog (compD Tryd.prog) k_impl_LeastVertices i_impl_LeastVertices.vf :=
  ⟨Tryd.f18, Tryd.f18.body.getD .skip, Tryd.func18, by kernel_rfl, by kernel_rfl, by kernel_rfl, by kernel_rfl, by kernel_rfl⟩

/-- loop.example/g01331/spec.FirstRegular -/
def i_spec_FirstRegular : FF := ⟨31, [.cell 6 true 2, .tmp 7],
  .seq (.ops [
    ⟨some 6, .alloc [.int .i64 0, .slice none 0 0], none, 0⟩,
    ⟨some 7, .mv (.const (.int .i64 0)), none, 0⟩]) <|
  .seq (.seq (.ops [
    ⟨some 10, .mv (.tmp 0), none, 0⟩,
    ⟨some 11, .call k_spec_l01In [(.tmp 10), (.const (.int .i64 1)), (.const (.int .i64 10))], none, 0⟩,
    ⟨some 12, .un .not (.tmp 11), none, 0⟩,
    ⟨some 13, .mv (.tmp 12), none, 0⟩,
    ⟨some 14, .mv (.tmp 1), some (13, false), 0⟩,
    ⟨some 15, .mv (.tmp 2), some (13, false), 0⟩,
    ⟨some 16, .call k_spec_l07Numbers [(.tmp 14), (.tmp 15)], some (13, false), 0⟩,
    ⟨some 17, .un .not (.tmp 16), some (13, false), 0⟩,
    ⟨some 18, .pick (.tmp 13) (.const (.bool true)) (.tmp 17), none, 0⟩]) <|
  .cond (.tmp 18)
    (.seq (.ops [
      ⟨some 19, .build [.int .i64 0, .slice none 0 0] [], none, 0⟩,
      ⟨none, .store 2 (.tmp 6) (.tmp 19), none, 0⟩,
      ⟨some 7, .mv (.const (.int .i64 2)), none, 0⟩]) <|
    .keep [6, 7] <|
    .ret)
    (.skip)) <|
  .seq (.ops [
    ⟨some 21, .mv (.tmp 0), none, 0⟩,
    ⟨some 22, .mv (.tmp 1), none, 0⟩,
    ⟨some 23, .mv (.tmp 2), none, 0⟩,
    ⟨some 24, .call k_spec_l07First [(.tmp 21), (.tmp 22), (.tmp 23)], none, 0⟩,
    ⟨some 20, .mv (.tmp 24), none, 0⟩,
    ⟨some 25, .ext (.tmp 20) 0, none, 0⟩,
    ⟨some 26, .ext (.tmp 20) 1, none, 0⟩,
    ⟨some 8, .alloc [.int .i64 0, .slice none 0 0], none, 0⟩,
    ⟨none, .store 2 (.tmp 8) (.tmp 25), none, 0⟩,
    ⟨some 9, .mv (.tmp 26), none, 0⟩]) <|
  .seq (.seq (.ops [
    ⟨some 27, .mv (.tmp 9), none, 0⟩,
    ⟨some 28, .un .not (.tmp 27), none, 0⟩]) <|
  .cond (.tmp 28)
    (.seq (.ops [
      ⟨some 29, .build [.int .i64 0, .slice none 0 0] [], none, 0⟩,
      ⟨none, .store 2 (.tmp 6) (.tmp 29), none, 0⟩,
      ⟨some 7, .mv (.const (.int .i64 4)), none, 0⟩]) <|
    .keep [6, 7] <|
    .ret)
    (.skip)) <|
  .seq (.ops [
    ⟨some 30, .load true 2 (.tmp 8), none, 0⟩,
    ⟨none, .store 2 (.tmp 6) (.tmp 30), none, 0⟩,
    ⟨some 7, .mv (.const (.int .i64 0)), none, 0⟩]) <|
  .keep [6, 7] <|
  .ret⟩

theorem e_spec_FirstRegular : EntOK Tryd.prog (compD Tryd.prog) k_spec_FirstRegular i_spec_FirstRegular.vf :=
  ⟨Tryd.f19, Tryd.f19.body.getD .skip, Tryd.func19, by kernel_rfl, by kernel_rfl, by kernel_rfl, by kernel_rfl, by kernel_rfl⟩

/-- loop.example/g01331/impl.FirstRegular -/
def i_impl_FirstRegular : FF := ⟨34, [.cell 6 true 2, .tmp 7],
  .seq (.ops [
    ⟨some 6, .alloc [.int .i64 0, .slice none 0 0], none, 0⟩,
    ⟨some 7, .mv (.const (.int .i64 0)), none, 0⟩]) <|
  .seq (.seq (.ops [
    ⟨some 10, .mv (.tmp 0), none, 0⟩,
    ⟨some 11, .bin .lss (.tmp 10) (.const (.int .i64 1)), none, 0⟩,
    ⟨some 12, .mv (.tmp 11), none, 0⟩,
    ⟨some 13, .mv (.tmp 0), some (12, false), 0⟩,
    ⟨some 14, .bin .gtr (.tmp 13) (.const (.int .i64 10)), some (12, false), 0⟩,
    ⟨some 15, .pick (.tmp 12) (.const (.bool true)) (.tmp 14), none, 0⟩,
    ⟨some 16, .mv (.tmp 15), none, 0⟩,
    ⟨some 17, .mv (.tmp 1), some (16, false), 0⟩,
    ⟨some 18, .mv (.tmp 2), some (16, false), 0⟩,
    ⟨some 19, .call k_impl_isBoth [(.tmp 17), (.tmp 18)], some (16, false), 0⟩,
    ⟨some 20, .un .not (.tmp 19), some (16, false), 0⟩,
    ⟨some 21, .pick (.tmp 16) (.const (.bool true)) (.tmp 20), none, 0⟩]) <|
  .cond (.tmp 21)
    (.seq (.ops [
      ⟨some 22, .build [.int .i64 0, .slice none 0 0] [], none, 0⟩,
      ⟨none, .store 2 (.tmp 6) (.tmp 22), none, 0⟩,
      ⟨some 7, .mv (.const (.int .i64 2)), none, 0⟩]) <|
    .keep [6, 7] <|
    .ret)
    (.skip)) <|
  .seq (.ops [
    ⟨some 24, .mv (.tmp 0), none, 0⟩,
    ⟨some 25, .mv (.tmp 1), none, 0⟩,
    ⟨some 26, .mv (.tmp 2), none, 0⟩,
    ⟨some 27, .call k_impl_firstRegular [(.tmp 24), (.tmp 25), (.tmp 26)], none, 0⟩,
    ⟨some 23, .mv (.tmp 27), none, 0⟩,
    ⟨some 28, .ext (.tmp 23) 0, none, 0⟩,
    ⟨some 29, .ext (.tmp 23) 1, none, 0⟩,
    ⟨some 8, .alloc [.int .i64 0, .slice none 0 0], none, 0⟩,
    ⟨none, .store 2 (.tmp 8) (.tmp 28), none, 0⟩,
    ⟨some 9, .mv (.tmp 29), none, 0⟩]) <|
  .seq (.seq (.ops [
    ⟨some 30, .mv (.tmp 9), none, 0⟩,
    ⟨some 31, .un .not (.tmp 30), none, 0⟩]) <|
  .cond (.tmp 31)
    (.seq (.ops [
      ⟨some 32, .build [.int .i64 0, .slice none 0 0] [], none, 0⟩,
      ⟨none, .store 2 (.tmp 6) (.tmp 32), none, 0⟩,
      ⟨some 7, .mv (.const (.int .i64 4)), none, 0⟩]) <|
    .keep [6, 7] <|
    .ret)
    (.skip)) <|
  .seq (.ops [
    ⟨some 33, .load true 2 (.tmp 8), none, 0⟩,
    ⟨none, .store 2 (.tmp 6) (.tmp 33), none, 0⟩,
    ⟨some 7, .mv (.const (.int .i64 0)), none, 0⟩]) <|
  .keep [6, 7] <|
  .ret⟩

theorem e_impl_FirstRegular : EntOK Tryd.prog (compD Tryd.prog) k_impl_FirstRegular i_impl_FirstRegular.vf :=
  ⟨Tryd.f20, Tryd.f20.body.getD .skip, Tryd.func20, by kernel_rfl, by kernel_rfl, by kernel_rfl, by kernel_rfl, by kernel_rfl⟩

/-- loop.example/g01331/laws.big -/
def i_laws_big : FF := ⟨6, [.tmp 2],
  .seq (.ops [
    ⟨some 2, .mv (.const (.bool false)), none, 0⟩]) <|
  .seq (.ops [
    ⟨some 3, .mv (.tmp 0), none, 0⟩,
    ⟨some 4, .len (.tmp 3), none, 0⟩,
    ⟨some 5, .bin .gtr (.tmp 4) (.const (.int .i64 4096)), none, 0⟩,
    ⟨some 2, .mv (.tmp 5), none, 0⟩]) <|
  .keep [2] <|
  .ret⟩

theorem e_laws_big : EntOK Tryd.prog (compD Tryd.prog) k_laws_big i_laws_big.vf :=
  ⟨Tryd.f36, Tryd.f36.body.getD .skip, Tryd.func36, by kernel_rfl, by kernel_rfl, by kernel_rfl, by kernel_rfl, by kernel_rfl⟩

/-- loop.example/g01331/spec.DrawFirstRegular -/
def i_spec_DrawFirstRegular : FF := ⟨29, [.tmp 2, .tmp 3, .tmp 4],
  .seq (.ops [
    ⟨some 2, .mv (.const (.int .i64 0)), none, 0⟩,
    ⟨some 3, .mv (.const (.int .i64 0)), none, 0⟩,
    ⟨some 4, .mv (.const (.int .i64 0)), none, 0⟩]) <|
  .seq (.ops [
    ⟨some 9, .mv (.tmp 0), none, 0⟩,
    ⟨some 10, .call k_spec_l01From [(.tmp 9)], none, 0⟩,
    ⟨some 5, .mv (.tmp 10), none, 0⟩]) <|
  .seq (.ops [
    ⟨some 12, .mv (.tmp 5), none, 0⟩,
    ⟨some 13, .call k_spec_l07DrawNumbers [(.tmp 12)], none, 0⟩,
    ⟨some 11, .mv (.tmp 13), none, 0⟩,
    ⟨some 14, .ext (.tmp 11) 0, none, 0⟩,
    ⟨some 15, .ext (.tmp 11) 1, none, 0⟩,
    ⟨some 6, .mv (.tmp 14), none, 0⟩,
    ⟨some 7, .mv (.tmp 15), none, 0⟩]) <|
  .seq (.ops [
    ⟨some 16, .mv (.tmp 5), none, 0⟩,
    ⟨some 17, .call k_spec_l01Next [(.tmp 16), (.const (.int .i64 10))], none, 0⟩,
    ⟨some 18, .bin .add (.const (.int .i64 1)) (.tmp 17), none, 0⟩,
    ⟨some 8, .mv (.tmp 18), none, 0⟩]) <|
  .seq (.ops [
    ⟨some 19, .mv (.tmp 5), none, 0⟩,
    ⟨some 20, .mv (.tmp 8), none, 0⟩,
    ⟨some 21, .mv (.tmp 8), none, 0⟩,
    ⟨some 22, .mv (.tmp 8), none, 0⟩,
    ⟨some 23, .mv (.tmp 8), none, 0⟩,
    ⟨some 24, .mv (.tmp 8), none, 0⟩,
    ⟨some 25, .buildSl 1 [.int .i64 0, .int .i64 0, .int .i64 0, .int .i64 0, .int .i64 0, .int .i64 0, .int .i64 0] [(0, 1, (.tmp 20)), (1, 1, (.tmp 21)), (2, 1, (.tmp 22)), (3, 1, (.tmp 23)), (4, 1, (.tmp 24)), (5, 1, (.const (.int .i64 0))), (6, 1, (.const (.int .i64 11)))] 7, none, 0⟩,
    ⟨some 26, .call k_spec_l01Pick [(.tmp 19), (.tmp 25)], none, 0⟩,
    ⟨some 27, .mv (.tmp 6), none, 0⟩,
    ⟨some 28, .mv (.tmp 7), none, 0⟩,
    ⟨some 2, .mv (.tmp 26), none, 0⟩,
    ⟨some 3, .mv (.tmp 27), none, 0⟩,
    ⟨some 4, .mv (.tmp 28), none, 0⟩]) <|
  .keep [2, 3, 4] <|
  .ret⟩

theorem e_spec_DrawFirstRegular : EntOK Tryd.prog (compD Tryd.prog) k_spec_DrawFirstRegular i_spec_DrawFirstRegular.vf :=
  ⟨Tryd.f37, Tryd.f37.body.getD .skip, Tryd.func37, by kernel_rfl, by kernel_rfl, by kernel_rfl, by kernel_rfl, by kernel_rfl⟩

/-- loop.example/g01331/laws.graphs5 -/
def i_laws_graphs5 : FF := ⟨17, [.tmp 4],
  .seq (.ops [
    ⟨some 2, .box 2 (.tmp 0), none, 0⟩,
    ⟨some 3, .box 2 (.tmp 1), none, 0⟩,
    ⟨some 4, .mv (.const (.bool false)), none, 0⟩]) <|
  .seq (.ops [
    ⟨some 5, .fld 0 (.tmp 2), none, 0⟩,
    ⟨some 6, .load false 1 (.tmp 5), none, 0⟩,
    ⟨some 7, .fld 0 (.tmp 3), none, 0⟩,
    ⟨some 8, .load false 1 (.tmp 7), none, 0⟩,
    ⟨some 9, .bin .eql (.tmp 6) (.tmp 8), none, 0⟩,
    ⟨some 10, .mv (.tmp 9), none, 0⟩,
    ⟨some 11, .fld 1 (.tmp 2), some (10, true), 0⟩,
    ⟨some 12, .load false 1 (.tmp 11), some (10, true), 0⟩,
    ⟨some 13, .fld 1 (.tmp 3), some (10, true), 0⟩,
    ⟨some 14, .load false 1 (.tmp 13), some (10, true), 0⟩,
    ⟨some 15, .call k_laws_likeInts [(.tmp 12), (.tmp 14)], some (10, true), 0⟩,
    ⟨some 16, .pick (.tmp 10) (.tmp 15) (.const (.bool false)), none, 0⟩,
    ⟨some 4, .mv (.tmp 16), none, 0⟩]) <|
  .keep [4] <|
  .ret⟩

theorem e_laws_graphs5 : EntOK Tryd.prog (compD Tryd.prog) k_laws_graphs5 i_laws_graphs5.vf :=
  ⟨Tryd.f38, Tryd.f38.body.getD .skip, Tryd.func38, by kernel_rfl, by kernel_rfl, by kernel_rfl, by kernel_rfl, by kernel_rfl⟩

/-- loop.example/g01331/impl.RegularDegree -/
def i_impl_RegularDegree : FF := ⟨13, [.tmp 2, .tmp 3],
  .seq (.ops [
    ⟨some 1, .box 2 (.tmp 0), none, 0⟩,
    ⟨some 2, .mv (.const (.int .i64 0)), none, 0⟩,
    ⟨some 3, .mv (.const (.int .i64 0)), none, 0⟩]) <|
  .seq (.seq (.ops [
    ⟨some 5, .load true 2 (.tmp 1), none, 0⟩,
    ⟨some 6, .call k_impl_IsGraph [(.tmp 5)], none, 0⟩,
    ⟨some 7, .un .not (.tmp 6), none, 0⟩]) <|
  .cond (.tmp 7)
    (.seq (.ops [
      ⟨some 2, .mv (.const (.int .i64 0)), none, 0⟩,
      ⟨some 3, .mv (.const (.int .i64 1)), none, 0⟩]) <|
    .keep [2, 3] <|
    .ret)
    (.skip)) <|
  .seq (.ops [
    ⟨some 8, .load true 2 (.tmp 1), none, 0⟩,
    ⟨some 9, .call k_impl_Graph_regular [(.tmp 8)], none, 0⟩,
    ⟨some 4, .mv (.tmp 9), none, 0⟩]) <|
  .seq (.seq (.ops [
    ⟨some 10, .mv (.tmp 4), none, 0⟩,
    ⟨some 11, .bin .lss (.tmp 10) (.const (.int .i64 0)), none, 0⟩]) <|
  .cond (.tmp 11)
    (.seq (.ops [
      ⟨some 2, .mv (.const (.int .i64 0)), none, 0⟩,
      ⟨some 3, .mv (.const (.int .i64 5)), none, 0⟩]) <|
    .keep [2, 3] <|
    .ret)
    (.skip)) <|
  .seq (.ops [
    ⟨some 12, .mv (.tmp 4), none, 0⟩,
    ⟨some 2, .mv (.tmp 12), none, 0⟩,
    ⟨some 3, .mv (.const (.int .i64 0)), none, 0⟩]) <|
  .keep [2, 3] <|
  .ret⟩

theorem e_impl_RegularDegree : EntOK Tryd.prog (compD Tryd.prog) k_impl_RegularDegree i_impl_RegularDegree.vf :=
  ⟨Tryd.f39, Tryd.f39.body.getD .skip, Tryd.func39, by kernel_rfl, by kernel_rfl, by kernel_rfl, by kernel_rfl, by kernel_rfl⟩

/-- loop.example/g01331/impl.FitsBoth -/
def i_impl_FitsBoth : FF := ⟨20, [.tmp 6, .tmp 7],
  .seq (.ops [
    ⟨some 3, .box 2 (.tmp 0), none, 0⟩,
    ⟨some 6, .mv (.const (.bool false)), none, 0⟩,
    ⟨some 7, .mv (.const (.int .i64 0)), none, 0⟩]) <|
  .seq (.seq (.ops [
    ⟨some 9, .load true 2 (.tmp 3), none, 0⟩,
    ⟨some 10, .mv (.tmp 1), none, 0⟩,
    ⟨some 11, .mv (.tmp 2), none, 0⟩,
    ⟨some 12, .call k_impl_bothCode [(.tmp 9), (.tmp 10), (.tmp 11)], none, 0⟩,
    ⟨some 8, .mv (.tmp 12), none, 0⟩]) <|
  .seq (.ops [
    ⟨some 13, .mv (.tmp 8), none, 0⟩,
    ⟨some 14, .bin .neq (.tmp 13) (.const (.int .i64 0)), none, 0⟩]) <|
  .cond (.tmp 14)
    (.seq (.ops [
      ⟨some 15, .mv (.tmp 8), none, 0⟩,
      ⟨some 6, .mv (.const (.bool false)), none, 0⟩,
      ⟨some 7, .mv (.tmp 15), none, 0⟩]) <|
    .keep [6, 7] <|
    .ret)
    (.skip)) <|
  .seq (.ops [
    ⟨some 16, .load true 2 (.tmp 3), none, 0⟩,
    ⟨some 17, .mv (.tmp 1), none, 0⟩,
    ⟨some 18, .mv (.tmp 2), none, 0⟩,
    ⟨some 19, .call k_impl_Graph_fits [(.tmp 16), (.tmp 17), (.tmp 18)], none, 0⟩,
    ⟨some 6, .mv (.tmp 19), none, 0⟩,
    ⟨some 7, .mv (.const (.int .i64 0)), none, 0⟩]) <|
  .keep [6, 7] <|
  .ret⟩

theorem e_impl_FitsBoth : EntOK Tryd.prog (compD Tryd.prog) k_impl_FitsBoth i_impl_FitsBoth.vf :=
  ⟨Tryd.f40, Tryd.f40.body.getD .skip, Tryd.func40, by kernel_rfl, by kernel_rfl, by kernel_rfl, by kernel_rfl, by kernel_rfl⟩

/-- loop.example/g01331/spec.DrawLeastVertices -/
def i_spec_DrawLeastVertices : FF := ⟨14, [.tmp 2, .tmp 3],
  .seq (.ops [
    ⟨some 2, .mv (.const (.int .i64 0)), none, 0⟩,
    ⟨some 3, .mv (.const (.int .i64 0)), none, 0⟩]) <|
  .seq (.ops [
    ⟨some 7, .mv (.tmp 0), none, 0⟩,
    ⟨some 8, .call k_spec_l01From [(.tmp 7)], none, 0⟩,
    ⟨some 9, .call k_spec_l07DrawNumbers [(.tmp 8)], none, 0⟩,
    ⟨some 6, .mv (.tmp 9), none, 0⟩,
    ⟨some 10, .ext (.tmp 6) 0, none, 0⟩,
    ⟨some 11, .ext (.tmp 6) 1, none, 0⟩,
    ⟨some 4, .mv (.tmp 10), none, 0⟩,
    ⟨some 5, .mv (.tmp 11), none, 0⟩]) <|
  .seq (.ops [
    ⟨some 12, .mv (.tmp 4), none, 0⟩,
    ⟨some 13, .mv (.tmp 5), none, 0⟩,
    ⟨some 2, .mv (.tmp 12), none, 0⟩,
    ⟨some 3, .mv (.tmp 13), none, 0⟩]) <|
  .keep [2, 3] <|
  .ret⟩

theorem e_spec_DrawLeastVertices : EntOK Tryd.prog (compD Tryd.prog) k_spec_DrawLeastVertices i_spec_DrawLeastVertices.vf :=
  ⟨Tryd.f41, Tryd.f41.body.getD .skip, Tryd.func41, by kernel_rfl, by kernel_rfl, by kernel_rfl, by kernel_rfl, by kernel_rfl⟩

/-- loop.example/g01331/spec.l01In -/
def i_spec_l01In : FF := ⟨15, [.tmp 6],
  .seq (.ops [
    ⟨some 6, .mv (.const (.bool false)), none, 0⟩]) <|
  .seq (.ops [
    ⟨some 7, .mv (.tmp 0), none, 0⟩,
    ⟨some 8, .mv (.tmp 1), none, 0⟩,
    ⟨some 9, .bin .geq (.tmp 7) (.tmp 8), none, 0⟩,
    ⟨some 10, .mv (.tmp 9), none, 0⟩,
    ⟨some 11, .mv (.tmp 0), some (10, true), 0⟩,
    ⟨some 12, .mv (.tmp 2), some (10, true), 0⟩,
    ⟨some 13, .bin .leq (.tmp 11) (.tmp 12), some (10, true), 0⟩,
    ⟨some 14, .pick (.tmp 10) (.tmp 13) (.const (.bool false)), none, 0⟩,
    ⟨some 6, .mv (.tmp 14), none, 0⟩]) <|
  .keep [6] <|
  .ret⟩

theorem e_spec_l01In : EntOK Tryd.prog (compD Tryd.prog) k_spec_l01In i_spec_l01In.vf :=
  ⟨Tryd.f42, Tryd.f42.body.getD .skip, Tryd.func42, by kernel_rfl, by kernel_rfl, by kernel_rfl, by kernel_rfl, by kernel_rfl⟩

/-- loop.example/g01331/spec.l07Numbers -/
def i_spec_l07Numbers : FF := ⟨11, [.tmp 4],
  .seq (.ops [
    ⟨some 4, .mv (.const (.bool false)), none, 0⟩]) <|
  .seq (.ops [
    ⟨some 5, .mv (.tmp 0), none, 0⟩,
    ⟨some 6, .call k_spec_l01In [(.tmp 5), (.const (.int .i64 1)), (.const (.int .i64 6))], none, 0⟩,
    ⟨some 7, .mv (.tmp 6), none, 0⟩,
    ⟨some 8, .mv (.tmp 1), some (7, true), 0⟩,
    ⟨some 9, .call k_spec_l01In [(.tmp 8), (.const (.int .i64 3)), (.const (.int .i64 12))], some (7, true), 0⟩,
    ⟨some 10, .pick (.tmp 7) (.tmp 9) (.const (.bool false)), none, 0⟩,
    ⟨some 4, .mv (.tmp 10), none, 0⟩]) <|
  .keep [4] <|
  .ret⟩

theorem e_spec_l07Numbers : EntOK Tryd.prog (compD Tryd.prog) k_spec_l07Numbers i_spec_l07Numbers.vf :=
  ⟨Tryd.f43, Tryd.f43.body.getD .skip, Tryd.func43, by kernel_rfl, by kernel_rfl, by kernel_rfl, by kernel_rfl, by kernel_rfl⟩

/-- loop.example/g01331/spec.l01Empty -/
def i_spec_l01Empty : FF := ⟨7, [.cell 2 true 2],
  .seq (.ops [
    ⟨some 2, .alloc [.int .i64 0, .slice none 0 0], none, 0⟩]) <|
  .seq (.ops [
    ⟨some 3, .mv (.tmp 0), none, 0⟩,
    ⟨some 4, .mv (.tmp 0), none, 0⟩,
    ⟨some 5, .mkSl 1 [.int .i64 0] 8 (.tmp 4) (.tmp 4), none, 0⟩,
    ⟨some 6, .build [.int .i64 0, .slice none 0 0] [(0, 1, (.tmp 3)), (1, 1, (.tmp 5))], none, 0⟩,
    ⟨none, .store 2 (.tmp 2) (.tmp 6), none, 0⟩]) <|
  .keep [2] <|
  .ret⟩

theorem e_spec_l01Empty : EntOK Tryd.prog (compD Tryd.prog) k_spec_l01Empty i_spec_l01Empty.vf :=
  ⟨Tryd.f45, Tryd.f45.body.getD .skip, Tryd.func45, by kernel_rfl, by kernel_rfl, by kernel_rfl, by kernel_rfl, by kernel_rfl⟩

/-- loop.example/g01331/impl.isBoth -/
def i_impl_isBoth : FF := ⟨19, [.tmp 4],
  .seq (.ops [
    ⟨some 4, .mv (.const (.bool false)), none, 0⟩]) <|
  .seq (.ops [
    ⟨some 5, .mv (.tmp 0), none, 0⟩,
    ⟨some 6, .bin .geq (.tmp 5) (.const (.int .i64 1)), none, 0⟩,
    ⟨some 7, .mv (.tmp 6), none, 0⟩,
    ⟨some 8, .mv (.tmp 0), some (7, true), 0⟩,
    ⟨some 9, .bin .leq (.tmp 8) (.const (.int .i64 6)), some (7, true), 0⟩,
    ⟨some 10, .pick (.tmp 7) (.tmp 9) (.const (.bool false)), none, 0⟩,
    ⟨some 11, .mv (.tmp 10), none, 0⟩,
    ⟨some 12, .mv (.tmp 1), some (11, true), 0⟩,
    ⟨some 13, .bin .geq (.tmp 12) (.const (.int .i64 3)), some (11, true), 0⟩,
    ⟨some 14, .pick (.tmp 11) (.tmp 13) (.const (.bool false)), none, 0⟩,
    ⟨some 15, .mv (.tmp 14), none, 0⟩,
    ⟨some 16, .mv (.tmp 1), some (15, true), 0⟩,
    ⟨some 17, .bin .leq (.tmp 16) (.const (.int .i64 12)), some (15, true), 0⟩,
    ⟨some 18, .pick (.tmp 15) (.tmp 17) (.const (.bool false)), none, 0⟩,
    ⟨some 4, .mv (.tmp 18), none, 0⟩]) <|
  .keep [4] <|
  .ret⟩

theorem e_impl_isBoth : EntOK Tryd.prog (compD Tryd.prog) k_impl_isBoth i_impl_isBoth.vf :=
  ⟨Tryd.f46, Tryd.f46.body.getD .skip, Tryd.func46, by kernel_rfl, by kernel_rfl, by kernel_rfl, by kernel_rfl, by kernel_rfl⟩

/-- loop.example/g01331/impl.empty -/
def i_impl_empty : FF := ⟨7, [.cell 2 true 2],
  .seq (.ops [
    ⟨some 2, .alloc [.int .i64 0, .slice none 0 0], none, 0⟩]) <|
  .seq (.ops [
    ⟨some 3, .mv (.tmp 0), none, 0⟩,
    ⟨some 4, .mv (.tmp 0), none, 0⟩,
    ⟨some 5, .mkSl 1 [.int .i64 0] 8 (.tmp 4) (.tmp 4), none, 0⟩,
    ⟨some 6, .build [.int .i64 0, .slice none 0 0] [(0, 1, (.tmp 3)), (1, 1, (.tmp 5))], none, 0⟩,
    ⟨none, .store 2 (.tmp 2) (.tmp 6), none, 0⟩]) <|
  .keep [2] <|
  .ret⟩

theorem e_impl_empty : EntOK Tryd.prog (compD Tryd.prog) k_impl_empty i_impl_empty.vf :=
  ⟨Tryd.f48, Tryd.f48.body.getD .skip, Tryd.func48, by kernel_rfl, by kernel_rfl, by kernel_rfl, by kernel_rfl, by kernel_rfl⟩

/-- loop.example/g01331/spec.l07First -/
def i_spec_l07First : FF := ⟨38, [.cell 6 true 2, .tmp 7],
  .seq (.ops [
    ⟨some 6, .alloc [.int .i64 0, .slice none 0 0], none, 0⟩,
    ⟨some 7, .mv (.const (.bool false)), none, 0⟩]) <|
  .seq (.ops [
    ⟨some 10, .mv (.tmp 0), none, 0⟩,
    ⟨some 11, .call k_spec_l01Empty [(.tmp 10)], none, 0⟩,
    ⟨some 8, .alloc [.int .i64 0, .slice none 0 0], none, 0⟩,
    ⟨none, .store 2 (.tmp 8) (.tmp 11), none, 0⟩]) <|
  .seq (.seq (.ops [
    ⟨some 12, .mv (.tmp 0), none, 0⟩,
    ⟨some 13, .mv (.tmp 1), none, 0⟩,
    ⟨some 14, .bin .mul (.tmp 12) (.tmp 13), none, 0⟩,
    ⟨some 15, .bin .rem (.tmp 14) (.const (.int .i64 2)), none, 0⟩,
    ⟨some 16, .bin .neq (.tmp 15) (.const (.int .i64 0)), none, 0⟩,
    ⟨some 17, .mv (.tmp 16), none, 0⟩,
    ⟨some 18, .mv (.tmp 0), some (17, false), 0⟩,
    ⟨some 19, .mv (.tmp 1), some (17, false), 0⟩,
    ⟨some 20, .bin .leq (.tmp 18) (.tmp 19), some (17, false), 0⟩,
    ⟨some 21, .pick (.tmp 17) (.const (.bool true)) (.tmp 20), none, 0⟩,
    ⟨some 22, .mv (.tmp 21), none, 0⟩,
    ⟨some 23, .mv (.tmp 1), some (22, false), 0⟩,
    ⟨some 24, .bin .gtr (.tmp 23) (.const (.int .i64 1)), some (22, false), 0⟩,
    ⟨some 25, .mv (.tmp 24), some (22, false), 0⟩,
    ⟨some 26, .mv (.tmp 2), some (25, true), 0⟩,
    ⟨some 27, .mv (.tmp 0), some (25, true), 0⟩,
    ⟨some 28, .bin .gtr (.tmp 26) (.tmp 27), some (25, true), 0⟩,
    ⟨some 29, .pick (.tmp 25) (.tmp 28) (.const (.bool false)), some (22, false), 0⟩,
    ⟨some 30, .pick (.tmp 22) (.const (.bool true)) (.tmp 29), none, 0⟩]) <|
  .cond (.tmp 30)
    (.seq (.ops [
      ⟨some 31, .load true 2 (.tmp 8), none, 0⟩,
      ⟨none, .store 2 (.tmp 6) (.tmp 31), none, 0⟩,
      ⟨some 7, .mv (.const (.bool false)), none, 0⟩]) <|
    .keep [6, 7] <|
    .ret)
    (.skip)) <|
  .seq (.ops [
    ⟨some 32, .load true 2 (.tmp 8), none, 0⟩,
    ⟨some 33, .mv (.tmp 1), none, 0⟩,
    ⟨some 34, .mv (.tmp 2), none, 0⟩,
    ⟨some 35, .call k_spec_l07Search [(.tmp 32), (.tmp 33), (.tmp 34), (.const (.int .i64 0)), (.const (.int .i64 1))], none, 0⟩,
    ⟨some 9, .mv (.tmp 35), none, 0⟩]) <|
  .seq (.ops [
    ⟨some 36, .load true 2 (.tmp 8), none, 0⟩,
    ⟨some 37, .mv (.tmp 9), none, 0⟩,
    ⟨none, .store 2 (.tmp 6) (.tmp 36), none, 0⟩,
    ⟨some 7, .mv (.tmp 37), none, 0⟩]) <|
  .keep [6, 7] <|
  .ret⟩

theorem e_spec_l07First : EntOK Tryd.prog (compD Tryd.prog) k_spec_l07First i_spec_l07First.vf :=
  ⟨Tryd.f52, Tryd.f52.body.getD .skip, Tryd.func52, by kernel_rfl, by kernel_rfl, by kernel_rfl, by kernel_rfl, by kernel_rfl⟩

/-- loop.example/g01331/impl.firstRegular -/
def i_impl_firstRegular : FF := ⟨38, [.cell 6 true 2, .tmp 7],
  .seq (.ops [
    ⟨some 3, .box 1 (.tmp 0), none, 0⟩,
    ⟨some 4, .box 1 (.tmp 1), none, 0⟩,
    ⟨some 5, .box 1 (.tmp 2), none, 0⟩,
    ⟨some 6, .alloc [.int .i64 0, .slice none 0 0], none, 0⟩,
    ⟨some 7, .mv (.const (.bool false)), none, 0⟩]) <|
  .seq (.seq (.dops [
    ⟨some 10, .load false 1 (.tmp 3), none, 0⟩,
    ⟨some 11, .load false 1 (.tmp 4), none, 0⟩,
    ⟨some 12, .bin .mul (.tmp 10) (.tmp 11), none, 0⟩,
    ⟨some 13, .bin .rem (.tmp 12) (.const (.int .i64 2)), none, 0⟩,
    ⟨some 14, .bin .neq (.tmp 13) (.const (.int .i64 0)), none, 0⟩,
    ⟨some 15, .mv (.tmp 14), none, 0⟩,
    ⟨some 16, .load false 1 (.tmp 4), some (15, false), 0⟩,
    ⟨some 17, .load false 1 (.tmp 3), some (15, false), 0⟩,
    ⟨some 18, .bin .geq (.tmp 16) (.tmp 17), some (15, false), 0⟩,
    ⟨some 19, .pick (.tmp 15) (.const (.bool true)) (.tmp 18), none, 0⟩,
    ⟨some 20, .mv (.tmp 19), none, 0⟩,
    ⟨some 21, .load false 1 (.tmp 4), some (20, false), 0⟩,
    ⟨some 22, .bin .geq (.tmp 21) (.const (.int .i64 2)), some (20, false), 0⟩,
    ⟨some 23, .mv (.tmp 22), some (20, false), 0⟩,
    ⟨some 24, .load false 1 (.tmp 4), some (23, true), 0⟩,
    ⟨some 25, .load false 1 (.tmp 5), some (23, true), 0⟩,
    ⟨some 26, .call k_impl_girthBound [(.tmp 24), (.tmp 25)], some (23, true), 0⟩,
    ⟨some 27, .load false 1 (.tmp 3), some (23, true), 1⟩,
    ⟨some 28, .bin .gtr (.tmp 26) (.tmp 27), some (23, true), 0⟩,
    ⟨some 29, .pick (.tmp 23) (.tmp 28) (.const (.bool false)), some (20, false), 0⟩,
    ⟨some 30, .pick (.tmp 20) (.const (.bool true)) (.tmp 29), none, 0⟩]) <|
  .cond (.tmp 30)
    (.seq (.ops [
      ⟨some 31, .build [.int .i64 0, .slice none 0 0] [], none, 0⟩,
      ⟨none, .store 2 (.tmp 6) (.tmp 31), none, 0⟩,
      ⟨some 7, .mv (.const (.bool false)), none, 0⟩]) <|
    .keep [6, 7] <|
    .ret)
    (.skip)) <|
  .seq (.ops [
    ⟨some 32, .load false 1 (.tmp 3), none, 0⟩,
    ⟨some 33, .call k_impl_empty [(.tmp 32)], none, 0⟩,
    ⟨some 8, .alloc [.int .i64 0, .slice none 0 0], none, 0⟩,
    ⟨none, .store 2 (.tmp 8) (.tmp 33), none, 0⟩]) <|
  .seq (.ops [
    ⟨some 9, .alloc [.nilFunc], none, 0⟩]) <|
  .seq (.ops [
    ⟨some 34, .mkfn k_impl_firstRegular_1 [] [(.tmp 3), (.tmp 8), (.tmp 4), (.tmp 9), (.tmp 5)], none, 0⟩,
    ⟨none, .store 1 (.tmp 9) (.tmp 34), none, 0⟩]) <|
  .seq (.dops [
    ⟨some 36, .load false 1 (.tmp 9), none, 0⟩,
    ⟨some 37, .callv (.tmp 36) [(.const (.int .i64 0)), (.const (.int .i64 1))], none, 0⟩,
    ⟨some 35, .load true 2 (.tmp 8), none, 1⟩,
    ⟨none, .store 2 (.tmp 6) (.tmp 35), none, 0⟩,
    ⟨some 7, .mv (.tmp 37), none, 0⟩]) <|
  .keep [6, 7] <|
  .ret⟩

theorem e_impl_firstRegular : EntOK Tryd.prog (compD Tryd.prog) k_impl_firstRegular i_impl_firstRegular.vf :=
  ⟨Tryd.f53, Tryd.f53.body.getD .skip, Tryd.func53, by kernel_rfl, by kernel_rfl, by kernel_rfl, by kernel_rfl, by kernel_rfl⟩

/-- (loop.example/g01331/impl.Graph).has -/
def i_impl_Graph_has : FF := ⟨16, [.tmp 6],
  .seq (.ops [
    ⟨some 3, .box 2 (.tmp 0), none, 0⟩,
    ⟨some 6, .mv (.const (.bool false)), none, 0⟩]) <|
  .seq (.ops [
    ⟨some 7, .fld 1 (.tmp 3), none, 0⟩,
    ⟨some 8, .load false 1 (.tmp 7), none, 0⟩,
    ⟨some 9, .mv (.tmp 1), none, 0⟩,
    ⟨some 10, .idx 1 (.tmp 8) (.tmp 9), none, 0⟩,
    ⟨some 11, .load false 1 (.tmp 10), none, 0⟩,
    ⟨some 12, .mv (.tmp 2), none, 0⟩,
    ⟨some 13, .bin .shr (.tmp 11) (.tmp 12), none, 0⟩,
    ⟨some 14, .bin .and (.tmp 13) (.const (.int .i64 1)), none, 0⟩,
    ⟨some 15, .bin .eql (.tmp 14) (.const (.int .i64 1)), none, 0⟩,
    ⟨some 6, .mv (.tmp 15), none, 0⟩]) <|
  .keep [6] <|
  .ret⟩

theorem e_impl_Graph_has : EntOK Tryd.prog (compD Tryd.prog) k_impl_Graph_has i_impl_Graph_has.vf :=
  ⟨Tryd.f60, Tryd.f60.body.getD .skip, Tryd.func60, by kernel_rfl, by kernel_rfl, by kernel_rfl, by kernel_rfl, by kernel_rfl⟩

/-- (loop.example/g01331/impl.Graph).girth -/
def i_impl_Graph_girth_B1 : FC :=
  .seq (.ops [
    ⟨some 9, .bin .lss (.tmp 8) (.tmp 7), none, 0⟩]) <|
  .seq (.cond (.tmp 9)
    (.skip)
    (.keep [3] <|
    .exit 0)) <|
  .seq (.block 1 <|
  .seq (.ops [
    ⟨some 10, .mv (.tmp 8), none, 0⟩,
    ⟨some 4, .mv (.tmp 10), none, 0⟩]) <|
  .seq (.ops [
    ⟨some 11, .load true 2 (.tmp 1), none, 0⟩,
    ⟨some 12, .mv (.tmp 4), none, 0⟩,
    ⟨some 13, .call k_impl_Graph_girthAt [(.tmp 11), (.tmp 12)], none, 0⟩,
    ⟨some 5, .mv (.tmp 13), none, 0⟩]) <|
  .seq (.ops [
    ⟨some 14, .mv (.tmp 5), none, 0⟩,
    ⟨some 15, .bin .gtr (.tmp 14) (.const (.int .i64 0)), none, 0⟩,
    ⟨some 16, .mv (.tmp 15), none, 0⟩,
    ⟨some 17, .mv (.tmp 3), some (16, true), 0⟩,
    ⟨some 18, .bin .eql (.tmp 17) (.const (.int .i64 0)), some (16, true), 0⟩,
    ⟨some 19, .mv (.tmp 18), some (16, true), 0⟩,
    ⟨some 20, .mv (.tmp 5), some (19, false), 0⟩,
    ⟨some 21, .mv (.tmp 3), some (19, false), 0⟩,
    ⟨some 22, .bin .lss (.tmp 20) (.tmp 21), some (19, false), 0⟩,
    ⟨some 23, .pick (.tmp 19) (.const (.bool true)) (.tmp 22), some (16, true), 0⟩,
    ⟨some 24, .pick (.tmp 16) (.tmp 23) (.const (.bool false)), none, 0⟩]) <|
  .cond (.tmp 24)
    (.ops [
      ⟨some 25, .mv (.tmp 5), none, 0⟩,
      ⟨some 3, .mv (.tmp 25), none, 0⟩])
    (.skip)) <|
  .ops [
    ⟨some 26, .bin .add (.tmp 8) (.const (.int .i64 1)), none, 0⟩,
    ⟨some 8, .mv (.tmp 26), none, 0⟩]
def i_impl_Graph_girth : FF := ⟨28, [.tmp 2],
  .seq (.ops [
    ⟨some 1, .box 2 (.tmp 0), none, 0⟩,
    ⟨some 2, .mv (.const (.int .i64 0)), none, 0⟩]) <|
  .seq (.ops [
    ⟨some 3, .mv (.const (.int .i64 0)), none, 0⟩]) <|
  .seq (.seq (.ops [
    ⟨some 6, .fld 0 (.tmp 1), none, 0⟩,
    ⟨some 7, .load false 1 (.tmp 6), none, 0⟩,
    ⟨some 8, .mv (.const (.int .i64 0)), none, 0⟩]) <|
  .block 0 <|
  .loop [1, 3, 7, 8] i_impl_Graph_girth_B1) <|
  .seq (.ops [
    ⟨some 27, .mv (.tmp 3), none, 0⟩,
    ⟨some 2, .mv (.tmp 27), none, 0⟩]) <|
  .keep [2] <|
  .ret⟩

theorem e_impl_Graph_girth : EntOK Tryd.prog (compD Tryd.prog) k_impl_Graph_girth i_impl_Graph_girth.vf :=
  ⟨Tryd.f61, Tryd.f61.body.getD .skip, Tryd.func61, by kernel_rfl, by kernel_rfl, by kernel_rfl, by kernel_rfl, by kernel_rfl⟩

/-- (loop.example/g01331/impl.Graph).around -/
def i_impl_Graph_around : FF := ⟨21, [.tmp 6],
  .seq (.ops [
    ⟨some 3, .box 2 (.tmp 0), none, 0⟩,
    ⟨some 6, .mv (.const (.int .i64 0)), none, 0⟩]) <|
  .seq (.ops [
    ⟨some 8, .load true 2 (.tmp 3), none, 0⟩,
    ⟨some 9, .call k_impl_own [(.tmp 8)], none, 0⟩,
    ⟨some 7, .alloc [.int .i64 0, .slice none 0 0], none, 0⟩,
    ⟨none, .store 2 (.tmp 7) (.tmp 9), none, 0⟩]) <|
  .seq (.ops [
    ⟨some 10, .load true 2 (.tmp 7), none, 0⟩,
    ⟨some 11, .mv (.tmp 1), none, 0⟩,
    ⟨some 12, .mv (.tmp 2), none, 0⟩,
    ⟨some 13, .call k_impl_Graph_take [(.tmp 10), (.tmp 11), (.tmp 12)], none, 0⟩]) <|
  .seq (.ops [
    ⟨some 14, .load true 2 (.tmp 7), none, 0⟩,
    ⟨some 15, .mv (.tmp 1), none, 0⟩,
    ⟨some 16, .call k_impl_Graph_distances [(.tmp 14), (.tmp 15)], none, 0⟩,
    ⟨some 17, .mv (.tmp 2), none, 0⟩,
    ⟨some 18, .idx 1 (.tmp 16) (.tmp 17), none, 0⟩,
    ⟨some 19, .load false 1 (.tmp 18), none, 0⟩,
    ⟨some 20, .bin .add (.tmp 19) (.const (.int .i64 1)), none, 0⟩,
    ⟨some 6, .mv (.tmp 20), none, 0⟩]) <|
  .keep [6] <|
  .ret⟩

theorem e_impl_Graph_around : EntOK Tryd.prog (compD Tryd.prog) k_impl_Graph_around i_impl_Graph_around.vf :=
  ⟨Tryd.f62, Tryd.f62.body.getD .skip, Tryd.func62, by kernel_rfl, by kernel_rfl, by kernel_rfl, by kernel_rfl, by kernel_rfl⟩

/-- (loop.example/g01331/impl.Graph).distances -/
def i_impl_Graph_distances_B1 : FC :=
  .seq (.ops [
    ⟨some 28, .bin .lss (.tmp 27) (.tmp 26), none, 0⟩]) <|
  .seq (.cond (.tmp 28)
    (.skip)
    (.keep [2, 5, 6, 8, 9] <|
    .exit 2)) <|
  .seq (.block 3 <|
  .seq (.ops [
    ⟨some 29, .idx 1 (.tmp 25) (.tmp 27), none, 0⟩,
    ⟨some 30, .load false 1 (.tmp 29), none, 0⟩,
    ⟨some 11, .mv (.tmp 30), none, 0⟩]) <|
  .seq (.ops [
    ⟨some 31, .mv (.tmp 5), none, 0⟩,
    ⟨some 32, .mv (.tmp 11), none, 0⟩,
    ⟨some 33, .mv (.tmp 8), none, 0⟩,
    ⟨some 34, .idx 1 (.tmp 31) (.tmp 32), none, 0⟩,
    ⟨none, .store 1 (.tmp 34) (.tmp 33), none, 0⟩]) <|
  .ops [
    ⟨some 35, .mv (.tmp 9), none, 0⟩,
    ⟨some 36, .fld 1 (.tmp 2), none, 0⟩,
    ⟨some 37, .load false 1 (.tmp 36), none, 0⟩,
    ⟨some 38, .mv (.tmp 11), none, 0⟩,
    ⟨some 39, .idx 1 (.tmp 37) (.tmp 38), none, 0⟩,
    ⟨some 40, .load false 1 (.tmp 39), none, 0⟩,
    ⟨some 41, .bin .or (.tmp 35) (.tmp 40), none, 0⟩,
    ⟨some 9, .mv (.tmp 41), none, 0⟩]) <|
  .ops [
    ⟨some 42, .bin .add (.tmp 27) (.const (.int .i64 1)), none, 0⟩,
    ⟨some 27, .mv (.tmp 42), none, 0⟩]
def i_impl_Graph_distances_B2 : FC :=
  .seq (.seq (.ops [
    ⟨some 20, .mv (.tmp 7), none, 0⟩,
    ⟨some 21, .bin .neq (.tmp 20) (.const (.int .i64 0)), none, 0⟩]) <|
  .cond (.tmp 21)
    (.skip)
    (.keep [5] <|
    .exit 0)) <|
  .seq (.block 1 <|
  .seq (.ops [
    ⟨some 9, .mv (.const (.int .i64 0)), none, 0⟩]) <|
  .seq (.seq (.ops [
    ⟨some 24, .mv (.tmp 7), none, 0⟩,
    ⟨some 25, .call k_impl_list [(.tmp 24)], none, 0⟩,
    ⟨some 26, .len (.tmp 25), none, 0⟩,
    ⟨some 27, .mv (.const (.int .i64 0)), none, 0⟩]) <|
  .block 2 <|
  .loop [2, 5, 6, 8, 9, 25, 26, 27] i_impl_Graph_distances_B1) <|
  .seq (.ops [
    ⟨some 43, .mv (.tmp 9), none, 0⟩,
    ⟨some 44, .mv (.tmp 6), none, 0⟩,
    ⟨some 45, .bin .andNot (.tmp 43) (.tmp 44), none, 0⟩,
    ⟨some 7, .mv (.tmp 45), none, 0⟩]) <|
  .ops [
    ⟨some 46, .mv (.tmp 6), none, 0⟩,
    ⟨some 47, .mv (.tmp 9), none, 0⟩,
    ⟨some 48, .bin .or (.tmp 46) (.tmp 47), none, 0⟩,
    ⟨some 6, .mv (.tmp 48), none, 0⟩]) <|
  .ops [
    ⟨some 22, .mv (.tmp 8), none, 0⟩,
    ⟨some 23, .bin .add (.tmp 22) (.const (.int .i64 1)), none, 0⟩,
    ⟨some 8, .mv (.tmp 23), none, 0⟩]
def i_impl_Graph_distances : FF := ⟨50, [.tmp 4],
  .seq (.ops [
    ⟨some 2, .box 2 (.tmp 0), none, 0⟩,
    ⟨some 4, .mv (.const (.slice none 0 0)), none, 0⟩]) <|
  .seq (.ops [
    ⟨some 12, .buildSl 1 [.int .i64 0] [(0, 1, (.const (.int .i64 (-1))))] 1, none, 0⟩,
    ⟨some 13, .fld 0 (.tmp 2), none, 0⟩,
    ⟨some 14, .load false 1 (.tmp 13), none, 0⟩,
    ⟨some 15, .call k_slices_Repeat_int64_int64 [(.tmp 12), (.tmp 14)], none, 0⟩,
    ⟨some 5, .mv (.tmp 15), none, 0⟩]) <|
  .seq (.dops [
    ⟨some 16, .mv (.tmp 1), none, 0⟩,
    ⟨some 17, .bin .shl (.const (.int .i64 1)) (.tmp 16), none, 0⟩,
    ⟨some 18, .mv (.tmp 1), none, 0⟩,
    ⟨some 19, .bin .shl (.const (.int .i64 1)) (.tmp 18), none, 0⟩,
    ⟨some 6, .mv (.tmp 17), none, 0⟩,
    ⟨some 7, .mv (.tmp 19), none, 0⟩]) <|
  .seq (.seq (.ops [
    ⟨some 8, .mv (.const (.int .i64 0)), none, 0⟩]) <|
  .block 0 <|
  .loop [2, 5, 6, 7, 8] i_impl_Graph_distances_B2) <|
  .seq (.ops [
    ⟨some 49, .mv (.tmp 5), none, 0⟩,
    ⟨some 4, .mv (.tmp 49), none, 0⟩]) <|
  .keep [4] <|
  .ret⟩

theorem e_impl_Graph_distances : EntOK Tryd.prog (compD Tryd.prog) k_impl_Graph_distances i_impl_Graph_distances.vf :=
  ⟨Tryd.f70, Tryd.f70.body.getD .skip, Tryd.func70, by kernel_rfl, by kernel_rfl, by kernel_rfl, by kernel_rfl, by kernel_rfl⟩

/-- loop.example/g01331/spec.l07May -/
def i_spec_l07May : FF := ⟨47, [.tmp 10],
  .seq (.ops [
    ⟨some 5, .box 2 (.tmp 0), none, 0⟩,
    ⟨some 10, .mv (.const (.bool false)), none, 0⟩]) <|
  .seq (.seq (.ops [
    ⟨some 12, .mv (.tmp 3), none, 0⟩,
    ⟨some 13, .mv (.tmp 4), none, 0⟩,
    ⟨some 14, .bin .eql (.tmp 12) (.tmp 13), none, 0⟩,
    ⟨some 15, .mv (.tmp 14), none, 0⟩,
    ⟨some 16, .load true 2 (.tmp 5), some (15, false), 0⟩,
    ⟨some 17, .mv (.tmp 3), some (15, false), 0⟩,
    ⟨some 18, .mv (.tmp 4), some (15, false), 0⟩,
    ⟨some 19, .call k_spec_l01Has [(.tmp 16), (.tmp 17), (.tmp 18)], some (15, false), 0⟩,
    ⟨some 20, .pick (.tmp 15) (.const (.bool true)) (.tmp 19), none, 0⟩,
    ⟨some 21, .mv (.tmp 20), none, 0⟩,
    ⟨some 22, .load true 2 (.tmp 5), some (21, false), 0⟩,
    ⟨some 23, .mv (.tmp 3), some (21, false), 0⟩,
    ⟨some 24, .call k_spec_l01Degree [(.tmp 22), (.tmp 23)], some (21, false), 0⟩,
    ⟨some 25, .mv (.tmp 1), some (21, false), 0⟩,
    ⟨some 26, .bin .geq (.tmp 24) (.tmp 25), some (21, false), 0⟩,
    ⟨some 27, .pick (.tmp 21) (.const (.bool true)) (.tmp 26), none, 0⟩,
    ⟨some 28, .mv (.tmp 27), none, 0⟩,
    ⟨some 29, .load true 2 (.tmp 5), some (28, false), 0⟩,
    ⟨some 30, .mv (.tmp 4), some (28, false), 0⟩,
    ⟨some 31, .call k_spec_l01Degree [(.tmp 29), (.tmp 30)], some (28, false), 0⟩,
    ⟨some 32, .mv (.tmp 1), some (28, false), 0⟩,
    ⟨some 33, .bin .geq (.tmp 31) (.tmp 32), some (28, false), 0⟩,
    ⟨some 34, .pick (.tmp 28) (.const (.bool true)) (.tmp 33), none, 0⟩]) <|
  .cond (.tmp 34)
    (.seq (.ops [
      ⟨some 10, .mv (.const (.bool false)), none, 0⟩]) <|
    .keep [10] <|
    .ret)
    (.skip)) <|
  .seq (.ops [
    ⟨some 35, .load true 2 (.tmp 5), none, 0⟩,
    ⟨some 36, .mv (.tmp 3), none, 0⟩,
    ⟨some 37, .mv (.tmp 4), none, 0⟩,
    ⟨some 38, .call k_spec_l07Far [(.tmp 35), (.tmp 36), (.tmp 37)], none, 0⟩,
    ⟨some 11, .mv (.tmp 38), none, 0⟩]) <|
  .seq (.ops [
    ⟨some 39, .mv (.tmp 11), none, 0⟩,
    ⟨some 40, .bin .lss (.tmp 39) (.const (.int .i64 0)), none, 0⟩,
    ⟨some 41, .mv (.tmp 40), none, 0⟩,
    ⟨some 42, .mv (.tmp 11), some (41, false), 0⟩,
    ⟨some 43, .bin .add (.tmp 42) (.const (.int .i64 1)), some (41, false), 0⟩,
    ⟨some 44, .mv (.tmp 2), some (41, false), 0⟩,
    ⟨some 45, .bin .geq (.tmp 43) (.tmp 44), some (41, false), 0⟩,
    ⟨some 46, .pick (.tmp 41) (.const (.bool true)) (.tmp 45), none, 0⟩,
    ⟨some 10, .mv (.tmp 46), none, 0⟩]) <|
  .keep [10] <|
  .ret⟩

theorem e_spec_l07May : EntOK Tryd.prog (compD Tryd.prog) k_spec_l07May i_spec_l07May.vf :=
  ⟨Tryd.f74, Tryd.f74.body.getD .skip, Tryd.func74, by kernel_rfl, by kernel_rfl, by kernel_rfl, by kernel_rfl, by kernel_rfl⟩

/-- loop.example/g01331/spec.l01From -/
def i_spec_l01From_B1 : FC :=
  .seq (.seq (.ops [
    ⟨some 12, .mv (.tmp 4), none, 0⟩,
    ⟨some 13, .mv (.tmp 0), none, 0⟩,
    ⟨some 14, .len (.tmp 13), none, 0⟩,
    ⟨some 15, .bin .lss (.tmp 12) (.tmp 14), none, 0⟩,
    ⟨some 16, .mv (.tmp 15), none, 0⟩,
    ⟨some 17, .mv (.tmp 4), some (16, true), 0⟩,
    ⟨some 18, .bin .lss (.tmp 17) (.const (.int .i64 4096)), some (16, true), 0⟩,
    ⟨some 19, .pick (.tmp 16) (.tmp 18) (.const (.bool false)), none, 0⟩]) <|
  .cond (.tmp 19)
    (.skip)
    (.keep [3] <|
    .exit 0)) <|
  .seq (.block 1 <|
  .dops [
    ⟨some 22, .mv (.tmp 3), none, 0⟩,
    ⟨some 23, .mv (.tmp 3), none, 0⟩,
    ⟨some 24, .nilchk (.tmp 23), none, 0⟩,
    ⟨some 25, .fld 2 (.tmp 24), none, 0⟩,
    ⟨some 26, .load false 1 (.tmp 25), none, 0⟩,
    ⟨some 27, .bin .mul (.tmp 26) (.const (.int .u64 1099511628211)), none, 0⟩,
    ⟨some 28, .mv (.tmp 0), none, 0⟩,
    ⟨some 29, .mv (.tmp 4), none, 0⟩,
    ⟨some 30, .idx 1 (.tmp 28) (.tmp 29), none, 0⟩,
    ⟨some 31, .load false 1 (.tmp 30), none, 0⟩,
    ⟨some 32, .conv .u64 (.tmp 31), none, 0⟩,
    ⟨some 33, .bin .add (.tmp 27) (.tmp 32), none, 0⟩,
    ⟨some 34, .bin .add (.tmp 33) (.const (.int .u64 157)), none, 0⟩,
    ⟨some 35, .nilchk (.tmp 22), none, 0⟩,
    ⟨some 36, .fld 2 (.tmp 35), none, 0⟩,
    ⟨none, .store 1 (.tmp 36) (.tmp 34), none, 0⟩]) <|
  .ops [
    ⟨some 20, .mv (.tmp 4), none, 0⟩,
    ⟨some 21, .bin .add (.tmp 20) (.const (.int .i64 1)), none, 0⟩,
    ⟨some 4, .mv (.tmp 21), none, 0⟩]
def i_spec_l01From : FF := ⟨38, [.tmp 2],
  .seq (.ops [
    ⟨some 2, .mv (.const (.pointer none)), none, 0⟩]) <|
  .seq (.ops [
    ⟨some 5, .mv (.tmp 0), none, 0⟩,
    ⟨some 6, .mv (.tmp 0), none, 0⟩,
    ⟨some 7, .len (.tmp 6), none, 0⟩,
    ⟨some 8, .conv .u64 (.tmp 7), none, 0⟩,
    ⟨some 9, .bin .add (.const (.int .u64 13311)) (.tmp 8), none, 0⟩,
    ⟨some 10, .build [.slice none 0 0, .int .i64 0, .int .u64 0] [(0, 1, (.tmp 5)), (2, 1, (.tmp 9))], none, 0⟩,
    ⟨some 11, .box 3 (.tmp 10), none, 0⟩,
    ⟨some 3, .mv (.tmp 11), none, 0⟩]) <|
  .seq (.seq (.ops [
    ⟨some 4, .mv (.const (.int .i64 0)), none, 0⟩]) <|
  .block 0 <|
  .loop [0, 3, 4] i_spec_l01From_B1) <|
  .seq (.ops [
    ⟨some 37, .mv (.tmp 3), none, 0⟩,
    ⟨some 2, .mv (.tmp 37), none, 0⟩]) <|
  .keep [2] <|
  .ret⟩

theorem e_spec_l01From : EntOK Tryd.prog (compD Tryd.prog) k_spec_l01From i_spec_l01From.vf :=
  ⟨Tryd.f77, Tryd.f77.body.getD .skip, Tryd.func77, by kernel_rfl, by kernel_rfl, by kernel_rfl, by kernel_rfl, by kernel_rfl⟩

/-- loop.example/g01331/spec.l07DrawNumbers -/
def i_spec_l07DrawNumbers : FF := ⟨26, [.tmp 2, .tmp 3],
  .seq (.ops [
    ⟨some 2, .mv (.const (.int .i64 0)), none, 0⟩,
    ⟨some 3, .mv (.const (.int .i64 0)), none, 0⟩]) <|
  .seq (.ops [
    ⟨some 6, .mv (.tmp 0), none, 0⟩,
    ⟨some 7, .call k_spec_l01Next [(.tmp 6), (.const (.int .i64 6))], none, 0⟩,
    ⟨some 8, .bin .add (.const (.int .i64 1)) (.tmp 7), none, 0⟩,
    ⟨some 9, .mv (.tmp 0), none, 0⟩,
    ⟨some 10, .buildSl 1 [.int .i64 0, .int .i64 0, .int .i64 0, .int .i64 0, .int .i64 0, .int .i64 0, .int .i64 0, .int .i64 0, .int .i64 0] [(0, 1, (.const (.int .i64 3))), (1, 1, (.const (.int .i64 3))), (2, 1, (.const (.int .i64 4))), (3, 1, (.const (.int .i64 5))), (4, 1, (.const (.int .i64 5))), (5, 1, (.const (.int .i64 6))), (6, 1, (.const (.int .i64 7))), (7, 1, (.const (.int .i64 8))), (8, 1, (.const (.int .i64 12)))] 9, none, 0⟩,
    ⟨some 11, .call k_spec_l01Pick [(.tmp 9), (.tmp 10)], none, 0⟩,
    ⟨some 4, .mv (.tmp 8), none, 0⟩,
    ⟨some 5, .mv (.tmp 11), none, 0⟩]) <|
  .seq (.seq (.ops [
    ⟨some 12, .mv (.tmp 0), none, 0⟩,
    ⟨some 13, .call k_spec_l01Next [(.tmp 12), (.const (.int .i64 24))], none, 0⟩]) <|
  .block 0 <|
  .seq (.ops [
    ⟨some 15, .bin .eql (.tmp 13) (.const (.int .i64 0)), none, 0⟩,
    ⟨some 14, .mv (.tmp 15), none, 0⟩]) <|
  .cond (.tmp 14)
    (.ops [
      ⟨some 16, .mv (.tmp 0), none, 0⟩,
      ⟨some 17, .buildSl 1 [.int .i64 0, .int .i64 0] [(0, 1, (.const (.int .i64 0))), (1, 1, (.const (.int .i64 7)))] 2, none, 0⟩,
      ⟨some 18, .call k_spec_l01Pick [(.tmp 16), (.tmp 17)], none, 0⟩,
      ⟨some 4, .mv (.tmp 18), none, 0⟩])
    (.seq (.ops [
      ⟨some 20, .bin .eql (.tmp 13) (.const (.int .i64 1)), none, 0⟩,
      ⟨some 19, .mv (.tmp 20), none, 0⟩]) <|
    .cond (.tmp 19)
      (.ops [
        ⟨some 21, .mv (.tmp 0), none, 0⟩,
        ⟨some 22, .buildSl 1 [.int .i64 0, .int .i64 0] [(0, 1, (.const (.int .i64 2))), (1, 1, (.const (.int .i64 13)))] 2, none, 0⟩,
        ⟨some 23, .call k_spec_l01Pick [(.tmp 21), (.tmp 22)], none, 0⟩,
        ⟨some 5, .mv (.tmp 23), none, 0⟩])
      (.skip))) <|
  .seq (.ops [
    ⟨some 24, .mv (.tmp 4), none, 0⟩,
    ⟨some 25, .mv (.tmp 5), none, 0⟩,
    ⟨some 2, .mv (.tmp 24), none, 0⟩,
    ⟨some 3, .mv (.tmp 25), none, 0⟩]) <|
  .keep [2, 3] <|
  .ret⟩

theorem e_spec_l07DrawNumbers : EntOK Tryd.prog (compD Tryd.prog) k_spec_l07DrawNumbers i_spec_l07DrawNumbers.vf :=
  ⟨Tryd.f78, Tryd.f78.body.getD .skip, Tryd.func78, by kernel_rfl, by kernel_rfl, by kernel_rfl, by kernel_rfl, by kernel_rfl⟩

/-- loop.example/g01331/spec.l01Next -/
def i_spec_l01Next : FF := ⟨58, [.tmp 4],
  .seq (.ops [
    ⟨some 4, .mv (.const (.int .i64 0)), none, 0⟩]) <|
  .seq (.seq (.ops [
    ⟨some 6, .mv (.tmp 1), none, 0⟩,
    ⟨some 7, .bin .lss (.tmp 6) (.const (.int .i64 1)), none, 0⟩]) <|
  .cond (.tmp 7)
    (.seq (.ops [
      ⟨some 4, .mv (.const (.int .i64 0)), none, 0⟩]) <|
    .keep [4] <|
    .ret)
    (.skip)) <|
  .seq (.ops [
    ⟨some 8, .mv (.tmp 0), none, 0⟩,
    ⟨some 9, .mv (.tmp 0), none, 0⟩,
    ⟨some 10, .nilchk (.tmp 9), none, 0⟩,
    ⟨some 11, .fld 2 (.tmp 10), none, 0⟩,
    ⟨some 12, .load false 1 (.tmp 11), none, 0⟩,
    ⟨some 13, .bin .mul (.tmp 12) (.const (.int .u64 6364136223846793005)), none, 0⟩,
    ⟨some 14, .bin .add (.tmp 13) (.const (.int .u64 1442695040888963407)), none, 0⟩,
    ⟨some 15, .nilchk (.tmp 8), none, 0⟩,
    ⟨some 16, .fld 2 (.tmp 15), none, 0⟩,
    ⟨none, .store 1 (.tmp 16) (.tmp 14), none, 0⟩]) <|
  .seq (.ops [
    ⟨some 17, .mv (.tmp 0), none, 0⟩,
    ⟨some 18, .nilchk (.tmp 17), none, 0⟩,
    ⟨some 19, .fld 2 (.tmp 18), none, 0⟩,
    ⟨some 20, .load false 1 (.tmp 19), none, 0⟩,
    ⟨some 21, .bin .shr (.tmp 20) (.const (.int .u64 33)), none, 0⟩,
    ⟨some 22, .bin .and (.tmp 21) (.const (.int .u64 16777215)), none, 0⟩,
    ⟨some 23, .conv .i64 (.tmp 22), none, 0⟩,
    ⟨some 5, .mv (.tmp 23), none, 0⟩]) <|
  .seq (.seq (.dops [
    ⟨some 24, .mv (.tmp 0), none, 0⟩,
    ⟨some 25, .nilchk (.tmp 24), none, 0⟩,
    ⟨some 26, .fld 1 (.tmp 25), none, 0⟩,
    ⟨some 27, .load false 1 (.tmp 26), none, 0⟩,
    ⟨some 28, .mv (.tmp 0), none, 0⟩,
    ⟨some 29, .nilchk (.tmp 28), none, 0⟩,
    ⟨some 30, .fld 0 (.tmp 29), none, 0⟩,
    ⟨some 31, .load false 1 (.tmp 30), none, 0⟩,
    ⟨some 32, .len (.tmp 31), none, 0⟩,
    ⟨some 33, .bin .lss (.tmp 27) (.tmp 32), none, 0⟩]) <|
  .cond (.tmp 33)
    (.seq (.dops [
      ⟨some 34, .mv (.tmp 5), none, 0⟩,
      ⟨some 35, .mv (.tmp 0), none, 0⟩,
      ⟨some 36, .nilchk (.tmp 35), none, 0⟩,
      ⟨some 37, .fld 0 (.tmp 36), none, 0⟩,
      ⟨some 38, .load false 1 (.tmp 37), none, 0⟩,
      ⟨some 39, .mv (.tmp 0), none, 0⟩,
      ⟨some 40, .nilchk (.tmp 39), none, 0⟩,
      ⟨some 41, .fld 1 (.tmp 40), none, 0⟩,
      ⟨some 42, .load false 1 (.tmp 41), none, 0⟩,
      ⟨some 43, .idx 1 (.tmp 38) (.tmp 42), none, 0⟩,
      ⟨some 44, .load false 1 (.tmp 43), none, 0⟩,
      ⟨some 45, .conv .i64 (.tmp 44), none, 0⟩,
      ⟨some 46, .bin .add (.tmp 34) (.tmp 45), none, 0⟩,
      ⟨some 5, .mv (.tmp 46), none, 0⟩]) <|
    .ops [
      ⟨some 47, .mv (.tmp 0), none, 0⟩,
      ⟨some 48, .mv (.tmp 0), none, 0⟩,
      ⟨some 49, .nilchk (.tmp 48), none, 0⟩,
      ⟨some 50, .fld 1 (.tmp 49), none, 0⟩,
      ⟨some 51, .load false 1 (.tmp 50), none, 0⟩,
      ⟨some 52, .bin .add (.tmp 51) (.const (.int .i64 1)), none, 0⟩,
      ⟨some 53, .nilchk (.tmp 47), none, 0⟩,
      ⟨some 54, .fld 1 (.tmp 53), none, 0⟩,
      ⟨none, .store 1 (.tmp 54) (.tmp 52), none, 0⟩])
    (.skip)) <|
  .seq (.ops [
    ⟨some 55, .mv (.tmp 5), none, 0⟩,
    ⟨some 56, .mv (.tmp 1), none, 0⟩,
    ⟨some 57, .bin .rem (.tmp 55) (.tmp 56), none, 0⟩,
    ⟨some 4, .mv (.tmp 57), none, 0⟩]) <|
  .keep [4] <|
  .ret⟩

theorem e_spec_l01Next : EntOK Tryd.prog (compD Tryd.prog) k_spec_l01Next i_spec_l01Next.vf :=
  ⟨Tryd.f79, Tryd.f79.body.getD .skip, Tryd.func79, by kernel_rfl, by kernel_rfl, by kernel_rfl, by kernel_rfl, by kernel_rfl⟩

/-- loop.example/g01331/spec.l01Pick -/
def i_spec_l01Pick : FF := ⟨12, [.tmp 4],
  .seq (.ops [
    ⟨some 4, .mv (.const (.int .i64 0)), none, 0⟩]) <|
  .seq (.ops [
    ⟨some 5, .mv (.tmp 1), none, 0⟩,
    ⟨some 6, .mv (.tmp 0), none, 0⟩,
    ⟨some 7, .mv (.tmp 1), none, 0⟩,
    ⟨some 8, .len (.tmp 7), none, 0⟩,
    ⟨some 9, .call k_spec_l01Next [(.tmp 6), (.tmp 8)], none, 0⟩,
    ⟨some 10, .idx 1 (.tmp 5) (.tmp 9), none, 0⟩,
    ⟨some 11, .load false 1 (.tmp 10), none, 0⟩,
    ⟨some 4, .mv (.tmp 11), none, 0⟩]) <|
  .keep [4] <|
  .ret⟩

theorem e_spec_l01Pick : EntOK Tryd.prog (compD Tryd.prog) k_spec_l01Pick i_spec_l01Pick.vf :=
  ⟨Tryd.f80, Tryd.f80.body.getD .skip, Tryd.func80, by kernel_rfl, by kernel_rfl, by kernel_rfl, by kernel_rfl, by kernel_rfl⟩

/-- loop.example/g01331/laws.likeInts -/
def i_laws_likeInts_B1 : FC :=
  .seq (.seq (.ops [
    ⟨some 11, .mv (.tmp 5), none, 0⟩,
    ⟨some 12, .mv (.tmp 0), none, 0⟩,
    ⟨some 13, .len (.tmp 12), none, 0⟩,
    ⟨some 14, .bin .lss (.tmp 11) (.tmp 13), none, 0⟩]) <|
  .cond (.tmp 14)
    (.skip)
    (.keep [] <|
    .exit 0)) <|
  .seq (.block 1 <|
  .seq (.dops [
    ⟨some 17, .mv (.tmp 0), none, 0⟩,
    ⟨some 18, .mv (.tmp 5), none, 0⟩,
    ⟨some 19, .idx 1 (.tmp 17) (.tmp 18), none, 0⟩,
    ⟨some 20, .load false 1 (.tmp 19), none, 0⟩,
    ⟨some 21, .mv (.tmp 1), none, 0⟩,
    ⟨some 22, .mv (.tmp 5), none, 0⟩,
    ⟨some 23, .idx 1 (.tmp 21) (.tmp 22), none, 0⟩,
    ⟨some 24, .load false 1 (.tmp 23), none, 0⟩,
    ⟨some 25, .bin .neq (.tmp 20) (.tmp 24), none, 0⟩]) <|
  .cond (.tmp 25)
    (.seq (.ops [
      ⟨some 4, .mv (.const (.bool false)), none, 0⟩]) <|
    .keep [4] <|
    .ret)
    (.skip)) <|
  .ops [
    ⟨some 15, .mv (.tmp 5), none, 0⟩,
    ⟨some 16, .bin .add (.tmp 15) (.const (.int .i64 1)), none, 0⟩,
    ⟨some 5, .mv (.tmp 16), none, 0⟩]
def i_laws_likeInts : FF := ⟨26, [.tmp 4],
  .seq (.ops [
    ⟨some 4, .mv (.const (.bool false)), none, 0⟩]) <|
  .seq (.seq (.ops [
    ⟨some 6, .mv (.tmp 0), none, 0⟩,
    ⟨some 7, .len (.tmp 6), none, 0⟩,
    ⟨some 8, .mv (.tmp 1), none, 0⟩,
    ⟨some 9, .len (.tmp 8), none, 0⟩,
    ⟨some 10, .bin .neq (.tmp 7) (.tmp 9), none, 0⟩]) <|
  .cond (.tmp 10)
    (.seq (.ops [
      ⟨some 4, .mv (.const (.bool false)), none, 0⟩]) <|
    .keep [4] <|
    .ret)
    (.skip)) <|
  .seq (.seq (.ops [
    ⟨some 5, .mv (.const (.int .i64 0)), none, 0⟩]) <|
  .block 0 <|
  .loop [0, 1, 5] i_laws_likeInts_B1) <|
  .seq (.ops [
    ⟨some 4, .mv (.const (.bool true)), none, 0⟩]) <|
  .keep [4] <|
  .ret⟩

theorem e_laws_likeInts : EntOK Tryd.prog (compD Tryd.prog) k_laws_likeInts i_laws_likeInts.vf :=
  ⟨Tryd.f81, Tryd.f81.body.getD .skip, Tryd.func81, by kernel_rfl, by kernel_rfl, by kernel_rfl, by kernel_rfl, by kernel_rfl⟩

/-- loop.example/g01331/impl.IsGraph -/
def i_impl_IsGraph_B1 : FC :=
  .seq (.ops [
    ⟨some 47, .bin .lss (.tmp 46) (.tmp 45), none, 0⟩]) <|
  .seq (.cond (.tmp 47)
    (.skip)
    (.keep [1, 3, 23, 24, 25] <|
    .exit 2)) <|
  .seq (.block 3 <|
  .seq (.ops [
    ⟨some 48, .mv (.tmp 46), none, 0⟩,
    ⟨some 6, .mv (.tmp 48), none, 0⟩]) <|
  .seq (.dops [
    ⟨some 49, .mv (.tmp 5), none, 0⟩,
    ⟨some 50, .mv (.tmp 6), none, 0⟩,
    ⟨some 51, .bin .shr (.tmp 49) (.tmp 50), none, 0⟩,
    ⟨some 52, .bin .and (.tmp 51) (.const (.int .i64 1)), none, 0⟩,
    ⟨some 53, .fld 1 (.tmp 1), none, 0⟩,
    ⟨some 54, .load false 1 (.tmp 53), none, 0⟩,
    ⟨some 55, .mv (.tmp 6), none, 0⟩,
    ⟨some 56, .idx 1 (.tmp 54) (.tmp 55), none, 0⟩,
    ⟨some 57, .load false 1 (.tmp 56), none, 0⟩,
    ⟨some 58, .mv (.tmp 4), none, 0⟩,
    ⟨some 59, .bin .shr (.tmp 57) (.tmp 58), none, 0⟩,
    ⟨some 60, .bin .and (.tmp 59) (.const (.int .i64 1)), none, 0⟩,
    ⟨some 61, .bin .neq (.tmp 52) (.tmp 60), none, 0⟩]) <|
  .cond (.tmp 61)
    (.seq (.ops [
      ⟨some 2, .mv (.const (.bool false)), none, 0⟩]) <|
    .keep [2] <|
    .ret)
    (.skip)) <|
  .ops [
    ⟨some 62, .bin .add (.tmp 46) (.const (.int .i64 1)), none, 0⟩,
    ⟨some 46, .mv (.tmp 62), none, 0⟩]
def i_impl_IsGraph_B2 : FC :=
  .seq (.ops [
    ⟨some 26, .bin .lss (.tmp 25) (.tmp 24), none, 0⟩]) <|
  .seq (.cond (.tmp 26)
    (.skip)
    (.keep [] <|
    .exit 0)) <|
  .seq (.block 1 <|
  .seq (.ops [
    ⟨some 27, .mv (.tmp 25), none, 0⟩,
    ⟨some 28, .idx 1 (.tmp 23) (.tmp 25), none, 0⟩,
    ⟨some 29, .load false 1 (.tmp 28), none, 0⟩,
    ⟨some 4, .mv (.tmp 27), none, 0⟩,
    ⟨some 5, .mv (.tmp 29), none, 0⟩]) <|
  .seq (.seq (.ops [
    ⟨some 30, .mv (.tmp 5), none, 0⟩,
    ⟨some 31, .bin .lss (.tmp 30) (.const (.int .i64 0)), none, 0⟩,
    ⟨some 32, .mv (.tmp 31), none, 0⟩,
    ⟨some 33, .mv (.tmp 5), some (32, false), 0⟩,
    ⟨some 34, .mv (.tmp 3), some (32, false), 0⟩,
    ⟨some 35, .bin .shl (.const (.int .i64 1)) (.tmp 34), some (32, false), 0⟩,
    ⟨some 36, .bin .geq (.tmp 33) (.tmp 35), some (32, false), 0⟩,
    ⟨some 37, .pick (.tmp 32) (.const (.bool true)) (.tmp 36), none, 0⟩,
    ⟨some 38, .mv (.tmp 37), none, 0⟩,
    ⟨some 39, .mv (.tmp 5), some (38, false), 0⟩,
    ⟨some 40, .mv (.tmp 4), some (38, false), 0⟩,
    ⟨some 41, .bin .shr (.tmp 39) (.tmp 40), some (38, false), 0⟩,
    ⟨some 42, .bin .and (.tmp 41) (.const (.int .i64 1)), some (38, false), 0⟩,
    ⟨some 43, .bin .eql (.tmp 42) (.const (.int .i64 1)), some (38, false), 0⟩,
    ⟨some 44, .pick (.tmp 38) (.const (.bool true)) (.tmp 43), none, 0⟩]) <|
  .cond (.tmp 44)
    (.seq (.ops [
      ⟨some 2, .mv (.const (.bool false)), none, 0⟩]) <|
    .keep [2] <|
    .ret)
    (.skip)) <|
  .seq (.ops [
    ⟨some 45, .mv (.tmp 3), none, 0⟩,
    ⟨some 46, .mv (.const (.int .i64 0)), none, 0⟩]) <|
  .block 2 <|
  .loop [1, 3, 4, 5, 23, 24, 25, 45, 46] i_impl_IsGraph_B1) <|
  .ops [
    ⟨some 63, .bin .add (.tmp 25) (.const (.int .i64 1)), none, 0⟩,
    ⟨some 25, .mv (.tmp 63), none, 0⟩]
def i_impl_IsGraph : FF := ⟨64, [.tmp 2],
  .seq (.ops [
    ⟨some 1, .box 2 (.tmp 0), none, 0⟩,
    ⟨some 2, .mv (.const (.bool false)), none, 0⟩]) <|
  .seq (.ops [
    ⟨some 7, .fld 0 (.tmp 1), none, 0⟩,
    ⟨some 8, .load false 1 (.tmp 7), none, 0⟩,
    ⟨some 3, .mv (.tmp 8), none, 0⟩]) <|
  .seq (.seq (.ops [
    ⟨some 9, .mv (.tmp 3), none, 0⟩,
    ⟨some 10, .bin .lss (.tmp 9) (.const (.int .i64 1)), none, 0⟩,
    ⟨some 11, .mv (.tmp 10), none, 0⟩,
    ⟨some 12, .mv (.tmp 3), some (11, false), 0⟩,
    ⟨some 13, .bin .gtr (.tmp 12) (.const (.int .i64 62)), some (11, false), 0⟩,
    ⟨some 14, .pick (.tmp 11) (.const (.bool true)) (.tmp 13), none, 0⟩,
    ⟨some 15, .mv (.tmp 14), none, 0⟩,
    ⟨some 16, .fld 1 (.tmp 1), some (15, false), 0⟩,
    ⟨some 17, .load false 1 (.tmp 16), some (15, false), 0⟩,
    ⟨some 18, .len (.tmp 17), some (15, false), 0⟩,
    ⟨some 19, .mv (.tmp 3), some (15, false), 0⟩,
    ⟨some 20, .bin .neq (.tmp 18) (.tmp 19), some (15, false), 0⟩,
    ⟨some 21, .pick (.tmp 15) (.const (.bool true)) (.tmp 20), none, 0⟩]) <|
  .cond (.tmp 21)
    (.seq (.ops [
      ⟨some 2, .mv (.const (.bool false)), none, 0⟩]) <|
    .keep [2] <|
    .ret)
    (.skip)) <|
  .seq (.seq (.ops [
    ⟨some 22, .fld 1 (.tmp 1), none, 0⟩,
    ⟨some 23, .load false 1 (.tmp 22), none, 0⟩,
    ⟨some 24, .len (.tmp 23), none, 0⟩,
    ⟨some 25, .mv (.const (.int .i64 0)), none, 0⟩]) <|
  .block 0 <|
  .loop [1, 3, 23, 24, 25] i_impl_IsGraph_B2) <|
  .seq (.ops [
    ⟨some 2, .mv (.const (.bool true)), none, 0⟩]) <|
  .keep [2] <|
  .ret⟩

theorem e_impl_IsGraph : EntOK Tryd.prog (compD Tryd.prog) k_impl_IsGraph i_impl_IsGraph.vf :=
  ⟨Tryd.f82, Tryd.f82.body.getD .skip, Tryd.func82, by kernel_rfl, by kernel_rfl, by kernel_rfl, by kernel_rfl, by kernel_rfl⟩

/-- (loop.example/g01331/impl.Graph).regular -/
def i_impl_Graph_regular : FF := ⟨14, [.tmp 2],
  .seq (.ops [
    ⟨some 1, .box 2 (.tmp 0), none, 0⟩,
    ⟨some 2, .mv (.const (.int .i64 0)), none, 0⟩]) <|
  .seq (.ops [
    ⟨some 4, .load true 2 (.tmp 1), none, 0⟩,
    ⟨some 5, .call k_impl_Graph_degrees [(.tmp 4)], none, 0⟩,
    ⟨some 3, .mv (.tmp 5), none, 0⟩]) <|
  .seq (.seq (.ops [
    ⟨some 6, .mv (.tmp 3), none, 0⟩,
    ⟨some 7, .call k_slices_Min_int64_int64 [(.tmp 6)], none, 0⟩,
    ⟨some 8, .mv (.tmp 3), none, 0⟩,
    ⟨some 9, .call k_slices_Max_int64_int64 [(.tmp 8)], none, 0⟩,
    ⟨some 10, .bin .neq (.tmp 7) (.tmp 9), none, 0⟩]) <|
  .cond (.tmp 10)
    (.seq (.ops [
      ⟨some 2, .mv (.const (.int .i64 (-1))), none, 0⟩]) <|
    .keep [2] <|
    .ret)
    (.skip)) <|
  .seq (.ops [
    ⟨some 11, .mv (.tmp 3), none, 0⟩,
    ⟨some 12, .idx 1 (.tmp 11) (.const (.int .i64 0)), none, 0⟩,
    ⟨some 13, .load false 1 (.tmp 12), none, 0⟩,
    ⟨some 2, .mv (.tmp 13), none, 0⟩]) <|
  .keep [2] <|
  .ret⟩

theorem e_impl_Graph_regular : EntOK Tryd.prog (compD Tryd.prog) k_impl_Graph_regular i_impl_Graph_regular.vf :=
  ⟨Tryd.f83, Tryd.f83.body.getD .skip, Tryd.func83, by kernel_rfl, by kernel_rfl, by kernel_rfl, by kernel_rfl, by kernel_rfl⟩

/-- loop.example/g01331/impl.bothCode -/
def i_impl_bothCode : FF := ⟨16, [.tmp 6],
  .seq (.ops [
    ⟨some 3, .box 2 (.tmp 0), none, 0⟩,
    ⟨some 6, .mv (.const (.int .i64 0)), none, 0⟩]) <|
  .seq (.block 0 <|
  .seq (.ops [
    ⟨some 8, .load true 2 (.tmp 3), none, 0⟩,
    ⟨some 9, .call k_impl_IsGraph [(.tmp 8)], none, 0⟩,
    ⟨some 10, .un .not (.tmp 9), none, 0⟩,
    ⟨some 7, .mv (.tmp 10), none, 0⟩]) <|
  .cond (.tmp 7)
    (.seq (.ops [
      ⟨some 6, .mv (.const (.int .i64 1)), none, 0⟩]) <|
    .keep [6] <|
    .ret)
    (.seq (.ops [
      ⟨some 12, .mv (.tmp 1), none, 0⟩,
      ⟨some 13, .mv (.tmp 2), none, 0⟩,
      ⟨some 14, .call k_impl_isBoth [(.tmp 12), (.tmp 13)], none, 0⟩,
      ⟨some 15, .un .not (.tmp 14), none, 0⟩,
      ⟨some 11, .mv (.tmp 15), none, 0⟩]) <|
    .cond (.tmp 11)
      (.seq (.ops [
        ⟨some 6, .mv (.const (.int .i64 2)), none, 0⟩]) <|
      .keep [6] <|
      .ret)
      (.skip))) <|
  .seq (.ops [
    ⟨some 6, .mv (.const (.int .i64 0)), none, 0⟩]) <|
  .keep [6] <|
  .ret⟩

theorem e_impl_bothCode : EntOK Tryd.prog (compD Tryd.prog) k_impl_bothCode i_impl_bothCode.vf :=
  ⟨Tryd.f84, Tryd.f84.body.getD .skip, Tryd.func84, by kernel_rfl, by kernel_rfl, by kernel_rfl, by kernel_rfl, by kernel_rfl⟩

/-- (loop.example/g01331/impl.Graph).fits -/
def i_impl_Graph_fits : FF := ⟨24, [.tmp 6],
  .seq (.ops [
    ⟨some 3, .box 2 (.tmp 0), none, 0⟩,
    ⟨some 6, .mv (.const (.bool false)), none, 0⟩]) <|
  .seq (.ops [
    ⟨some 8, .load true 2 (.tmp 3), none, 0⟩,
    ⟨some 9, .call k_impl_Graph_girth [(.tmp 8)], none, 0⟩,
    ⟨some 7, .mv (.tmp 9), none, 0⟩]) <|
  .seq (.ops [
    ⟨some 10, .load true 2 (.tmp 3), none, 0⟩,
    ⟨some 11, .call k_impl_Graph_degrees [(.tmp 10)], none, 0⟩,
    ⟨some 12, .call k_slices_Max_int64_int64 [(.tmp 11)], none, 0⟩,
    ⟨some 13, .mv (.tmp 1), none, 0⟩,
    ⟨some 14, .bin .leq (.tmp 12) (.tmp 13), none, 0⟩,
    ⟨some 15, .mv (.tmp 14), none, 0⟩,
    ⟨some 16, .mv (.tmp 7), some (15, true), 0⟩,
    ⟨some 17, .bin .eql (.tmp 16) (.const (.int .i64 0)), some (15, true), 0⟩,
    ⟨some 18, .mv (.tmp 17), some (15, true), 0⟩,
    ⟨some 19, .mv (.tmp 7), some (18, false), 0⟩,
    ⟨some 20, .mv (.tmp 2), some (18, false), 0⟩,
    ⟨some 21, .bin .geq (.tmp 19) (.tmp 20), some (18, false), 0⟩,
    ⟨some 22, .pick (.tmp 18) (.const (.bool true)) (.tmp 21), some (15, true), 0⟩,
    ⟨some 23, .pick (.tmp 15) (.tmp 22) (.const (.bool false)), none, 0⟩,
    ⟨some 6, .mv (.tmp 23), none, 0⟩]) <|
  .keep [6] <|
  .ret⟩

theorem e_impl_Graph_fits : EntOK Tryd.prog (compD Tryd.prog) k_impl_Graph_fits i_impl_Graph_fits.vf :=
  ⟨Tryd.f85, Tryd.f85.body.getD .skip, Tryd.func85, by kernel_rfl, by kernel_rfl, by kernel_rfl, by kernel_rfl, by kernel_rfl⟩

/-- loop.example/g01331/spec.l01Put -/
def i_spec_l01Put : FF := ⟨32, [],
  .seq (.ops [
    ⟨some 3, .box 2 (.tmp 0), none, 0⟩]) <|
  .seq (.dops [
    ⟨some 6, .fld 1 (.tmp 3), none, 0⟩,
    ⟨some 7, .load false 1 (.tmp 6), none, 0⟩,
    ⟨some 8, .mv (.tmp 1), none, 0⟩,
    ⟨some 9, .fld 1 (.tmp 3), none, 0⟩,
    ⟨some 10, .load false 1 (.tmp 9), none, 0⟩,
    ⟨some 11, .mv (.tmp 1), none, 0⟩,
    ⟨some 12, .idx 1 (.tmp 10) (.tmp 11), none, 0⟩,
    ⟨some 13, .load false 1 (.tmp 12), none, 0⟩,
    ⟨some 14, .mv (.tmp 2), none, 0⟩,
    ⟨some 15, .conv .u64 (.tmp 14), none, 0⟩,
    ⟨some 16, .bin .shl (.const (.int .i64 1)) (.tmp 15), none, 0⟩,
    ⟨some 17, .bin .or (.tmp 13) (.tmp 16), none, 0⟩,
    ⟨some 18, .idx 1 (.tmp 7) (.tmp 8), none, 0⟩,
    ⟨none, .store 1 (.tmp 18) (.tmp 17), none, 0⟩]) <|
  .dops [
    ⟨some 19, .fld 1 (.tmp 3), none, 0⟩,
    ⟨some 20, .load false 1 (.tmp 19), none, 0⟩,
    ⟨some 21, .mv (.tmp 2), none, 0⟩,
    ⟨some 22, .fld 1 (.tmp 3), none, 0⟩,
    ⟨some 23, .load false 1 (.tmp 22), none, 0⟩,
    ⟨some 24, .mv (.tmp 2), none, 0⟩,
    ⟨some 25, .idx 1 (.tmp 23) (.tmp 24), none, 0⟩,
    ⟨some 26, .load false 1 (.tmp 25), none, 0⟩,
    ⟨some 27, .mv (.tmp 1), none, 0⟩,
    ⟨some 28, .conv .u64 (.tmp 27), none, 0⟩,
    ⟨some 29, .bin .shl (.const (.int .i64 1)) (.tmp 28), none, 0⟩,
    ⟨some 30, .bin .or (.tmp 26) (.tmp 29), none, 0⟩,
    ⟨some 31, .idx 1 (.tmp 20) (.tmp 21), none, 0⟩,
    ⟨none, .store 1 (.tmp 31) (.tmp 30), none, 0⟩]⟩

theorem e_spec_l01Put : EntOK Tryd.prog (compD Tryd.prog) k_spec_l01Put i_spec_l01Put.vf :=
  ⟨Tryd.f87, Tryd.f87.body.getD .skip, Tryd.func87, by kernel_rfl, by kernel_rfl, by kernel_rfl, by kernel_rfl, by kernel_rfl⟩

/-- loop.example/g01331/impl.own -/
def i_impl_own : FF := ⟨9, [.cell 2 true 2],
  .seq (.ops [
    ⟨some 1, .box 2 (.tmp 0), none, 0⟩,
    ⟨some 2, .alloc [.int .i64 0, .slice none 0 0], none, 0⟩]) <|
  .seq (.dops [
    ⟨some 5, .fld 1 (.tmp 1), none, 0⟩,
    ⟨some 6, .load false 1 (.tmp 5), none, 0⟩,
    ⟨some 7, .call k_slices_Clone_int64_int64 [(.tmp 6)], none, 0⟩,
    ⟨some 3, .fld 0 (.tmp 1), none, 1⟩,
    ⟨some 4, .load false 1 (.tmp 3), none, 1⟩,
    ⟨some 8, .build [.int .i64 0, .slice none 0 0] [(0, 1, (.tmp 4)), (1, 1, (.tmp 7))], none, 0⟩,
    ⟨none, .store 2 (.tmp 2) (.tmp 8), none, 0⟩]) <|
  .keep [2] <|
  .ret⟩

theorem e_impl_own : EntOK Tryd.prog (compD Tryd.prog) k_impl_own i_impl_own.vf :=
  ⟨Tryd.f88, Tryd.f88.body.getD .skip, Tryd.func88, by kernel_rfl, by kernel_rfl, by kernel_rfl, by kernel_rfl, by kernel_rfl⟩

/-- (loop.example/g01331/impl.Graph).mayJoin -/
def i_impl_Graph_mayJoin : FF := ⟨44, [.tmp 10],
  .seq (.ops [
    ⟨some 5, .box 2 (.tmp 0), none, 0⟩,
    ⟨some 10, .mv (.const (.bool false)), none, 0⟩]) <|
  .seq (.seq (.ops [
    ⟨some 12, .load true 2 (.tmp 5), none, 0⟩,
    ⟨some 13, .mv (.tmp 1), none, 0⟩,
    ⟨some 14, .mv (.tmp 2), none, 0⟩,
    ⟨some 15, .call k_impl_Graph_has [(.tmp 12), (.tmp 13), (.tmp 14)], none, 0⟩,
    ⟨some 16, .mv (.tmp 15), none, 0⟩,
    ⟨some 17, .load true 2 (.tmp 5), some (16, false), 0⟩,
    ⟨some 18, .mv (.tmp 1), some (16, false), 0⟩,
    ⟨some 19, .call k_impl_Graph_degree [(.tmp 17), (.tmp 18)], some (16, false), 0⟩,
    ⟨some 20, .mv (.tmp 3), some (16, false), 0⟩,
    ⟨some 21, .bin .geq (.tmp 19) (.tmp 20), some (16, false), 0⟩,
    ⟨some 22, .pick (.tmp 16) (.const (.bool true)) (.tmp 21), none, 0⟩,
    ⟨some 23, .mv (.tmp 22), none, 0⟩,
    ⟨some 24, .load true 2 (.tmp 5), some (23, false), 0⟩,
    ⟨some 25, .mv (.tmp 2), some (23, false), 0⟩,
    ⟨some 26, .call k_impl_Graph_degree [(.tmp 24), (.tmp 25)], some (23, false), 0⟩,
    ⟨some 27, .mv (.tmp 3), some (23, false), 0⟩,
    ⟨some 28, .bin .geq (.tmp 26) (.tmp 27), some (23, false), 0⟩,
    ⟨some 29, .pick (.tmp 23) (.const (.bool true)) (.tmp 28), none, 0⟩]) <|
  .cond (.tmp 29)
    (.seq (.ops [
      ⟨some 10, .mv (.const (.bool false)), none, 0⟩]) <|
    .keep [10] <|
    .ret)
    (.skip)) <|
  .seq (.ops [
    ⟨some 30, .load true 2 (.tmp 5), none, 0⟩,
    ⟨some 31, .mv (.tmp 1), none, 0⟩,
    ⟨some 32, .call k_impl_Graph_distances [(.tmp 30), (.tmp 31)], none, 0⟩,
    ⟨some 33, .mv (.tmp 2), none, 0⟩,
    ⟨some 34, .idx 1 (.tmp 32) (.tmp 33), none, 0⟩,
    ⟨some 35, .load false 1 (.tmp 34), none, 0⟩,
    ⟨some 11, .mv (.tmp 35), none, 0⟩]) <|
  .seq (.ops [
    ⟨some 36, .mv (.tmp 11), none, 0⟩,
    ⟨some 37, .bin .lss (.tmp 36) (.const (.int .i64 0)), none, 0⟩,
    ⟨some 38, .mv (.tmp 37), none, 0⟩,
    ⟨some 39, .mv (.tmp 11), some (38, false), 0⟩,
    ⟨some 40, .bin .add (.tmp 39) (.const (.int .i64 1)), some (38, false), 0⟩,
    ⟨some 41, .mv (.tmp 4), some (38, false), 0⟩,
    ⟨some 42, .bin .geq (.tmp 40) (.tmp 41), some (38, false), 0⟩,
    ⟨some 43, .pick (.tmp 38) (.const (.bool true)) (.tmp 42), none, 0⟩,
    ⟨some 10, .mv (.tmp 43), none, 0⟩]) <|
  .keep [10] <|
  .ret⟩

theorem e_impl_Graph_mayJoin : EntOK Tryd.prog (compD Tryd.prog) k_impl_Graph_mayJoin i_impl_Graph_mayJoin.vf :=
  ⟨Tryd.f89, Tryd.f89.body.getD .skip, Tryd.func89, by kernel_rfl, by kernel_rfl, by kernel_rfl, by kernel_rfl, by kernel_rfl⟩

/-- (loop.example/g01331/impl.Graph).put -/
def i_impl_Graph_put : FF := ⟨27, [],
  .seq (.ops [
    ⟨some 3, .box 2 (.tmp 0), none, 0⟩]) <|
  .seq (.ops [
    ⟨some 6, .mv (.tmp 1), none, 0⟩,
    ⟨some 7, .mv (.tmp 2), none, 0⟩,
    ⟨some 8, .bin .neq (.tmp 6) (.tmp 7), none, 0⟩]) <|
  .cond (.tmp 8)
    (.seq (.dops [
      ⟨some 9, .fld 1 (.tmp 3), none, 0⟩,
      ⟨some 10, .load false 1 (.tmp 9), none, 0⟩,
      ⟨some 11, .mv (.tmp 1), none, 0⟩,
      ⟨some 12, .idx 1 (.tmp 10) (.tmp 11), none, 0⟩,
      ⟨some 13, .load false 1 (.tmp 12), none, 0⟩,
      ⟨some 14, .mv (.tmp 2), none, 0⟩,
      ⟨some 15, .bin .shl (.const (.int .i64 1)) (.tmp 14), none, 0⟩,
      ⟨some 16, .bin .or (.tmp 13) (.tmp 15), none, 0⟩,
      ⟨some 17, .idx 1 (.tmp 10) (.tmp 11), none, 0⟩,
      ⟨none, .store 1 (.tmp 17) (.tmp 16), none, 0⟩]) <|
    .dops [
      ⟨some 18, .fld 1 (.tmp 3), none, 0⟩,
      ⟨some 19, .load false 1 (.tmp 18), none, 0⟩,
      ⟨some 20, .mv (.tmp 2), none, 0⟩,
      ⟨some 21, .idx 1 (.tmp 19) (.tmp 20), none, 0⟩,
      ⟨some 22, .load false 1 (.tmp 21), none, 0⟩,
      ⟨some 23, .mv (.tmp 1), none, 0⟩,
      ⟨some 24, .bin .shl (.const (.int .i64 1)) (.tmp 23), none, 0⟩,
      ⟨some 25, .bin .or (.tmp 22) (.tmp 24), none, 0⟩,
      ⟨some 26, .idx 1 (.tmp 19) (.tmp 20), none, 0⟩,
      ⟨none, .store 1 (.tmp 26) (.tmp 25), none, 0⟩])
    (.skip)⟩

theorem e_impl_Graph_put : EntOK Tryd.prog (compD Tryd.prog) k_impl_Graph_put i_impl_Graph_put.vf :=
  ⟨Tryd.f90, Tryd.f90.body.getD .skip, Tryd.func90, by kernel_rfl, by kernel_rfl, by kernel_rfl, by kernel_rfl, by kernel_rfl⟩

/-- loop.example/g01331/spec.l07Search -/
def i_spec_l07Search : FF := ⟨97, [.tmp 10],
  .seq (.ops [
    ⟨some 5, .box 2 (.tmp 0), none, 0⟩,
    ⟨some 10, .mv (.const (.bool false)), none, 0⟩]) <|
  .seq (.seq (.ops [
    ⟨some 11, .mv (.tmp 4), none, 0⟩,
    ⟨some 12, .fld 0 (.tmp 5), none, 0⟩,
    ⟨some 13, .load false 1 (.tmp 12), none, 0⟩,
    ⟨some 14, .bin .eql (.tmp 11) (.tmp 13), none, 0⟩]) <|
  .cond (.tmp 14)
    (.seq (.seq (.ops [
      ⟨some 15, .load true 2 (.tmp 5), none, 0⟩,
      ⟨some 16, .mv (.tmp 3), none, 0⟩,
      ⟨some 17, .call k_spec_l01Degree [(.tmp 15), (.tmp 16)], none, 0⟩,
      ⟨some 18, .mv (.tmp 1), none, 0⟩,
      ⟨some 19, .bin .neq (.tmp 17) (.tmp 18), none, 0⟩]) <|
    .cond (.tmp 19)
      (.seq (.ops [
        ⟨some 10, .mv (.const (.bool false)), none, 0⟩]) <|
      .keep [10] <|
      .ret)
      (.skip)) <|
    .seq (.ops [
      ⟨some 20, .mv (.tmp 3), none, 0⟩,
      ⟨some 21, .bin .add (.tmp 20) (.const (.int .i64 1)), none, 0⟩,
      ⟨some 3, .mv (.tmp 21), none, 0⟩]) <|
    .ops [
      ⟨some 22, .mv (.tmp 3), none, 0⟩,
      ⟨some 23, .bin .add (.tmp 22) (.const (.int .i64 1)), none, 0⟩,
      ⟨some 4, .mv (.tmp 23), none, 0⟩])
    (.skip)) <|
  .seq (.seq (.ops [
    ⟨some 24, .mv (.tmp 3), none, 0⟩,
    ⟨some 25, .fld 0 (.tmp 5), none, 0⟩,
    ⟨some 26, .load false 1 (.tmp 25), none, 0⟩,
    ⟨some 27, .bin .eql (.tmp 24) (.tmp 26), none, 0⟩]) <|
  .cond (.tmp 27)
    (.seq (.ops [
      ⟨some 10, .mv (.const (.bool true)), none, 0⟩]) <|
    .keep [10] <|
    .ret)
    (.skip)) <|
  .seq (.seq (.ops [
    ⟨some 28, .mv (.tmp 4), none, 0⟩,
    ⟨some 29, .fld 0 (.tmp 5), none, 0⟩,
    ⟨some 30, .load false 1 (.tmp 29), none, 0⟩,
    ⟨some 31, .bin .eql (.tmp 28) (.tmp 30), none, 0⟩]) <|
  .cond (.tmp 31)
    (.seq (.ops [
      ⟨some 32, .load true 2 (.tmp 5), none, 0⟩,
      ⟨some 33, .mv (.tmp 3), none, 0⟩,
      ⟨some 34, .call k_spec_l01Degree [(.tmp 32), (.tmp 33)], none, 0⟩,
      ⟨some 35, .mv (.tmp 1), none, 0⟩,
      ⟨some 36, .bin .eql (.tmp 34) (.tmp 35), none, 0⟩,
      ⟨some 10, .mv (.tmp 36), none, 0⟩]) <|
    .keep [10] <|
    .ret)
    (.skip)) <|
  .seq (.seq (.dops [
    ⟨some 37, .load true 2 (.tmp 5), none, 0⟩,
    ⟨some 38, .mv (.tmp 3), none, 0⟩,
    ⟨some 39, .call k_spec_l01Degree [(.tmp 37), (.tmp 38)], none, 0⟩,
    ⟨some 40, .fld 0 (.tmp 5), none, 1⟩,
    ⟨some 41, .load false 1 (.tmp 40), none, 1⟩,
    ⟨some 42, .bin .add (.tmp 39) (.tmp 41), none, 0⟩,
    ⟨some 43, .mv (.tmp 4), none, 1⟩,
    ⟨some 44, .bin .sub (.tmp 42) (.tmp 43), none, 0⟩,
    ⟨some 45, .mv (.tmp 1), none, 1⟩,
    ⟨some 46, .bin .lss (.tmp 44) (.tmp 45), none, 0⟩]) <|
  .cond (.tmp 46)
    (.seq (.ops [
      ⟨some 10, .mv (.const (.bool false)), none, 0⟩]) <|
    .keep [10] <|
    .ret)
    (.skip)) <|
  .seq (.seq (.ops [
    ⟨some 47, .load true 2 (.tmp 5), none, 0⟩,
    ⟨some 48, .mv (.tmp 1), none, 0⟩,
    ⟨some 49, .mv (.tmp 2), none, 0⟩,
    ⟨some 50, .mv (.tmp 3), none, 0⟩,
    ⟨some 51, .mv (.tmp 4), none, 0⟩,
    ⟨some 52, .call k_spec_l07May [(.tmp 47), (.tmp 48), (.tmp 49), (.tmp 50), (.tmp 51)], none, 0⟩]) <|
  .cond (.tmp 52)
    (.seq (.ops [
      ⟨some 53, .load true 2 (.tmp 5), none, 0⟩,
      ⟨some 54, .mv (.tmp 3), none, 0⟩,
      ⟨some 55, .mv (.tmp 4), none, 0⟩,
      ⟨some 56, .call k_spec_l01Put [(.tmp 53), (.tmp 54), (.tmp 55)], none, 0⟩]) <|
    .seq (.seq (.ops [
      ⟨some 57, .load true 2 (.tmp 5), none, 0⟩,
      ⟨some 58, .mv (.tmp 1), none, 0⟩,
      ⟨some 59, .mv (.tmp 2), none, 0⟩,
      ⟨some 60, .mv (.tmp 3), none, 0⟩,
      ⟨some 61, .mv (.tmp 4), none, 0⟩,
      ⟨some 62, .bin .add (.tmp 61) (.const (.int .i64 1)), none, 0⟩,
      ⟨some 63, .call k_spec_l07Search [(.tmp 57), (.tmp 58), (.tmp 59), (.tmp 60), (.tmp 62)], none, 0⟩]) <|
    .cond (.tmp 63)
      (.seq (.ops [
        ⟨some 10, .mv (.const (.bool true)), none, 0⟩]) <|
      .keep [10] <|
      .ret)
      (.skip)) <|
    .seq (.dops [
      ⟨some 64, .fld 1 (.tmp 5), none, 0⟩,
      ⟨some 65, .load false 1 (.tmp 64), none, 0⟩,
      ⟨some 66, .mv (.tmp 3), none, 0⟩,
      ⟨some 67, .fld 1 (.tmp 5), none, 0⟩,
      ⟨some 68, .load false 1 (.tmp 67), none, 0⟩,
      ⟨some 69, .mv (.tmp 3), none, 0⟩,
      ⟨some 70, .idx 1 (.tmp 68) (.tmp 69), none, 0⟩,
      ⟨some 71, .load false 1 (.tmp 70), none, 0⟩,
      ⟨some 72, .mv (.tmp 4), none, 0⟩,
      ⟨some 73, .conv .u64 (.tmp 72), none, 0⟩,
      ⟨some 74, .bin .shl (.const (.int .i64 1)) (.tmp 73), none, 0⟩,
      ⟨some 75, .bin .sub (.tmp 71) (.tmp 74), none, 0⟩,
      ⟨some 76, .idx 1 (.tmp 65) (.tmp 66), none, 0⟩,
      ⟨none, .store 1 (.tmp 76) (.tmp 75), none, 0⟩]) <|
    .dops [
      ⟨some 77, .fld 1 (.tmp 5), none, 0⟩,
      ⟨some 78, .load false 1 (.tmp 77), none, 0⟩,
      ⟨some 79, .mv (.tmp 4), none, 0⟩,
      ⟨some 80, .fld 1 (.tmp 5), none, 0⟩,
      ⟨some 81, .load false 1 (.tmp 80), none, 0⟩,
      ⟨some 82, .mv (.tmp 4), none, 0⟩,
      ⟨some 83, .idx 1 (.tmp 81) (.tmp 82), none, 0⟩,
      ⟨some 84, .load false 1 (.tmp 83), none, 0⟩,
      ⟨some 85, .mv (.tmp 3), none, 0⟩,
      ⟨some 86, .conv .u64 (.tmp 85), none, 0⟩,
      ⟨some 87, .bin .shl (.const (.int .i64 1)) (.tmp 86), none, 0⟩,
      ⟨some 88, .bin .sub (.tmp 84) (.tmp 87), none, 0⟩,
      ⟨some 89, .idx 1 (.tmp 78) (.tmp 79), none, 0⟩,
      ⟨none, .store 1 (.tmp 89) (.tmp 88), none, 0⟩])
    (.skip)) <|
  .seq (.ops [
    ⟨some 90, .load true 2 (.tmp 5), none, 0⟩,
    ⟨some 91, .mv (.tmp 1), none, 0⟩,
    ⟨some 92, .mv (.tmp 2), none, 0⟩,
    ⟨some 93, .mv (.tmp 3), none, 0⟩,
    ⟨some 94, .mv (.tmp 4), none, 0⟩,
    ⟨some 95, .bin .add (.tmp 94) (.const (.int .i64 1)), none, 0⟩,
    ⟨some 96, .call k_spec_l07Search [(.tmp 90), (.tmp 91), (.tmp 92), (.tmp 93), (.tmp 95)], none, 0⟩,
    ⟨some 10, .mv (.tmp 96), none, 0⟩]) <|
  .keep [10] <|
  .ret⟩

theorem e_spec_l07Search : EntOK Tryd.prog (compD Tryd.prog) k_spec_l07Search i_spec_l07Search.vf :=
  ⟨Tryd.f91, Tryd.f91.body.getD .skip, Tryd.func91, by kernel_rfl, by kernel_rfl, by kernel_rfl, by kernel_rfl, by kernel_rfl⟩

/-- loop.example/g01331/impl.girthBound -/
def i_impl_girthBound : FF := ⟨23, [.tmp 4],
  .seq (.ops [
    ⟨some 4, .mv (.const (.int .i64 0)), none, 0⟩]) <|
  .seq (.seq (.ops [
    ⟨some 5, .mv (.tmp 1), none, 0⟩,
    ⟨some 6, .bin .rem (.tmp 5) (.const (.int .i64 2)), none, 0⟩,
    ⟨some 7, .bin .eql (.tmp 6) (.const (.int .i64 1)), none, 0⟩]) <|
  .cond (.tmp 7)
    (.seq (.ops [
      ⟨some 8, .mv (.tmp 0), none, 0⟩,
      ⟨some 9, .mv (.tmp 0), none, 0⟩,
      ⟨some 10, .bin .sub (.tmp 9) (.const (.int .i64 1)), none, 0⟩,
      ⟨some 11, .mv (.tmp 1), none, 0⟩,
      ⟨some 12, .bin .sub (.tmp 11) (.const (.int .i64 1)), none, 0⟩,
      ⟨some 13, .bin .quo (.tmp 12) (.const (.int .i64 2)), none, 0⟩,
      ⟨some 14, .call k_impl_powers [(.tmp 10), (.tmp 13)], none, 0⟩,
      ⟨some 15, .bin .mul (.tmp 8) (.tmp 14), none, 0⟩,
      ⟨some 16, .bin .add (.const (.int .i64 1)) (.tmp 15), none, 0⟩,
      ⟨some 4, .mv (.tmp 16), none, 0⟩]) <|
    .keep [4] <|
    .ret)
    (.skip)) <|
  .seq (.ops [
    ⟨some 17, .mv (.tmp 0), none, 0⟩,
    ⟨some 18, .bin .sub (.tmp 17) (.const (.int .i64 1)), none, 0⟩,
    ⟨some 19, .mv (.tmp 1), none, 0⟩,
    ⟨some 20, .bin .quo (.tmp 19) (.const (.int .i64 2)), none, 0⟩,
    ⟨some 21, .call k_impl_powers [(.tmp 18), (.tmp 20)], none, 0⟩,
    ⟨some 22, .bin .mul (.const (.int .i64 2)) (.tmp 21), none, 0⟩,
    ⟨some 4, .mv (.tmp 22), none, 0⟩]) <|
  .keep [4] <|
  .ret⟩

theorem e_impl_girthBound : EntOK Tryd.prog (compD Tryd.prog) k_impl_girthBound i_impl_girthBound.vf :=
  ⟨Tryd.f92, Tryd.f92.body.getD .skip, Tryd.func92, by kernel_rfl, by kernel_rfl, by kernel_rfl, by kernel_rfl, by kernel_rfl⟩

/-- loop.example/g01331/impl.firstRegular$1 -/
def i_impl_firstRegular_1 : FF := ⟨62, [.tmp 9],
  .seq (.ops [
    ⟨some 9, .mv (.const (.bool false)), none, 0⟩]) <|
  .seq (.seq (.ops [
    ⟨some 10, .mv (.tmp 1), none, 0⟩,
    ⟨some 11, .load false 1 (.tmp 2), none, 0⟩,
    ⟨some 12, .bin .eql (.tmp 10) (.tmp 11), none, 0⟩]) <|
  .cond (.tmp 12)
    (.seq (.seq (.dops [
      ⟨some 13, .load true 2 (.tmp 3), none, 0⟩,
      ⟨some 14, .mv (.tmp 0), none, 0⟩,
      ⟨some 15, .call k_impl_Graph_degree [(.tmp 13), (.tmp 14)], none, 0⟩,
      ⟨some 16, .load false 1 (.tmp 4), none, 1⟩,
      ⟨some 17, .bin .neq (.tmp 15) (.tmp 16), none, 0⟩]) <|
    .cond (.tmp 17)
      (.seq (.ops [
        ⟨some 9, .mv (.const (.bool false)), none, 0⟩]) <|
      .keep [9] <|
      .ret)
      (.skip)) <|
    .seq (.ops [
      ⟨some 18, .mv (.tmp 0), none, 0⟩,
      ⟨some 19, .bin .add (.tmp 18) (.const (.int .i64 1)), none, 0⟩,
      ⟨some 0, .mv (.tmp 19), none, 0⟩]) <|
    .seq (.ops [
      ⟨some 20, .mv (.tmp 0), none, 0⟩,
      ⟨some 21, .bin .add (.tmp 20) (.const (.int .i64 1)), none, 0⟩,
      ⟨some 1, .mv (.tmp 21), none, 0⟩]) <|
    .seq (.seq (.ops [
      ⟨some 22, .mv (.tmp 0), none, 0⟩,
      ⟨some 23, .load false 1 (.tmp 2), none, 0⟩,
      ⟨some 24, .bin .eql (.tmp 22) (.tmp 23), none, 0⟩]) <|
    .cond (.tmp 24)
      (.seq (.ops [
        ⟨some 9, .mv (.const (.bool true)), none, 0⟩]) <|
      .keep [9] <|
      .ret)
      (.skip)) <|
    .seq (.ops [
      ⟨some 25, .load false 1 (.tmp 5), none, 0⟩,
      ⟨some 26, .mv (.tmp 0), none, 0⟩,
      ⟨some 27, .mv (.tmp 1), none, 0⟩,
      ⟨some 28, .callv (.tmp 25) [(.tmp 26), (.tmp 27)], none, 0⟩,
      ⟨some 9, .mv (.tmp 28), none, 0⟩]) <|
    .keep [9] <|
    .ret)
    (.skip)) <|
  .seq (.seq (.dops [
    ⟨some 29, .load true 2 (.tmp 3), none, 0⟩,
    ⟨some 30, .mv (.tmp 0), none, 0⟩,
    ⟨some 31, .call k_impl_Graph_degree [(.tmp 29), (.tmp 30)], none, 0⟩,
    ⟨some 32, .load false 1 (.tmp 2), none, 1⟩,
    ⟨some 33, .bin .add (.tmp 31) (.tmp 32), none, 0⟩,
    ⟨some 34, .mv (.tmp 1), none, 1⟩,
    ⟨some 35, .bin .sub (.tmp 33) (.tmp 34), none, 0⟩,
    ⟨some 36, .load false 1 (.tmp 4), none, 1⟩,
    ⟨some 37, .bin .lss (.tmp 35) (.tmp 36), none, 0⟩]) <|
  .cond (.tmp 37)
    (.seq (.ops [
      ⟨some 9, .mv (.const (.bool false)), none, 0⟩]) <|
    .keep [9] <|
    .ret)
    (.skip)) <|
  .seq (.seq (.ops [
    ⟨some 38, .load true 2 (.tmp 3), none, 0⟩,
    ⟨some 39, .mv (.tmp 0), none, 0⟩,
    ⟨some 40, .mv (.tmp 1), none, 0⟩,
    ⟨some 41, .load false 1 (.tmp 4), none, 0⟩,
    ⟨some 42, .load false 1 (.tmp 6), none, 0⟩,
    ⟨some 43, .call k_impl_Graph_mayJoin [(.tmp 38), (.tmp 39), (.tmp 40), (.tmp 41), (.tmp 42)], none, 0⟩]) <|
  .cond (.tmp 43)
    (.seq (.ops [
      ⟨some 44, .load true 2 (.tmp 3), none, 0⟩,
      ⟨some 45, .mv (.tmp 0), none, 0⟩,
      ⟨some 46, .mv (.tmp 1), none, 0⟩,
      ⟨some 47, .call k_impl_Graph_put [(.tmp 44), (.tmp 45), (.tmp 46)], none, 0⟩]) <|
    .seq (.seq (.ops [
      ⟨some 48, .load false 1 (.tmp 5), none, 0⟩,
      ⟨some 49, .mv (.tmp 0), none, 0⟩,
      ⟨some 50, .mv (.tmp 1), none, 0⟩,
      ⟨some 51, .bin .add (.tmp 50) (.const (.int .i64 1)), none, 0⟩,
      ⟨some 52, .callv (.tmp 48) [(.tmp 49), (.tmp 51)], none, 0⟩]) <|
    .cond (.tmp 52)
      (.seq (.ops [
        ⟨some 9, .mv (.const (.bool true)), none, 0⟩]) <|
      .keep [9] <|
      .ret)
      (.skip)) <|
    .ops [
      ⟨some 53, .load true 2 (.tmp 3), none, 0⟩,
      ⟨some 54, .mv (.tmp 0), none, 0⟩,
      ⟨some 55, .mv (.tmp 1), none, 0⟩,
      ⟨some 56, .call k_impl_Graph_take [(.tmp 53), (.tmp 54), (.tmp 55)], none, 0⟩])
    (.skip)) <|
  .seq (.ops [
    ⟨some 57, .load false 1 (.tmp 5), none, 0⟩,
    ⟨some 58, .mv (.tmp 0), none, 0⟩,
    ⟨some 59, .mv (.tmp 1), none, 0⟩,
    ⟨some 60, .bin .add (.tmp 59) (.const (.int .i64 1)), none, 0⟩,
    ⟨some 61, .callv (.tmp 57) [(.tmp 58), (.tmp 60)], none, 0⟩,
    ⟨some 9, .mv (.tmp 61), none, 0⟩]) <|
  .keep [9] <|
  .ret⟩

theorem e_impl_firstRegular_1 : EntOK Tryd.prog (compD Tryd.prog) k_impl_firstRegular_1 i_impl_firstRegular_1.vf :=
  ⟨Tryd.f93, Tryd.f93.body.getD .skip, Tryd.func93, by kernel_rfl, by kernel_rfl, by kernel_rfl, by kernel_rfl, by kernel_rfl⟩

/-- (loop.example/g01331/impl.Graph).degree -/
def i_impl_Graph_degree : FF := ⟨11, [.tmp 4],
  .seq (.ops [
    ⟨some 2, .box 2 (.tmp 0), none, 0⟩,
    ⟨some 4, .mv (.const (.int .i64 0)), none, 0⟩]) <|
  .seq (.ops [
    ⟨some 5, .fld 1 (.tmp 2), none, 0⟩,
    ⟨some 6, .load false 1 (.tmp 5), none, 0⟩,
    ⟨some 7, .mv (.tmp 1), none, 0⟩,
    ⟨some 8, .idx 1 (.tmp 6) (.tmp 7), none, 0⟩,
    ⟨some 9, .load false 1 (.tmp 8), none, 0⟩,
    ⟨some 10, .call k_impl_size [(.tmp 9)], none, 0⟩,
    ⟨some 4, .mv (.tmp 10), none, 0⟩]) <|
  .keep [4] <|
  .ret⟩

theorem e_impl_Graph_degree : EntOK Tryd.prog (compD Tryd.prog) k_impl_Graph_degree i_impl_Graph_degree.vf :=
  ⟨Tryd.f94, Tryd.f94.body.getD .skip, Tryd.func94, by kernel_rfl, by kernel_rfl, by kernel_rfl, by kernel_rfl, by kernel_rfl⟩

/-- (loop.example/g01331/impl.Graph).take -/
def i_impl_Graph_take : FF := ⟨24, [],
  .seq (.ops [
    ⟨some 3, .box 2 (.tmp 0), none, 0⟩]) <|
  .seq (.dops [
    ⟨some 6, .fld 1 (.tmp 3), none, 0⟩,
    ⟨some 7, .load false 1 (.tmp 6), none, 0⟩,
    ⟨some 8, .mv (.tmp 1), none, 0⟩,
    ⟨some 9, .idx 1 (.tmp 7) (.tmp 8), none, 0⟩,
    ⟨some 10, .load false 1 (.tmp 9), none, 0⟩,
    ⟨some 11, .mv (.tmp 2), none, 0⟩,
    ⟨some 12, .bin .shl (.const (.int .i64 1)) (.tmp 11), none, 0⟩,
    ⟨some 13, .bin .andNot (.tmp 10) (.tmp 12), none, 0⟩,
    ⟨some 14, .idx 1 (.tmp 7) (.tmp 8), none, 0⟩,
    ⟨none, .store 1 (.tmp 14) (.tmp 13), none, 0⟩]) <|
  .dops [
    ⟨some 15, .fld 1 (.tmp 3), none, 0⟩,
    ⟨some 16, .load false 1 (.tmp 15), none, 0⟩,
    ⟨some 17, .mv (.tmp 2), none, 0⟩,
    ⟨some 18, .idx 1 (.tmp 16) (.tmp 17), none, 0⟩,
    ⟨some 19, .load false 1 (.tmp 18), none, 0⟩,
    ⟨some 20, .mv (.tmp 1), none, 0⟩,
    ⟨some 21, .bin .shl (.const (.int .i64 1)) (.tmp 20), none, 0⟩,
    ⟨some 22, .bin .andNot (.tmp 19) (.tmp 21), none, 0⟩,
    ⟨some 23, .idx 1 (.tmp 16) (.tmp 17), none, 0⟩,
    ⟨none, .store 1 (.tmp 23) (.tmp 22), none, 0⟩]⟩

theorem e_impl_Graph_take : EntOK Tryd.prog (compD Tryd.prog) k_impl_Graph_take i_impl_Graph_take.vf :=
  ⟨Tryd.f95, Tryd.f95.body.getD .skip, Tryd.func95, by kernel_rfl, by kernel_rfl, by kernel_rfl, by kernel_rfl, by kernel_rfl⟩

/-- (loop.example/g01331/impl.Graph).girthAt -/
def i_impl_Graph_girthAt_B1 : FC :=
  .seq (.ops [
    ⟨some 17, .bin .lss (.tmp 16) (.tmp 15), none, 0⟩]) <|
  .seq (.cond (.tmp 17)
    (.skip)
    (.keep [5] <|
    .exit 0)) <|
  .seq (.block 1 <|
  .seq (.ops [
    ⟨some 18, .idx 1 (.tmp 14) (.tmp 16), none, 0⟩,
    ⟨some 19, .load false 1 (.tmp 18), none, 0⟩,
    ⟨some 7, .mv (.tmp 19), none, 0⟩]) <|
  .seq (.ops [
    ⟨some 20, .load true 2 (.tmp 2), none, 0⟩,
    ⟨some 21, .mv (.tmp 1), none, 0⟩,
    ⟨some 22, .mv (.tmp 7), none, 0⟩,
    ⟨some 23, .call k_impl_Graph_around [(.tmp 20), (.tmp 21), (.tmp 22)], none, 0⟩,
    ⟨some 8, .mv (.tmp 23), none, 0⟩]) <|
  .seq (.ops [
    ⟨some 24, .mv (.tmp 8), none, 0⟩,
    ⟨some 25, .bin .gtr (.tmp 24) (.const (.int .i64 0)), none, 0⟩,
    ⟨some 26, .mv (.tmp 25), none, 0⟩,
    ⟨some 27, .mv (.tmp 5), some (26, true), 0⟩,
    ⟨some 28, .bin .eql (.tmp 27) (.const (.int .i64 0)), some (26, true), 0⟩,
    ⟨some 29, .mv (.tmp 28), some (26, true), 0⟩,
    ⟨some 30, .mv (.tmp 8), some (29, false), 0⟩,
    ⟨some 31, .mv (.tmp 5), some (29, false), 0⟩,
    ⟨some 32, .bin .lss (.tmp 30) (.tmp 31), some (29, false), 0⟩,
    ⟨some 33, .pick (.tmp 29) (.const (.bool true)) (.tmp 32), some (26, true), 0⟩,
    ⟨some 34, .pick (.tmp 26) (.tmp 33) (.const (.bool false)), none, 0⟩]) <|
  .cond (.tmp 34)
    (.ops [
      ⟨some 35, .mv (.tmp 8), none, 0⟩,
      ⟨some 5, .mv (.tmp 35), none, 0⟩])
    (.skip)) <|
  .ops [
    ⟨some 36, .bin .add (.tmp 16) (.const (.int .i64 1)), none, 0⟩,
    ⟨some 16, .mv (.tmp 36), none, 0⟩]
def i_impl_Graph_girthAt : FF := ⟨38, [.tmp 4],
  .seq (.ops [
    ⟨some 2, .box 2 (.tmp 0), none, 0⟩,
    ⟨some 4, .mv (.const (.int .i64 0)), none, 0⟩]) <|
  .seq (.ops [
    ⟨some 5, .mv (.const (.int .i64 0)), none, 0⟩]) <|
  .seq (.seq (.ops [
    ⟨some 9, .fld 1 (.tmp 2), none, 0⟩,
    ⟨some 10, .load false 1 (.tmp 9), none, 0⟩,
    ⟨some 11, .mv (.tmp 1), none, 0⟩,
    ⟨some 12, .idx 1 (.tmp 10) (.tmp 11), none, 0⟩,
    ⟨some 13, .load false 1 (.tmp 12), none, 0⟩,
    ⟨some 14, .call k_impl_list [(.tmp 13)], none, 0⟩,
    ⟨some 15, .len (.tmp 14), none, 0⟩,
    ⟨some 16, .mv (.const (.int .i64 0)), none, 0⟩]) <|
  .block 0 <|
  .loop [1, 2, 5, 14, 15, 16] i_impl_Graph_girthAt_B1) <|
  .seq (.ops [
    ⟨some 37, .mv (.tmp 5), none, 0⟩,
    ⟨some 4, .mv (.tmp 37), none, 0⟩]) <|
  .keep [4] <|
  .ret⟩

theorem e_impl_Graph_girthAt : EntOK Tryd.prog (compD Tryd.prog) k_impl_Graph_girthAt i_impl_Graph_girthAt.vf :=
  ⟨Tryd.f97, Tryd.f97.body.getD .skip, Tryd.func97, by kernel_rfl, by kernel_rfl, by kernel_rfl, by kernel_rfl, by kernel_rfl⟩

/-- slices.Repeat[[]int64,int64] -/
def i_slices_Repeat_int64_int64_B1 : FC :=
  .seq (.seq (.ops [
    ⟨some 34, .mv (.tmp 8), none, 0⟩,
    ⟨some 35, .mv (.tmp 7), none, 0⟩,
    ⟨some 36, .len (.tmp 35), none, 0⟩,
    ⟨some 37, .bin .lss (.tmp 34) (.tmp 36), none, 0⟩]) <|
  .cond (.tmp 37)
    (.skip)
    (.keep [7] <|
    .exit 0)) <|
  .block 1 <|
  .dops [
    ⟨some 39, .mv (.tmp 7), none, 0⟩,
    ⟨some 40, .mv (.tmp 8), none, 0⟩,
    ⟨some 41, .slc 1 (.tmp 39) (some (.tmp 40)) none, none, 0⟩,
    ⟨some 42, .mv (.tmp 7), none, 0⟩,
    ⟨some 43, .mv (.tmp 8), none, 0⟩,
    ⟨some 44, .slc 1 (.tmp 42) none (some (.tmp 43)), none, 0⟩,
    ⟨some 45, .cpy 1 (.tmp 41) (.tmp 44), none, 0⟩,
    ⟨some 38, .mv (.tmp 8), none, 1⟩,
    ⟨some 46, .bin .add (.tmp 38) (.tmp 45), none, 0⟩,
    ⟨some 8, .mv (.tmp 46), none, 0⟩]
def i_slices_Repeat_int64_int64 : FF := ⟨48, [.tmp 4],
  .seq (.ops [
    ⟨some 4, .mv (.const (.slice none 0 0)), none, 0⟩]) <|
  .seq (.seq (.ops [
    ⟨some 9, .mv (.tmp 1), none, 0⟩,
    ⟨some 10, .bin .lss (.tmp 9) (.const (.int .i64 0)), none, 0⟩]) <|
  .cond (.tmp 10)
    (.ops [
      ⟨some 11, .stop, none, 0⟩,
      ⟨none, .stop, none, 0⟩])
    (.skip)) <|
  .seq (.ops [
    ⟨some 13, .mv (.tmp 0), none, 0⟩,
    ⟨some 14, .len (.tmp 13), none, 0⟩,
    ⟨some 15, .conv .u64 (.tmp 14), none, 0⟩,
    ⟨some 16, .mv (.tmp 1), none, 0⟩,
    ⟨some 17, .conv .u64 (.tmp 16), none, 0⟩,
    ⟨some 18, .call k_math_bits_Mul [(.tmp 15), (.tmp 17)], none, 0⟩,
    ⟨some 12, .mv (.tmp 18), none, 0⟩,
    ⟨some 19, .ext (.tmp 12) 0, none, 0⟩,
    ⟨some 20, .ext (.tmp 12) 1, none, 0⟩,
    ⟨some 5, .mv (.tmp 19), none, 0⟩,
    ⟨some 6, .mv (.tmp 20), none, 0⟩]) <|
  .seq (.seq (.ops [
    ⟨some 21, .mv (.tmp 5), none, 0⟩,
    ⟨some 22, .bin .gtr (.tmp 21) (.const (.int .u64 0)), none, 0⟩,
    ⟨some 23, .mv (.tmp 22), none, 0⟩,
    ⟨some 24, .mv (.tmp 6), some (23, false), 0⟩,
    ⟨some 25, .bin .gtr (.tmp 24) (.const (.int .u64 9223372036854775807)), some (23, false), 0⟩,
    ⟨some 26, .pick (.tmp 23) (.const (.bool true)) (.tmp 25), none, 0⟩]) <|
  .cond (.tmp 26)
    (.ops [
      ⟨some 27, .stop, none, 0⟩,
      ⟨none, .stop, none, 0⟩])
    (.skip)) <|
  .seq (.ops [
    ⟨some 28, .mv (.tmp 6), none, 0⟩,
    ⟨some 29, .conv .i64 (.tmp 28), none, 0⟩,
    ⟨some 30, .mkSl 1 [.int .i64 0] 8 (.tmp 29) (.tmp 29), none, 0⟩,
    ⟨some 7, .mv (.tmp 30), none, 0⟩]) <|
  .seq (.ops [
    ⟨some 31, .mv (.tmp 7), none, 0⟩,
    ⟨some 32, .mv (.tmp 0), none, 0⟩,
    ⟨some 33, .cpy 1 (.tmp 31) (.tmp 32), none, 0⟩,
    ⟨some 8, .mv (.tmp 33), none, 0⟩]) <|
  .seq (.block 0 <|
  .loop [7, 8] i_slices_Repeat_int64_int64_B1) <|
  .seq (.ops [
    ⟨some 47, .mv (.tmp 7), none, 0⟩,
    ⟨some 4, .mv (.tmp 47), none, 0⟩]) <|
  .keep [4] <|
  .ret⟩

theorem e_slices_Repeat_int64_int64 : EntOK Tryd.prog (compD Tryd.prog) k_slices_Repeat_int64_int64 i_slices_Repeat_int64_int64.vf :=
  ⟨Tryd.f103, Tryd.f103.body.getD .skip, Tryd.func103, by kernel_rfl, by kernel_rfl, by kernel_rfl, by kernel_rfl, by kernel_rfl⟩

/-- loop.example/g01331/impl.list -/
def i_impl_list_B1 : FC :=
  .seq (.seq (.ops [
    ⟨some 5, .mv (.tmp 0), none, 0⟩,
    ⟨some 6, .bin .neq (.tmp 5) (.const (.int .i64 0)), none, 0⟩]) <|
  .cond (.tmp 6)
    (.skip)
    (.keep [3] <|
    .exit 0)) <|
  .seq (.block 1 <|
  .ops [
    ⟨some 11, .mv (.tmp 3), none, 0⟩,
    ⟨some 12, .mv (.tmp 0), none, 0⟩,
    ⟨some 13, .conv .u64 (.tmp 12), none, 0⟩,
    ⟨some 14, .call k_math_bits_TrailingZeros64 [(.tmp 13)], none, 0⟩,
    ⟨some 15, .buildSl 1 [.int .i64 0] [(0, 1, (.tmp 14))] 1, none, 0⟩,
    ⟨some 16, .app 1 8 [.int .i64 0] (.tmp 11) (.tmp 15), none, 0⟩,
    ⟨some 3, .mv (.tmp 16), none, 0⟩]) <|
  .ops [
    ⟨some 7, .mv (.tmp 0), none, 0⟩,
    ⟨some 8, .mv (.tmp 0), none, 0⟩,
    ⟨some 9, .bin .sub (.tmp 8) (.const (.int .i64 1)), none, 0⟩,
    ⟨some 10, .bin .and (.tmp 7) (.tmp 9), none, 0⟩,
    ⟨some 0, .mv (.tmp 10), none, 0⟩]
def i_impl_list : FF := ⟨18, [.tmp 2],
  .seq (.ops [
    ⟨some 2, .mv (.const (.slice none 0 0)), none, 0⟩]) <|
  .seq (.ops [
    ⟨some 4, .buildSl 1 [] [] 0, none, 0⟩,
    ⟨some 3, .mv (.tmp 4), none, 0⟩]) <|
  .seq (.block 0 <|
  .loop [0, 3] i_impl_list_B1) <|
  .seq (.ops [
    ⟨some 17, .mv (.tmp 3), none, 0⟩,
    ⟨some 2, .mv (.tmp 17), none, 0⟩]) <|
  .keep [2] <|
  .ret⟩

theorem e_impl_list : EntOK Tryd.prog (compD Tryd.prog) k_impl_list i_impl_list.vf :=
  ⟨Tryd.f104, Tryd.f104.body.getD .skip, Tryd.func104, by kernel_rfl, by kernel_rfl, by kernel_rfl, by kernel_rfl, by kernel_rfl⟩

/-- loop.example/g01331/spec.l01Has -/
def i_spec_l01Has : FF := ⟨17, [.tmp 6],
  .seq (.ops [
    ⟨some 3, .box 2 (.tmp 0), none, 0⟩,
    ⟨some 6, .mv (.const (.bool false)), none, 0⟩]) <|
  .seq (.ops [
    ⟨some 7, .fld 1 (.tmp 3), none, 0⟩,
    ⟨some 8, .load false 1 (.tmp 7), none, 0⟩,
    ⟨some 9, .mv (.tmp 1), none, 0⟩,
    ⟨some 10, .idx 1 (.tmp 8) (.tmp 9), none, 0⟩,
    ⟨some 11, .load false 1 (.tmp 10), none, 0⟩,
    ⟨some 12, .mv (.tmp 2), none, 0⟩,
    ⟨some 13, .conv .u64 (.tmp 12), none, 0⟩,
    ⟨some 14, .bin .shr (.tmp 11) (.tmp 13), none, 0⟩,
    ⟨some 15, .bin .and (.tmp 14) (.const (.int .i64 1)), none, 0⟩,
    ⟨some 16, .bin .eql (.tmp 15) (.const (.int .i64 1)), none, 0⟩,
    ⟨some 6, .mv (.tmp 16), none, 0⟩]) <|
  .keep [6] <|
  .ret⟩

theorem e_spec_l01Has : EntOK Tryd.prog (compD Tryd.prog) k_spec_l01Has i_spec_l01Has.vf :=
  ⟨Tryd.f106, Tryd.f106.body.getD .skip, Tryd.func106, by kernel_rfl, by kernel_rfl, by kernel_rfl, by kernel_rfl, by kernel_rfl⟩

/-- loop.example/g01331/spec.l01Degree -/
def i_spec_l01Degree : FF := ⟨11, [.tmp 4],
  .seq (.ops [
    ⟨some 2, .box 2 (.tmp 0), none, 0⟩,
    ⟨some 4, .mv (.const (.int .i64 0)), none, 0⟩]) <|
  .seq (.ops [
    ⟨some 5, .fld 1 (.tmp 2), none, 0⟩,
    ⟨some 6, .load false 1 (.tmp 5), none, 0⟩,
    ⟨some 7, .mv (.tmp 1), none, 0⟩,
    ⟨some 8, .idx 1 (.tmp 6) (.tmp 7), none, 0⟩,
    ⟨some 9, .load false 1 (.tmp 8), none, 0⟩,
    ⟨some 10, .call k_spec_l01Bits [(.tmp 9)], none, 0⟩,
    ⟨some 4, .mv (.tmp 10), none, 0⟩]) <|
  .keep [4] <|
  .ret⟩

theorem e_spec_l01Degree : EntOK Tryd.prog (compD Tryd.prog) k_spec_l01Degree i_spec_l01Degree.vf :=
  ⟨Tryd.f107, Tryd.f107.body.getD .skip, Tryd.func107, by kernel_rfl, by kernel_rfl, by kernel_rfl, by kernel_rfl, by kernel_rfl⟩

/-- loop.example/g01331/spec.l07Far -/
def i_spec_l07Far_B1 : FC :=
  .seq (.seq (.ops [
    ⟨some 27, .mv (.tmp 11), none, 0⟩,
    ⟨some 28, .fld 0 (.tmp 3), none, 0⟩,
    ⟨some 29, .load false 1 (.tmp 28), none, 0⟩,
    ⟨some 30, .bin .lss (.tmp 27) (.tmp 29), none, 0⟩]) <|
  .cond (.tmp 30)
    (.skip)
    (.keep [2, 3, 7, 9, 10] <|
    .exit 2)) <|
  .seq (.block 3 <|
  .seq (.ops [
    ⟨some 33, .mv (.tmp 8), none, 0⟩,
    ⟨some 34, .mv (.tmp 11), none, 0⟩,
    ⟨some 35, .conv .u64 (.tmp 34), none, 0⟩,
    ⟨some 36, .bin .shr (.tmp 33) (.tmp 35), none, 0⟩,
    ⟨some 37, .bin .and (.tmp 36) (.const (.int .i64 1)), none, 0⟩,
    ⟨some 38, .bin .eql (.tmp 37) (.const (.int .i64 1)), none, 0⟩]) <|
  .cond (.tmp 38)
    (.ops [
      ⟨some 39, .mv (.tmp 10), none, 0⟩,
      ⟨some 40, .fld 1 (.tmp 3), none, 0⟩,
      ⟨some 41, .load false 1 (.tmp 40), none, 0⟩,
      ⟨some 42, .mv (.tmp 11), none, 0⟩,
      ⟨some 43, .idx 1 (.tmp 41) (.tmp 42), none, 0⟩,
      ⟨some 44, .load false 1 (.tmp 43), none, 0⟩,
      ⟨some 45, .bin .or (.tmp 39) (.tmp 44), none, 0⟩,
      ⟨some 10, .mv (.tmp 45), none, 0⟩])
    (.skip)) <|
  .ops [
    ⟨some 31, .mv (.tmp 11), none, 0⟩,
    ⟨some 32, .bin .add (.tmp 31) (.const (.int .i64 1)), none, 0⟩,
    ⟨some 11, .mv (.tmp 32), none, 0⟩]
def i_spec_l07Far_B2 : FC :=
  .seq (.seq (.ops [
    ⟨some 18, .mv (.tmp 8), none, 0⟩,
    ⟨some 19, .bin .neq (.tmp 18) (.const (.int .i64 0)), none, 0⟩]) <|
  .cond (.tmp 19)
    (.skip)
    (.keep [] <|
    .exit 0)) <|
  .block 1 <|
  .seq (.seq (.ops [
    ⟨some 20, .mv (.tmp 8), none, 0⟩,
    ⟨some 21, .mv (.tmp 2), none, 0⟩,
    ⟨some 22, .conv .u64 (.tmp 21), none, 0⟩,
    ⟨some 23, .bin .shr (.tmp 20) (.tmp 22), none, 0⟩,
    ⟨some 24, .bin .and (.tmp 23) (.const (.int .i64 1)), none, 0⟩,
    ⟨some 25, .bin .eql (.tmp 24) (.const (.int .i64 1)), none, 0⟩]) <|
  .cond (.tmp 25)
    (.seq (.ops [
      ⟨some 26, .mv (.tmp 9), none, 0⟩,
      ⟨some 6, .mv (.tmp 26), none, 0⟩]) <|
    .keep [6] <|
    .ret)
    (.skip)) <|
  .seq (.ops [
    ⟨some 10, .mv (.const (.int .i64 0)), none, 0⟩]) <|
  .seq (.seq (.ops [
    ⟨some 11, .mv (.const (.int .i64 0)), none, 0⟩]) <|
  .block 2 <|
  .loop [2, 3, 7, 8, 9, 10, 11] i_spec_l07Far_B1) <|
  .seq (.ops [
    ⟨some 46, .mv (.tmp 10), none, 0⟩,
    ⟨some 47, .mv (.tmp 10), none, 0⟩,
    ⟨some 48, .mv (.tmp 7), none, 0⟩,
    ⟨some 49, .bin .and (.tmp 47) (.tmp 48), none, 0⟩,
    ⟨some 50, .bin .sub (.tmp 46) (.tmp 49), none, 0⟩,
    ⟨some 8, .mv (.tmp 50), none, 0⟩]) <|
  .seq (.ops [
    ⟨some 51, .mv (.tmp 7), none, 0⟩,
    ⟨some 52, .mv (.tmp 10), none, 0⟩,
    ⟨some 53, .bin .or (.tmp 51) (.tmp 52), none, 0⟩,
    ⟨some 7, .mv (.tmp 53), none, 0⟩]) <|
  .ops [
    ⟨some 54, .mv (.tmp 9), none, 0⟩,
    ⟨some 55, .bin .add (.tmp 54) (.const (.int .i64 1)), none, 0⟩,
    ⟨some 9, .mv (.tmp 55), none, 0⟩]
def i_spec_l07Far : FF := ⟨56, [.tmp 6],
  .seq (.ops [
    ⟨some 3, .box 2 (.tmp 0), none, 0⟩,
    ⟨some 6, .mv (.const (.int .i64 0)), none, 0⟩]) <|
  .seq (.ops [
    ⟨some 12, .mv (.tmp 1), none, 0⟩,
    ⟨some 13, .conv .u64 (.tmp 12), none, 0⟩,
    ⟨some 14, .bin .shl (.const (.int .i64 1)) (.tmp 13), none, 0⟩,
    ⟨some 15, .mv (.tmp 1), none, 0⟩,
    ⟨some 16, .conv .u64 (.tmp 15), none, 0⟩,
    ⟨some 17, .bin .shl (.const (.int .i64 1)) (.tmp 16), none, 0⟩,
    ⟨some 7, .mv (.tmp 14), none, 0⟩,
    ⟨some 8, .mv (.tmp 17), none, 0⟩,
    ⟨some 9, .mv (.const (.int .i64 0)), none, 0⟩]) <|
  .seq (.block 0 <|
  .loop [2, 3, 7, 8, 9] i_spec_l07Far_B2) <|
  .seq (.ops [
    ⟨some 6, .mv (.const (.int .i64 (-1))), none, 0⟩]) <|
  .keep [6] <|
  .ret⟩

theorem e_spec_l07Far : EntOK Tryd.prog (compD Tryd.prog) k_spec_l07Far i_spec_l07Far.vf :=
  ⟨Tryd.f108, Tryd.f108.body.getD .skip, Tryd.func108, by kernel_rfl, by kernel_rfl, by kernel_rfl, by kernel_rfl, by kernel_rfl⟩

/-- (loop.example/g01331/impl.Graph).degrees -/
def i_impl_Graph_degrees_B1 : FC :=
  .seq (.ops [
    ⟨some 9, .bin .lss (.tmp 8) (.tmp 7), none, 0⟩]) <|
  .seq (.cond (.tmp 9)
    (.skip)
    (.keep [3] <|
    .exit 0)) <|
  .seq (.block 1 <|
  .seq (.ops [
    ⟨some 10, .mv (.tmp 8), none, 0⟩,
    ⟨some 4, .mv (.tmp 10), none, 0⟩]) <|
  .ops [
    ⟨some 11, .mv (.tmp 3), none, 0⟩,
    ⟨some 12, .load true 2 (.tmp 1), none, 0⟩,
    ⟨some 13, .mv (.tmp 4), none, 0⟩,
    ⟨some 14, .call k_impl_Graph_degree [(.tmp 12), (.tmp 13)], none, 0⟩,
    ⟨some 15, .buildSl 1 [.int .i64 0] [(0, 1, (.tmp 14))] 1, none, 0⟩,
    ⟨some 16, .app 1 8 [.int .i64 0] (.tmp 11) (.tmp 15), none, 0⟩,
    ⟨some 3, .mv (.tmp 16), none, 0⟩]) <|
  .ops [
    ⟨some 17, .bin .add (.tmp 8) (.const (.int .i64 1)), none, 0⟩,
    ⟨some 8, .mv (.tmp 17), none, 0⟩]
def i_impl_Graph_degrees : FF := ⟨19, [.tmp 2],
  .seq (.ops [
    ⟨some 1, .box 2 (.tmp 0), none, 0⟩,
    ⟨some 2, .mv (.const (.slice none 0 0)), none, 0⟩]) <|
  .seq (.ops [
    ⟨some 5, .buildSl 1 [] [] 0, none, 0⟩,
    ⟨some 3, .mv (.tmp 5), none, 0⟩]) <|
  .seq (.seq (.ops [
    ⟨some 6, .fld 0 (.tmp 1), none, 0⟩,
    ⟨some 7, .load false 1 (.tmp 6), none, 0⟩,
    ⟨some 8, .mv (.const (.int .i64 0)), none, 0⟩]) <|
  .block 0 <|
  .loop [1, 3, 7, 8] i_impl_Graph_degrees_B1) <|
  .seq (.ops [
    ⟨some 18, .mv (.tmp 3), none, 0⟩,
    ⟨some 2, .mv (.tmp 18), none, 0⟩]) <|
  .keep [2] <|
  .ret⟩

theorem e_impl_Graph_degrees : EntOK Tryd.prog (compD Tryd.prog) k_impl_Graph_degrees i_impl_Graph_degrees.vf :=
  ⟨Tryd.f109, Tryd.f109.body.getD .skip, Tryd.func109, by kernel_rfl, by kernel_rfl, by kernel_rfl, by kernel_rfl, by kernel_rfl⟩

/-- slices.Min[[]int64,int64] -/
def i_slices_Min_int64_int64_B1 : FC :=
  .seq (.seq (.ops [
    ⟨some 12, .mv (.tmp 4), none, 0⟩,
    ⟨some 13, .mv (.tmp 0), none, 0⟩,
    ⟨some 14, .len (.tmp 13), none, 0⟩,
    ⟨some 15, .bin .lss (.tmp 12) (.tmp 14), none, 0⟩]) <|
  .cond (.tmp 15)
    (.skip)
    (.keep [3] <|
    .exit 0)) <|
  .seq (.block 1 <|
  .ops [
    ⟨some 18, .mv (.tmp 3), none, 0⟩,
    ⟨some 19, .mv (.tmp 0), none, 0⟩,
    ⟨some 20, .mv (.tmp 4), none, 0⟩,
    ⟨some 21, .idx 1 (.tmp 19) (.tmp 20), none, 0⟩,
    ⟨some 22, .load false 1 (.tmp 21), none, 0⟩,
    ⟨some 23, .minmax false [(.tmp 18), (.tmp 22)], none, 0⟩,
    ⟨some 3, .mv (.tmp 23), none, 0⟩]) <|
  .ops [
    ⟨some 16, .mv (.tmp 4), none, 0⟩,
    ⟨some 17, .bin .add (.tmp 16) (.const (.int .i64 1)), none, 0⟩,
    ⟨some 4, .mv (.tmp 17), none, 0⟩]
def i_slices_Min_int64_int64 : FF := ⟨25, [.tmp 2],
  .seq (.ops [
    ⟨some 2, .mv (.const (.int .i64 0)), none, 0⟩]) <|
  .seq (.seq (.ops [
    ⟨some 5, .mv (.tmp 0), none, 0⟩,
    ⟨some 6, .len (.tmp 5), none, 0⟩,
    ⟨some 7, .bin .lss (.tmp 6) (.const (.int .i64 1)), none, 0⟩]) <|
  .cond (.tmp 7)
    (.ops [
      ⟨some 8, .stop, none, 0⟩,
      ⟨none, .stop, none, 0⟩])
    (.skip)) <|
  .seq (.ops [
    ⟨some 9, .mv (.tmp 0), none, 0⟩,
    ⟨some 10, .idx 1 (.tmp 9) (.const (.int .i64 0)), none, 0⟩,
    ⟨some 11, .load false 1 (.tmp 10), none, 0⟩,
    ⟨some 3, .mv (.tmp 11), none, 0⟩]) <|
  .seq (.seq (.ops [
    ⟨some 4, .mv (.const (.int .i64 1)), none, 0⟩]) <|
  .block 0 <|
  .loop [0, 3, 4] i_slices_Min_int64_int64_B1) <|
  .seq (.ops [
    ⟨some 24, .mv (.tmp 3), none, 0⟩,
    ⟨some 2, .mv (.tmp 24), none, 0⟩]) <|
  .keep [2] <|
  .ret⟩

theorem e_slices_Min_int64_int64 : EntOK Tryd.prog (compD Tryd.prog) k_slices_Min_int64_int64 i_slices_Min_int64_int64.vf :=
  ⟨Tryd.f110, Tryd.f110.body.getD .skip, Tryd.func110, by kernel_rfl, by kernel_rfl, by kernel_rfl, by kernel_rfl, by kernel_rfl⟩

/-- slices.Max[[]int64,int64] -/
def i_slices_Max_int64_int64_B1 : FC :=
  .seq (.seq (.ops [
    ⟨some 12, .mv (.tmp 4), none, 0⟩,
    ⟨some 13, .mv (.tmp 0), none, 0⟩,
    ⟨some 14, .len (.tmp 13), none, 0⟩,
    ⟨some 15, .bin .lss (.tmp 12) (.tmp 14), none, 0⟩]) <|
  .cond (.tmp 15)
    (.skip)
    (.keep [3] <|
    .exit 0)) <|
  .seq (.block 1 <|
  .ops [
    ⟨some 18, .mv (.tmp 3), none, 0⟩,
    ⟨some 19, .mv (.tmp 0), none, 0⟩,
    ⟨some 20, .mv (.tmp 4), none, 0⟩,
    ⟨some 21, .idx 1 (.tmp 19) (.tmp 20), none, 0⟩,
    ⟨some 22, .load false 1 (.tmp 21), none, 0⟩,
    ⟨some 23, .minmax true [(.tmp 18), (.tmp 22)], none, 0⟩,
    ⟨some 3, .mv (.tmp 23), none, 0⟩]) <|
  .ops [
    ⟨some 16, .mv (.tmp 4), none, 0⟩,
    ⟨some 17, .bin .add (.tmp 16) (.const (.int .i64 1)), none, 0⟩,
    ⟨some 4, .mv (.tmp 17), none, 0⟩]
def i_slices_Max_int64_int64 : FF := ⟨25, [.tmp 2],
  .seq (.ops [
    ⟨some 2, .mv (.const (.int .i64 0)), none, 0⟩]) <|
  .seq (.seq (.ops [
    ⟨some 5, .mv (.tmp 0), none, 0⟩,
    ⟨some 6, .len (.tmp 5), none, 0⟩,
    ⟨some 7, .bin .lss (.tmp 6) (.const (.int .i64 1)), none, 0⟩]) <|
  .cond (.tmp 7)
    (.ops [
      ⟨some 8, .stop, none, 0⟩,
      ⟨none, .stop, none, 0⟩])
    (.skip)) <|
  .seq (.ops [
    ⟨some 9, .mv (.tmp 0), none, 0⟩,
    ⟨some 10, .idx 1 (.tmp 9) (.const (.int .i64 0)), none, 0⟩,
    ⟨some 11, .load false 1 (.tmp 10), none, 0⟩,
    ⟨some 3, .mv (.tmp 11), none, 0⟩]) <|
  .seq (.seq (.ops [
    ⟨some 4, .mv (.const (.int .i64 1)), none, 0⟩]) <|
  .block 0 <|
  .loop [0, 3, 4] i_slices_Max_int64_int64_B1) <|
  .seq (.ops [
    ⟨some 24, .mv (.tmp 3), none, 0⟩,
    ⟨some 2, .mv (.tmp 24), none, 0⟩]) <|
  .keep [2] <|
  .ret⟩

theorem e_slices_Max_int64_int64 : EntOK Tryd.prog (compD Tryd.prog) k_slices_Max_int64_int64 i_slices_Max_int64_int64.vf :=
  ⟨Tryd.f111, Tryd.f111.body.getD .skip, Tryd.func111, by kernel_rfl, by kernel_rfl, by kernel_rfl, by kernel_rfl, by kernel_rfl⟩

/-- slices.Clone[[]int64,int64] -/
def i_slices_Clone_int64_int64 : FF := ⟨8, [.tmp 2],
  .seq (.ops [
    ⟨some 2, .mv (.const (.slice none 0 0)), none, 0⟩]) <|
  .seq (.seq (.ops [
    ⟨some 3, .mv (.tmp 0), none, 0⟩,
    ⟨some 4, .eqnilS false (.tmp 3), none, 0⟩]) <|
  .cond (.tmp 4)
    (.seq (.ops [
      ⟨some 2, .mv (.const (.slice none 0 0)), none, 0⟩]) <|
    .keep [2] <|
    .ret)
    (.skip)) <|
  .seq (.ops [
    ⟨some 5, .buildSl 1 [] [] 0, none, 0⟩,
    ⟨some 6, .mv (.tmp 0), none, 0⟩,
    ⟨some 7, .app 1 8 [.int .i64 0] (.tmp 5) (.tmp 6), none, 0⟩,
    ⟨some 2, .mv (.tmp 7), none, 0⟩]) <|
  .keep [2] <|
  .ret⟩

theorem e_slices_Clone_int64_int64 : EntOK Tryd.prog (compD Tryd.prog) k_slices_Clone_int64_int64 i_slices_Clone_int64_int64.vf :=
  ⟨Tryd.f113, Tryd.f113.body.getD .skip, Tryd.func113, by kernel_rfl, by kernel_rfl, by kernel_rfl, by kernel_rfl, by kernel_rfl⟩

/-- loop.example/g01331/impl.powers -/
def i_impl_powers_B1 : FC :=
  .seq (.ops [
    ⟨some 9, .bin .lss (.tmp 8) (.tmp 7), none, 0⟩]) <|
  .seq (.cond (.tmp 9)
    (.skip)
    (.keep [5] <|
    .exit 0)) <|
  .seq (.block 1 <|
  .seq (.ops [
    ⟨some 10, .mv (.tmp 5), none, 0⟩,
    ⟨some 11, .mv (.tmp 6), none, 0⟩,
    ⟨some 12, .bin .add (.tmp 10) (.tmp 11), none, 0⟩,
    ⟨some 13, .minmax false [(.tmp 12), (.const (.int .i64 1000000000001))], none, 0⟩,
    ⟨some 5, .mv (.tmp 13), none, 0⟩]) <|
  .ops [
    ⟨some 14, .mv (.tmp 6), none, 0⟩,
    ⟨some 15, .mv (.tmp 0), none, 0⟩,
    ⟨some 16, .bin .mul (.tmp 14) (.tmp 15), none, 0⟩,
    ⟨some 17, .minmax false [(.tmp 16), (.const (.int .i64 1000000000001))], none, 0⟩,
    ⟨some 6, .mv (.tmp 17), none, 0⟩]) <|
  .ops [
    ⟨some 18, .bin .add (.tmp 8) (.const (.int .i64 1)), none, 0⟩,
    ⟨some 8, .mv (.tmp 18), none, 0⟩]
def i_impl_powers : FF := ⟨20, [.tmp 4],
  .seq (.ops [
    ⟨some 4, .mv (.const (.int .i64 0)), none, 0⟩]) <|
  .seq (.ops [
    ⟨some 5, .mv (.const (.int .i64 0)), none, 0⟩,
    ⟨some 6, .mv (.const (.int .i64 1)), none, 0⟩]) <|
  .seq (.seq (.ops [
    ⟨some 7, .mv (.tmp 1), none, 0⟩,
    ⟨some 8, .mv (.const (.int .i64 0)), none, 0⟩]) <|
  .block 0 <|
  .loop [0, 5, 6, 7, 8] i_impl_powers_B1) <|
  .seq (.ops [
    ⟨some 19, .mv (.tmp 5), none, 0⟩,
    ⟨some 4, .mv (.tmp 19), none, 0⟩]) <|
  .keep [4] <|
  .ret⟩

theorem e_impl_powers : EntOK Tryd.prog (compD Tryd.prog) k_impl_powers i_impl_powers.vf :=
  ⟨Tryd.f114, Tryd.f114.body.getD .skip, Tryd.func114, by kernel_rfl, by kernel_rfl, by kernel_rfl, by kernel_rfl, by kernel_rfl⟩

/-- loop.example/g01331/impl.size -/
def i_impl_size : FF := ⟨6, [.tmp 2],
  .seq (.ops [
    ⟨some 2, .mv (.const (.int .i64 0)), none, 0⟩]) <|
  .seq (.ops [
    ⟨some 3, .mv (.tmp 0), none, 0⟩,
    ⟨some 4, .conv .u64 (.tmp 3), none, 0⟩,
    ⟨some 5, .call k_math_bits_OnesCount64 [(.tmp 4)], none, 0⟩,
    ⟨some 2, .mv (.tmp 5), none, 0⟩]) <|
  .keep [2] <|
  .ret⟩

theorem e_impl_size : EntOK Tryd.prog (compD Tryd.prog) k_impl_size i_impl_size.vf :=
  ⟨Tryd.f115, Tryd.f115.body.getD .skip, Tryd.func115, by kernel_rfl, by kernel_rfl, by kernel_rfl, by kernel_rfl, by kernel_rfl⟩

/-- math/bits.Mul -/
def i_math_bits_Mul : FF := ⟨30, [.tmp 4, .tmp 5],
  .seq (.ops [
    ⟨some 4, .mv (.const (.int .u64 0)), none, 0⟩,
    ⟨some 5, .mv (.const (.int .u64 0)), none, 0⟩]) <|
  .seq (.cond (.const (.bool false))
    (.seq (.ops [
      ⟨some 11, .mv (.tmp 0), none, 0⟩,
      ⟨some 12, .conv .u32 (.tmp 11), none, 0⟩,
      ⟨some 13, .mv (.tmp 1), none, 0⟩,
      ⟨some 14, .conv .u32 (.tmp 13), none, 0⟩,
      ⟨some 15, .call k_math_bits_Mul32 [(.tmp 12), (.tmp 14)], none, 0⟩,
      ⟨some 10, .mv (.tmp 15), none, 0⟩,
      ⟨some 16, .ext (.tmp 10) 0, none, 0⟩,
      ⟨some 17, .ext (.tmp 10) 1, none, 0⟩,
      ⟨some 6, .mv (.tmp 16), none, 0⟩,
      ⟨some 7, .mv (.tmp 17), none, 0⟩]) <|
    .seq (.ops [
      ⟨some 18, .mv (.tmp 6), none, 0⟩,
      ⟨some 19, .conv .u64 (.tmp 18), none, 0⟩,
      ⟨some 20, .mv (.tmp 7), none, 0⟩,
      ⟨some 21, .conv .u64 (.tmp 20), none, 0⟩,
      ⟨some 4, .mv (.tmp 19), none, 0⟩,
      ⟨some 5, .mv (.tmp 21), none, 0⟩]) <|
    .keep [4, 5] <|
    .ret)
    (.skip)) <|
  .seq (.ops [
    ⟨some 23, .mv (.tmp 0), none, 0⟩,
    ⟨some 24, .mv (.tmp 1), none, 0⟩,
    ⟨some 25, .call k_math_bits_Mul64 [(.tmp 23), (.tmp 24)], none, 0⟩,
    ⟨some 22, .mv (.tmp 25), none, 0⟩,
    ⟨some 26, .ext (.tmp 22) 0, none, 0⟩,
    ⟨some 27, .ext (.tmp 22) 1, none, 0⟩,
    ⟨some 8, .mv (.tmp 26), none, 0⟩,
    ⟨some 9, .mv (.tmp 27), none, 0⟩]) <|
  .seq (.ops [
    ⟨some 28, .mv (.tmp 8), none, 0⟩,
    ⟨some 29, .mv (.tmp 9), none, 0⟩,
    ⟨some 4, .mv (.tmp 28), none, 0⟩,
    ⟨some 5, .mv (.tmp 29), none, 0⟩]) <|
  .keep [4, 5] <|
  .ret⟩

theorem e_math_bits_Mul : EntOK Tryd.prog (compD Tryd.prog) k_math_bits_Mul i_math_bits_Mul.vf :=
  ⟨Tryd.f118, Tryd.f118.body.getD .skip, Tryd.func118, by kernel_rfl, by kernel_rfl, by kernel_rfl, by kernel_rfl, by kernel_rfl⟩

/-- loop.example/g01331/spec.l01Bits -/
def i_spec_l01Bits_B1 : FC :=
  .seq (.seq (.ops [
    ⟨some 4, .mv (.tmp 0), none, 0⟩,
    ⟨some 5, .bin .gtr (.tmp 4) (.const (.int .i64 0)), none, 0⟩]) <|
  .cond (.tmp 5)
    (.skip)
    (.keep [3] <|
    .exit 0)) <|
  .seq (.block 1 <|
  .ops [
    ⟨some 8, .mv (.tmp 3), none, 0⟩,
    ⟨some 9, .mv (.tmp 0), none, 0⟩,
    ⟨some 10, .bin .rem (.tmp 9) (.const (.int .i64 2)), none, 0⟩,
    ⟨some 11, .bin .add (.tmp 8) (.tmp 10), none, 0⟩,
    ⟨some 3, .mv (.tmp 11), none, 0⟩]) <|
  .ops [
    ⟨some 6, .mv (.tmp 0), none, 0⟩,
    ⟨some 7, .bin .quo (.tmp 6) (.const (.int .i64 2)), none, 0⟩,
    ⟨some 0, .mv (.tmp 7), none, 0⟩]
def i_spec_l01Bits : FF := ⟨13, [.tmp 2],
  .seq (.ops [
    ⟨some 2, .mv (.const (.int .i64 0)), none, 0⟩]) <|
  .seq (.ops [
    ⟨some 3, .mv (.const (.int .i64 0)), none, 0⟩]) <|
  .seq (.block 0 <|
  .loop [0, 3] i_spec_l01Bits_B1) <|
  .seq (.ops [
    ⟨some 12, .mv (.tmp 3), none, 0⟩,
    ⟨some 2, .mv (.tmp 12), none, 0⟩]) <|
  .keep [2] <|
  .ret⟩

theorem e_spec_l01Bits : EntOK Tryd.prog (compD Tryd.prog) k_spec_l01Bits i_spec_l01Bits.vf :=
  ⟨Tryd.f122, Tryd.f122.body.getD .skip, Tryd.func122, by kernel_rfl, by kernel_rfl, by kernel_rfl, by kernel_rfl, by kernel_rfl⟩

/-- math/bits.OnesCount64 -/
def i_math_bits_OnesCount64 : FF := ⟨35, [.tmp 2],
  .seq (.ops [
    ⟨some 2, .mv (.const (.int .i64 0)), none, 0⟩]) <|
  .seq (.ops [
    ⟨some 3, .mv (.tmp 0), none, 0⟩,
    ⟨some 4, .bin .shr (.tmp 3) (.const (.int .u64 1)), none, 0⟩,
    ⟨some 5, .bin .and (.tmp 4) (.const (.int .u64 6148914691236517205)), none, 0⟩,
    ⟨some 6, .mv (.tmp 0), none, 0⟩,
    ⟨some 7, .bin .and (.tmp 6) (.const (.int .u64 6148914691236517205)), none, 0⟩,
    ⟨some 8, .bin .add (.tmp 5) (.tmp 7), none, 0⟩,
    ⟨some 0, .mv (.tmp 8), none, 0⟩]) <|
  .seq (.ops [
    ⟨some 9, .mv (.tmp 0), none, 0⟩,
    ⟨some 10, .bin .shr (.tmp 9) (.const (.int .u64 2)), none, 0⟩,
    ⟨some 11, .bin .and (.tmp 10) (.const (.int .u64 3689348814741910323)), none, 0⟩,
    ⟨some 12, .mv (.tmp 0), none, 0⟩,
    ⟨some 13, .bin .and (.tmp 12) (.const (.int .u64 3689348814741910323)), none, 0⟩,
    ⟨some 14, .bin .add (.tmp 11) (.tmp 13), none, 0⟩,
    ⟨some 0, .mv (.tmp 14), none, 0⟩]) <|
  .seq (.ops [
    ⟨some 15, .mv (.tmp 0), none, 0⟩,
    ⟨some 16, .bin .shr (.tmp 15) (.const (.int .u64 4)), none, 0⟩,
    ⟨some 17, .mv (.tmp 0), none, 0⟩,
    ⟨some 18, .bin .add (.tmp 16) (.tmp 17), none, 0⟩,
    ⟨some 19, .bin .and (.tmp 18) (.const (.int .u64 1085102592571150095)), none, 0⟩,
    ⟨some 0, .mv (.tmp 19), none, 0⟩]) <|
  .seq (.ops [
    ⟨some 20, .mv (.tmp 0), none, 0⟩,
    ⟨some 21, .mv (.tmp 0), none, 0⟩,
    ⟨some 22, .bin .shr (.tmp 21) (.const (.int .u64 8)), none, 0⟩,
    ⟨some 23, .bin .add (.tmp 20) (.tmp 22), none, 0⟩,
    ⟨some 0, .mv (.tmp 23), none, 0⟩]) <|
  .seq (.ops [
    ⟨some 24, .mv (.tmp 0), none, 0⟩,
    ⟨some 25, .mv (.tmp 0), none, 0⟩,
    ⟨some 26, .bin .shr (.tmp 25) (.const (.int .u64 16)), none, 0⟩,
    ⟨some 27, .bin .add (.tmp 24) (.tmp 26), none, 0⟩,
    ⟨some 0, .mv (.tmp 27), none, 0⟩]) <|
  .seq (.ops [
    ⟨some 28, .mv (.tmp 0), none, 0⟩,
    ⟨some 29, .mv (.tmp 0), none, 0⟩,
    ⟨some 30, .bin .shr (.tmp 29) (.const (.int .u64 32)), none, 0⟩,
    ⟨some 31, .bin .add (.tmp 28) (.tmp 30), none, 0⟩,
    ⟨some 0, .mv (.tmp 31), none, 0⟩]) <|
  .seq (.ops [
    ⟨some 32, .mv (.tmp 0), none, 0⟩,
    ⟨some 33, .conv .i64 (.tmp 32), none, 0⟩,
    ⟨some 34, .bin .and (.tmp 33) (.const (.int .i64 127)), none, 0⟩,
    ⟨some 2, .mv (.tmp 34), none, 0⟩]) <|
  .keep [2] <|
  .ret⟩

theorem e_math_bits_OnesCount64 : EntOK Tryd.prog (compD Tryd.prog) k_math_bits_OnesCount64 i_math_bits_OnesCount64.vf :=
  ⟨Tryd.f123, Tryd.f123.body.getD .skip, Tryd.func123, by kernel_rfl, by kernel_rfl, by kernel_rfl, by kernel_rfl, by kernel_rfl⟩

/-- math/bits.Mul32 -/
def i_math_bits_Mul32 : FF := ⟨17, [.tmp 4, .tmp 5],
  .seq (.ops [
    ⟨some 4, .mv (.const (.int .u32 0)), none, 0⟩,
    ⟨some 5, .mv (.const (.int .u32 0)), none, 0⟩]) <|
  .seq (.ops [
    ⟨some 7, .mv (.tmp 0), none, 0⟩,
    ⟨some 8, .conv .u64 (.tmp 7), none, 0⟩,
    ⟨some 9, .mv (.tmp 1), none, 0⟩,
    ⟨some 10, .conv .u64 (.tmp 9), none, 0⟩,
    ⟨some 11, .bin .mul (.tmp 8) (.tmp 10), none, 0⟩,
    ⟨some 6, .mv (.tmp 11), none, 0⟩]) <|
  .seq (.ops [
    ⟨some 12, .mv (.tmp 6), none, 0⟩,
    ⟨some 13, .bin .shr (.tmp 12) (.const (.int .u64 32)), none, 0⟩,
    ⟨some 14, .conv .u32 (.tmp 13), none, 0⟩,
    ⟨some 15, .mv (.tmp 6), none, 0⟩,
    ⟨some 16, .conv .u32 (.tmp 15), none, 0⟩,
    ⟨some 4, .mv (.tmp 14), none, 0⟩,
    ⟨some 5, .mv (.tmp 16), none, 0⟩]) <|
  .keep [4, 5] <|
  .ret⟩

theorem e_math_bits_Mul32 : EntOK Tryd.prog (compD Tryd.prog) k_math_bits_Mul32 i_math_bits_Mul32.vf :=
  ⟨Tryd.f124, Tryd.f124.body.getD .skip, Tryd.func124, by kernel_rfl, by kernel_rfl, by kernel_rfl, by kernel_rfl, by kernel_rfl⟩

/-- math/bits.Mul64 -/
def i_math_bits_Mul64 : FF := ⟨51, [.tmp 4, .tmp 5],
  .seq (.ops [
    ⟨some 4, .mv (.const (.int .u64 0)), none, 0⟩,
    ⟨some 5, .mv (.const (.int .u64 0)), none, 0⟩]) <|
  .seq (.ops [
    ⟨some 14, .mv (.tmp 0), none, 0⟩,
    ⟨some 15, .bin .and (.tmp 14) (.const (.int .u64 4294967295)), none, 0⟩,
    ⟨some 6, .mv (.tmp 15), none, 0⟩]) <|
  .seq (.ops [
    ⟨some 16, .mv (.tmp 0), none, 0⟩,
    ⟨some 17, .bin .shr (.tmp 16) (.const (.int .u64 32)), none, 0⟩,
    ⟨some 7, .mv (.tmp 17), none, 0⟩]) <|
  .seq (.ops [
    ⟨some 18, .mv (.tmp 1), none, 0⟩,
    ⟨some 19, .bin .and (.tmp 18) (.const (.int .u64 4294967295)), none, 0⟩,
    ⟨some 8, .mv (.tmp 19), none, 0⟩]) <|
  .seq (.ops [
    ⟨some 20, .mv (.tmp 1), none, 0⟩,
    ⟨some 21, .bin .shr (.tmp 20) (.const (.int .u64 32)), none, 0⟩,
    ⟨some 9, .mv (.tmp 21), none, 0⟩]) <|
  .seq (.ops [
    ⟨some 22, .mv (.tmp 6), none, 0⟩,
    ⟨some 23, .mv (.tmp 8), none, 0⟩,
    ⟨some 24, .bin .mul (.tmp 22) (.tmp 23), none, 0⟩,
    ⟨some 10, .mv (.tmp 24), none, 0⟩]) <|
  .seq (.ops [
    ⟨some 25, .mv (.tmp 7), none, 0⟩,
    ⟨some 26, .mv (.tmp 8), none, 0⟩,
    ⟨some 27, .bin .mul (.tmp 25) (.tmp 26), none, 0⟩,
    ⟨some 28, .mv (.tmp 10), none, 0⟩,
    ⟨some 29, .bin .shr (.tmp 28) (.const (.int .u64 32)), none, 0⟩,
    ⟨some 30, .bin .add (.tmp 27) (.tmp 29), none, 0⟩,
    ⟨some 11, .mv (.tmp 30), none, 0⟩]) <|
  .seq (.ops [
    ⟨some 31, .mv (.tmp 11), none, 0⟩,
    ⟨some 32, .bin .and (.tmp 31) (.const (.int .u64 4294967295)), none, 0⟩,
    ⟨some 12, .mv (.tmp 32), none, 0⟩]) <|
  .seq (.ops [
    ⟨some 33, .mv (.tmp 11), none, 0⟩,
    ⟨some 34, .bin .shr (.tmp 33) (.const (.int .u64 32)), none, 0⟩,
    ⟨some 13, .mv (.tmp 34), none, 0⟩]) <|
  .seq (.ops [
    ⟨some 35, .mv (.tmp 12), none, 0⟩,
    ⟨some 36, .mv (.tmp 6), none, 0⟩,
    ⟨some 37, .mv (.tmp 9), none, 0⟩,
    ⟨some 38, .bin .mul (.tmp 36) (.tmp 37), none, 0⟩,
    ⟨some 39, .bin .add (.tmp 35) (.tmp 38), none, 0⟩,
    ⟨some 12, .mv (.tmp 39), none, 0⟩]) <|
  .seq (.ops [
    ⟨some 40, .mv (.tmp 7), none, 0⟩,
    ⟨some 41, .mv (.tmp 9), none, 0⟩,
    ⟨some 42, .bin .mul (.tmp 40) (.tmp 41), none, 0⟩,
    ⟨some 43, .mv (.tmp 13), none, 0⟩,
    ⟨some 44, .bin .add (.tmp 42) (.tmp 43), none, 0⟩,
    ⟨some 45, .mv (.tmp 12), none, 0⟩,
    ⟨some 46, .bin .shr (.tmp 45) (.const (.int .u64 32)), none, 0⟩,
    ⟨some 47, .bin .add (.tmp 44) (.tmp 46), none, 0⟩,
    ⟨some 4, .mv (.tmp 47), none, 0⟩]) <|
  .seq (.ops [
    ⟨some 48, .mv (.tmp 0), none, 0⟩,
    ⟨some 49, .mv (.tmp 1), none, 0⟩,
    ⟨some 50, .bin .mul (.tmp 48) (.tmp 49), none, 0⟩,
    ⟨some 5, .mv (.tmp 50), none, 0⟩]) <|
  .keep [4, 5] <|
  .ret⟩

theorem e_math_bits_Mul64 : EntOK Tryd.prog (compD Tryd.prog) k_math_bits_Mul64 i_math_bits_Mul64.vf :=
  ⟨Tryd.f125, Tryd.f125.body.getD .skip, Tryd.func125, by kernel_rfl, by kernel_rfl, by kernel_rfl, by kernel_rfl, by kernel_rfl⟩

def tab : List (Nat × FF) := [(k_laws_FnFirstRegular, i_laws_FnFirstRegular), (k_spec_LeastVertices, i_spec_LeastVertices), (k_impl_LeastVertices, i_impl_LeastVertices), (k_spec_FirstRegular, i_spec_FirstRegular), (k_impl_FirstRegular, i_impl_FirstRegular), (k_laws_big, i_laws_big), (k_spec_DrawFirstRegular, i_spec_DrawFirstRegular), (k_laws_graphs5, i_laws_graphs5), (k_impl_RegularDegree, i_impl_RegularDegree), (k_impl_FitsBoth, i_impl_FitsBoth), (k_spec_DrawLeastVertices, i_spec_DrawLeastVertices), (k_spec_l01In, i_spec_l01In), (k_spec_l07Numbers, i_spec_l07Numbers), (k_spec_l01Empty, i_spec_l01Empty), (k_impl_isBoth, i_impl_isBoth), (k_impl_empty, i_impl_empty), (k_spec_l07First, i_spec_l07First), (k_impl_firstRegular, i_impl_firstRegular), (k_impl_Graph_has, i_impl_Graph_has), (k_impl_Graph_girth, i_impl_Graph_girth), (k_impl_Graph_around, i_impl_Graph_around), (k_impl_Graph_distances, i_impl_Graph_distances), (k_spec_l07May, i_spec_l07May), (k_spec_l01From, i_spec_l01From), (k_spec_l07DrawNumbers, i_spec_l07DrawNumbers), (k_spec_l01Next, i_spec_l01Next), (k_spec_l01Pick, i_spec_l01Pick), (k_laws_likeInts, i_laws_likeInts), (k_impl_IsGraph, i_impl_IsGraph), (k_impl_Graph_regular, i_impl_Graph_regular), (k_impl_bothCode, i_impl_bothCode), (k_impl_Graph_fits, i_impl_Graph_fits), (k_spec_l01Put, i_spec_l01Put), (k_impl_own, i_impl_own), (k_impl_Graph_mayJoin, i_impl_Graph_mayJoin), (k_impl_Graph_put, i_impl_Graph_put), (k_spec_l07Search, i_spec_l07Search), (k_impl_girthBound, i_impl_girthBound), (k_impl_firstRegular_1, i_impl_firstRegular_1), (k_impl_Graph_degree, i_impl_Graph_degree), (k_impl_Graph_take, i_impl_Graph_take), (k_impl_Graph_girthAt, i_impl_Graph_girthAt), (k_slices_Repeat_int64_int64, i_slices_Repeat_int64_int64), (k_impl_list, i_impl_list), (k_spec_l01Has, i_spec_l01Has), (k_spec_l01Degree, i_spec_l01Degree), (k_spec_l07Far, i_spec_l07Far), (k_impl_Graph_degrees, i_impl_Graph_degrees), (k_slices_Min_int64_int64, i_slices_Min_int64_int64), (k_slices_Max_int64_int64, i_slices_Max_int64_int64), (k_slices_Clone_int64_int64, i_slices_Clone_int64_int64), (k_impl_powers, i_impl_powers), (k_impl_size, i_impl_size), (k_math_bits_Mul, i_math_bits_Mul), (k_spec_l01Bits, i_spec_l01Bits), (k_math_bits_OnesCount64, i_math_bits_OnesCount64), (k_math_bits_Mul32, i_math_bits_Mul32), (k_math_bits_Mul64, i_math_bits_Mul64)]
theorem tabOK : ∀ p ∈ tab, EntOK Tryd.prog (compD Tryd.prog) p.1 p.2.vf := by
  intro p hp
  simp only [tab, List.mem_cons, List.not_mem_nil, or_false] at hp
  rcases hp with rfl | rfl | rfl | rfl | rfl | rfl | rfl | rfl | rfl | rfl | rfl | rfl | rfl | rfl | rfl | rfl | rfl | rfl | rfl | rfl | rfl | rfl | rfl | rfl | rfl | rfl | rfl | rfl | rfl | rfl | rfl | rfl | rfl | rfl | rfl | rfl | rfl | rfl | rfl | rfl | rfl | rfl | rfl | rfl | rfl | rfl | rfl | rfl | rfl | rfl | rfl | rfl | rfl | rfl | rfl | rfl | rfl | rfl
  · exact e_laws_FnFirstRegular
  · exact e_spec_LeastVertices
  · exact e_impl_LeastVertices
  · exact e_spec_FirstRegular
  · exact e_impl_FirstRegular
  · exact e_laws_big
  · exact e_spec_DrawFirstRegular
  · exact e_laws_graphs5
  · exact e_impl_RegularDegree
  · exact e_impl_FitsBoth
  · exact e_spec_DrawLeastVertices
  · exact e_spec_l01In
  · exact e_spec_l07Numbers
  · exact e_spec_l01Empty
  · exact e_impl_isBoth
  · exact e_impl_empty
  · exact e_spec_l07First
  · exact e_impl_firstRegular
  · exact e_impl_Graph_has
  · exact e_impl_Graph_girth
  · exact e_impl_Graph_around
  · exact e_impl_Graph_distances
  · exact e_spec_l07May
  · exact e_spec_l01From
  · exact e_spec_l07DrawNumbers
  · exact e_spec_l01Next
  · exact e_spec_l01Pick
  · exact e_laws_likeInts
  · exact e_impl_IsGraph
  · exact e_impl_Graph_regular
  · exact e_impl_bothCode
  · exact e_impl_Graph_fits
  · exact e_spec_l01Put
  · exact e_impl_own
  · exact e_impl_Graph_mayJoin
  · exact e_impl_Graph_put
  · exact e_spec_l07Search
  · exact e_impl_girthBound
  · exact e_impl_firstRegular_1
  · exact e_impl_Graph_degree
  · exact e_impl_Graph_take
  · exact e_impl_Graph_girthAt
  · exact e_slices_Repeat_int64_int64
  · exact e_impl_list
  · exact e_spec_l01Has
  · exact e_spec_l01Degree
  · exact e_spec_l07Far
  · exact e_impl_Graph_degrees
  · exact e_slices_Min_int64_int64
  · exact e_slices_Max_int64_int64
  · exact e_slices_Clone_int64_int64
  · exact e_impl_powers
  · exact e_impl_size
  · exact e_math_bits_Mul
  · exact e_spec_l01Bits
  · exact e_math_bits_OnesCount64
  · exact e_math_bits_Mul32
  · exact e_math_bits_Mul64

def F (n : Nat) : Option Ent := match tab.lookup n with
  | some f => some (.ir f.vf)
  | none => if n = k_math_bits_TrailingZeros64 then some (.ext tzX) else none
theorem v_laws_FnFirstRegular {nro : Nat} {args : List Value} {h : VH} {r : Value × VH} (ha : args.length ≤ i_laws_FnFirstRegular.ntmps) (hr : fbody (vcall F nro) nro i_laws_FnFirstRegular args h = some r) : vcall F nro k_laws_FnFirstRegular args h = some r := vcall_f (by kernel_rfl) (by kernel_rfl) ha hr
theorem v_spec_LeastVertices {nro : Nat} {args : List Value} {h : VH} {r : Value × VH} (ha : args.length ≤ i_spec_LeastVertices.ntmps) (hr : fbody (vcall F nro) nro i_spec_LeastVertices args h = some r) : vcall F nro k_spec_LeastVertices args h = some r := vcall_f (by kernel_rfl) (by kernel_rfl) ha hr
theorem v_impl_LeastVertices {nro : Nat} {args : List Value} {h : VH} {r : Value × VH} (ha : args.length ≤ i_impl_LeastVertices.ntmps) (hr : fbody (vcall F nro) nro i_impl_LeastVertices args h = some r) : vcall F nro k_impl_LeastVertices args h = some r := vcall_f (by kernel_rfl) (by kernel_rfl) ha hr
theorem v_spec_FirstRegular {nro : Nat} {args : List Value} {h : VH} {r : Value × VH} (ha : args.length ≤ i_spec_FirstRegular.ntmps) (hr : fbody (vcall F nro) nro i_spec_FirstRegular args h = some r) : vcall F nro k_spec_FirstRegular args h = some r := vcall_f (by kernel_rfl) (by kernel_rfl) ha hr
theorem v_impl_FirstRegular {nro : Nat} {args : List Value} {h : VH} {r : Value × VH} (ha : args.length ≤ i_impl_FirstRegular.ntmps) (hr : fbody (vcall F nro) nro i_impl_FirstRegular args h = some r) : vcall F nro k_impl_FirstRegular args h = some r := vcall_f (by kernel_rfl) (by kernel_rfl) ha hr
theorem v_laws_big {nro : Nat} {args : List Value} {h : VH} {r : Value × VH} (ha : args.length ≤ i_laws_big.ntmps) (hr : fbody (vcall F nro) nro i_laws_big args h = some r) : vcall F nro k_laws_big args h = some r := vcall_f (by kernel_rfl) (by kernel_rfl) ha hr
theorem v_spec_DrawFirstRegular {nro : Nat} {args : List Value} {h : VH} {r : Value × VH} (ha : args.length ≤ i_spec_DrawFirstRegular.ntmps) (hr : fbody (vcall F nro) nro i_spec_DrawFirstRegular args h = some r) : vcall F nro k_spec_DrawFirstRegular args h = some r := vcall_f (by kernel_rfl) (by kernel_rfl) ha hr
theorem v_laws_graphs5 {nro : Nat} {args : List Value} {h : VH} {r : Value × VH} (ha : args.length ≤ i_laws_graphs5.ntmps) (hr : fbody (vcall F nro) nro i_laws_graphs5 args h = some r) : vcall F nro k_laws_graphs5 args h = some r := vcall_f (by kernel_rfl) (by kernel_rfl) ha hr
theorem v_impl_RegularDegree {nro : Nat} {args : List Value} {h : VH} {r : Value × VH} (ha : args.length ≤ i_impl_RegularDegree.ntmps) (hr : fbody (vcall F nro) nro i_impl_RegularDegree args h = some r) : vcall F nro k_impl_RegularDegree args h = some r := vcall_f (by kernel_rfl) (by kernel_rfl) ha hr
theorem v_impl_FitsBoth {nro : Nat} {args : List Value} {h : VH} {r : Value × VH} (ha : args.length ≤ i_impl_FitsBoth.ntmps) (hr : fbody (vcall F nro) nro i_impl_FitsBoth args h = some r) : vcall F nro k_impl_FitsBoth args h = some r := vcall_f (by kernel_rfl) (by kernel_rfl) ha hr
theorem v_spec_DrawLeastVertices {nro : Nat} {args : List Value} {h : VH} {r : Value × VH} (ha : args.length ≤ i_spec_DrawLeastVertices.ntmps) (hr : fbody (vcall F nro) nro i_spec_DrawLeastVertices args h = some r) : vcall F nro k_spec_DrawLeastVertices args h = some r := vcall_f (by kernel_rfl) (by kernel_rfl) ha hr
theorem v_spec_l01In {nro : Nat} {args : List Value} {h : VH} {r : Value × VH} (ha : args.length ≤ i_spec_l01In.ntmps) (hr : fbody (vcall F nro) nro i_spec_l01In args h = some r) : vcall F nro k_spec_l01In args h = some r := vcall_f (by kernel_rfl) (by kernel_rfl) ha hr
theorem v_spec_l07Numbers {nro : Nat} {args : List Value} {h : VH} {r : Value × VH} (ha : args.length ≤ i_spec_l07Numbers.ntmps) (hr : fbody (vcall F nro) nro i_spec_l07Numbers args h = some r) : vcall F nro k_spec_l07Numbers args h = some r := vcall_f (by kernel_rfl) (by kernel_rfl) ha hr
theorem v_spec_l01Empty {nro : Nat} {args : List Value} {h : VH} {r : Value × VH} (ha : args.length ≤ i_spec_l01Empty.ntmps) (hr : fbody (vcall F nro) nro i_spec_l01Empty args h = some r) : vcall F nro k_spec_l01Empty args h = some r := vcall_f (by kernel_rfl) (by kernel_rfl) ha hr
theorem v_impl_isBoth {nro : Nat} {args : List Value} {h : VH} {r : Value × VH} (ha : args.length ≤ i_impl_isBoth.ntmps) (hr : fbody (vcall F nro) nro i_impl_isBoth args h = some r) : vcall F nro k_impl_isBoth args h = some r := vcall_f (by kernel_rfl) (by kernel_rfl) ha hr
theorem v_impl_empty {nro : Nat} {args : List Value} {h : VH} {r : Value × VH} (ha : args.length ≤ i_impl_empty.ntmps) (hr : fbody (vcall F nro) nro i_impl_empty args h = some r) : vcall F nro k_impl_empty args h = some r := vcall_f (by kernel_rfl) (by kernel_rfl) ha hr
theorem v_spec_l07First {nro : Nat} {args : List Value} {h : VH} {r : Value × VH} (ha : args.length ≤ i_spec_l07First.ntmps) (hr : fbody (vcall F nro) nro i_spec_l07First args h = some r) : vcall F nro k_spec_l07First args h = some r := vcall_f (by kernel_rfl) (by kernel_rfl) ha hr
theorem v_impl_firstRegular {nro : Nat} {args : List Value} {h : VH} {r : Value × VH} (ha : args.length ≤ i_impl_firstRegular.ntmps) (hr : fbody (vcall F nro) nro i_impl_firstRegular args h = some r) : vcall F nro k_impl_firstRegular args h = some r := vcall_f (by kernel_rfl) (by kernel_rfl) ha hr
theorem v_impl_Graph_has {nro : Nat} {args : List Value} {h : VH} {r : Value × VH} (ha : args.length ≤ i_impl_Graph_has.ntmps) (hr : fbody (vcall F nro) nro i_impl_Graph_has args h = some r) : vcall F nro k_impl_Graph_has args h = some r := vcall_f (by kernel_rfl) (by kernel_rfl) ha hr
theorem v_impl_Graph_girth {nro : Nat} {args : List Value} {h : VH} {r : Value × VH} (ha : args.length ≤ i_impl_Graph_girth.ntmps) (hr : fbody (vcall F nro) nro i_impl_Graph_girth args h = some r) : vcall F nro k_impl_Graph_girth args h = some r := vcall_f (by kernel_rfl) (by kernel_rfl) ha hr
theorem v_impl_Graph_around {nro : Nat} {args : List Value} {h : VH} {r : Value × VH} (ha : args.length ≤ i_impl_Graph_around.ntmps) (hr : fbody (vcall F nro) nro i_impl_Graph_around args h = some r) : vcall F nro k_impl_Graph_around args h = some r := vcall_f (by kernel_rfl) (by kernel_rfl) ha hr
theorem v_impl_Graph_distances {nro : Nat} {args : List Value} {h : VH} {r : Value × VH} (ha : args.length ≤ i_impl_Graph_distances.ntmps) (hr : fbody (vcall F nro) nro i_impl_Graph_distances args h = some r) : vcall F nro k_impl_Graph_distances args h = some r := vcall_f (by kernel_rfl) (by kernel_rfl) ha hr
theorem v_spec_l07May {nro : Nat} {args : List Value} {h : VH} {r : Value × VH} (ha : args.length ≤ i_spec_l07May.ntmps) (hr : fbody (vcall F nro) nro i_spec_l07May args h = some r) : vcall F nro k_spec_l07May args h = some r := vcall_f (by kernel_rfl) (by kernel_rfl) ha hr
theorem v_spec_l01From {nro : Nat} {args : List Value} {h : VH} {r : Value × VH} (ha : args.length ≤ i_spec_l01From.ntmps) (hr : fbody (vcall F nro) nro i_spec_l01From args h = some r) : vcall F nro k_spec_l01From args h = some r := vcall_f (by kernel_rfl) (by kernel_rfl) ha hr
theorem v_spec_l07DrawNumbers {nro : Nat} {args : List Value} {h : VH} {r : Value × VH} (ha : args.length ≤ i_spec_l07DrawNumbers.ntmps) (hr : fbody (vcall F nro) nro i_spec_l07DrawNumbers args h = some r) : vcall F nro k_spec_l07DrawNumbers args h = some r := vcall_f (by kernel_rfl) (by kernel_rfl) ha hr
theorem v_spec_l01Next {nro : Nat} {args : List Value} {h : VH} {r : Value × VH} (ha : args.length ≤ i_spec_l01Next.ntmps) (hr : fbody (vcall F nro) nro i_spec_l01Next args h = some r) : vcall F nro k_spec_l01Next args h = some r := vcall_f (by kernel_rfl) (by kernel_rfl) ha hr
theorem v_spec_l01Pick {nro : Nat} {args : List Value} {h : VH} {r : Value × VH} (ha : args.length ≤ i_spec_l01Pick.ntmps) (hr : fbody (vcall F nro) nro i_spec_l01Pick args h = some r) : vcall F nro k_spec_l01Pick args h = some r := vcall_f (by kernel_rfl) (by kernel_rfl) ha hr
theorem v_laws_likeInts {nro : Nat} {args : List Value} {h : VH} {r : Value × VH} (ha : args.length ≤ i_laws_likeInts.ntmps) (hr : fbody (vcall F nro) nro i_laws_likeInts args h = some r) : vcall F nro k_laws_likeInts args h = some r := vcall_f (by kernel_rfl) (by kernel_rfl) ha hr
theorem v_impl_IsGraph {nro : Nat} {args : List Value} {h : VH} {r : Value × VH} (ha : args.length ≤ i_impl_IsGraph.ntmps) (hr : fbody (vcall F nro) nro i_impl_IsGraph args h = some r) : vcall F nro k_impl_IsGraph args h = some r := vcall_f (by kernel_rfl) (by kernel_rfl) ha hr
theorem v_impl_Graph_regular {nro : Nat} {args : List Value} {h : VH} {r : Value × VH} (ha : args.length ≤ i_impl_Graph_regular.ntmps) (hr : fbody (vcall F nro) nro i_impl_Graph_regular args h = some r) : vcall F nro k_impl_Graph_regular args h = some r := vcall_f (by kernel_rfl) (by kernel_rfl) ha hr
theorem v_impl_bothCode {nro : Nat} {args : List Value} {h : VH} {r : Value × VH} (ha : args.length ≤ i_impl_bothCode.ntmps) (hr : fbody (vcall F nro) nro i_impl_bothCode args h = some r) : vcall F nro k_impl_bothCode args h = some r := vcall_f (by kernel_rfl) (by kernel_rfl) ha hr
theorem v_impl_Graph_fits {nro : Nat} {args : List Value} {h : VH} {r : Value × VH} (ha : args.length ≤ i_impl_Graph_fits.ntmps) (hr : fbody (vcall F nro) nro i_impl_Graph_fits args h = some r) : vcall F nro k_impl_Graph_fits args h = some r := vcall_f (by kernel_rfl) (by kernel_rfl) ha hr
theorem v_spec_l01Put {nro : Nat} {args : List Value} {h : VH} {r : Value × VH} (ha : args.length ≤ i_spec_l01Put.ntmps) (hr : fbody (vcall F nro) nro i_spec_l01Put args h = some r) : vcall F nro k_spec_l01Put args h = some r := vcall_f (by kernel_rfl) (by kernel_rfl) ha hr
theorem v_impl_own {nro : Nat} {args : List Value} {h : VH} {r : Value × VH} (ha : args.length ≤ i_impl_own.ntmps) (hr : fbody (vcall F nro) nro i_impl_own args h = some r) : vcall F nro k_impl_own args h = some r := vcall_f (by kernel_rfl) (by kernel_rfl) ha hr
theorem v_impl_Graph_mayJoin {nro : Nat} {args : List Value} {h : VH} {r : Value × VH} (ha : args.length ≤ i_impl_Graph_mayJoin.ntmps) (hr : fbody (vcall F nro) nro i_impl_Graph_mayJoin args h = some r) : vcall F nro k_impl_Graph_mayJoin args h = some r := vcall_f (by kernel_rfl) (by kernel_rfl) ha hr
theorem v_impl_Graph_put {nro : Nat} {args : List Value} {h : VH} {r : Value × VH} (ha : args.length ≤ i_impl_Graph_put.ntmps) (hr : fbody (vcall F nro) nro i_impl_Graph_put args h = some r) : vcall F nro k_impl_Graph_put args h = some r := vcall_f (by kernel_rfl) (by kernel_rfl) ha hr
theorem v_spec_l07Search {nro : Nat} {args : List Value} {h : VH} {r : Value × VH} (ha : args.length ≤ i_spec_l07Search.ntmps) (hr : fbody (vcall F nro) nro i_spec_l07Search args h = some r) : vcall F nro k_spec_l07Search args h = some r := vcall_f (by kernel_rfl) (by kernel_rfl) ha hr
theorem v_impl_girthBound {nro : Nat} {args : List Value} {h : VH} {r : Value × VH} (ha : args.length ≤ i_impl_girthBound.ntmps) (hr : fbody (vcall F nro) nro i_impl_girthBound args h = some r) : vcall F nro k_impl_girthBound args h = some r := vcall_f (by kernel_rfl) (by kernel_rfl) ha hr
theorem v_impl_firstRegular_1 {nro : Nat} {args : List Value} {h : VH} {r : Value × VH} (ha : args.length ≤ i_impl_firstRegular_1.ntmps) (hr : fbody (vcall F nro) nro i_impl_firstRegular_1 args h = some r) : vcall F nro k_impl_firstRegular_1 args h = some r := vcall_f (by kernel_rfl) (by kernel_rfl) ha hr
theorem v_impl_Graph_degree {nro : Nat} {args : List Value} {h : VH} {r : Value × VH} (ha : args.length ≤ i_impl_Graph_degree.ntmps) (hr : fbody (vcall F nro) nro i_impl_Graph_degree args h = some r) : vcall F nro k_impl_Graph_degree args h = some r := vcall_f (by kernel_rfl) (by kernel_rfl) ha hr
theorem v_impl_Graph_take {nro : Nat} {args : List Value} {h : VH} {r : Value × VH} (ha : args.length ≤ i_impl_Graph_take.ntmps) (hr : fbody (vcall F nro) nro i_impl_Graph_take args h = some r) : vcall F nro k_impl_Graph_take args h = some r := vcall_f (by kernel_rfl) (by kernel_rfl) ha hr
theorem v_impl_Graph_girthAt {nro : Nat} {args : List Value} {h : VH} {r : Value × VH} (ha : args.length ≤ i_impl_Graph_girthAt.ntmps) (hr : fbody (vcall F nro) nro i_impl_Graph_girthAt args h = some r) : vcall F nro k_impl_Graph_girthAt args h = some r := vcall_f (by kernel_rfl) (by kernel_rfl) ha hr
theorem v_slices_Repeat_int64_int64 {nro : Nat} {args : List Value} {h : VH} {r : Value × VH} (ha : args.length ≤ i_slices_Repeat_int64_int64.ntmps) (hr : fbody (vcall F nro) nro i_slices_Repeat_int64_int64 args h = some r) : vcall F nro k_slices_Repeat_int64_int64 args h = some r := vcall_f (by kernel_rfl) (by kernel_rfl) ha hr
theorem v_impl_list {nro : Nat} {args : List Value} {h : VH} {r : Value × VH} (ha : args.length ≤ i_impl_list.ntmps) (hr : fbody (vcall F nro) nro i_impl_list args h = some r) : vcall F nro k_impl_list args h = some r := vcall_f (by kernel_rfl) (by kernel_rfl) ha hr
theorem v_spec_l01Has {nro : Nat} {args : List Value} {h : VH} {r : Value × VH} (ha : args.length ≤ i_spec_l01Has.ntmps) (hr : fbody (vcall F nro) nro i_spec_l01Has args h = some r) : vcall F nro k_spec_l01Has args h = some r := vcall_f (by kernel_rfl) (by kernel_rfl) ha hr
theorem v_spec_l01Degree {nro : Nat} {args : List Value} {h : VH} {r : Value × VH} (ha : args.length ≤ i_spec_l01Degree.ntmps) (hr : fbody (vcall F nro) nro i_spec_l01Degree args h = some r) : vcall F nro k_spec_l01Degree args h = some r := vcall_f (by kernel_rfl) (by kernel_rfl) ha hr
theorem v_spec_l07Far {nro : Nat} {args : List Value} {h : VH} {r : Value × VH} (ha : args.length ≤ i_spec_l07Far.ntmps) (hr : fbody (vcall F nro) nro i_spec_l07Far args h = some r) : vcall F nro k_spec_l07Far args h = some r := vcall_f (by kernel_rfl) (by kernel_rfl) ha hr
theorem v_impl_Graph_degrees {nro : Nat} {args : List Value} {h : VH} {r : Value × VH} (ha : args.length ≤ i_impl_Graph_degrees.ntmps) (hr : fbody (vcall F nro) nro i_impl_Graph_degrees args h = some r) : vcall F nro k_impl_Graph_degrees args h = some r := vcall_f (by kernel_rfl) (by kernel_rfl) ha hr
theorem v_slices_Min_int64_int64 {nro : Nat} {args : List Value} {h : VH} {r : Value × VH} (ha : args.length ≤ i_slices_Min_int64_int64.ntmps) (hr : fbody (vcall F nro) nro i_slices_Min_int64_int64 args h = some r) : vcall F nro k_slices_Min_int64_int64 args h = some r := vcall_f (by kernel_rfl) (by kernel_rfl) ha hr
theorem v_slices_Max_int64_int64 {nro : Nat} {args : List Value} {h : VH} {r : Value × VH} (ha : args.length ≤ i_slices_Max_int64_int64.ntmps) (hr : fbody (vcall F nro) nro i_slices_Max_int64_int64 args h = some r) : vcall F nro k_slices_Max_int64_int64 args h = some r := vcall_f (by kernel_rfl) (by kernel_rfl) ha hr
theorem v_slices_Clone_int64_int64 {nro : Nat} {args : List Value} {h : VH} {r : Value × VH} (ha : args.length ≤ i_slices_Clone_int64_int64.ntmps) (hr : fbody (vcall F nro) nro i_slices_Clone_int64_int64 args h = some r) : vcall F nro k_slices_Clone_int64_int64 args h = some r := vcall_f (by kernel_rfl) (by kernel_rfl) ha hr
theorem v_impl_powers {nro : Nat} {args : List Value} {h : VH} {r : Value × VH} (ha : args.length ≤ i_impl_powers.ntmps) (hr : fbody (vcall F nro) nro i_impl_powers args h = some r) : vcall F nro k_impl_powers args h = some r := vcall_f (by kernel_rfl) (by kernel_rfl) ha hr
theorem v_impl_size {nro : Nat} {args : List Value} {h : VH} {r : Value × VH} (ha : args.length ≤ i_impl_size.ntmps) (hr : fbody (vcall F nro) nro i_impl_size args h = some r) : vcall F nro k_impl_size args h = some r := vcall_f (by kernel_rfl) (by kernel_rfl) ha hr
theorem v_math_bits_Mul {nro : Nat} {args : List Value} {h : VH} {r : Value × VH} (ha : args.length ≤ i_math_bits_Mul.ntmps) (hr : fbody (vcall F nro) nro i_math_bits_Mul args h = some r) : vcall F nro k_math_bits_Mul args h = some r := vcall_f (by kernel_rfl) (by kernel_rfl) ha hr
theorem v_spec_l01Bits {nro : Nat} {args : List Value} {h : VH} {r : Value × VH} (ha : args.length ≤ i_spec_l01Bits.ntmps) (hr : fbody (vcall F nro) nro i_spec_l01Bits args h = some r) : vcall F nro k_spec_l01Bits args h = some r := vcall_f (by kernel_rfl) (by kernel_rfl) ha hr
theorem v_math_bits_OnesCount64 {nro : Nat} {args : List Value} {h : VH} {r : Value × VH} (ha : args.length ≤ i_math_bits_OnesCount64.ntmps) (hr : fbody (vcall F nro) nro i_math_bits_OnesCount64 args h = some r) : vcall F nro k_math_bits_OnesCount64 args h = some r := vcall_f (by kernel_rfl) (by kernel_rfl) ha hr
theorem v_math_bits_Mul32 {nro : Nat} {args : List Value} {h : VH} {r : Value × VH} (ha : args.length ≤ i_math_bits_Mul32.ntmps) (hr : fbody (vcall F nro) nro i_math_bits_Mul32 args h = some r) : vcall F nro k_math_bits_Mul32 args h = some r := vcall_f (by kernel_rfl) (by kernel_rfl) ha hr
theorem v_math_bits_Mul64 {nro : Nat} {args : List Value} {h : VH} {r : Value × VH} (ha : args.length ≤ i_math_bits_Mul64.ntmps) (hr : fbody (vcall F nro) nro i_math_bits_Mul64 args h = some r) : vcall F nro k_math_bits_Mul64 args h = some r := vcall_f (by kernel_rfl) (by kernel_rfl) ha hr

end Go.Proofs.YthpgiimaadohcaaDoor.Zv

