/- Part C of the proof: ZwIr, ZvSym. Conditions: none. -/
import Derived.Test.YthpgiimaadohcaaDoorProg
import Derived.Test.YthpgiimaadohcaaDoorZpB
set_option linter.unusedSimpArgs false
set_option linter.unusedVariables false
/- The functions' intermediate form. -/
namespace Go.Proofs.YthpgiimaadohcaaDoor.Zv
open Go
def k_math_bits_TrailingZeros64 : Nat := 119
def k_laws_FnExactPairsToJoin : Nat := 10
def k_laws_eqGraph : Nat := 14
def k_laws_markGraph : Nat := 15
def k_laws_szGraph : Nat := 21
def k_laws_toGraph : Nat := 23
def k_spec_PairsToJoin : Nat := 31
def k_impl_PairsToJoin : Nat := 32
def k_laws_eqInt64SS : Nat := 33
def k_laws_markInt64SS : Nat := 34
def k_laws_heldInt64SS : Nat := 35
def k_spec_l01In : Nat := 42
def k_spec_l07Numbers : Nat := 43
def k_impl_isBoth : Nat := 46
def k_laws_eqInt64S : Nat := 49
def k_laws_markInt64S : Nat := 50
def k_laws_heldInt64S : Nat := 51
def k_laws_szInt64S : Nat := 54
def k_laws_toInt64S : Nat := 58
def k_impl_Graph_has : Nat := 60
def k_impl_Graph_girth : Nat := 61
def k_impl_Graph_around : Nat := 62
def k_impl_Graph_distances : Nat := 70
def k_spec_l07Given : Nat := 73
def k_spec_l07May : Nat := 74
def k_impl_fitCode : Nat := 75
def k_impl_Graph_pairs : Nat := 76
def k_impl_IsGraph : Nat := 82
def k_impl_bothCode : Nat := 84
def k_impl_Graph_fits : Nat := 85
def k_spec_l01Copy : Nat := 86
def k_spec_l01Put : Nat := 87
def k_impl_own : Nat := 88
def k_impl_Graph_mayJoin : Nat := 89
def k_impl_Graph_degree : Nat := 94
def k_impl_Graph_take : Nat := 95
def k_spec_l01Is : Nat := 96
def k_impl_Graph_girthAt : Nat := 97
def k_slices_Repeat_int64_int64 : Nat := 103
def k_impl_list : Nat := 104
def k_spec_l07Fits : Nat := 105
def k_spec_l01Has : Nat := 106
def k_spec_l01Degree : Nat := 107
def k_spec_l07Far : Nat := 108
def k_impl_Graph_degrees : Nat := 109
def k_slices_Max_int64_int64 : Nat := 111
def k_spec_l01Own : Nat := 112
def k_slices_Clone_int64_int64 : Nat := 113
def k_impl_size : Nat := 115
def k_math_bits_Mul : Nat := 118
def k_spec_l01Edges : Nat := 120
def k_spec_l01Cut : Nat := 121
def k_spec_l01Bits : Nat := 122
def k_math_bits_OnesCount64 : Nat := 123
def k_math_bits_Mul32 : Nat := 124
def k_math_bits_Mul64 : Nat := 125
def k_spec_l01Join : Nat := 126
/-- loop.example/g01331/laws.FnExactPairsToJoin -/
def i_laws_FnExactPairsToJoin : FF := ⟨106, [.tmp 6],
  .seq (.ops [
    ⟨some 3, .box 2 (.tmp 0), none, 0⟩,
    ⟨some 6, .mv (.const (.bool false)), none, 0⟩]) <|
  .seq (.ops [
    ⟨some 7, .mv (.const (.int .i64 1048576)), none, 0⟩]) <|
  .seq (.ops [
    ⟨some 18, .load true 2 (.tmp 3), none, 0⟩,
    ⟨some 19, .mv (.tmp 7), none, 0⟩,
    ⟨some 20, .call k_laws_szGraph [(.tmp 18), (.tmp 19)], none, 0⟩,
    ⟨some 7, .mv (.tmp 20), none, 0⟩]) <|
  .seq (.seq (.ops [
    ⟨some 21, .mv (.tmp 7), none, 0⟩,
    ⟨some 22, .bin .lss (.tmp 21) (.const (.int .i64 0)), none, 0⟩]) <|
  .cond (.tmp 22)
    (.seq (.ops [
      ⟨some 6, .mv (.const (.bool true)), none, 0⟩]) <|
    .keep [6] <|
    .ret)
    (.skip)) <|
  .seq (.ops [
    ⟨some 24, .load true 2 (.tmp 3), none, 0⟩,
    ⟨some 25, .call k_laws_toGraph [(.tmp 24)], none, 0⟩,
    ⟨some 26, .mv (.tmp 1), none, 0⟩,
    ⟨some 27, .mv (.tmp 2), none, 0⟩,
    ⟨some 28, .call k_spec_PairsToJoin [(.tmp 25), (.tmp 26), (.tmp 27)], none, 0⟩,
    ⟨some 23, .mv (.tmp 28), none, 0⟩,
    ⟨some 29, .ext (.tmp 23) 0, none, 0⟩,
    ⟨some 30, .ext (.tmp 23) 1, none, 0⟩,
    ⟨some 8, .mv (.tmp 29), none, 0⟩,
    ⟨some 9, .mv (.tmp 30), none, 0⟩]) <|
  .seq (.ops [
    ⟨some 31, .load true 2 (.tmp 3), none, 0⟩,
    ⟨some 32, .call k_laws_toGraph [(.tmp 31)], none, 0⟩,
    ⟨some 10, .alloc [.int .i64 0, .slice none 0 0], none, 0⟩,
    ⟨none, .store 2 (.tmp 10) (.tmp 32), none, 0⟩]) <|
  .seq (.ops [
    ⟨some 34, .load true 2 (.tmp 10), none, 0⟩,
    ⟨some 35, .mv (.tmp 1), none, 0⟩,
    ⟨some 36, .mv (.tmp 2), none, 0⟩,
    ⟨some 37, .call k_impl_PairsToJoin [(.tmp 34), (.tmp 35), (.tmp 36)], none, 0⟩,
    ⟨some 33, .mv (.tmp 37), none, 0⟩,
    ⟨some 38, .ext (.tmp 33) 0, none, 0⟩,
    ⟨some 39, .ext (.tmp 33) 1, none, 0⟩,
    ⟨some 11, .mv (.tmp 38), none, 0⟩,
    ⟨some 12, .mv (.tmp 39), none, 0⟩]) <|
  .seq (.seq (.ops [
    ⟨some 40, .mv (.tmp 11), none, 0⟩,
    ⟨some 41, .mv (.tmp 8), none, 0⟩,
    ⟨some 42, .call k_laws_eqInt64SS [(.tmp 40), (.tmp 41)], none, 0⟩,
    ⟨some 43, .un .not (.tmp 42), none, 0⟩,
    ⟨some 44, .mv (.tmp 43), none, 0⟩,
    ⟨some 45, .mv (.tmp 12), some (44, false), 0⟩,
    ⟨some 46, .mv (.tmp 9), some (44, false), 0⟩,
    ⟨some 47, .bin .neq (.tmp 45) (.tmp 46), some (44, false), 0⟩,
    ⟨some 48, .pick (.tmp 44) (.const (.bool true)) (.tmp 47), none, 0⟩]) <|
  .cond (.tmp 48)
    (.seq (.ops [
      ⟨some 6, .mv (.const (.bool false)), none, 0⟩]) <|
    .keep [6] <|
    .ret)
    (.skip)) <|
  .seq (.seq (.dops [
    ⟨some 50, .load true 2 (.tmp 3), none, 0⟩,
    ⟨some 51, .call k_laws_toGraph [(.tmp 50)], none, 0⟩,
    ⟨some 49, .load true 2 (.tmp 10), none, 1⟩,
    ⟨some 52, .call k_laws_eqGraph [(.tmp 49), (.tmp 51)], none, 0⟩,
    ⟨some 53, .un .not (.tmp 52), none, 0⟩]) <|
  .cond (.tmp 53)
    (.seq (.ops [
      ⟨some 6, .mv (.const (.bool false)), none, 0⟩]) <|
    .keep [6] <|
    .ret)
    (.skip)) <|
  .seq (.ops [
    ⟨some 13, .mv (.const (.int .i64 1)), none, 0⟩]) <|
  .seq (.ops [
    ⟨some 54, .load true 2 (.tmp 10), none, 0⟩,
    ⟨some 55, .mv (.tmp 13), none, 0⟩,
    ⟨some 56, .call k_laws_markGraph [(.tmp 54), (.tmp 55)], none, 0⟩,
    ⟨some 13, .mv (.tmp 56), none, 0⟩]) <|
  .seq (.seq (.ops [
    ⟨some 57, .mv (.tmp 13), none, 0⟩,
    ⟨some 58, .bin .lss (.tmp 57) (.const (.int .i64 0)), none, 0⟩,
    ⟨some 59, .mv (.tmp 58), none, 0⟩,
    ⟨some 60, .mv (.tmp 11), some (59, false), 0⟩,
    ⟨some 61, .mv (.tmp 8), some (59, false), 0⟩,
    ⟨some 62, .call k_laws_eqInt64SS [(.tmp 60), (.tmp 61)], some (59, false), 0⟩,
    ⟨some 63, .un .not (.tmp 62), some (59, false), 0⟩,
    ⟨some 64, .pick (.tmp 59) (.const (.bool true)) (.tmp 63), none, 0⟩,
    ⟨some 65, .mv (.tmp 64), none, 0⟩,
    ⟨some 66, .mv (.tmp 12), some (65, false), 0⟩,
    ⟨some 67, .mv (.tmp 9), some (65, false), 0⟩,
    ⟨some 68, .bin .neq (.tmp 66) (.tmp 67), some (65, false), 0⟩,
    ⟨some 69, .pick (.tmp 65) (.const (.bool true)) (.tmp 68), none, 0⟩]) <|
  .cond (.tmp 69)
    (.seq (.ops [
      ⟨some 6, .mv (.const (.bool false)), none, 0⟩]) <|
    .keep [6] <|
    .ret)
    (.skip)) <|
  .seq (.ops [
    ⟨some 14, .mv (.const (.int .i64 1)), none, 0⟩]) <|
  .seq (.ops [
    ⟨some 70, .mv (.tmp 11), none, 0⟩,
    ⟨some 71, .mv (.tmp 14), none, 0⟩,
    ⟨some 72, .call k_laws_markInt64SS [(.tmp 70), (.tmp 71)], none, 0⟩,
    ⟨some 14, .mv (.tmp 72), none, 0⟩]) <|
  .seq (.ops [
    ⟨some 15, .mv (.const (.int .i64 1)), none, 0⟩]) <|
  .seq (.ops [
    ⟨some 73, .mv (.tmp 11), none, 0⟩,
    ⟨some 74, .mv (.tmp 15), none, 0⟩,
    ⟨some 75, .call k_laws_heldInt64SS [(.tmp 73), (.tmp 74)], none, 0⟩,
    ⟨some 15, .mv (.tmp 75), none, 0⟩]) <|
  .seq (.seq (.ops [
    ⟨some 76, .mv (.tmp 15), none, 0⟩,
    ⟨some 77, .bin .lss (.tmp 76) (.const (.int .i64 0)), none, 0⟩]) <|
  .cond (.tmp 77)
    (.seq (.ops [
      ⟨some 6, .mv (.const (.bool false)), none, 0⟩]) <|
    .keep [6] <|
    .ret)
    (.skip)) <|
  .seq (.seq (.ops [
    ⟨some 78, .mv (.tmp 15), none, 0⟩,
    ⟨some 79, .mv (.tmp 14), none, 0⟩,
    ⟨some 80, .bin .neq (.tmp 78) (.tmp 79), none, 0⟩]) <|
  .cond (.tmp 80)
    (.seq (.ops [
      ⟨some 6, .mv (.const (.bool false)), none, 0⟩]) <|
    .keep [6] <|
    .ret)
    (.skip)) <|
  .seq (.ops [
    ⟨some 82, .load true 2 (.tmp 3), none, 0⟩,
    ⟨some 83, .call k_laws_toGraph [(.tmp 82)], none, 0⟩,
    ⟨some 84, .mv (.tmp 1), none, 0⟩,
    ⟨some 85, .mv (.tmp 2), none, 0⟩,
    ⟨some 86, .call k_impl_PairsToJoin [(.tmp 83), (.tmp 84), (.tmp 85)], none, 0⟩,
    ⟨some 81, .mv (.tmp 86), none, 0⟩,
    ⟨some 87, .ext (.tmp 81) 0, none, 0⟩,
    ⟨some 88, .ext (.tmp 81) 1, none, 0⟩,
    ⟨some 16, .mv (.tmp 87), none, 0⟩,
    ⟨some 17, .mv (.tmp 88), none, 0⟩]) <|
  .seq (.seq (.ops [
    ⟨some 89, .mv (.tmp 16), none, 0⟩,
    ⟨some 90, .mv (.tmp 8), none, 0⟩,
    ⟨some 91, .call k_laws_eqInt64SS [(.tmp 89), (.tmp 90)], none, 0⟩,
    ⟨some 92, .un .not (.tmp 91), none, 0⟩,
    ⟨some 93, .mv (.tmp 92), none, 0⟩,
    ⟨some 94, .mv (.tmp 17), some (93, false), 0⟩,
    ⟨some 95, .mv (.tmp 9), some (93, false), 0⟩,
    ⟨some 96, .bin .neq (.tmp 94) (.tmp 95), some (93, false), 0⟩,
    ⟨some 97, .pick (.tmp 93) (.const (.bool true)) (.tmp 96), none, 0⟩]) <|
  .cond (.tmp 97)
    (.seq (.ops [
      ⟨some 6, .mv (.const (.bool false)), none, 0⟩]) <|
    .keep [6] <|
    .ret)
    (.skip)) <|
  .seq (.ops [
    ⟨some 15, .mv (.const (.int .i64 1)), none, 0⟩]) <|
  .seq (.ops [
    ⟨some 98, .mv (.tmp 11), none, 0⟩,
    ⟨some 99, .mv (.tmp 15), none, 0⟩,
    ⟨some 100, .call k_laws_heldInt64SS [(.tmp 98), (.tmp 99)], none, 0⟩,
    ⟨some 15, .mv (.tmp 100), none, 0⟩]) <|
  .seq (.seq (.ops [
    ⟨some 101, .mv (.tmp 15), none, 0⟩,
    ⟨some 102, .bin .lss (.tmp 101) (.const (.int .i64 0)), none, 0⟩]) <|
  .cond (.tmp 102)
    (.seq (.ops [
      ⟨some 6, .mv (.const (.bool false)), none, 0⟩]) <|
    .keep [6] <|
    .ret)
    (.skip)) <|
  .seq (.seq (.ops [
    ⟨some 103, .mv (.tmp 15), none, 0⟩,
    ⟨some 104, .mv (.tmp 14), none, 0⟩,
    ⟨some 105, .bin .neq (.tmp 103) (.tmp 104), none, 0⟩]) <|
  .cond (.tmp 105)
    (.seq (.ops [
      ⟨some 6, .mv (.const (.bool false)), none, 0⟩]) <|
    .keep [6] <|
    .ret)
    (.skip)) <|
  .seq (.ops [
    ⟨some 6, .mv (.const (.bool true)), none, 0⟩]) <|
  .keep [6] <|
  .ret⟩

theorem e_laws_FnExactPairsToJoin : EntOK Tryd.prog (compD Tryd.prog) k_laws_FnExactPairsToJoin i_laws_FnExactPairsToJoin.vf :=
  ⟨Tryd.f10, Tryd.f10.body.getD .skip, Tryd.func10, by kernel_rfl, by kernel_rfl, by kernel_rfl, by kernel_rfl, by kernel_rfl⟩

/-- loop.example/g01331/laws.eqGraph -/
def i_laws_eqGraph : FF := ⟨16, [.tmp 4],
  .seq (.ops [
    ⟨some 2, .box 2 (.tmp 0), none, 0⟩,
    ⟨some 3, .box 2 (.tmp 1), none, 0⟩,
    ⟨some 4, .mv (.const (.bool false)), none, 0⟩]) <|
  .seq (.seq (.ops [
    ⟨some 5, .fld 0 (.tmp 2), none, 0⟩,
    ⟨some 6, .load false 1 (.tmp 5), none, 0⟩,
    ⟨some 7, .fld 0 (.tmp 3), none, 0⟩,
    ⟨some 8, .load false 1 (.tmp 7), none, 0⟩,
    ⟨some 9, .bin .neq (.tmp 6) (.tmp 8), none, 0⟩]) <|
  .cond (.tmp 9)
    (.seq (.ops [
      ⟨some 4, .mv (.const (.bool false)), none, 0⟩]) <|
    .keep [4] <|
    .ret)
    (.skip)) <|
  .seq (.seq (.ops [
    ⟨some 10, .fld 1 (.tmp 2), none, 0⟩,
    ⟨some 11, .load false 1 (.tmp 10), none, 0⟩,
    ⟨some 12, .fld 1 (.tmp 3), none, 0⟩,
    ⟨some 13, .load false 1 (.tmp 12), none, 0⟩,
    ⟨some 14, .call k_laws_eqInt64S [(.tmp 11), (.tmp 13)], none, 0⟩,
    ⟨some 15, .un .not (.tmp 14), none, 0⟩]) <|
  .cond (.tmp 15)
    (.seq (.ops [
      ⟨some 4, .mv (.const (.bool false)), none, 0⟩]) <|
    .keep [4] <|
    .ret)
    (.skip)) <|
  .seq (.ops [
    ⟨some 4, .mv (.const (.bool true)), none, 0⟩]) <|
  .keep [4] <|
  .ret⟩

theorem e_laws_eqGraph : EntOK Tryd.prog (compD Tryd.prog) k_laws_eqGraph i_laws_eqGraph.vf :=
  ⟨Tryd.f14, Tryd.f14.body.getD .skip, Tryd.func14, by kernel_rfl, by kernel_rfl, by kernel_rfl, by kernel_rfl, by kernel_rfl⟩

/-- loop.example/g01331/laws.markGraph -/
def i_laws_markGraph : FF := ⟨10, [.tmp 4],
  .seq (.ops [
    ⟨some 2, .box 2 (.tmp 0), none, 0⟩,
    ⟨some 4, .mv (.const (.int .i64 0)), none, 0⟩]) <|
  .seq (.ops [
    ⟨some 5, .fld 1 (.tmp 2), none, 0⟩,
    ⟨some 6, .load false 1 (.tmp 5), none, 0⟩,
    ⟨some 7, .mv (.tmp 1), none, 0⟩,
    ⟨some 8, .call k_laws_markInt64S [(.tmp 6), (.tmp 7)], none, 0⟩,
    ⟨some 1, .mv (.tmp 8), none, 0⟩]) <|
  .seq (.ops [
    ⟨some 9, .mv (.tmp 1), none, 0⟩,
    ⟨some 4, .mv (.tmp 9), none, 0⟩]) <|
  .keep [4] <|
  .ret⟩

theorem e_laws_markGraph : EntOK Tryd.prog (compD Tryd.prog) k_laws_markGraph i_laws_markGraph.vf :=
  ⟨Tryd.f15, Tryd.f15.body.getD .skip, Tryd.func15, by kernel_rfl, by kernel_rfl, by kernel_rfl, by kernel_rfl, by kernel_rfl⟩

/-- loop.example/g01331/laws.szGraph -/
def i_laws_szGraph : FF := ⟨12, [.tmp 4],
  .seq (.ops [
    ⟨some 2, .box 2 (.tmp 0), none, 0⟩,
    ⟨some 4, .mv (.const (.int .i64 0)), none, 0⟩]) <|
  .seq (.ops [
    ⟨some 5, .fld 1 (.tmp 2), none, 0⟩,
    ⟨some 6, .load false 1 (.tmp 5), none, 0⟩,
    ⟨some 7, .mv (.tmp 1), none, 0⟩,
    ⟨some 8, .call k_laws_szInt64S [(.tmp 6), (.tmp 7)], none, 0⟩,
    ⟨some 1, .mv (.tmp 8), none, 0⟩]) <|
  .seq (.seq (.ops [
    ⟨some 9, .mv (.tmp 1), none, 0⟩,
    ⟨some 10, .bin .lss (.tmp 9) (.const (.int .i64 0)), none, 0⟩]) <|
  .cond (.tmp 10)
    (.seq (.ops [
      ⟨some 4, .mv (.const (.int .i64 (-1))), none, 0⟩]) <|
    .keep [4] <|
    .ret)
    (.skip)) <|
  .seq (.ops [
    ⟨some 11, .mv (.tmp 1), none, 0⟩,
    ⟨some 4, .mv (.tmp 11), none, 0⟩]) <|
  .keep [4] <|
  .ret⟩

theorem e_laws_szGraph : EntOK Tryd.prog (compD Tryd.prog) k_laws_szGraph i_laws_szGraph.vf :=
  ⟨Tryd.f21, Tryd.f21.body.getD .skip, Tryd.func21, by kernel_rfl, by kernel_rfl, by kernel_rfl, by kernel_rfl, by kernel_rfl⟩

/-- loop.example/g01331/laws.toGraph -/
def i_laws_toGraph : FF := ⟨12, [.cell 2 true 2],
  .seq (.ops [
    ⟨some 1, .box 2 (.tmp 0), none, 0⟩,
    ⟨some 2, .alloc [.int .i64 0, .slice none 0 0], none, 0⟩]) <|
  .seq (.ops [
    ⟨some 3, .alloc [.int .i64 0, .slice none 0 0], none, 0⟩]) <|
  .seq (.ops [
    ⟨some 4, .fld 0 (.tmp 1), none, 0⟩,
    ⟨some 5, .load false 1 (.tmp 4), none, 0⟩,
    ⟨some 6, .fld 0 (.tmp 3), none, 0⟩,
    ⟨none, .store 1 (.tmp 6) (.tmp 5), none, 0⟩]) <|
  .seq (.ops [
    ⟨some 7, .fld 1 (.tmp 1), none, 0⟩,
    ⟨some 8, .load false 1 (.tmp 7), none, 0⟩,
    ⟨some 9, .call k_laws_toInt64S [(.tmp 8)], none, 0⟩,
    ⟨some 10, .fld 1 (.tmp 3), none, 0⟩,
    ⟨none, .store 1 (.tmp 10) (.tmp 9), none, 0⟩]) <|
  .seq (.ops [
    ⟨some 11, .load true 2 (.tmp 3), none, 0⟩,
    ⟨none, .store 2 (.tmp 2) (.tmp 11), none, 0⟩]) <|
  .keep [2] <|
  .ret⟩

theorem e_laws_toGraph : EntOK Tryd.prog (compD Tryd.prog) k_laws_toGraph i_laws_toGraph.vf :=
  ⟨Tryd.f23, Tryd.f23.body.getD .skip, Tryd.func23, by kernel_rfl, by kernel_rfl, by kernel_rfl, by kernel_rfl, by kernel_rfl⟩

/-- loop.example/g01331/spec.PairsToJoin -/
def i_spec_PairsToJoin_B1 : FC :=
  .seq (.seq (.ops [
    ⟨some 28, .mv (.tmp 11), none, 0⟩,
    ⟨some 29, .fld 0 (.tmp 3), none, 0⟩,
    ⟨some 30, .load false 1 (.tmp 29), none, 0⟩,
    ⟨some 31, .bin .lss (.tmp 28) (.tmp 30), none, 0⟩]) <|
  .cond (.tmp 31)
    (.skip)
    (.keep [1, 2, 3, 9, 10] <|
    .exit 2)) <|
  .seq (.block 3 <|
  .seq (.ops [
    ⟨some 34, .load true 2 (.tmp 3), none, 0⟩,
    ⟨some 35, .mv (.tmp 1), none, 0⟩,
    ⟨some 36, .mv (.tmp 2), none, 0⟩,
    ⟨some 37, .mv (.tmp 10), none, 0⟩,
    ⟨some 38, .mv (.tmp 11), none, 0⟩,
    ⟨some 39, .call k_spec_l07May [(.tmp 34), (.tmp 35), (.tmp 36), (.tmp 37), (.tmp 38)], none, 0⟩]) <|
  .cond (.tmp 39)
    (.ops [
      ⟨some 40, .mv (.tmp 9), none, 0⟩,
      ⟨some 41, .mv (.tmp 10), none, 0⟩,
      ⟨some 42, .mv (.tmp 11), none, 0⟩,
      ⟨some 43, .buildSl 1 [.int .i64 0, .int .i64 0] [(0, 1, (.tmp 41)), (1, 1, (.tmp 42))] 2, none, 0⟩,
      ⟨some 44, .buildSl 1 [.slice none 0 0] [(0, 1, (.tmp 43))] 1, none, 0⟩,
      ⟨some 45, .app 1 24 [.slice none 0 0] (.tmp 40) (.tmp 44), none, 0⟩,
      ⟨some 9, .mv (.tmp 45), none, 0⟩])
    (.skip)) <|
  .ops [
    ⟨some 32, .mv (.tmp 11), none, 0⟩,
    ⟨some 33, .bin .add (.tmp 32) (.const (.int .i64 1)), none, 0⟩,
    ⟨some 11, .mv (.tmp 33), none, 0⟩]
def i_spec_PairsToJoin_B2 : FC :=
  .seq (.seq (.ops [
    ⟨some 20, .mv (.tmp 10), none, 0⟩,
    ⟨some 21, .fld 0 (.tmp 3), none, 0⟩,
    ⟨some 22, .load false 1 (.tmp 21), none, 0⟩,
    ⟨some 23, .bin .lss (.tmp 20) (.tmp 22), none, 0⟩]) <|
  .cond (.tmp 23)
    (.skip)
    (.keep [9] <|
    .exit 0)) <|
  .seq (.block 1 <|
  .seq (.ops [
    ⟨some 26, .mv (.tmp 10), none, 0⟩,
    ⟨some 27, .bin .add (.tmp 26) (.const (.int .i64 1)), none, 0⟩,
    ⟨some 11, .mv (.tmp 27), none, 0⟩]) <|
  .block 2 <|
  .loop [1, 2, 3, 9, 10, 11] i_spec_PairsToJoin_B1) <|
  .ops [
    ⟨some 24, .mv (.tmp 10), none, 0⟩,
    ⟨some 25, .bin .add (.tmp 24) (.const (.int .i64 1)), none, 0⟩,
    ⟨some 10, .mv (.tmp 25), none, 0⟩]
def i_spec_PairsToJoin : FF := ⟨47, [.tmp 6, .tmp 7],
  .seq (.ops [
    ⟨some 3, .box 2 (.tmp 0), none, 0⟩,
    ⟨some 6, .mv (.const (.slice none 0 0)), none, 0⟩,
    ⟨some 7, .mv (.const (.int .i64 0)), none, 0⟩]) <|
  .seq (.seq (.ops [
    ⟨some 12, .load true 2 (.tmp 3), none, 0⟩,
    ⟨some 13, .mv (.tmp 1), none, 0⟩,
    ⟨some 14, .mv (.tmp 2), none, 0⟩,
    ⟨some 15, .call k_spec_l07Given [(.tmp 12), (.tmp 13), (.tmp 14)], none, 0⟩,
    ⟨some 8, .mv (.tmp 15), none, 0⟩]) <|
  .seq (.ops [
    ⟨some 16, .mv (.tmp 8), none, 0⟩,
    ⟨some 17, .bin .neq (.tmp 16) (.const (.int .i64 0)), none, 0⟩]) <|
  .cond (.tmp 17)
    (.seq (.ops [
      ⟨some 18, .mv (.tmp 8), none, 0⟩,
      ⟨some 6, .mv (.const (.slice none 0 0)), none, 0⟩,
      ⟨some 7, .mv (.tmp 18), none, 0⟩]) <|
    .keep [6, 7] <|
    .ret)
    (.skip)) <|
  .seq (.ops [
    ⟨some 19, .buildSl 1 [] [] 0, none, 0⟩,
    ⟨some 9, .mv (.tmp 19), none, 0⟩]) <|
  .seq (.seq (.ops [
    ⟨some 10, .mv (.const (.int .i64 0)), none, 0⟩]) <|
  .block 0 <|
  .loop [1, 2, 3, 9, 10] i_spec_PairsToJoin_B2) <|
  .seq (.ops [
    ⟨some 46, .mv (.tmp 9), none, 0⟩,
    ⟨some 6, .mv (.tmp 46), none, 0⟩,
    ⟨some 7, .mv (.const (.int .i64 0)), none, 0⟩]) <|
  .keep [6, 7] <|
  .ret⟩

theorem e_spec_PairsToJoin : EntOK Tryd.prog (compD Tryd.prog) k_spec_PairsToJoin i_spec_PairsToJoin.vf :=
  ⟨Tryd.f31, Tryd.f31.body.getD .skip, Tryd.func31, by kernel_rfl, by kernel_rfl, by kernel_rfl, by kernel_rfl, by kernel_rfl⟩

/-- loop.example/g01331/impl.PairsToJoin -/
def i_impl_PairsToJoin : FF := ⟨20, [.tmp 6, .tmp 7],
  .seq (.ops [
    ⟨some 3, .box 2 (.tmp 0), none, 0⟩,
    ⟨some 6, .mv (.const (.slice none 0 0)), none, 0⟩,
    ⟨some 7, .mv (.const (.int .i64 0)), none, 0⟩]) <|
  .seq (.seq (.ops [
    ⟨some 9, .load true 2 (.tmp 3), none, 0⟩,
    ⟨some 10, .mv (.tmp 1), none, 0⟩,
    ⟨some 11, .mv (.tmp 2), none, 0⟩,
    ⟨some 12, .call k_impl_fitCode [(.tmp 9), (.tmp 10), (.tmp 11)], none, 0⟩,
    ⟨some 8, .mv (.tmp 12), none, 0⟩]) <|
  .seq (.ops [
    ⟨some 13, .mv (.tmp 8), none, 0⟩,
    ⟨some 14, .bin .neq (.tmp 13) (.const (.int .i64 0)), none, 0⟩]) <|
  .cond (.tmp 14)
    (.seq (.ops [
      ⟨some 15, .mv (.tmp 8), none, 0⟩,
      ⟨some 6, .mv (.const (.slice none 0 0)), none, 0⟩,
      ⟨some 7, .mv (.tmp 15), none, 0⟩]) <|
    .keep [6, 7] <|
    .ret)
    (.skip)) <|
  .seq (.ops [
    ⟨some 16, .load true 2 (.tmp 3), none, 0⟩,
    ⟨some 17, .mv (.tmp 1), none, 0⟩,
    ⟨some 18, .mv (.tmp 2), none, 0⟩,
    ⟨some 19, .call k_impl_Graph_pairs [(.tmp 16), (.tmp 17), (.tmp 18)], none, 0⟩,
    ⟨some 6, .mv (.tmp 19), none, 0⟩,
    ⟨some 7, .mv (.const (.int .i64 0)), none, 0⟩]) <|
  .keep [6, 7] <|
  .ret⟩

theorem e_impl_PairsToJoin : EntOK Tryd.prog (compD Tryd.prog) k_impl_PairsToJoin i_impl_PairsToJoin.vf :=
  ⟨Tryd.f32, Tryd.f32.body.getD .skip, Tryd.func32, by kernel_rfl, by kernel_rfl, by kernel_rfl, by kernel_rfl, by kernel_rfl⟩

/-- loop.example/g01331/laws.eqInt64SS -/
def i_laws_eqInt64SS_B1 : FC :=
  .seq (.seq (.ops [
    ⟨some 11, .mv (.tmp 5), none, 0⟩,
    ⟨some 12, .mv (.tmp 0), none, 0⟩,
    ⟨some 13, .len (.tmp 12), none, 0⟩,
    ⟨some 14, .bin .lss (.tmp 11) (.tmp 13), none, 0⟩]) <|
  .cond (.tmp 14)
    (.skip)
    (.keep [] <|
    .exit 0)) <|
  .seq (.block 1 <|
  .seq (.dops [
    ⟨some 17, .mv (.tmp 0), none, 0⟩,
    ⟨some 18, .mv (.tmp 5), none, 0⟩,
    ⟨some 19, .idx 1 (.tmp 17) (.tmp 18), none, 0⟩,
    ⟨some 20, .load false 1 (.tmp 19), none, 0⟩,
    ⟨some 21, .mv (.tmp 1), none, 0⟩,
    ⟨some 22, .mv (.tmp 5), none, 0⟩,
    ⟨some 23, .idx 1 (.tmp 21) (.tmp 22), none, 0⟩,
    ⟨some 24, .load false 1 (.tmp 23), none, 0⟩,
    ⟨some 25, .call k_laws_eqInt64S [(.tmp 20), (.tmp 24)], none, 0⟩,
    ⟨some 26, .un .not (.tmp 25), none, 0⟩]) <|
  .cond (.tmp 26)
    (.seq (.ops [
      ⟨some 4, .mv (.const (.bool false)), none, 0⟩]) <|
    .keep [4] <|
    .ret)
    (.skip)) <|
  .ops [
    ⟨some 15, .mv (.tmp 5), none, 0⟩,
    ⟨some 16, .bin .add (.tmp 15) (.const (.int .i64 1)), none, 0⟩,
    ⟨some 5, .mv (.tmp 16), none, 0⟩]
def i_laws_eqInt64SS : FF := ⟨27, [.tmp 4],
  .seq (.ops [
    ⟨some 4, .mv (.const (.bool false)), none, 0⟩]) <|
  .seq (.seq (.ops [
    ⟨some 6, .mv (.tmp 0), none, 0⟩,
    ⟨some 7, .len (.tmp 6), none, 0⟩,
    ⟨some 8, .mv (.tmp 1), none, 0⟩,
    ⟨some 9, .len (.tmp 8), none, 0⟩,
    ⟨some 10, .bin .neq (.tmp 7) (.tmp 9), none, 0⟩]) <|
  .cond (.tmp 10)
    (.seq (.ops [
      ⟨some 4, .mv (.const (.bool false)), none, 0⟩]) <|
    .keep [4] <|
    .ret)
    (.skip)) <|
  .seq (.seq (.ops [
    ⟨some 5, .mv (.const (.int .i64 0)), none, 0⟩]) <|
  .block 0 <|
  .loop [0, 1, 5] i_laws_eqInt64SS_B1) <|
  .seq (.ops [
    ⟨some 4, .mv (.const (.bool true)), none, 0⟩]) <|
  .keep [4] <|
  .ret⟩

theorem e_laws_eqInt64SS : EntOK Tryd.prog (compD Tryd.prog) k_laws_eqInt64SS i_laws_eqInt64SS.vf :=
  ⟨Tryd.f33, Tryd.f33.body.getD .skip, Tryd.func33, by kernel_rfl, by kernel_rfl, by kernel_rfl, by kernel_rfl, by kernel_rfl⟩

/-- loop.example/g01331/laws.markInt64SS -/
def i_laws_markInt64SS_B1 : FC :=
  .seq (.seq (.ops [
    ⟨some 6, .mv (.tmp 5), none, 0⟩,
    ⟨some 7, .mv (.tmp 0), none, 0⟩,
    ⟨some 8, .len (.tmp 7), none, 0⟩,
    ⟨some 9, .bin .lss (.tmp 6) (.tmp 8), none, 0⟩]) <|
  .cond (.tmp 9)
    (.skip)
    (.keep [1] <|
    .exit 0)) <|
  .seq (.block 1 <|
  .ops [
    ⟨some 12, .mv (.tmp 0), none, 0⟩,
    ⟨some 13, .mv (.tmp 5), none, 0⟩,
    ⟨some 14, .idx 1 (.tmp 12) (.tmp 13), none, 0⟩,
    ⟨some 15, .load false 1 (.tmp 14), none, 0⟩,
    ⟨some 16, .mv (.tmp 1), none, 0⟩,
    ⟨some 17, .call k_laws_markInt64S [(.tmp 15), (.tmp 16)], none, 0⟩,
    ⟨some 1, .mv (.tmp 17), none, 0⟩]) <|
  .ops [
    ⟨some 10, .mv (.tmp 5), none, 0⟩,
    ⟨some 11, .bin .add (.tmp 10) (.const (.int .i64 1)), none, 0⟩,
    ⟨some 5, .mv (.tmp 11), none, 0⟩]
def i_laws_markInt64SS : FF := ⟨19, [.tmp 4],
  .seq (.ops [
    ⟨some 4, .mv (.const (.int .i64 0)), none, 0⟩]) <|
  .seq (.seq (.ops [
    ⟨some 5, .mv (.const (.int .i64 0)), none, 0⟩]) <|
  .block 0 <|
  .loop [0, 1, 5] i_laws_markInt64SS_B1) <|
  .seq (.ops [
    ⟨some 18, .mv (.tmp 1), none, 0⟩,
    ⟨some 4, .mv (.tmp 18), none, 0⟩]) <|
  .keep [4] <|
  .ret⟩

theorem e_laws_markInt64SS : EntOK Tryd.prog (compD Tryd.prog) k_laws_markInt64SS i_laws_markInt64SS.vf :=
  ⟨Tryd.f34, Tryd.f34.body.getD .skip, Tryd.func34, by kernel_rfl, by kernel_rfl, by kernel_rfl, by kernel_rfl, by kernel_rfl⟩

/-- loop.example/g01331/laws.heldInt64SS -/
def i_laws_heldInt64SS_B1 : FC :=
  .seq (.seq (.ops [
    ⟨some 6, .mv (.tmp 5), none, 0⟩,
    ⟨some 7, .mv (.tmp 0), none, 0⟩,
    ⟨some 8, .len (.tmp 7), none, 0⟩,
    ⟨some 9, .bin .lss (.tmp 6) (.tmp 8), none, 0⟩]) <|
  .cond (.tmp 9)
    (.skip)
    (.keep [1] <|
    .exit 0)) <|
  .seq (.block 1 <|
  .seq (.ops [
    ⟨some 12, .mv (.tmp 0), none, 0⟩,
    ⟨some 13, .mv (.tmp 5), none, 0⟩,
    ⟨some 14, .idx 1 (.tmp 12) (.tmp 13), none, 0⟩,
    ⟨some 15, .load false 1 (.tmp 14), none, 0⟩,
    ⟨some 16, .mv (.tmp 1), none, 0⟩,
    ⟨some 17, .call k_laws_heldInt64S [(.tmp 15), (.tmp 16)], none, 0⟩,
    ⟨some 1, .mv (.tmp 17), none, 0⟩]) <|
  .seq (.ops [
    ⟨some 18, .mv (.tmp 1), none, 0⟩,
    ⟨some 19, .bin .lss (.tmp 18) (.const (.int .i64 0)), none, 0⟩]) <|
  .cond (.tmp 19)
    (.seq (.ops [
      ⟨some 4, .mv (.const (.int .i64 (-1))), none, 0⟩]) <|
    .keep [4] <|
    .ret)
    (.skip)) <|
  .ops [
    ⟨some 10, .mv (.tmp 5), none, 0⟩,
    ⟨some 11, .bin .add (.tmp 10) (.const (.int .i64 1)), none, 0⟩,
    ⟨some 5, .mv (.tmp 11), none, 0⟩]
def i_laws_heldInt64SS : FF := ⟨21, [.tmp 4],
  .seq (.ops [
    ⟨some 4, .mv (.const (.int .i64 0)), none, 0⟩]) <|
  .seq (.seq (.ops [
    ⟨some 5, .mv (.const (.int .i64 0)), none, 0⟩]) <|
  .block 0 <|
  .loop [0, 1, 5] i_laws_heldInt64SS_B1) <|
  .seq (.ops [
    ⟨some 20, .mv (.tmp 1), none, 0⟩,
    ⟨some 4, .mv (.tmp 20), none, 0⟩]) <|
  .keep [4] <|
  .ret⟩

theorem e_laws_heldInt64SS : EntOK Tryd.prog (compD Tryd.prog) k_laws_heldInt64SS i_laws_heldInt64SS.vf :=
  ⟨Tryd.f35, Tryd.f35.body.getD .skip, Tryd.func35, by kernel_rfl, by kernel_rfl, by kernel_rfl, by kernel_rfl, by kernel_rfl⟩

/-- loop.example/g01331/spec.l01In -/
def i_spec_l01In : FF := ⟨15, [.tmp 6],
  .seq (.ops [
    ⟨some 6, .mv (.const (.bool false)), none, 0⟩]) <|
  .seq (.ops [
    ⟨some 7, .mv (.tmp 0), none, 0⟩,
    ⟨some 8, .mv (.tmp 1), none, 0⟩,
    ⟨some 9, .bin .geq (.tmp 7) (.tmp 8), none, 0⟩,
    ⟨some 10, .mv (.tmp 9), none, 0⟩,
    ⟨some 11, .mv (.tmp 0), some (10, true), 0⟩,
    ⟨some 12, .mv (.tmp 2), some (10, true), 0⟩,
    ⟨some 13, .bin .leq (.tmp 11) (.tmp 12), some (10, true), 0⟩,
    ⟨some 14, .pick (.tmp 10) (.tmp 13) (.const (.bool false)), none, 0⟩,
    ⟨some 6, .mv (.tmp 14), none, 0⟩]) <|
  .keep [6] <|
  .ret⟩

theorem e_spec_l01In : EntOK Tryd.prog (compD Tryd.prog) k_spec_l01In i_spec_l01In.vf :=
  ⟨Tryd.f42, Tryd.f42.body.getD .skip, Tryd.func42, by kernel_rfl, by kernel_rfl, by kernel_rfl, by kernel_rfl, by kernel_rfl⟩

/-- loop.example/g01331/spec.l07Numbers -/
def i_spec_l07Numbers : FF := ⟨11, [.tmp 4],
  .seq (.ops [
    ⟨some 4, .mv (.const (.bool false)), none, 0⟩]) <|
  .seq (.ops [
    ⟨some 5, .mv (.tmp 0), none, 0⟩,
    ⟨some 6, .call k_spec_l01In [(.tmp 5), (.const (.int .i64 1)), (.const (.int .i64 6))], none, 0⟩,
    ⟨some 7, .mv (.tmp 6), none, 0⟩,
    ⟨some 8, .mv (.tmp 1), some (7, true), 0⟩,
    ⟨some 9, .call k_spec_l01In [(.tmp 8), (.const (.int .i64 3)), (.const (.int .i64 12))], some (7, true), 0⟩,
    ⟨some 10, .pick (.tmp 7) (.tmp 9) (.const (.bool false)), none, 0⟩,
    ⟨some 4, .mv (.tmp 10), none, 0⟩]) <|
  .keep [4] <|
  .ret⟩

theorem e_spec_l07Numbers : EntOK Tryd.prog (compD Tryd.prog) k_spec_l07Numbers i_spec_l07Numbers.vf :=
  ⟨Tryd.f43, Tryd.f43.body.getD .skip, Tryd.func43, by kernel_rfl, by kernel_rfl, by kernel_rfl, by kernel_rfl, by kernel_rfl⟩

/-- loop.example/g01331/impl.isBoth -/
def i_impl_isBoth : FF := ⟨19, [.tmp 4],
  .seq (.ops [
    ⟨some 4, .mv (.const (.bool false)), none, 0⟩]) <|
  .seq (.ops [
    ⟨some 5, .mv (.tmp 0), none, 0⟩,
    ⟨some 6, .bin .geq (.tmp 5) (.const (.int .i64 1)), none, 0⟩,
    ⟨some 7, .mv (.tmp 6), none, 0⟩,
    ⟨some 8, .mv (.tmp 0), some (7, true), 0⟩,
    ⟨some 9, .bin .leq (.tmp 8) (.const (.int .i64 6)), some (7, true), 0⟩,
    ⟨some 10, .pick (.tmp 7) (.tmp 9) (.const (.bool false)), none, 0⟩,
    ⟨some 11, .mv (.tmp 10), none, 0⟩,
    ⟨some 12, .mv (.tmp 1), some (11, true), 0⟩,
    ⟨some 13, .bin .geq (.tmp 12) (.const (.int .i64 3)), some (11, true), 0⟩,
    ⟨some 14, .pick (.tmp 11) (.tmp 13) (.const (.bool false)), none, 0⟩,
    ⟨some 15, .mv (.tmp 14), none, 0⟩,
    ⟨some 16, .mv (.tmp 1), some (15, true), 0⟩,
    ⟨some 17, .bin .leq (.tmp 16) (.const (.int .i64 12)), some (15, true), 0⟩,
    ⟨some 18, .pick (.tmp 15) (.tmp 17) (.const (.bool false)), none, 0⟩,
    ⟨some 4, .mv (.tmp 18), none, 0⟩]) <|
  .keep [4] <|
  .ret⟩

theorem e_impl_isBoth : EntOK Tryd.prog (compD Tryd.prog) k_impl_isBoth i_impl_isBoth.vf :=
  ⟨Tryd.f46, Tryd.f46.body.getD .skip, Tryd.func46, by kernel_rfl, by kernel_rfl, by kernel_rfl, by kernel_rfl, by kernel_rfl⟩

/-- loop.example/g01331/laws.eqInt64S -/
def i_laws_eqInt64S_B1 : FC :=
  .seq (.seq (.ops [
    ⟨some 11, .mv (.tmp 5), none, 0⟩,
    ⟨some 12, .mv (.tmp 0), none, 0⟩,
    ⟨some 13, .len (.tmp 12), none, 0⟩,
    ⟨some 14, .bin .lss (.tmp 11) (.tmp 13), none, 0⟩]) <|
  .cond (.tmp 14)
    (.skip)
    (.keep [] <|
    .exit 0)) <|
  .seq (.block 1 <|
  .seq (.dops [
    ⟨some 17, .mv (.tmp 0), none, 0⟩,
    ⟨some 18, .mv (.tmp 5), none, 0⟩,
    ⟨some 19, .idx 1 (.tmp 17) (.tmp 18), none, 0⟩,
    ⟨some 20, .load false 1 (.tmp 19), none, 0⟩,
    ⟨some 21, .mv (.tmp 1), none, 0⟩,
    ⟨some 22, .mv (.tmp 5), none, 0⟩,
    ⟨some 23, .idx 1 (.tmp 21) (.tmp 22), none, 0⟩,
    ⟨some 24, .load false 1 (.tmp 23), none, 0⟩,
    ⟨some 25, .bin .neq (.tmp 20) (.tmp 24), none, 0⟩]) <|
  .cond (.tmp 25)
    (.seq (.ops [
      ⟨some 4, .mv (.const (.bool false)), none, 0⟩]) <|
    .keep [4] <|
    .ret)
    (.skip)) <|
  .ops [
    ⟨some 15, .mv (.tmp 5), none, 0⟩,
    ⟨some 16, .bin .add (.tmp 15) (.const (.int .i64 1)), none, 0⟩,
    ⟨some 5, .mv (.tmp 16), none, 0⟩]
def i_laws_eqInt64S : FF := ⟨26, [.tmp 4],
  .seq (.ops [
    ⟨some 4, .mv (.const (.bool false)), none, 0⟩]) <|
  .seq (.seq (.ops [
    ⟨some 6, .mv (.tmp 0), none, 0⟩,
    ⟨some 7, .len (.tmp 6), none, 0⟩,
    ⟨some 8, .mv (.tmp 1), none, 0⟩,
    ⟨some 9, .len (.tmp 8), none, 0⟩,
    ⟨some 10, .bin .neq (.tmp 7) (.tmp 9), none, 0⟩]) <|
  .cond (.tmp 10)
    (.seq (.ops [
      ⟨some 4, .mv (.const (.bool false)), none, 0⟩]) <|
    .keep [4] <|
    .ret)
    (.skip)) <|
  .seq (.seq (.ops [
    ⟨some 5, .mv (.const (.int .i64 0)), none, 0⟩]) <|
  .block 0 <|
  .loop [0, 1, 5] i_laws_eqInt64S_B1) <|
  .seq (.ops [
    ⟨some 4, .mv (.const (.bool true)), none, 0⟩]) <|
  .keep [4] <|
  .ret⟩

theorem e_laws_eqInt64S : EntOK Tryd.prog (compD Tryd.prog) k_laws_eqInt64S i_laws_eqInt64S.vf :=
  ⟨Tryd.f49, Tryd.f49.body.getD .skip, Tryd.func49, by kernel_rfl, by kernel_rfl, by kernel_rfl, by kernel_rfl, by kernel_rfl⟩

/-- loop.example/g01331/laws.markInt64S -/
def i_laws_markInt64S_B1 : FC :=
  .seq (.seq (.ops [
    ⟨some 6, .mv (.tmp 5), none, 0⟩,
    ⟨some 7, .mv (.tmp 0), none, 0⟩,
    ⟨some 8, .len (.tmp 7), none, 0⟩,
    ⟨some 9, .bin .lss (.tmp 6) (.tmp 8), none, 0⟩]) <|
  .cond (.tmp 9)
    (.skip)
    (.keep [1] <|
    .exit 0)) <|
  .seq (.block 1 <|
  .seq (.ops [
    ⟨some 12, .mv (.tmp 0), none, 0⟩,
    ⟨some 13, .mv (.tmp 5), none, 0⟩,
    ⟨some 14, .mv (.tmp 1), none, 0⟩,
    ⟨some 15, .idx 1 (.tmp 12) (.tmp 13), none, 0⟩,
    ⟨none, .store 1 (.tmp 15) (.tmp 14), none, 0⟩]) <|
  .ops [
    ⟨some 16, .mv (.tmp 1), none, 0⟩,
    ⟨some 17, .bin .add (.tmp 16) (.const (.int .i64 1)), none, 0⟩,
    ⟨some 1, .mv (.tmp 17), none, 0⟩]) <|
  .ops [
    ⟨some 10, .mv (.tmp 5), none, 0⟩,
    ⟨some 11, .bin .add (.tmp 10) (.const (.int .i64 1)), none, 0⟩,
    ⟨some 5, .mv (.tmp 11), none, 0⟩]
def i_laws_markInt64S : FF := ⟨19, [.tmp 4],
  .seq (.ops [
    ⟨some 4, .mv (.const (.int .i64 0)), none, 0⟩]) <|
  .seq (.seq (.ops [
    ⟨some 5, .mv (.const (.int .i64 0)), none, 0⟩]) <|
  .block 0 <|
  .loop [0, 1, 5] i_laws_markInt64S_B1) <|
  .seq (.ops [
    ⟨some 18, .mv (.tmp 1), none, 0⟩,
    ⟨some 4, .mv (.tmp 18), none, 0⟩]) <|
  .keep [4] <|
  .ret⟩

theorem e_laws_markInt64S : EntOK Tryd.prog (compD Tryd.prog) k_laws_markInt64S i_laws_markInt64S.vf :=
  ⟨Tryd.f50, Tryd.f50.body.getD .skip, Tryd.func50, by kernel_rfl, by kernel_rfl, by kernel_rfl, by kernel_rfl, by kernel_rfl⟩

/-- loop.example/g01331/laws.heldInt64S -/
def i_laws_heldInt64S_B1 : FC :=
  .seq (.seq (.ops [
    ⟨some 6, .mv (.tmp 5), none, 0⟩,
    ⟨some 7, .mv (.tmp 0), none, 0⟩,
    ⟨some 8, .len (.tmp 7), none, 0⟩,
    ⟨some 9, .bin .lss (.tmp 6) (.tmp 8), none, 0⟩]) <|
  .cond (.tmp 9)
    (.skip)
    (.keep [1] <|
    .exit 0)) <|
  .seq (.block 1 <|
  .seq (.seq (.ops [
    ⟨some 12, .mv (.tmp 0), none, 0⟩,
    ⟨some 13, .mv (.tmp 5), none, 0⟩,
    ⟨some 14, .idx 1 (.tmp 12) (.tmp 13), none, 0⟩,
    ⟨some 15, .load false 1 (.tmp 14), none, 0⟩,
    ⟨some 16, .mv (.tmp 1), none, 0⟩,
    ⟨some 17, .bin .neq (.tmp 15) (.tmp 16), none, 0⟩]) <|
  .cond (.tmp 17)
    (.seq (.ops [
      ⟨some 4, .mv (.const (.int .i64 (-1))), none, 0⟩]) <|
    .keep [4] <|
    .ret)
    (.skip)) <|
  .ops [
    ⟨some 18, .mv (.tmp 1), none, 0⟩,
    ⟨some 19, .bin .add (.tmp 18) (.const (.int .i64 1)), none, 0⟩,
    ⟨some 1, .mv (.tmp 19), none, 0⟩]) <|
  .ops [
    ⟨some 10, .mv (.tmp 5), none, 0⟩,
    ⟨some 11, .bin .add (.tmp 10) (.const (.int .i64 1)), none, 0⟩,
    ⟨some 5, .mv (.tmp 11), none, 0⟩]
def i_laws_heldInt64S : FF := ⟨21, [.tmp 4],
  .seq (.ops [
    ⟨some 4, .mv (.const (.int .i64 0)), none, 0⟩]) <|
  .seq (.seq (.ops [
    ⟨some 5, .mv (.const (.int .i64 0)), none, 0⟩]) <|
  .block 0 <|
  .loop [0, 1, 5] i_laws_heldInt64S_B1) <|
  .seq (.ops [
    ⟨some 20, .mv (.tmp 1), none, 0⟩,
    ⟨some 4, .mv (.tmp 20), none, 0⟩]) <|
  .keep [4] <|
  .ret⟩

theorem e_laws_heldInt64S : EntOK Tryd.prog (compD Tryd.prog) k_laws_heldInt64S i_laws_heldInt64S.vf :=
  ⟨Tryd.f51, Tryd.f51.body.getD .skip, Tryd.func51, by kernel_rfl, by kernel_rfl, by kernel_rfl, by kernel_rfl, by kernel_rfl⟩

/-- loop.example/g01331/laws.szInt64S -/
def i_laws_szInt64S : FF := ⟨12, [.tmp 4],
  .seq (.ops [
    ⟨some 4, .mv (.const (.int .i64 0)), none, 0⟩]) <|
  .seq (.ops [
    ⟨some 5, .mv (.tmp 1), none, 0⟩,
    ⟨some 6, .mv (.tmp 0), none, 0⟩,
    ⟨some 7, .len (.tmp 6), none, 0⟩,
    ⟨some 8, .bin .sub (.tmp 5) (.tmp 7), none, 0⟩,
    ⟨some 1, .mv (.tmp 8), none, 0⟩]) <|
  .seq (.seq (.ops [
    ⟨some 9, .mv (.tmp 1), none, 0⟩,
    ⟨some 10, .bin .lss (.tmp 9) (.const (.int .i64 0)), none, 0⟩]) <|
  .cond (.tmp 10)
    (.seq (.ops [
      ⟨some 4, .mv (.const (.int .i64 (-1))), none, 0⟩]) <|
    .keep [4] <|
    .ret)
    (.skip)) <|
  .seq (.ops [
    ⟨some 11, .mv (.tmp 1), none, 0⟩,
    ⟨some 4, .mv (.tmp 11), none, 0⟩]) <|
  .keep [4] <|
  .ret⟩

theorem e_laws_szInt64S : EntOK Tryd.prog (compD Tryd.prog) k_laws_szInt64S i_laws_szInt64S.vf :=
  ⟨Tryd.f54, Tryd.f54.body.getD .skip, Tryd.func54, by kernel_rfl, by kernel_rfl, by kernel_rfl, by kernel_rfl, by kernel_rfl⟩

/-- loop.example/g01331/laws.toInt64S -/
def i_laws_toInt64S_B1 : FC :=
  .seq (.seq (.ops [
    ⟨some 8, .mv (.tmp 4), none, 0⟩,
    ⟨some 9, .mv (.tmp 0), none, 0⟩,
    ⟨some 10, .len (.tmp 9), none, 0⟩,
    ⟨some 11, .bin .lss (.tmp 8) (.tmp 10), none, 0⟩]) <|
  .cond (.tmp 11)
    (.skip)
    (.keep [3] <|
    .exit 0)) <|
  .seq (.block 1 <|
  .ops [
    ⟨some 14, .mv (.tmp 3), none, 0⟩,
    ⟨some 15, .mv (.tmp 4), none, 0⟩,
    ⟨some 16, .mv (.tmp 0), none, 0⟩,
    ⟨some 17, .mv (.tmp 4), none, 0⟩,
    ⟨some 18, .idx 1 (.tmp 16) (.tmp 17), none, 0⟩,
    ⟨some 19, .load false 1 (.tmp 18), none, 0⟩,
    ⟨some 20, .idx 1 (.tmp 14) (.tmp 15), none, 0⟩,
    ⟨none, .store 1 (.tmp 20) (.tmp 19), none, 0⟩]) <|
  .ops [
    ⟨some 12, .mv (.tmp 4), none, 0⟩,
    ⟨some 13, .bin .add (.tmp 12) (.const (.int .i64 1)), none, 0⟩,
    ⟨some 4, .mv (.tmp 13), none, 0⟩]
def i_laws_toInt64S : FF := ⟨22, [.tmp 2],
  .seq (.ops [
    ⟨some 2, .mv (.const (.slice none 0 0)), none, 0⟩]) <|
  .seq (.ops [
    ⟨some 5, .mv (.tmp 0), none, 0⟩,
    ⟨some 6, .len (.tmp 5), none, 0⟩,
    ⟨some 7, .mkSl 1 [.int .i64 0] 8 (.tmp 6) (.tmp 6), none, 0⟩,
    ⟨some 3, .mv (.tmp 7), none, 0⟩]) <|
  .seq (.seq (.ops [
    ⟨some 4, .mv (.const (.int .i64 0)), none, 0⟩]) <|
  .block 0 <|
  .loop [0, 3, 4] i_laws_toInt64S_B1) <|
  .seq (.ops [
    ⟨some 21, .mv (.tmp 3), none, 0⟩,
    ⟨some 2, .mv (.tmp 21), none, 0⟩]) <|
  .keep [2] <|
  .ret⟩

theorem e_laws_toInt64S : EntOK Tryd.prog (compD Tryd.prog) k_laws_toInt64S i_laws_toInt64S.vf :=
  ⟨Tryd.f58, Tryd.f58.body.getD .skip, Tryd.func58, by kernel_rfl, by kernel_rfl, by kernel_rfl, by kernel_rfl, by kernel_rfl⟩

/-- (loop.example/g01331/impl.Graph).has -/
def i_impl_Graph_has : FF := ⟨16, [.tmp 6],
  .seq (.ops [
    ⟨some 3, .box 2 (.tmp 0), none, 0⟩,
    ⟨some 6, .mv (.const (.bool false)), none, 0⟩]) <|
  .seq (.ops [
    ⟨some 7, .fld 1 (.tmp 3), none, 0⟩,
    ⟨some 8, .load false 1 (.tmp 7), none, 0⟩,
    ⟨some 9, .mv (.tmp 1), none, 0⟩,
    ⟨some 10, .idx 1 (.tmp 8) (.tmp 9), none, 0⟩,
    ⟨some 11, .load false 1 (.tmp 10), none, 0⟩,
    ⟨some 12, .mv (.tmp 2), none, 0⟩,
    ⟨some 13, .bin .shr (.tmp 11) (.tmp 12), none, 0⟩,
    ⟨some 14, .bin .and (.tmp 13) (.const (.int .i64 1)), none, 0⟩,
    ⟨some 15, .bin .eql (.tmp 14) (.const (.int .i64 1)), none, 0⟩,
    ⟨some 6, .mv (.tmp 15), none, 0⟩]) <|
  .keep [6] <|
  .ret⟩

theorem e_impl_Graph_has : EntOK Tryd.prog (compD Tryd.prog) k_impl_Graph_has i_impl_Graph_has.vf :=
  ⟨Tryd.f60, Tryd.f60.body.getD .skip, Tryd.func60, by kernel_rfl, by kernel_rfl, by kernel_rfl, by kernel_rfl, by kernel_rfl⟩

/-- (loop.example/g01331/impl.Graph).girth -/
def i_impl_Graph_girth_B1 : FC :=
  .seq (.ops [
    ⟨some 9, .bin .lss (.tmp 8) (.tmp 7), none, 0⟩]) <|
  .seq (.cond (.tmp 9)
    (.skip)
    (.keep [3] <|
    .exit 0)) <|
  .seq (.block 1 <|
  .seq (.ops [
    ⟨some 10, .mv (.tmp 8), none, 0⟩,
    ⟨some 4, .mv (.tmp 10), none, 0⟩]) <|
  .seq (.ops [
    ⟨some 11, .load true 2 (.tmp 1), none, 0⟩,
    ⟨some 12, .mv (.tmp 4), none, 0⟩,
    ⟨some 13, .call k_impl_Graph_girthAt [(.tmp 11), (.tmp 12)], none, 0⟩,
    ⟨some 5, .mv (.tmp 13), none, 0⟩]) <|
  .seq (.ops [
    ⟨some 14, .mv (.tmp 5), none, 0⟩,
    ⟨some 15, .bin .gtr (.tmp 14) (.const (.int .i64 0)), none, 0⟩,
    ⟨some 16, .mv (.tmp 15), none, 0⟩,
    ⟨some 17, .mv (.tmp 3), some (16, true), 0⟩,
    ⟨some 18, .bin .eql (.tmp 17) (.const (.int .i64 0)), some (16, true), 0⟩,
    ⟨some 19, .mv (.tmp 18), some (16, true), 0⟩,
    ⟨some 20, .mv (.tmp 5), some (19, false), 0⟩,
    ⟨some 21, .mv (.tmp 3), some (19, false), 0⟩,
    ⟨some 22, .bin .lss (.tmp 20) (.tmp 21), some (19, false), 0⟩,
    ⟨some 23, .pick (.tmp 19) (.const (.bool true)) (.tmp 22), some (16, true), 0⟩,
    ⟨some 24, .pick (.tmp 16) (.tmp 23) (.const (.bool false)), none, 0⟩]) <|
  .cond (.tmp 24)
    (.ops [
      ⟨some 25, .mv (.tmp 5), none, 0⟩,
      ⟨some 3, .mv (.tmp 25), none, 0⟩])
    (.skip)) <|
  .ops [
    ⟨some 26, .bin .add (.tmp 8) (.const (.int .i64 1)), none, 0⟩,
    ⟨some 8, .mv (.tmp 26), none, 0⟩]
def i_impl_Graph_girth : FF := ⟨28, [.tmp 2],
  .seq (.ops [
    ⟨some 1, .box 2 (.tmp 0), none, 0⟩,
    ⟨some 2, .mv (.const (.int .i64 0)), none, 0⟩]) <|
  .seq (.ops [
    ⟨some 3, .mv (.const (.int .i64 0)), none, 0⟩]) <|
  .seq (.seq (.ops [
    ⟨some 6, .fld 0 (.tmp 1), none, 0⟩,
    ⟨some 7, .load false 1 (.tmp 6), none, 0⟩,
    ⟨some 8, .mv (.const (.int .i64 0)), none, 0⟩]) <|
  .block 0 <|
  .loop [1, 3, 7, 8] i_impl_Graph_girth_B1) <|
  .seq (.ops [
    ⟨some 27, .mv (.tmp 3), none, 0⟩,
    ⟨some 2, .mv (.tmp 27), none, 0⟩]) <|
  .keep [2] <|
  .ret⟩

theorem e_impl_Graph_girth : EntOK Tryd.prog (compD Tryd.prog) k_impl_Graph_girth i_impl_Graph_girth.vf :=
  ⟨Tryd.f61, Tryd.f61.body.getD .skip, Tryd.func61, by kernel_rfl, by kernel_rfl, by kernel_rfl, by kernel_rfl, by kernel_rfl⟩

/-- (loop.example/g01331/impl.Graph).around -/
def i_impl_Graph_around : FF := ⟨21, [.tmp 6],
  .seq (.ops [
    ⟨some 3, .box 2 (.tmp 0), none, 0⟩,
    ⟨some 6, .mv (.const (.int .i64 0)), none, 0⟩]) <|
  .seq (.ops [
    ⟨some 8, .load true 2 (.tmp 3), none, 0⟩,
    ⟨some 9, .call k_impl_own [(.tmp 8)], none, 0⟩,
    ⟨some 7, .alloc [.int .i64 0, .slice none 0 0], none, 0⟩,
    ⟨none, .store 2 (.tmp 7) (.tmp 9), none, 0⟩]) <|
  .seq (.ops [
    ⟨some 10, .load true 2 (.tmp 7), none, 0⟩,
    ⟨some 11, .mv (.tmp 1), none, 0⟩,
    ⟨some 12, .mv (.tmp 2), none, 0⟩,
    ⟨some 13, .call k_impl_Graph_take [(.tmp 10), (.tmp 11), (.tmp 12)], none, 0⟩]) <|
  .seq (.ops [
    ⟨some 14, .load true 2 (.tmp 7), none, 0⟩,
    ⟨some 15, .mv (.tmp 1), none, 0⟩,
    ⟨some 16, .call k_impl_Graph_distances [(.tmp 14), (.tmp 15)], none, 0⟩,
    ⟨some 17, .mv (.tmp 2), none, 0⟩,
    ⟨some 18, .idx 1 (.tmp 16) (.tmp 17), none, 0⟩,
    ⟨some 19, .load false 1 (.tmp 18), none, 0⟩,
    ⟨some 20, .bin .add (.tmp 19) (.const (.int .i64 1)), none, 0⟩,
    ⟨some 6, .mv (.tmp 20), none, 0⟩]) <|
  .keep [6] <|
  .ret⟩

theorem e_impl_Graph_around : EntOK Tryd.prog (compD Tryd.prog) k_impl_Graph_around i_impl_Graph_around.vf :=
  ⟨Tryd.f62, Tryd.f62.body.getD .skip, Tryd.func62, by kernel_rfl, by kernel_rfl, by kernel_rfl, by kernel_rfl, by kernel_rfl⟩

/-- (loop.example/g01331/impl.Graph).distances -/
def i_impl_Graph_distances_B1 : FC :=
  .seq (.ops [
    ⟨some 28, .bin .lss (.tmp 27) (.tmp 26), none, 0⟩]) <|
  .seq (.cond (.tmp 28)
    (.skip)
    (.keep [2, 5, 6, 8, 9] <|
    .exit 2)) <|
  .seq (.block 3 <|
  .seq (.ops [
    ⟨some 29, .idx 1 (.tmp 25) (.tmp 27), none, 0⟩,
    ⟨some 30, .load false 1 (.tmp 29), none, 0⟩,
    ⟨some 11, .mv (.tmp 30), none, 0⟩]) <|
  .seq (.ops [
    ⟨some 31, .mv (.tmp 5), none, 0⟩,
    ⟨some 32, .mv (.tmp 11), none, 0⟩,
    ⟨some 33, .mv (.tmp 8), none, 0⟩,
    ⟨some 34, .idx 1 (.tmp 31) (.tmp 32), none, 0⟩,
    ⟨none, .store 1 (.tmp 34) (.tmp 33), none, 0⟩]) <|
  .ops [
    ⟨some 35, .mv (.tmp 9), none, 0⟩,
    ⟨some 36, .fld 1 (.tmp 2), none, 0⟩,
    ⟨some 37, .load false 1 (.tmp 36), none, 0⟩,
    ⟨some 38, .mv (.tmp 11), none, 0⟩,
    ⟨some 39, .idx 1 (.tmp 37) (.tmp 38), none, 0⟩,
    ⟨some 40, .load false 1 (.tmp 39), none, 0⟩,
    ⟨some 41, .bin .or (.tmp 35) (.tmp 40), none, 0⟩,
    ⟨some 9, .mv (.tmp 41), none, 0⟩]) <|
  .ops [
    ⟨some 42, .bin .add (.tmp 27) (.const (.int .i64 1)), none, 0⟩,
    ⟨some 27, .mv (.tmp 42), none, 0⟩]
def i_impl_Graph_distances_B2 : FC :=
  .seq (.seq (.ops [
    ⟨some 20, .mv (.tmp 7), none, 0⟩,
    ⟨some 21, .bin .neq (.tmp 20) (.const (.int .i64 0)), none, 0⟩]) <|
  .cond (.tmp 21)
    (.skip)
    (.keep [5] <|
    .exit 0)) <|
  .seq (.block 1 <|
  .seq (.ops [
    ⟨some 9, .mv (.const (.int .i64 0)), none, 0⟩]) <|
  .seq (.seq (.ops [
    ⟨some 24, .mv (.tmp 7), none, 0⟩,
    ⟨some 25, .call k_impl_list [(.tmp 24)], none, 0⟩,
    ⟨some 26, .len (.tmp 25), none, 0⟩,
    ⟨some 27, .mv (.const (.int .i64 0)), none, 0⟩]) <|
  .block 2 <|
  .loop [2, 5, 6, 8, 9, 25, 26, 27] i_impl_Graph_distances_B1) <|
  .seq (.ops [
    ⟨some 43, .mv (.tmp 9), none, 0⟩,
    ⟨some 44, .mv (.tmp 6), none, 0⟩,
    ⟨some 45, .bin .andNot (.tmp 43) (.tmp 44), none, 0⟩,
    ⟨some 7, .mv (.tmp 45), none, 0⟩]) <|
  .ops [
    ⟨some 46, .mv (.tmp 6), none, 0⟩,
    ⟨some 47, .mv (.tmp 9), none, 0⟩,
    ⟨some 48, .bin .or (.tmp 46) (.tmp 47), none, 0⟩,
    ⟨some 6, .mv (.tmp 48), none, 0⟩]) <|
  .ops [
    ⟨some 22, .mv (.tmp 8), none, 0⟩,
    ⟨some 23, .bin .add (.tmp 22) (.const (.int .i64 1)), none, 0⟩,
    ⟨some 8, .mv (.tmp 23), none, 0⟩]
def i_impl_Graph_distances : FF := ⟨50, [.tmp 4],
  .seq (.ops [
    ⟨some 2, .box 2 (.tmp 0), none, 0⟩,
    ⟨some 4, .mv (.const (.slice none 0 0)), none, 0⟩]) <|
  .seq (.ops [
    ⟨some 12, .buildSl 1 [.int .i64 0] [(0, 1, (.const (.int .i64 (-1))))] 1, none, 0⟩,
    ⟨some 13, .fld 0 (.tmp 2), none, 0⟩,
    ⟨some 14, .load false 1 (.tmp 13), none, 0⟩,
    ⟨some 15, .call k_slices_Repeat_int64_int64 [(.tmp 12), (.tmp 14)], none, 0⟩,
    ⟨some 5, .mv (.tmp 15), none, 0⟩]) <|
  .seq (.dops [
    ⟨some 16, .mv (.tmp 1), none, 0⟩,
    ⟨some 17, .bin .shl (.const (.int .i64 1)) (.tmp 16), none, 0⟩,
    ⟨some 18, .mv (.tmp 1), none, 0⟩,
    ⟨some 19, .bin .shl (.const (.int .i64 1)) (.tmp 18), none, 0⟩,
    ⟨some 6, .mv (.tmp 17), none, 0⟩,
    ⟨some 7, .mv (.tmp 19), none, 0⟩]) <|
  .seq (.seq (.ops [
    ⟨some 8, .mv (.const (.int .i64 0)), none, 0⟩]) <|
  .block 0 <|
  .loop [2, 5, 6, 7, 8] i_impl_Graph_distances_B2) <|
  .seq (.ops [
    ⟨some 49, .mv (.tmp 5), none, 0⟩,
    ⟨some 4, .mv (.tmp 49), none, 0⟩]) <|
  .keep [4] <|
  .ret⟩

theorem e_impl_Graph_distances : EntOK Tryd.prog (compD Tryd.prog) k_impl_Graph_distances i_impl_Graph_distances.vf :=
  ⟨Tryd.f70, Tryd.f70.body.getD .skip, Tryd.func70, by kernel_rfl, by kernel_rfl, by kernel_rfl, by kernel_rfl, by kernel_rfl⟩

/-- loop.example/g01331/spec.l07Given -/
def i_spec_l07Given : FF := ⟨22, [.tmp 6],
  .seq (.ops [
    ⟨some 3, .box 2 (.tmp 0), none, 0⟩,
    ⟨some 6, .mv (.const (.int .i64 0)), none, 0⟩]) <|
  .seq (.block 0 <|
  .seq (.ops [
    ⟨some 8, .load true 2 (.tmp 3), none, 0⟩,
    ⟨some 9, .call k_spec_l01Is [(.tmp 8)], none, 0⟩,
    ⟨some 10, .un .not (.tmp 9), none, 0⟩,
    ⟨some 7, .mv (.tmp 10), none, 0⟩]) <|
  .cond (.tmp 7)
    (.seq (.ops [
      ⟨some 6, .mv (.const (.int .i64 1)), none, 0⟩]) <|
    .keep [6] <|
    .ret)
    (.seq (.ops [
      ⟨some 12, .mv (.tmp 1), none, 0⟩,
      ⟨some 13, .mv (.tmp 2), none, 0⟩,
      ⟨some 14, .call k_spec_l07Numbers [(.tmp 12), (.tmp 13)], none, 0⟩,
      ⟨some 15, .un .not (.tmp 14), none, 0⟩,
      ⟨some 11, .mv (.tmp 15), none, 0⟩]) <|
    .cond (.tmp 11)
      (.seq (.ops [
        ⟨some 6, .mv (.const (.int .i64 2)), none, 0⟩]) <|
      .keep [6] <|
      .ret)
      (.seq (.ops [
        ⟨some 17, .load true 2 (.tmp 3), none, 0⟩,
        ⟨some 18, .mv (.tmp 1), none, 0⟩,
        ⟨some 19, .mv (.tmp 2), none, 0⟩,
        ⟨some 20, .call k_spec_l07Fits [(.tmp 17), (.tmp 18), (.tmp 19)], none, 0⟩,
        ⟨some 21, .un .not (.tmp 20), none, 0⟩,
        ⟨some 16, .mv (.tmp 21), none, 0⟩]) <|
      .cond (.tmp 16)
        (.seq (.ops [
          ⟨some 6, .mv (.const (.int .i64 5)), none, 0⟩]) <|
        .keep [6] <|
        .ret)
        (.skip)))) <|
  .seq (.ops [
    ⟨some 6, .mv (.const (.int .i64 0)), none, 0⟩]) <|
  .keep [6] <|
  .ret⟩

theorem e_spec_l07Given : EntOK Tryd.prog (compD Tryd.prog) k_spec_l07Given i_spec_l07Given.vf :=
  ⟨Tryd.f73, Tryd.f73.body.getD .skip, Tryd.func73, by kernel_rfl, by kernel_rfl, by kernel_rfl, by kernel_rfl, by kernel_rfl⟩

/-- loop.example/g01331/spec.l07May -/
def i_spec_l07May : FF := ⟨47, [.tmp 10],
  .seq (.ops [
    ⟨some 5, .box 2 (.tmp 0), none, 0⟩,
    ⟨some 10, .mv (.const (.bool false)), none, 0⟩]) <|
  .seq (.seq (.ops [
    ⟨some 12, .mv (.tmp 3), none, 0⟩,
    ⟨some 13, .mv (.tmp 4), none, 0⟩,
    ⟨some 14, .bin .eql (.tmp 12) (.tmp 13), none, 0⟩,
    ⟨some 15, .mv (.tmp 14), none, 0⟩,
    ⟨some 16, .load true 2 (.tmp 5), some (15, false), 0⟩,
    ⟨some 17, .mv (.tmp 3), some (15, false), 0⟩,
    ⟨some 18, .mv (.tmp 4), some (15, false), 0⟩,
    ⟨some 19, .call k_spec_l01Has [(.tmp 16), (.tmp 17), (.tmp 18)], some (15, false), 0⟩,
    ⟨some 20, .pick (.tmp 15) (.const (.bool true)) (.tmp 19), none, 0⟩,
    ⟨some 21, .mv (.tmp 20), none, 0⟩,
    ⟨some 22, .load true 2 (.tmp 5), some (21, false), 0⟩,
    ⟨some 23, .mv (.tmp 3), some (21, false), 0⟩,
    ⟨some 24, .call k_spec_l01Degree [(.tmp 22), (.tmp 23)], some (21, false), 0⟩,
    ⟨some 25, .mv (.tmp 1), some (21, false), 0⟩,
    ⟨some 26, .bin .geq (.tmp 24) (.tmp 25), some (21, false), 0⟩,
    ⟨some 27, .pick (.tmp 21) (.const (.bool true)) (.tmp 26), none, 0⟩,
    ⟨some 28, .mv (.tmp 27), none, 0⟩,
    ⟨some 29, .load true 2 (.tmp 5), some (28, false), 0⟩,
    ⟨some 30, .mv (.tmp 4), some (28, false), 0⟩,
    ⟨some 31, .call k_spec_l01Degree [(.tmp 29), (.tmp 30)], some (28, false), 0⟩,
    ⟨some 32, .mv (.tmp 1), some (28, false), 0⟩,
    ⟨some 33, .bin .geq (.tmp 31) (.tmp 32), some (28, false), 0⟩,
    ⟨some 34, .pick (.tmp 28) (.const (.bool true)) (.tmp 33), none, 0⟩]) <|
  .cond (.tmp 34)
    (.seq (.ops [
      ⟨some 10, .mv (.const (.bool false)), none, 0⟩]) <|
    .keep [10] <|
    .ret)
    (.skip)) <|
  .seq (.ops [
    ⟨some 35, .load true 2 (.tmp 5), none, 0⟩,
    ⟨some 36, .mv (.tmp 3), none, 0⟩,
    ⟨some 37, .mv (.tmp 4), none, 0⟩,
    ⟨some 38, .call k_spec_l07Far [(.tmp 35), (.tmp 36), (.tmp 37)], none, 0⟩,
    ⟨some 11, .mv (.tmp 38), none, 0⟩]) <|
  .seq (.ops [
    ⟨some 39, .mv (.tmp 11), none, 0⟩,
    ⟨some 40, .bin .lss (.tmp 39) (.const (.int .i64 0)), none, 0⟩,
    ⟨some 41, .mv (.tmp 40), none, 0⟩,
    ⟨some 42, .mv (.tmp 11), some (41, false), 0⟩,
    ⟨some 43, .bin .add (.tmp 42) (.const (.int .i64 1)), some (41, false), 0⟩,
    ⟨some 44, .mv (.tmp 2), some (41, false), 0⟩,
    ⟨some 45, .bin .geq (.tmp 43) (.tmp 44), some (41, false), 0⟩,
    ⟨some 46, .pick (.tmp 41) (.const (.bool true)) (.tmp 45), none, 0⟩,
    ⟨some 10, .mv (.tmp 46), none, 0⟩]) <|
  .keep [10] <|
  .ret⟩

theorem e_spec_l07May : EntOK Tryd.prog (compD Tryd.prog) k_spec_l07May i_spec_l07May.vf :=
  ⟨Tryd.f74, Tryd.f74.body.getD .skip, Tryd.func74, by kernel_rfl, by kernel_rfl, by kernel_rfl, by kernel_rfl, by kernel_rfl⟩

/-- loop.example/g01331/impl.fitCode -/
def i_impl_fitCode : FF := ⟨20, [.tmp 6],
  .seq (.ops [
    ⟨some 3, .box 2 (.tmp 0), none, 0⟩,
    ⟨some 6, .mv (.const (.int .i64 0)), none, 0⟩]) <|
  .seq (.seq (.ops [
    ⟨some 8, .load true 2 (.tmp 3), none, 0⟩,
    ⟨some 9, .mv (.tmp 1), none, 0⟩,
    ⟨some 10, .mv (.tmp 2), none, 0⟩,
    ⟨some 11, .call k_impl_bothCode [(.tmp 8), (.tmp 9), (.tmp 10)], none, 0⟩,
    ⟨some 7, .mv (.tmp 11), none, 0⟩]) <|
  .seq (.ops [
    ⟨some 12, .mv (.tmp 7), none, 0⟩,
    ⟨some 13, .bin .neq (.tmp 12) (.const (.int .i64 0)), none, 0⟩]) <|
  .cond (.tmp 13)
    (.seq (.ops [
      ⟨some 14, .mv (.tmp 7), none, 0⟩,
      ⟨some 6, .mv (.tmp 14), none, 0⟩]) <|
    .keep [6] <|
    .ret)
    (.skip)) <|
  .seq (.seq (.ops [
    ⟨some 15, .load true 2 (.tmp 3), none, 0⟩,
    ⟨some 16, .mv (.tmp 1), none, 0⟩,
    ⟨some 17, .mv (.tmp 2), none, 0⟩,
    ⟨some 18, .call k_impl_Graph_fits [(.tmp 15), (.tmp 16), (.tmp 17)], none, 0⟩,
    ⟨some 19, .un .not (.tmp 18), none, 0⟩]) <|
  .cond (.tmp 19)
    (.seq (.ops [
      ⟨some 6, .mv (.const (.int .i64 5)), none, 0⟩]) <|
    .keep [6] <|
    .ret)
    (.skip)) <|
  .seq (.ops [
    ⟨some 6, .mv (.const (.int .i64 0)), none, 0⟩]) <|
  .keep [6] <|
  .ret⟩

theorem e_impl_fitCode : EntOK Tryd.prog (compD Tryd.prog) k_impl_fitCode i_impl_fitCode.vf :=
  ⟨Tryd.f75, Tryd.f75.body.getD .skip, Tryd.func75, by kernel_rfl, by kernel_rfl, by kernel_rfl, by kernel_rfl, by kernel_rfl⟩

/-- (loop.example/g01331/impl.Graph).pairs -/
def i_impl_Graph_pairs_B1 : FC :=
  .seq (.seq (.ops [
    ⟨some 18, .mv (.tmp 9), none, 0⟩,
    ⟨some 19, .fld 0 (.tmp 3), none, 0⟩,
    ⟨some 20, .load false 1 (.tmp 19), none, 0⟩,
    ⟨some 21, .bin .lss (.tmp 18) (.tmp 20), none, 0⟩]) <|
  .cond (.tmp 21)
    (.skip)
    (.keep [1, 2, 3, 7, 12, 13] <|
    .exit 2)) <|
  .seq (.block 3 <|
  .seq (.ops [
    ⟨some 24, .load true 2 (.tmp 3), none, 0⟩,
    ⟨some 25, .mv (.tmp 8), none, 0⟩,
    ⟨some 26, .mv (.tmp 9), none, 0⟩,
    ⟨some 27, .mv (.tmp 1), none, 0⟩,
    ⟨some 28, .mv (.tmp 2), none, 0⟩,
    ⟨some 29, .call k_impl_Graph_mayJoin [(.tmp 24), (.tmp 25), (.tmp 26), (.tmp 27), (.tmp 28)], none, 0⟩]) <|
  .cond (.tmp 29)
    (.ops [
      ⟨some 30, .mv (.tmp 7), none, 0⟩,
      ⟨some 31, .mv (.tmp 8), none, 0⟩,
      ⟨some 32, .mv (.tmp 9), none, 0⟩,
      ⟨some 33, .buildSl 1 [.int .i64 0, .int .i64 0] [(0, 1, (.tmp 31)), (1, 1, (.tmp 32))] 2, none, 0⟩,
      ⟨some 34, .buildSl 1 [.slice none 0 0] [(0, 1, (.tmp 33))] 1, none, 0⟩,
      ⟨some 35, .app 1 24 [.slice none 0 0] (.tmp 30) (.tmp 34), none, 0⟩,
      ⟨some 7, .mv (.tmp 35), none, 0⟩])
    (.skip)) <|
  .ops [
    ⟨some 22, .mv (.tmp 9), none, 0⟩,
    ⟨some 23, .bin .add (.tmp 22) (.const (.int .i64 1)), none, 0⟩,
    ⟨some 9, .mv (.tmp 23), none, 0⟩]
def i_impl_Graph_pairs_B2 : FC :=
  .seq (.ops [
    ⟨some 14, .bin .lss (.tmp 13) (.tmp 12), none, 0⟩]) <|
  .seq (.cond (.tmp 14)
    (.skip)
    (.keep [7] <|
    .exit 0)) <|
  .seq (.block 1 <|
  .seq (.ops [
    ⟨some 15, .mv (.tmp 13), none, 0⟩,
    ⟨some 8, .mv (.tmp 15), none, 0⟩]) <|
  .seq (.ops [
    ⟨some 16, .mv (.tmp 8), none, 0⟩,
    ⟨some 17, .bin .add (.tmp 16) (.const (.int .i64 1)), none, 0⟩,
    ⟨some 9, .mv (.tmp 17), none, 0⟩]) <|
  .block 2 <|
  .loop [1, 2, 3, 7, 8, 9, 12, 13] i_impl_Graph_pairs_B1) <|
  .ops [
    ⟨some 36, .bin .add (.tmp 13) (.const (.int .i64 1)), none, 0⟩,
    ⟨some 13, .mv (.tmp 36), none, 0⟩]
def i_impl_Graph_pairs : FF := ⟨38, [.tmp 6],
  .seq (.ops [
    ⟨some 3, .box 2 (.tmp 0), none, 0⟩,
    ⟨some 6, .mv (.const (.slice none 0 0)), none, 0⟩]) <|
  .seq (.ops [
    ⟨some 10, .buildSl 1 [] [] 0, none, 0⟩,
    ⟨some 7, .mv (.tmp 10), none, 0⟩]) <|
  .seq (.seq (.ops [
    ⟨some 11, .fld 0 (.tmp 3), none, 0⟩,
    ⟨some 12, .load false 1 (.tmp 11), none, 0⟩,
    ⟨some 13, .mv (.const (.int .i64 0)), none, 0⟩]) <|
  .block 0 <|
  .loop [1, 2, 3, 7, 12, 13] i_impl_Graph_pairs_B2) <|
  .seq (.ops [
    ⟨some 37, .mv (.tmp 7), none, 0⟩,
    ⟨some 6, .mv (.tmp 37), none, 0⟩]) <|
  .keep [6] <|
  .ret⟩

theorem e_impl_Graph_pairs : EntOK Tryd.prog (compD Tryd.prog) k_impl_Graph_pairs i_impl_Graph_pairs.vf :=
  ⟨Tryd.f76, Tryd.f76.body.getD .skip, Tryd.func76, by kernel_rfl, by kernel_rfl, by kernel_rfl, by kernel_rfl, by kernel_rfl⟩

/-- loop.example/g01331/impl.IsGraph -/
def i_impl_IsGraph_B1 : FC :=
  .seq (.ops [
    ⟨some 47, .bin .lss (.tmp 46) (.tmp 45), none, 0⟩]) <|
  .seq (.cond (.tmp 47)
    (.skip)
    (.keep [1, 3, 23, 24, 25] <|
    .exit 2)) <|
  .seq (.block 3 <|
  .seq (.ops [
    ⟨some 48, .mv (.tmp 46), none, 0⟩,
    ⟨some 6, .mv (.tmp 48), none, 0⟩]) <|
  .seq (.dops [
    ⟨some 49, .mv (.tmp 5), none, 0⟩,
    ⟨some 50, .mv (.tmp 6), none, 0⟩,
    ⟨some 51, .bin .shr (.tmp 49) (.tmp 50), none, 0⟩,
    ⟨some 52, .bin .and (.tmp 51) (.const (.int .i64 1)), none, 0⟩,
    ⟨some 53, .fld 1 (.tmp 1), none, 0⟩,
    ⟨some 54, .load false 1 (.tmp 53), none, 0⟩,
    ⟨some 55, .mv (.tmp 6), none, 0⟩,
    ⟨some 56, .idx 1 (.tmp 54) (.tmp 55), none, 0⟩,
    ⟨some 57, .load false 1 (.tmp 56), none, 0⟩,
    ⟨some 58, .mv (.tmp 4), none, 0⟩,
    ⟨some 59, .bin .shr (.tmp 57) (.tmp 58), none, 0⟩,
    ⟨some 60, .bin .and (.tmp 59) (.const (.int .i64 1)), none, 0⟩,
    ⟨some 61, .bin .neq (.tmp 52) (.tmp 60), none, 0⟩]) <|
  .cond (.tmp 61)
    (.seq (.ops [
      ⟨some 2, .mv (.const (.bool false)), none, 0⟩]) <|
    .keep [2] <|
    .ret)
    (.skip)) <|
  .ops [
    ⟨some 62, .bin .add (.tmp 46) (.const (.int .i64 1)), none, 0⟩,
    ⟨some 46, .mv (.tmp 62), none, 0⟩]
def i_impl_IsGraph_B2 : FC :=
  .seq (.ops [
    ⟨some 26, .bin .lss (.tmp 25) (.tmp 24), none, 0⟩]) <|
  .seq (.cond (.tmp 26)
    (.skip)
    (.keep [] <|
    .exit 0)) <|
  .seq (.block 1 <|
  .seq (.ops [
    ⟨some 27, .mv (.tmp 25), none, 0⟩,
    ⟨some 28, .idx 1 (.tmp 23) (.tmp 25), none, 0⟩,
    ⟨some 29, .load false 1 (.tmp 28), none, 0⟩,
    ⟨some 4, .mv (.tmp 27), none, 0⟩,
    ⟨some 5, .mv (.tmp 29), none, 0⟩]) <|
  .seq (.seq (.ops [
    ⟨some 30, .mv (.tmp 5), none, 0⟩,
    ⟨some 31, .bin .lss (.tmp 30) (.const (.int .i64 0)), none, 0⟩,
    ⟨some 32, .mv (.tmp 31), none, 0⟩,
    ⟨some 33, .mv (.tmp 5), some (32, false), 0⟩,
    ⟨some 34, .mv (.tmp 3), some (32, false), 0⟩,
    ⟨some 35, .bin .shl (.const (.int .i64 1)) (.tmp 34), some (32, false), 0⟩,
    ⟨some 36, .bin .geq (.tmp 33) (.tmp 35), some (32, false), 0⟩,
    ⟨some 37, .pick (.tmp 32) (.const (.bool true)) (.tmp 36), none, 0⟩,
    ⟨some 38, .mv (.tmp 37), none, 0⟩,
    ⟨some 39, .mv (.tmp 5), some (38, false), 0⟩,
    ⟨some 40, .mv (.tmp 4), some (38, false), 0⟩,
    ⟨some 41, .bin .shr (.tmp 39) (.tmp 40), some (38, false), 0⟩,
    ⟨some 42, .bin .and (.tmp 41) (.const (.int .i64 1)), some (38, false), 0⟩,
    ⟨some 43, .bin .eql (.tmp 42) (.const (.int .i64 1)), some (38, false), 0⟩,
    ⟨some 44, .pick (.tmp 38) (.const (.bool true)) (.tmp 43), none, 0⟩]) <|
  .cond (.tmp 44)
    (.seq (.ops [
      ⟨some 2, .mv (.const (.bool false)), none, 0⟩]) <|
    .keep [2] <|
    .ret)
    (.skip)) <|
  .seq (.ops [
    ⟨some 45, .mv (.tmp 3), none, 0⟩,
    ⟨some 46, .mv (.const (.int .i64 0)), none, 0⟩]) <|
  .block 2 <|
  .loop [1, 3, 4, 5, 23, 24, 25, 45, 46] i_impl_IsGraph_B1) <|
  .ops [
    ⟨some 63, .bin .add (.tmp 25) (.const (.int .i64 1)), none, 0⟩,
    ⟨some 25, .mv (.tmp 63), none, 0⟩]
def i_impl_IsGraph : FF := ⟨64, [.tmp 2],
  .seq (.ops [
    ⟨some 1, .box 2 (.tmp 0), none, 0⟩,
    ⟨some 2, .mv (.const (.bool false)), none, 0⟩]) <|
  .seq (.ops [
    ⟨some 7, .fld 0 (.tmp 1), none, 0⟩,
    ⟨some 8, .load false 1 (.tmp 7), none, 0⟩,
    ⟨some 3, .mv (.tmp 8), none, 0⟩]) <|
  .seq (.seq (.ops [
    ⟨some 9, .mv (.tmp 3), none, 0⟩,
    ⟨some 10, .bin .lss (.tmp 9) (.const (.int .i64 1)), none, 0⟩,
    ⟨some 11, .mv (.tmp 10), none, 0⟩,
    ⟨some 12, .mv (.tmp 3), some (11, false), 0⟩,
    ⟨some 13, .bin .gtr (.tmp 12) (.const (.int .i64 62)), some (11, false), 0⟩,
    ⟨some 14, .pick (.tmp 11) (.const (.bool true)) (.tmp 13), none, 0⟩,
    ⟨some 15, .mv (.tmp 14), none, 0⟩,
    ⟨some 16, .fld 1 (.tmp 1), some (15, false), 0⟩,
    ⟨some 17, .load false 1 (.tmp 16), some (15, false), 0⟩,
    ⟨some 18, .len (.tmp 17), some (15, false), 0⟩,
    ⟨some 19, .mv (.tmp 3), some (15, false), 0⟩,
    ⟨some 20, .bin .neq (.tmp 18) (.tmp 19), some (15, false), 0⟩,
    ⟨some 21, .pick (.tmp 15) (.const (.bool true)) (.tmp 20), none, 0⟩]) <|
  .cond (.tmp 21)
    (.seq (.ops [
      ⟨some 2, .mv (.const (.bool false)), none, 0⟩]) <|
    .keep [2] <|
    .ret)
    (.skip)) <|
  .seq (.seq (.ops [
    ⟨some 22, .fld 1 (.tmp 1), none, 0⟩,
    ⟨some 23, .load false 1 (.tmp 22), none, 0⟩,
    ⟨some 24, .len (.tmp 23), none, 0⟩,
    ⟨some 25, .mv (.const (.int .i64 0)), none, 0⟩]) <|
  .block 0 <|
  .loop [1, 3, 23, 24, 25] i_impl_IsGraph_B2) <|
  .seq (.ops [
    ⟨some 2, .mv (.const (.bool true)), none, 0⟩]) <|
  .keep [2] <|
  .ret⟩

theorem e_impl_IsGraph : EntOK Tryd.prog (compD Tryd.prog) k_impl_IsGraph i_impl_IsGraph.vf :=
  ⟨Tryd.f82, Tryd.f82.body.getD .skip, Tryd.func82, by kernel_rfl, by kernel_rfl, by kernel_rfl, by kernel_rfl, by kernel_rfl⟩

/-- loop.example/g01331/impl.bothCode -/
def i_impl_bothCode : FF := ⟨16, [.tmp 6],
  .seq (.ops [
    ⟨some 3, .box 2 (.tmp 0), none, 0⟩,
    ⟨some 6, .mv (.const (.int .i64 0)), none, 0⟩]) <|
  .seq (.block 0 <|
  .seq (.ops [
    ⟨some 8, .load true 2 (.tmp 3), none, 0⟩,
    ⟨some 9, .call k_impl_IsGraph [(.tmp 8)], none, 0⟩,
    ⟨some 10, .un .not (.tmp 9), none, 0⟩,
    ⟨some 7, .mv (.tmp 10), none, 0⟩]) <|
  .cond (.tmp 7)
    (.seq (.ops [
      ⟨some 6, .mv (.const (.int .i64 1)), none, 0⟩]) <|
    .keep [6] <|
    .ret)
    (.seq (.ops [
      ⟨some 12, .mv (.tmp 1), none, 0⟩,
      ⟨some 13, .mv (.tmp 2), none, 0⟩,
      ⟨some 14, .call k_impl_isBoth [(.tmp 12), (.tmp 13)], none, 0⟩,
      ⟨some 15, .un .not (.tmp 14), none, 0⟩,
      ⟨some 11, .mv (.tmp 15), none, 0⟩]) <|
    .cond (.tmp 11)
      (.seq (.ops [
        ⟨some 6, .mv (.const (.int .i64 2)), none, 0⟩]) <|
      .keep [6] <|
      .ret)
      (.skip))) <|
  .seq (.ops [
    ⟨some 6, .mv (.const (.int .i64 0)), none, 0⟩]) <|
  .keep [6] <|
  .ret⟩

theorem e_impl_bothCode : EntOK Tryd.prog (compD Tryd.prog) k_impl_bothCode i_impl_bothCode.vf :=
  ⟨Tryd.f84, Tryd.f84.body.getD .skip, Tryd.func84, by kernel_rfl, by kernel_rfl, by kernel_rfl, by kernel_rfl, by kernel_rfl⟩

/-- (loop.example/g01331/impl.Graph).fits -/
def i_impl_Graph_fits : FF := ⟨24, [.tmp 6],
  .seq (.ops [
    ⟨some 3, .box 2 (.tmp 0), none, 0⟩,
    ⟨some 6, .mv (.const (.bool false)), none, 0⟩]) <|
  .seq (.ops [
    ⟨some 8, .load true 2 (.tmp 3), none, 0⟩,
    ⟨some 9, .call k_impl_Graph_girth [(.tmp 8)], none, 0⟩,
    ⟨some 7, .mv (.tmp 9), none, 0⟩]) <|
  .seq (.ops [
    ⟨some 10, .load true 2 (.tmp 3), none, 0⟩,
    ⟨some 11, .call k_impl_Graph_degrees [(.tmp 10)], none, 0⟩,
    ⟨some 12, .call k_slices_Max_int64_int64 [(.tmp 11)], none, 0⟩,
    ⟨some 13, .mv (.tmp 1), none, 0⟩,
    ⟨some 14, .bin .leq (.tmp 12) (.tmp 13), none, 0⟩,
    ⟨some 15, .mv (.tmp 14), none, 0⟩,
    ⟨some 16, .mv (.tmp 7), some (15, true), 0⟩,
    ⟨some 17, .bin .eql (.tmp 16) (.const (.int .i64 0)), some (15, true), 0⟩,
    ⟨some 18, .mv (.tmp 17), some (15, true), 0⟩,
    ⟨some 19, .mv (.tmp 7), some (18, false), 0⟩,
    ⟨some 20, .mv (.tmp 2), some (18, false), 0⟩,
    ⟨some 21, .bin .geq (.tmp 19) (.tmp 20), some (18, false), 0⟩,
    ⟨some 22, .pick (.tmp 18) (.const (.bool true)) (.tmp 21), some (15, true), 0⟩,
    ⟨some 23, .pick (.tmp 15) (.tmp 22) (.const (.bool false)), none, 0⟩,
    ⟨some 6, .mv (.tmp 23), none, 0⟩]) <|
  .keep [6] <|
  .ret⟩

theorem e_impl_Graph_fits : EntOK Tryd.prog (compD Tryd.prog) k_impl_Graph_fits i_impl_Graph_fits.vf :=
  ⟨Tryd.f85, Tryd.f85.body.getD .skip, Tryd.func85, by kernel_rfl, by kernel_rfl, by kernel_rfl, by kernel_rfl, by kernel_rfl⟩

/-- loop.example/g01331/spec.l01Copy -/
def i_spec_l01Copy : FF := ⟨9, [.cell 2 true 2],
  .seq (.ops [
    ⟨some 1, .box 2 (.tmp 0), none, 0⟩,
    ⟨some 2, .alloc [.int .i64 0, .slice none 0 0], none, 0⟩]) <|
  .seq (.dops [
    ⟨some 5, .fld 1 (.tmp 1), none, 0⟩,
    ⟨some 6, .load false 1 (.tmp 5), none, 0⟩,
    ⟨some 7, .call k_spec_l01Own [(.tmp 6)], none, 0⟩,
    ⟨some 3, .fld 0 (.tmp 1), none, 1⟩,
    ⟨some 4, .load false 1 (.tmp 3), none, 1⟩,
    ⟨some 8, .build [.int .i64 0, .slice none 0 0] [(0, 1, (.tmp 4)), (1, 1, (.tmp 7))], none, 0⟩,
    ⟨none, .store 2 (.tmp 2) (.tmp 8), none, 0⟩]) <|
  .keep [2] <|
  .ret⟩

theorem e_spec_l01Copy : EntOK Tryd.prog (compD Tryd.prog) k_spec_l01Copy i_spec_l01Copy.vf :=
  ⟨Tryd.f86, Tryd.f86.body.getD .skip, Tryd.func86, by kernel_rfl, by kernel_rfl, by kernel_rfl, by kernel_rfl, by kernel_rfl⟩

/-- loop.example/g01331/spec.l01Put -/
def i_spec_l01Put : FF := ⟨32, [],
  .seq (.ops [
    ⟨some 3, .box 2 (.tmp 0), none, 0⟩]) <|
  .seq (.dops [
    ⟨some 6, .fld 1 (.tmp 3), none, 0⟩,
    ⟨some 7, .load false 1 (.tmp 6), none, 0⟩,
    ⟨some 8, .mv (.tmp 1), none, 0⟩,
    ⟨some 9, .fld 1 (.tmp 3), none, 0⟩,
    ⟨some 10, .load false 1 (.tmp 9), none, 0⟩,
    ⟨some 11, .mv (.tmp 1), none, 0⟩,
    ⟨some 12, .idx 1 (.tmp 10) (.tmp 11), none, 0⟩,
    ⟨some 13, .load false 1 (.tmp 12), none, 0⟩,
    ⟨some 14, .mv (.tmp 2), none, 0⟩,
    ⟨some 15, .conv .u64 (.tmp 14), none, 0⟩,
    ⟨some 16, .bin .shl (.const (.int .i64 1)) (.tmp 15), none, 0⟩,
    ⟨some 17, .bin .or (.tmp 13) (.tmp 16), none, 0⟩,
    ⟨some 18, .idx 1 (.tmp 7) (.tmp 8), none, 0⟩,
    ⟨none, .store 1 (.tmp 18) (.tmp 17), none, 0⟩]) <|
  .dops [
    ⟨some 19, .fld 1 (.tmp 3), none, 0⟩,
    ⟨some 20, .load false 1 (.tmp 19), none, 0⟩,
    ⟨some 21, .mv (.tmp 2), none, 0⟩,
    ⟨some 22, .fld 1 (.tmp 3), none, 0⟩,
    ⟨some 23, .load false 1 (.tmp 22), none, 0⟩,
    ⟨some 24, .mv (.tmp 2), none, 0⟩,
    ⟨some 25, .idx 1 (.tmp 23) (.tmp 24), none, 0⟩,
    ⟨some 26, .load false 1 (.tmp 25), none, 0⟩,
    ⟨some 27, .mv (.tmp 1), none, 0⟩,
    ⟨some 28, .conv .u64 (.tmp 27), none, 0⟩,
    ⟨some 29, .bin .shl (.const (.int .i64 1)) (.tmp 28), none, 0⟩,
    ⟨some 30, .bin .or (.tmp 26) (.tmp 29), none, 0⟩,
    ⟨some 31, .idx 1 (.tmp 20) (.tmp 21), none, 0⟩,
    ⟨none, .store 1 (.tmp 31) (.tmp 30), none, 0⟩]⟩

theorem e_spec_l01Put : EntOK Tryd.prog (compD Tryd.prog) k_spec_l01Put i_spec_l01Put.vf :=
  ⟨Tryd.f87, Tryd.f87.body.getD .skip, Tryd.func87, by kernel_rfl, by kernel_rfl, by kernel_rfl, by kernel_rfl, by kernel_rfl⟩

/-- loop.example/g01331/impl.own -/
def i_impl_own : FF := ⟨9, [.cell 2 true 2],
  .seq (.ops [
    ⟨some 1, .box 2 (.tmp 0), none, 0⟩,
    ⟨some 2, .alloc [.int .i64 0, .slice none 0 0], none, 0⟩]) <|
  .seq (.dops [
    ⟨some 5, .fld 1 (.tmp 1), none, 0⟩,
    ⟨some 6, .load false 1 (.tmp 5), none, 0⟩,
    ⟨some 7, .call k_slices_Clone_int64_int64 [(.tmp 6)], none, 0⟩,
    ⟨some 3, .fld 0 (.tmp 1), none, 1⟩,
    ⟨some 4, .load false 1 (.tmp 3), none, 1⟩,
    ⟨some 8, .build [.int .i64 0, .slice none 0 0] [(0, 1, (.tmp 4)), (1, 1, (.tmp 7))], none, 0⟩,
    ⟨none, .store 2 (.tmp 2) (.tmp 8), none, 0⟩]) <|
  .keep [2] <|
  .ret⟩

theorem e_impl_own : EntOK Tryd.prog (compD Tryd.prog) k_impl_own i_impl_own.vf :=
  ⟨Tryd.f88, Tryd.f88.body.getD .skip, Tryd.func88, by kernel_rfl, by kernel_rfl, by kernel_rfl, by kernel_rfl, by kernel_rfl⟩

/-- (loop.example/g01331/impl.Graph).mayJoin -/
def i_impl_Graph_mayJoin : FF := ⟨44, [.tmp 10],
  .seq (.ops [
    ⟨some 5, .box 2 (.tmp 0), none, 0⟩,
    ⟨some 10, .mv (.const (.bool false)), none, 0⟩]) <|
  .seq (.seq (.ops [
    ⟨some 12, .load true 2 (.tmp 5), none, 0⟩,
    ⟨some 13, .mv (.tmp 1), none, 0⟩,
    ⟨some 14, .mv (.tmp 2), none, 0⟩,
    ⟨some 15, .call k_impl_Graph_has [(.tmp 12), (.tmp 13), (.tmp 14)], none, 0⟩,
    ⟨some 16, .mv (.tmp 15), none, 0⟩,
    ⟨some 17, .load true 2 (.tmp 5), some (16, false), 0⟩,
    ⟨some 18, .mv (.tmp 1), some (16, false), 0⟩,
    ⟨some 19, .call k_impl_Graph_degree [(.tmp 17), (.tmp 18)], some (16, false), 0⟩,
    ⟨some 20, .mv (.tmp 3), some (16, false), 0⟩,
    ⟨some 21, .bin .geq (.tmp 19) (.tmp 20), some (16, false), 0⟩,
    ⟨some 22, .pick (.tmp 16) (.const (.bool true)) (.tmp 21), none, 0⟩,
    ⟨some 23, .mv (.tmp 22), none, 0⟩,
    ⟨some 24, .load true 2 (.tmp 5), some (23, false), 0⟩,
    ⟨some 25, .mv (.tmp 2), some (23, false), 0⟩,
    ⟨some 26, .call k_impl_Graph_degree [(.tmp 24), (.tmp 25)], some (23, false), 0⟩,
    ⟨some 27, .mv (.tmp 3), some (23, false), 0⟩,
    ⟨some 28, .bin .geq (.tmp 26) (.tmp 27), some (23, false), 0⟩,
    ⟨some 29, .pick (.tmp 23) (.const (.bool true)) (.tmp 28), none, 0⟩]) <|
  .cond (.tmp 29)
    (.seq (.ops [
      ⟨some 10, .mv (.const (.bool false)), none, 0⟩]) <|
    .keep [10] <|
    .ret)
    (.skip)) <|
  .seq (.ops [
    ⟨some 30, .load true 2 (.tmp 5), none, 0⟩,
    ⟨some 31, .mv (.tmp 1), none, 0⟩,
    ⟨some 32, .call k_impl_Graph_distances [(.tmp 30), (.tmp 31)], none, 0⟩,
    ⟨some 33, .mv (.tmp 2), none, 0⟩,
    ⟨some 34, .idx 1 (.tmp 32) (.tmp 33), none, 0⟩,
    ⟨some 35, .load false 1 (.tmp 34), none, 0⟩,
    ⟨some 11, .mv (.tmp 35), none, 0⟩]) <|
  .seq (.ops [
    ⟨some 36, .mv (.tmp 11), none, 0⟩,
    ⟨some 37, .bin .lss (.tmp 36) (.const (.int .i64 0)), none, 0⟩,
    ⟨some 38, .mv (.tmp 37), none, 0⟩,
    ⟨some 39, .mv (.tmp 11), some (38, false), 0⟩,
    ⟨some 40, .bin .add (.tmp 39) (.const (.int .i64 1)), some (38, false), 0⟩,
    ⟨some 41, .mv (.tmp 4), some (38, false), 0⟩,
    ⟨some 42, .bin .geq (.tmp 40) (.tmp 41), some (38, false), 0⟩,
    ⟨some 43, .pick (.tmp 38) (.const (.bool true)) (.tmp 42), none, 0⟩,
    ⟨some 10, .mv (.tmp 43), none, 0⟩]) <|
  .keep [10] <|
  .ret⟩

theorem e_impl_Graph_mayJoin : EntOK Tryd.prog (compD Tryd.prog) k_impl_Graph_mayJoin i_impl_Graph_mayJoin.vf :=
  ⟨Tryd.f89, Tryd.f89.body.getD .skip, Tryd.func89, by kernel_rfl, by kernel_rfl, by kernel_rfl, by kernel_rfl, by kernel_rfl⟩

/-- (loop.example/g01331/impl.Graph).degree -/
def i_impl_Graph_degree : FF := ⟨11, [.tmp 4],
  .seq (.ops [
    ⟨some 2, .box 2 (.tmp 0), none, 0⟩,
    ⟨some 4, .mv (.const (.int .i64 0)), none, 0⟩]) <|
  .seq (.ops [
    ⟨some 5, .fld 1 (.tmp 2), none, 0⟩,
    ⟨some 6, .load false 1 (.tmp 5), none, 0⟩,
    ⟨some 7, .mv (.tmp 1), none, 0⟩,
    ⟨some 8, .idx 1 (.tmp 6) (.tmp 7), none, 0⟩,
    ⟨some 9, .load false 1 (.tmp 8), none, 0⟩,
    ⟨some 10, .call k_impl_size [(.tmp 9)], none, 0⟩,
    ⟨some 4, .mv (.tmp 10), none, 0⟩]) <|
  .keep [4] <|
  .ret⟩

theorem e_impl_Graph_degree : EntOK Tryd.prog (compD Tryd.prog) k_impl_Graph_degree i_impl_Graph_degree.vf :=
  ⟨Tryd.f94, Tryd.f94.body.getD .skip, Tryd.func94, by kernel_rfl, by kernel_rfl, by kernel_rfl, by kernel_rfl, by kernel_rfl⟩

/-- (loop.example/g01331/impl.Graph).take -/
def i_impl_Graph_take : FF := ⟨24, [],
  .seq (.ops [
    ⟨some 3, .box 2 (.tmp 0), none, 0⟩]) <|
  .seq (.dops [
    ⟨some 6, .fld 1 (.tmp 3), none, 0⟩,
    ⟨some 7, .load false 1 (.tmp 6), none, 0⟩,
    ⟨some 8, .mv (.tmp 1), none, 0⟩,
    ⟨some 9, .idx 1 (.tmp 7) (.tmp 8), none, 0⟩,
    ⟨some 10, .load false 1 (.tmp 9), none, 0⟩,
    ⟨some 11, .mv (.tmp 2), none, 0⟩,
    ⟨some 12, .bin .shl (.const (.int .i64 1)) (.tmp 11), none, 0⟩,
    ⟨some 13, .bin .andNot (.tmp 10) (.tmp 12), none, 0⟩,
    ⟨some 14, .idx 1 (.tmp 7) (.tmp 8), none, 0⟩,
    ⟨none, .store 1 (.tmp 14) (.tmp 13), none, 0⟩]) <|
  .dops [
    ⟨some 15, .fld 1 (.tmp 3), none, 0⟩,
    ⟨some 16, .load false 1 (.tmp 15), none, 0⟩,
    ⟨some 17, .mv (.tmp 2), none, 0⟩,
    ⟨some 18, .idx 1 (.tmp 16) (.tmp 17), none, 0⟩,
    ⟨some 19, .load false 1 (.tmp 18), none, 0⟩,
    ⟨some 20, .mv (.tmp 1), none, 0⟩,
    ⟨some 21, .bin .shl (.const (.int .i64 1)) (.tmp 20), none, 0⟩,
    ⟨some 22, .bin .andNot (.tmp 19) (.tmp 21), none, 0⟩,
    ⟨some 23, .idx 1 (.tmp 16) (.tmp 17), none, 0⟩,
    ⟨none, .store 1 (.tmp 23) (.tmp 22), none, 0⟩]⟩

theorem e_impl_Graph_take : EntOK Tryd.prog (compD Tryd.prog) k_impl_Graph_take i_impl_Graph_take.vf :=
  ⟨Tryd.f95, Tryd.f95.body.getD .skip, Tryd.func95, by kernel_rfl, by kernel_rfl, by kernel_rfl, by kernel_rfl, by kernel_rfl⟩

/-- loop.example/g01331/spec.l01Is -/
def i_spec_l01Is_B1 : FC :=
  .seq (.seq (.ops [
    ⟨some 18, .mv (.tmp 3), none, 0⟩,
    ⟨some 19, .fld 0 (.tmp 1), none, 0⟩,
    ⟨some 20, .load false 1 (.tmp 19), none, 0⟩,
    ⟨some 21, .bin .lss (.tmp 18) (.tmp 20), none, 0⟩]) <|
  .cond (.tmp 21)
    (.skip)
    (.keep [1] <|
    .exit 0)) <|
  .seq (.block 1 <|
  .seq (.dops [
    ⟨some 24, .fld 1 (.tmp 1), none, 0⟩,
    ⟨some 25, .load false 1 (.tmp 24), none, 0⟩,
    ⟨some 26, .mv (.tmp 3), none, 0⟩,
    ⟨some 27, .idx 1 (.tmp 25) (.tmp 26), none, 0⟩,
    ⟨some 28, .load false 1 (.tmp 27), none, 0⟩,
    ⟨some 29, .fld 0 (.tmp 1), none, 0⟩,
    ⟨some 30, .load false 1 (.tmp 29), none, 0⟩,
    ⟨some 31, .conv .u64 (.tmp 30), none, 0⟩,
    ⟨some 32, .bin .shl (.const (.int .i64 1)) (.tmp 31), none, 0⟩,
    ⟨some 33, .bin .sub (.tmp 32) (.const (.int .i64 1)), none, 0⟩,
    ⟨some 34, .call k_spec_l01In [(.tmp 28), (.const (.int .i64 0)), (.tmp 33)], none, 0⟩,
    ⟨some 35, .un .not (.tmp 34), none, 0⟩,
    ⟨some 36, .mv (.tmp 35), none, 0⟩,
    ⟨some 37, .load true 2 (.tmp 1), some (36, false), 0⟩,
    ⟨some 38, .mv (.tmp 3), some (36, false), 0⟩,
    ⟨some 39, .mv (.tmp 3), some (36, false), 0⟩,
    ⟨some 40, .call k_spec_l01Has [(.tmp 37), (.tmp 38), (.tmp 39)], some (36, false), 0⟩,
    ⟨some 41, .pick (.tmp 36) (.const (.bool true)) (.tmp 40), none, 0⟩]) <|
  .cond (.tmp 41)
    (.seq (.ops [
      ⟨some 2, .mv (.const (.bool false)), none, 0⟩]) <|
    .keep [2] <|
    .ret)
    (.skip)) <|
  .ops [
    ⟨some 22, .mv (.tmp 3), none, 0⟩,
    ⟨some 23, .bin .add (.tmp 22) (.const (.int .i64 1)), none, 0⟩,
    ⟨some 3, .mv (.tmp 23), none, 0⟩]
def i_spec_l01Is_B2 : FC :=
  .seq (.seq (.ops [
    ⟨some 48, .mv (.tmp 5), none, 0⟩,
    ⟨some 49, .mv (.tmp 4), none, 0⟩,
    ⟨some 50, .bin .lss (.tmp 48) (.tmp 49), none, 0⟩]) <|
  .cond (.tmp 50)
    (.skip)
    (.keep [1, 4] <|
    .exit 4)) <|
  .seq (.block 5 <|
  .seq (.dops [
    ⟨some 53, .load true 2 (.tmp 1), none, 0⟩,
    ⟨some 54, .mv (.tmp 4), none, 0⟩,
    ⟨some 55, .mv (.tmp 5), none, 0⟩,
    ⟨some 56, .call k_spec_l01Has [(.tmp 53), (.tmp 54), (.tmp 55)], none, 0⟩,
    ⟨some 57, .load true 2 (.tmp 1), none, 1⟩,
    ⟨some 58, .mv (.tmp 5), none, 1⟩,
    ⟨some 59, .mv (.tmp 4), none, 1⟩,
    ⟨some 60, .call k_spec_l01Has [(.tmp 57), (.tmp 58), (.tmp 59)], none, 0⟩,
    ⟨some 61, .beq true (.tmp 56) (.tmp 60), none, 0⟩]) <|
  .cond (.tmp 61)
    (.seq (.ops [
      ⟨some 2, .mv (.const (.bool false)), none, 0⟩]) <|
    .keep [2] <|
    .ret)
    (.skip)) <|
  .ops [
    ⟨some 51, .mv (.tmp 5), none, 0⟩,
    ⟨some 52, .bin .add (.tmp 51) (.const (.int .i64 1)), none, 0⟩,
    ⟨some 5, .mv (.tmp 52), none, 0⟩]
def i_spec_l01Is_B3 : FC :=
  .seq (.seq (.ops [
    ⟨some 42, .mv (.tmp 4), none, 0⟩,
    ⟨some 43, .fld 0 (.tmp 1), none, 0⟩,
    ⟨some 44, .load false 1 (.tmp 43), none, 0⟩,
    ⟨some 45, .bin .lss (.tmp 42) (.tmp 44), none, 0⟩]) <|
  .cond (.tmp 45)
    (.skip)
    (.keep [] <|
    .exit 2)) <|
  .seq (.block 3 <|
  .seq (.ops [
    ⟨some 5, .mv (.const (.int .i64 0)), none, 0⟩]) <|
  .block 4 <|
  .loop [1, 4, 5] i_spec_l01Is_B2) <|
  .ops [
    ⟨some 46, .mv (.tmp 4), none, 0⟩,
    ⟨some 47, .bin .add (.tmp 46) (.const (.int .i64 1)), none, 0⟩,
    ⟨some 4, .mv (.tmp 47), none, 0⟩]
def i_spec_l01Is : FF := ⟨62, [.tmp 2],
  .seq (.ops [
    ⟨some 1, .box 2 (.tmp 0), none, 0⟩,
    ⟨some 2, .mv (.const (.bool false)), none, 0⟩]) <|
  .seq (.seq (.ops [
    ⟨some 6, .fld 0 (.tmp 1), none, 0⟩,
    ⟨some 7, .load false 1 (.tmp 6), none, 0⟩,
    ⟨some 8, .call k_spec_l01In [(.tmp 7), (.const (.int .i64 1)), (.const (.int .i64 62))], none, 0⟩,
    ⟨some 9, .un .not (.tmp 8), none, 0⟩,
    ⟨some 10, .mv (.tmp 9), none, 0⟩,
    ⟨some 11, .fld 1 (.tmp 1), some (10, false), 0⟩,
    ⟨some 12, .load false 1 (.tmp 11), some (10, false), 0⟩,
    ⟨some 13, .len (.tmp 12), some (10, false), 0⟩,
    ⟨some 14, .fld 0 (.tmp 1), some (10, false), 0⟩,
    ⟨some 15, .load false 1 (.tmp 14), some (10, false), 0⟩,
    ⟨some 16, .bin .neq (.tmp 13) (.tmp 15), some (10, false), 0⟩,
    ⟨some 17, .pick (.tmp 10) (.const (.bool true)) (.tmp 16), none, 0⟩]) <|
  .cond (.tmp 17)
    (.seq (.ops [
      ⟨some 2, .mv (.const (.bool false)), none, 0⟩]) <|
    .keep [2] <|
    .ret)
    (.skip)) <|
  .seq (.seq (.ops [
    ⟨some 3, .mv (.const (.int .i64 0)), none, 0⟩]) <|
  .block 0 <|
  .loop [1, 3] i_spec_l01Is_B1) <|
  .seq (.seq (.ops [
    ⟨some 4, .mv (.const (.int .i64 0)), none, 0⟩]) <|
  .block 2 <|
  .loop [1, 4] i_spec_l01Is_B3) <|
  .seq (.ops [
    ⟨some 2, .mv (.const (.bool true)), none, 0⟩]) <|
  .keep [2] <|
  .ret⟩

theorem e_spec_l01Is : EntOK Tryd.prog (compD Tryd.prog) k_spec_l01Is i_spec_l01Is.vf :=
  ⟨Tryd.f96, Tryd.f96.body.getD .skip, Tryd.func96, by kernel_rfl, by kernel_rfl, by kernel_rfl, by kernel_rfl, by kernel_rfl⟩

/-- (loop.example/g01331/impl.Graph).girthAt -/
def i_impl_Graph_girthAt_B1 : FC :=
  .seq (.ops [
    ⟨some 17, .bin .lss (.tmp 16) (.tmp 15), none, 0⟩]) <|
  .seq (.cond (.tmp 17)
    (.skip)
    (.keep [5] <|
    .exit 0)) <|
  .seq (.block 1 <|
  .seq (.ops [
    ⟨some 18, .idx 1 (.tmp 14) (.tmp 16), none, 0⟩,
    ⟨some 19, .load false 1 (.tmp 18), none, 0⟩,
    ⟨some 7, .mv (.tmp 19), none, 0⟩]) <|
  .seq (.ops [
    ⟨some 20, .load true 2 (.tmp 2), none, 0⟩,
    ⟨some 21, .mv (.tmp 1), none, 0⟩,
    ⟨some 22, .mv (.tmp 7), none, 0⟩,
    ⟨some 23, .call k_impl_Graph_around [(.tmp 20), (.tmp 21), (.tmp 22)], none, 0⟩,
    ⟨some 8, .mv (.tmp 23), none, 0⟩]) <|
  .seq (.ops [
    ⟨some 24, .mv (.tmp 8), none, 0⟩,
    ⟨some 25, .bin .gtr (.tmp 24) (.const (.int .i64 0)), none, 0⟩,
    ⟨some 26, .mv (.tmp 25), none, 0⟩,
    ⟨some 27, .mv (.tmp 5), some (26, true), 0⟩,
    ⟨some 28, .bin .eql (.tmp 27) (.const (.int .i64 0)), some (26, true), 0⟩,
    ⟨some 29, .mv (.tmp 28), some (26, true), 0⟩,
    ⟨some 30, .mv (.tmp 8), some (29, false), 0⟩,
    ⟨some 31, .mv (.tmp 5), some (29, false), 0⟩,
    ⟨some 32, .bin .lss (.tmp 30) (.tmp 31), some (29, false), 0⟩,
    ⟨some 33, .pick (.tmp 29) (.const (.bool true)) (.tmp 32), some (26, true), 0⟩,
    ⟨some 34, .pick (.tmp 26) (.tmp 33) (.const (.bool false)), none, 0⟩]) <|
  .cond (.tmp 34)
    (.ops [
      ⟨some 35, .mv (.tmp 8), none, 0⟩,
      ⟨some 5, .mv (.tmp 35), none, 0⟩])
    (.skip)) <|
  .ops [
    ⟨some 36, .bin .add (.tmp 16) (.const (.int .i64 1)), none, 0⟩,
    ⟨some 16, .mv (.tmp 36), none, 0⟩]
def i_impl_Graph_girthAt : FF := ⟨38, [.tmp 4],
  .seq (.ops [
    ⟨some 2, .box 2 (.tmp 0), none, 0⟩,
    ⟨some 4, .mv (.const (.int .i64 0)), none, 0⟩]) <|
  .seq (.ops [
    ⟨some 5, .mv (.const (.int .i64 0)), none, 0⟩]) <|
  .seq (.seq (.ops [
    ⟨some 9, .fld 1 (.tmp 2), none, 0⟩,
    ⟨some 10, .load false 1 (.tmp 9), none, 0⟩,
    ⟨some 11, .mv (.tmp 1), none, 0⟩,
    ⟨some 12, .idx 1 (.tmp 10) (.tmp 11), none, 0⟩,
    ⟨some 13, .load false 1 (.tmp 12), none, 0⟩,
    ⟨some 14, .call k_impl_list [(.tmp 13)], none, 0⟩,
    ⟨some 15, .len (.tmp 14), none, 0⟩,
    ⟨some 16, .mv (.const (.int .i64 0)), none, 0⟩]) <|
  .block 0 <|
  .loop [1, 2, 5, 14, 15, 16] i_impl_Graph_girthAt_B1) <|
  .seq (.ops [
    ⟨some 37, .mv (.tmp 5), none, 0⟩,
    ⟨some 4, .mv (.tmp 37), none, 0⟩]) <|
  .keep [4] <|
  .ret⟩

theorem e_impl_Graph_girthAt : EntOK Tryd.prog (compD Tryd.prog) k_impl_Graph_girthAt i_impl_Graph_girthAt.vf :=
  ⟨Tryd.f97, Tryd.f97.body.getD .skip, Tryd.func97, by kernel_rfl, by kernel_rfl, by kernel_rfl, by kernel_rfl, by kernel_rfl⟩

/-- slices.Repeat[[]int64,int64] -/
def i_slices_Repeat_int64_int64_B1 : FC :=
  .seq (.seq (.ops [
    ⟨some 34, .mv (.tmp 8), none, 0⟩,
    ⟨some 35, .mv (.tmp 7), none, 0⟩,
    ⟨some 36, .len (.tmp 35), none, 0⟩,
    ⟨some 37, .bin .lss (.tmp 34) (.tmp 36), none, 0⟩]) <|
  .cond (.tmp 37)
    (.skip)
    (.keep [7] <|
    .exit 0)) <|
  .block 1 <|
  .dops [
    ⟨some 39, .mv (.tmp 7), none, 0⟩,
    ⟨some 40, .mv (.tmp 8), none, 0⟩,
    ⟨some 41, .slc 1 (.tmp 39) (some (.tmp 40)) none, none, 0⟩,
    ⟨some 42, .mv (.tmp 7), none, 0⟩,
    ⟨some 43, .mv (.tmp 8), none, 0⟩,
    ⟨some 44, .slc 1 (.tmp 42) none (some (.tmp 43)), none, 0⟩,
    ⟨some 45, .cpy 1 (.tmp 41) (.tmp 44), none, 0⟩,
    ⟨some 38, .mv (.tmp 8), none, 1⟩,
    ⟨some 46, .bin .add (.tmp 38) (.tmp 45), none, 0⟩,
    ⟨some 8, .mv (.tmp 46), none, 0⟩]
def i_slices_Repeat_int64_int64 : FF := ⟨48, [.tmp 4],
  .seq (.ops [
    ⟨some 4, .mv (.const (.slice none 0 0)), none, 0⟩]) <|
  .seq (.seq (.ops [
    ⟨some 9, .mv (.tmp 1), none, 0⟩,
    ⟨some 10, .bin .lss (.tmp 9) (.const (.int .i64 0)), none, 0⟩]) <|
  .cond (.tmp 10)
    (.ops [
      ⟨some 11, .stop, none, 0⟩,
      ⟨none, .stop, none, 0⟩])
    (.skip)) <|
  .seq (.ops [
    ⟨some 13, .mv (.tmp 0), none, 0⟩,
    ⟨some 14, .len (.tmp 13), none, 0⟩,
    ⟨some 15, .conv .u64 (.tmp 14), none, 0⟩,
    ⟨some 16, .mv (.tmp 1), none, 0⟩,
    ⟨some 17, .conv .u64 (.tmp 16), none, 0⟩,
    ⟨some 18, .call k_math_bits_Mul [(.tmp 15), (.tmp 17)], none, 0⟩,
    ⟨some 12, .mv (.tmp 18), none, 0⟩,
    ⟨some 19, .ext (.tmp 12) 0, none, 0⟩,
    ⟨some 20, .ext (.tmp 12) 1, none, 0⟩,
    ⟨some 5, .mv (.tmp 19), none, 0⟩,
    ⟨some 6, .mv (.tmp 20), none, 0⟩]) <|
  .seq (.seq (.ops [
    ⟨some 21, .mv (.tmp 5), none, 0⟩,
    ⟨some 22, .bin .gtr (.tmp 21) (.const (.int .u64 0)), none, 0⟩,
    ⟨some 23, .mv (.tmp 22), none, 0⟩,
    ⟨some 24, .mv (.tmp 6), some (23, false), 0⟩,
    ⟨some 25, .bin .gtr (.tmp 24) (.const (.int .u64 9223372036854775807)), some (23, false), 0⟩,
    ⟨some 26, .pick (.tmp 23) (.const (.bool true)) (.tmp 25), none, 0⟩]) <|
  .cond (.tmp 26)
    (.ops [
      ⟨some 27, .stop, none, 0⟩,
      ⟨none, .stop, none, 0⟩])
    (.skip)) <|
  .seq (.ops [
    ⟨some 28, .mv (.tmp 6), none, 0⟩,
    ⟨some 29, .conv .i64 (.tmp 28), none, 0⟩,
    ⟨some 30, .mkSl 1 [.int .i64 0] 8 (.tmp 29) (.tmp 29), none, 0⟩,
    ⟨some 7, .mv (.tmp 30), none, 0⟩]) <|
  .seq (.ops [
    ⟨some 31, .mv (.tmp 7), none, 0⟩,
    ⟨some 32, .mv (.tmp 0), none, 0⟩,
    ⟨some 33, .cpy 1 (.tmp 31) (.tmp 32), none, 0⟩,
    ⟨some 8, .mv (.tmp 33), none, 0⟩]) <|
  .seq (.block 0 <|
  .loop [7, 8] i_slices_Repeat_int64_int64_B1) <|
  .seq (.ops [
    ⟨some 47, .mv (.tmp 7), none, 0⟩,
    ⟨some 4, .mv (.tmp 47), none, 0⟩]) <|
  .keep [4] <|
  .ret⟩

theorem e_slices_Repeat_int64_int64 : EntOK Tryd.prog (compD Tryd.prog) k_slices_Repeat_int64_int64 i_slices_Repeat_int64_int64.vf :=
  ⟨Tryd.f103, Tryd.f103.body.getD .skip, Tryd.func103, by kernel_rfl, by kernel_rfl, by kernel_rfl, by kernel_rfl, by kernel_rfl⟩

/-- loop.example/g01331/impl.list -/
def i_impl_list_B1 : FC :=
  .seq (.seq (.ops [
    ⟨some 5, .mv (.tmp 0), none, 0⟩,
    ⟨some 6, .bin .neq (.tmp 5) (.const (.int .i64 0)), none, 0⟩]) <|
  .cond (.tmp 6)
    (.skip)
    (.keep [3] <|
    .exit 0)) <|
  .seq (.block 1 <|
  .ops [
    ⟨some 11, .mv (.tmp 3), none, 0⟩,
    ⟨some 12, .mv (.tmp 0), none, 0⟩,
    ⟨some 13, .conv .u64 (.tmp 12), none, 0⟩,
    ⟨some 14, .call k_math_bits_TrailingZeros64 [(.tmp 13)], none, 0⟩,
    ⟨some 15, .buildSl 1 [.int .i64 0] [(0, 1, (.tmp 14))] 1, none, 0⟩,
    ⟨some 16, .app 1 8 [.int .i64 0] (.tmp 11) (.tmp 15), none, 0⟩,
    ⟨some 3, .mv (.tmp 16), none, 0⟩]) <|
  .ops [
    ⟨some 7, .mv (.tmp 0), none, 0⟩,
    ⟨some 8, .mv (.tmp 0), none, 0⟩,
    ⟨some 9, .bin .sub (.tmp 8) (.const (.int .i64 1)), none, 0⟩,
    ⟨some 10, .bin .and (.tmp 7) (.tmp 9), none, 0⟩,
    ⟨some 0, .mv (.tmp 10), none, 0⟩]
def i_impl_list : FF := ⟨18, [.tmp 2],
  .seq (.ops [
    ⟨some 2, .mv (.const (.slice none 0 0)), none, 0⟩]) <|
  .seq (.ops [
    ⟨some 4, .buildSl 1 [] [] 0, none, 0⟩,
    ⟨some 3, .mv (.tmp 4), none, 0⟩]) <|
  .seq (.block 0 <|
  .loop [0, 3] i_impl_list_B1) <|
  .seq (.ops [
    ⟨some 17, .mv (.tmp 3), none, 0⟩,
    ⟨some 2, .mv (.tmp 17), none, 0⟩]) <|
  .keep [2] <|
  .ret⟩

theorem e_impl_list : EntOK Tryd.prog (compD Tryd.prog) k_impl_list i_impl_list.vf :=
  ⟨Tryd.f104, Tryd.f104.body.getD .skip, Tryd.func104, by kernel_rfl, by kernel_rfl, by kernel_rfl, by kernel_rfl, by kernel_rfl⟩

/-- loop.example/g01331/spec.l07Fits -/
def i_spec_l07Fits_B1 : FC :=
  .seq (.seq (.ops [
    ⟨some 11, .mv (.tmp 7), none, 0⟩,
    ⟨some 12, .fld 0 (.tmp 3), none, 0⟩,
    ⟨some 13, .load false 1 (.tmp 12), none, 0⟩,
    ⟨some 14, .bin .lss (.tmp 11) (.tmp 13), none, 0⟩]) <|
  .cond (.tmp 14)
    (.skip)
    (.keep [2, 3] <|
    .exit 0)) <|
  .seq (.block 1 <|
  .seq (.ops [
    ⟨some 17, .load true 2 (.tmp 3), none, 0⟩,
    ⟨some 18, .mv (.tmp 7), none, 0⟩,
    ⟨some 19, .call k_spec_l01Degree [(.tmp 17), (.tmp 18)], none, 0⟩,
    ⟨some 20, .mv (.tmp 1), none, 0⟩,
    ⟨some 21, .bin .gtr (.tmp 19) (.tmp 20), none, 0⟩]) <|
  .cond (.tmp 21)
    (.seq (.ops [
      ⟨some 6, .mv (.const (.bool false)), none, 0⟩]) <|
    .keep [6] <|
    .ret)
    (.skip)) <|
  .ops [
    ⟨some 15, .mv (.tmp 7), none, 0⟩,
    ⟨some 16, .bin .add (.tmp 15) (.const (.int .i64 1)), none, 0⟩,
    ⟨some 7, .mv (.tmp 16), none, 0⟩]
def i_spec_l07Fits_B2 : FC :=
  .seq (.seq (.ops [
    ⟨some 24, .mv (.tmp 9), none, 0⟩,
    ⟨some 25, .mv (.tmp 8), none, 0⟩,
    ⟨some 26, .len (.tmp 25), none, 0⟩,
    ⟨some 27, .bin .lss (.tmp 24) (.tmp 26), none, 0⟩]) <|
  .cond (.tmp 27)
    (.skip)
    (.keep [] <|
    .exit 2)) <|
  .seq (.block 3 <|
  .seq (.dops [
    ⟨some 30, .load true 2 (.tmp 3), none, 0⟩,
    ⟨some 31, .mv (.tmp 8), none, 0⟩,
    ⟨some 32, .mv (.tmp 9), none, 0⟩,
    ⟨some 33, .idx 1 (.tmp 31) (.tmp 32), none, 0⟩,
    ⟨some 34, .load false 1 (.tmp 33), none, 0⟩,
    ⟨some 35, .idx 1 (.tmp 34) (.const (.int .i64 0)), none, 0⟩,
    ⟨some 36, .load false 1 (.tmp 35), none, 0⟩,
    ⟨some 37, .mv (.tmp 8), none, 0⟩,
    ⟨some 38, .mv (.tmp 9), none, 0⟩,
    ⟨some 39, .idx 1 (.tmp 37) (.tmp 38), none, 0⟩,
    ⟨some 40, .load false 1 (.tmp 39), none, 0⟩,
    ⟨some 41, .idx 1 (.tmp 40) (.const (.int .i64 1)), none, 0⟩,
    ⟨some 42, .load false 1 (.tmp 41), none, 0⟩,
    ⟨some 43, .call k_spec_l01Cut [(.tmp 30), (.tmp 36), (.tmp 42)], none, 0⟩,
    ⟨some 44, .mv (.tmp 8), none, 1⟩,
    ⟨some 45, .mv (.tmp 9), none, 1⟩,
    ⟨some 46, .idx 1 (.tmp 44) (.tmp 45), none, 1⟩,
    ⟨some 47, .load false 1 (.tmp 46), none, 1⟩,
    ⟨some 48, .idx 1 (.tmp 47) (.const (.int .i64 0)), none, 1⟩,
    ⟨some 49, .load false 1 (.tmp 48), none, 1⟩,
    ⟨some 50, .mv (.tmp 8), none, 1⟩,
    ⟨some 51, .mv (.tmp 9), none, 1⟩,
    ⟨some 52, .idx 1 (.tmp 50) (.tmp 51), none, 1⟩,
    ⟨some 53, .load false 1 (.tmp 52), none, 1⟩,
    ⟨some 54, .idx 1 (.tmp 53) (.const (.int .i64 1)), none, 1⟩,
    ⟨some 55, .load false 1 (.tmp 54), none, 1⟩,
    ⟨some 56, .call k_spec_l07Far [(.tmp 43), (.tmp 49), (.tmp 55)], none, 0⟩,
    ⟨some 10, .mv (.tmp 56), none, 0⟩]) <|
  .seq (.ops [
    ⟨some 57, .mv (.tmp 10), none, 0⟩,
    ⟨some 58, .bin .gtr (.tmp 57) (.const (.int .i64 0)), none, 0⟩,
    ⟨some 59, .mv (.tmp 58), none, 0⟩,
    ⟨some 60, .mv (.tmp 10), some (59, true), 0⟩,
    ⟨some 61, .bin .add (.tmp 60) (.const (.int .i64 1)), some (59, true), 0⟩,
    ⟨some 62, .mv (.tmp 2), some (59, true), 0⟩,
    ⟨some 63, .bin .lss (.tmp 61) (.tmp 62), some (59, true), 0⟩,
    ⟨some 64, .pick (.tmp 59) (.tmp 63) (.const (.bool false)), none, 0⟩]) <|
  .cond (.tmp 64)
    (.seq (.ops [
      ⟨some 6, .mv (.const (.bool false)), none, 0⟩]) <|
    .keep [6] <|
    .ret)
    (.skip)) <|
  .ops [
    ⟨some 28, .mv (.tmp 9), none, 0⟩,
    ⟨some 29, .bin .add (.tmp 28) (.const (.int .i64 1)), none, 0⟩,
    ⟨some 9, .mv (.tmp 29), none, 0⟩]
def i_spec_l07Fits : FF := ⟨65, [.tmp 6],
  .seq (.ops [
    ⟨some 3, .box 2 (.tmp 0), none, 0⟩,
    ⟨some 6, .mv (.const (.bool false)), none, 0⟩]) <|
  .seq (.seq (.ops [
    ⟨some 7, .mv (.const (.int .i64 0)), none, 0⟩]) <|
  .block 0 <|
  .loop [1, 2, 3, 7] i_spec_l07Fits_B1) <|
  .seq (.ops [
    ⟨some 22, .load true 2 (.tmp 3), none, 0⟩,
    ⟨some 23, .call k_spec_l01Edges [(.tmp 22)], none, 0⟩,
    ⟨some 8, .mv (.tmp 23), none, 0⟩]) <|
  .seq (.seq (.ops [
    ⟨some 9, .mv (.const (.int .i64 0)), none, 0⟩]) <|
  .block 2 <|
  .loop [2, 3, 8, 9] i_spec_l07Fits_B2) <|
  .seq (.ops [
    ⟨some 6, .mv (.const (.bool true)), none, 0⟩]) <|
  .keep [6] <|
  .ret⟩

theorem e_spec_l07Fits : EntOK Tryd.prog (compD Tryd.prog) k_spec_l07Fits i_spec_l07Fits.vf :=
  ⟨Tryd.f105, Tryd.f105.body.getD .skip, Tryd.func105, by kernel_rfl, by kernel_rfl, by kernel_rfl, by kernel_rfl, by kernel_rfl⟩

/-- loop.example/g01331/spec.l01Has -/
def i_spec_l01Has : FF := ⟨17, [.tmp 6],
  .seq (.ops [
    ⟨some 3, .box 2 (.tmp 0), none, 0⟩,
    ⟨some 6, .mv (.const (.bool false)), none, 0⟩]) <|
  .seq (.ops [
    ⟨some 7, .fld 1 (.tmp 3), none, 0⟩,
    ⟨some 8, .load false 1 (.tmp 7), none, 0⟩,
    ⟨some 9, .mv (.tmp 1), none, 0⟩,
    ⟨some 10, .idx 1 (.tmp 8) (.tmp 9), none, 0⟩,
    ⟨some 11, .load false 1 (.tmp 10), none, 0⟩,
    ⟨some 12, .mv (.tmp 2), none, 0⟩,
    ⟨some 13, .conv .u64 (.tmp 12), none, 0⟩,
    ⟨some 14, .bin .shr (.tmp 11) (.tmp 13), none, 0⟩,
    ⟨some 15, .bin .and (.tmp 14) (.const (.int .i64 1)), none, 0⟩,
    ⟨some 16, .bin .eql (.tmp 15) (.const (.int .i64 1)), none, 0⟩,
    ⟨some 6, .mv (.tmp 16), none, 0⟩]) <|
  .keep [6] <|
  .ret⟩

theorem e_spec_l01Has : EntOK Tryd.prog (compD Tryd.prog) k_spec_l01Has i_spec_l01Has.vf :=
  ⟨Tryd.f106, Tryd.f106.body.getD .skip, Tryd.func106, by kernel_rfl, by kernel_rfl, by kernel_rfl, by kernel_rfl, by kernel_rfl⟩

/-- loop.example/g01331/spec.l01Degree -/
def i_spec_l01Degree : FF := ⟨11, [.tmp 4],
  .seq (.ops [
    ⟨some 2, .box 2 (.tmp 0), none, 0⟩,
    ⟨some 4, .mv (.const (.int .i64 0)), none, 0⟩]) <|
  .seq (.ops [
    ⟨some 5, .fld 1 (.tmp 2), none, 0⟩,
    ⟨some 6, .load false 1 (.tmp 5), none, 0⟩,
    ⟨some 7, .mv (.tmp 1), none, 0⟩,
    ⟨some 8, .idx 1 (.tmp 6) (.tmp 7), none, 0⟩,
    ⟨some 9, .load false 1 (.tmp 8), none, 0⟩,
    ⟨some 10, .call k_spec_l01Bits [(.tmp 9)], none, 0⟩,
    ⟨some 4, .mv (.tmp 10), none, 0⟩]) <|
  .keep [4] <|
  .ret⟩

theorem e_spec_l01Degree : EntOK Tryd.prog (compD Tryd.prog) k_spec_l01Degree i_spec_l01Degree.vf :=
  ⟨Tryd.f107, Tryd.f107.body.getD .skip, Tryd.func107, by kernel_rfl, by kernel_rfl, by kernel_rfl, by kernel_rfl, by kernel_rfl⟩

/-- loop.example/g01331/spec.l07Far -/
def i_spec_l07Far_B1 : FC :=
  .seq (.seq (.ops [
    ⟨some 27, .mv (.tmp 11), none, 0⟩,
    ⟨some 28, .fld 0 (.tmp 3), none, 0⟩,
    ⟨some 29, .load false 1 (.tmp 28), none, 0⟩,
    ⟨some 30, .bin .lss (.tmp 27) (.tmp 29), none, 0⟩]) <|
  .cond (.tmp 30)
    (.skip)
    (.keep [2, 3, 7, 9, 10] <|
    .exit 2)) <|
  .seq (.block 3 <|
  .seq (.ops [
    ⟨some 33, .mv (.tmp 8), none, 0⟩,
    ⟨some 34, .mv (.tmp 11), none, 0⟩,
    ⟨some 35, .conv .u64 (.tmp 34), none, 0⟩,
    ⟨some 36, .bin .shr (.tmp 33) (.tmp 35), none, 0⟩,
    ⟨some 37, .bin .and (.tmp 36) (.const (.int .i64 1)), none, 0⟩,
    ⟨some 38, .bin .eql (.tmp 37) (.const (.int .i64 1)), none, 0⟩]) <|
  .cond (.tmp 38)
    (.ops [
      ⟨some 39, .mv (.tmp 10), none, 0⟩,
      ⟨some 40, .fld 1 (.tmp 3), none, 0⟩,
      ⟨some 41, .load false 1 (.tmp 40), none, 0⟩,
      ⟨some 42, .mv (.tmp 11), none, 0⟩,
      ⟨some 43, .idx 1 (.tmp 41) (.tmp 42), none, 0⟩,
      ⟨some 44, .load false 1 (.tmp 43), none, 0⟩,
      ⟨some 45, .bin .or (.tmp 39) (.tmp 44), none, 0⟩,
      ⟨some 10, .mv (.tmp 45), none, 0⟩])
    (.skip)) <|
  .ops [
    ⟨some 31, .mv (.tmp 11), none, 0⟩,
    ⟨some 32, .bin .add (.tmp 31) (.const (.int .i64 1)), none, 0⟩,
    ⟨some 11, .mv (.tmp 32), none, 0⟩]
def i_spec_l07Far_B2 : FC :=
  .seq (.seq (.ops [
    ⟨some 18, .mv (.tmp 8), none, 0⟩,
    ⟨some 19, .bin .neq (.tmp 18) (.const (.int .i64 0)), none, 0⟩]) <|
  .cond (.tmp 19)
    (.skip)
    (.keep [] <|
    .exit 0)) <|
  .block 1 <|
  .seq (.seq (.ops [
    ⟨some 20, .mv (.tmp 8), none, 0⟩,
    ⟨some 21, .mv (.tmp 2), none, 0⟩,
    ⟨some 22, .conv .u64 (.tmp 21), none, 0⟩,
    ⟨some 23, .bin .shr (.tmp 20) (.tmp 22), none, 0⟩,
    ⟨some 24, .bin .and (.tmp 23) (.const (.int .i64 1)), none, 0⟩,
    ⟨some 25, .bin .eql (.tmp 24) (.const (.int .i64 1)), none, 0⟩]) <|
  .cond (.tmp 25)
    (.seq (.ops [
      ⟨some 26, .mv (.tmp 9), none, 0⟩,
      ⟨some 6, .mv (.tmp 26), none, 0⟩]) <|
    .keep [6] <|
    .ret)
    (.skip)) <|
  .seq (.ops [
    ⟨some 10, .mv (.const (.int .i64 0)), none, 0⟩]) <|
  .seq (.seq (.ops [
    ⟨some 11, .mv (.const (.int .i64 0)), none, 0⟩]) <|
  .block 2 <|
  .loop [2, 3, 7, 8, 9, 10, 11] i_spec_l07Far_B1) <|
  .seq (.ops [
    ⟨some 46, .mv (.tmp 10), none, 0⟩,
    ⟨some 47, .mv (.tmp 10), none, 0⟩,
    ⟨some 48, .mv (.tmp 7), none, 0⟩,
    ⟨some 49, .bin .and (.tmp 47) (.tmp 48), none, 0⟩,
    ⟨some 50, .bin .sub (.tmp 46) (.tmp 49), none, 0⟩,
    ⟨some 8, .mv (.tmp 50), none, 0⟩]) <|
  .seq (.ops [
    ⟨some 51, .mv (.tmp 7), none, 0⟩,
    ⟨some 52, .mv (.tmp 10), none, 0⟩,
    ⟨some 53, .bin .or (.tmp 51) (.tmp 52), none, 0⟩,
    ⟨some 7, .mv (.tmp 53), none, 0⟩]) <|
  .ops [
    ⟨some 54, .mv (.tmp 9), none, 0⟩,
    ⟨some 55, .bin .add (.tmp 54) (.const (.int .i64 1)), none, 0⟩,
    ⟨some 9, .mv (.tmp 55), none, 0⟩]
def i_spec_l07Far : FF := ⟨56, [.tmp 6],
  .seq (.ops [
    ⟨some 3, .box 2 (.tmp 0), none, 0⟩,
    ⟨some 6, .mv (.const (.int .i64 0)), none, 0⟩]) <|
  .seq (.ops [
    ⟨some 12, .mv (.tmp 1), none, 0⟩,
    ⟨some 13, .conv .u64 (.tmp 12), none, 0⟩,
    ⟨some 14, .bin .shl (.const (.int .i64 1)) (.tmp 13), none, 0⟩,
    ⟨some 15, .mv (.tmp 1), none, 0⟩,
    ⟨some 16, .conv .u64 (.tmp 15), none, 0⟩,
    ⟨some 17, .bin .shl (.const (.int .i64 1)) (.tmp 16), none, 0⟩,
    ⟨some 7, .mv (.tmp 14), none, 0⟩,
    ⟨some 8, .mv (.tmp 17), none, 0⟩,
    ⟨some 9, .mv (.const (.int .i64 0)), none, 0⟩]) <|
  .seq (.block 0 <|
  .loop [2, 3, 7, 8, 9] i_spec_l07Far_B2) <|
  .seq (.ops [
    ⟨some 6, .mv (.const (.int .i64 (-1))), none, 0⟩]) <|
  .keep [6] <|
  .ret⟩

theorem e_spec_l07Far : EntOK Tryd.prog (compD Tryd.prog) k_spec_l07Far i_spec_l07Far.vf :=
  ⟨Tryd.f108, Tryd.f108.body.getD .skip, Tryd.func108, by kernel_rfl, by kernel_rfl, by kernel_rfl, by kernel_rfl, by kernel_rfl⟩

/-- (loop.example/g01331/impl.Graph).degrees -/
def i_impl_Graph_degrees_B1 : FC :=
  .seq (.ops [
    ⟨some 9, .bin .lss (.tmp 8) (.tmp 7), none, 0⟩]) <|
  .seq (.cond (.tmp 9)
    (.skip)
    (.keep [3] <|
    .exit 0)) <|
  .seq (.block 1 <|
  .seq (.ops [
    ⟨some 10, .mv (.tmp 8), none, 0⟩,
    ⟨some 4, .mv (.tmp 10), none, 0⟩]) <|
  .ops [
    ⟨some 11, .mv (.tmp 3), none, 0⟩,
    ⟨some 12, .load true 2 (.tmp 1), none, 0⟩,
    ⟨some 13, .mv (.tmp 4), none, 0⟩,
    ⟨some 14, .call k_impl_Graph_degree [(.tmp 12), (.tmp 13)], none, 0⟩,
    ⟨some 15, .buildSl 1 [.int .i64 0] [(0, 1, (.tmp 14))] 1, none, 0⟩,
    ⟨some 16, .app 1 8 [.int .i64 0] (.tmp 11) (.tmp 15), none, 0⟩,
    ⟨some 3, .mv (.tmp 16), none, 0⟩]) <|
  .ops [
    ⟨some 17, .bin .add (.tmp 8) (.const (.int .i64 1)), none, 0⟩,
    ⟨some 8, .mv (.tmp 17), none, 0⟩]
def i_impl_Graph_degrees : FF := ⟨19, [.tmp 2],
  .seq (.ops [
    ⟨some 1, .box 2 (.tmp 0), none, 0⟩,
    ⟨some 2, .mv (.const (.slice none 0 0)), none, 0⟩]) <|
  .seq (.ops [
    ⟨some 5, .buildSl 1 [] [] 0, none, 0⟩,
    ⟨some 3, .mv (.tmp 5), none, 0⟩]) <|
  .seq (.seq (.ops [
    ⟨some 6, .fld 0 (.tmp 1), none, 0⟩,
    ⟨some 7, .load false 1 (.tmp 6), none, 0⟩,
    ⟨some 8, .mv (.const (.int .i64 0)), none, 0⟩]) <|
  .block 0 <|
  .loop [1, 3, 7, 8] i_impl_Graph_degrees_B1) <|
  .seq (.ops [
    ⟨some 18, .mv (.tmp 3), none, 0⟩,
    ⟨some 2, .mv (.tmp 18), none, 0⟩]) <|
  .keep [2] <|
  .ret⟩

theorem e_impl_Graph_degrees : EntOK Tryd.prog (compD Tryd.prog) k_impl_Graph_degrees i_impl_Graph_degrees.vf :=
  ⟨Tryd.f109, Tryd.f109.body.getD .skip, Tryd.func109, by kernel_rfl, by kernel_rfl, by kernel_rfl, by kernel_rfl, by kernel_rfl⟩

/-- slices.Max[[]int64,int64] -/
def i_slices_Max_int64_int64_B1 : FC :=
  .seq (.seq (.ops [
    ⟨some 12, .mv (.tmp 4), none, 0⟩,
    ⟨some 13, .mv (.tmp 0), none, 0⟩,
    ⟨some 14, .len (.tmp 13), none, 0⟩,
    ⟨some 15, .bin .lss (.tmp 12) (.tmp 14), none, 0⟩]) <|
  .cond (.tmp 15)
    (.skip)
    (.keep [3] <|
    .exit 0)) <|
  .seq (.block 1 <|
  .ops [
    ⟨some 18, .mv (.tmp 3), none, 0⟩,
    ⟨some 19, .mv (.tmp 0), none, 0⟩,
    ⟨some 20, .mv (.tmp 4), none, 0⟩,
    ⟨some 21, .idx 1 (.tmp 19) (.tmp 20), none, 0⟩,
    ⟨some 22, .load false 1 (.tmp 21), none, 0⟩,
    ⟨some 23, .minmax true [(.tmp 18), (.tmp 22)], none, 0⟩,
    ⟨some 3, .mv (.tmp 23), none, 0⟩]) <|
  .ops [
    ⟨some 16, .mv (.tmp 4), none, 0⟩,
    ⟨some 17, .bin .add (.tmp 16) (.const (.int .i64 1)), none, 0⟩,
    ⟨some 4, .mv (.tmp 17), none, 0⟩]
def i_slices_Max_int64_int64 : FF := ⟨25, [.tmp 2],
  .seq (.ops [
    ⟨some 2, .mv (.const (.int .i64 0)), none, 0⟩]) <|
  .seq (.seq (.ops [
    ⟨some 5, .mv (.tmp 0), none, 0⟩,
    ⟨some 6, .len (.tmp 5), none, 0⟩,
    ⟨some 7, .bin .lss (.tmp 6) (.const (.int .i64 1)), none, 0⟩]) <|
  .cond (.tmp 7)
    (.ops [
      ⟨some 8, .stop, none, 0⟩,
      ⟨none, .stop, none, 0⟩])
    (.skip)) <|
  .seq (.ops [
    ⟨some 9, .mv (.tmp 0), none, 0⟩,
    ⟨some 10, .idx 1 (.tmp 9) (.const (.int .i64 0)), none, 0⟩,
    ⟨some 11, .load false 1 (.tmp 10), none, 0⟩,
    ⟨some 3, .mv (.tmp 11), none, 0⟩]) <|
  .seq (.seq (.ops [
    ⟨some 4, .mv (.const (.int .i64 1)), none, 0⟩]) <|
  .block 0 <|
  .loop [0, 3, 4] i_slices_Max_int64_int64_B1) <|
  .seq (.ops [
    ⟨some 24, .mv (.tmp 3), none, 0⟩,
    ⟨some 2, .mv (.tmp 24), none, 0⟩]) <|
  .keep [2] <|
  .ret⟩

theorem e_slices_Max_int64_int64 : EntOK Tryd.prog (compD Tryd.prog) k_slices_Max_int64_int64 i_slices_Max_int64_int64.vf :=
  ⟨Tryd.f111, Tryd.f111.body.getD .skip, Tryd.func111, by kernel_rfl, by kernel_rfl, by kernel_rfl, by kernel_rfl, by kernel_rfl⟩

/-- loop.example/g01331/spec.l01Own -/
def i_spec_l01Own : FF := ⟨6, [.tmp 2],
  .seq (.ops [
    ⟨some 2, .mv (.const (.slice none 0 0)), none, 0⟩]) <|
  .seq (.ops [
    ⟨some 3, .buildSl 1 [] [] 0, none, 0⟩,
    ⟨some 4, .mv (.tmp 0), none, 0⟩,
    ⟨some 5, .app 1 8 [.int .i64 0] (.tmp 3) (.tmp 4), none, 0⟩,
    ⟨some 2, .mv (.tmp 5), none, 0⟩]) <|
  .keep [2] <|
  .ret⟩

theorem e_spec_l01Own : EntOK Tryd.prog (compD Tryd.prog) k_spec_l01Own i_spec_l01Own.vf :=
  ⟨Tryd.f112, Tryd.f112.body.getD .skip, Tryd.func112, by kernel_rfl, by kernel_rfl, by kernel_rfl, by kernel_rfl, by kernel_rfl⟩

/-- slices.Clone[[]int64,int64] -/
def i_slices_Clone_int64_int64 : FF := ⟨8, [.tmp 2],
  .seq (.ops [
    ⟨some 2, .mv (.const (.slice none 0 0)), none, 0⟩]) <|
  .seq (.seq (.ops [
    ⟨some 3, .mv (.tmp 0), none, 0⟩,
    ⟨some 4, .eqnilS false (.tmp 3), none, 0⟩]) <|
  .cond (.tmp 4)
    (.seq (.ops [
      ⟨some 2, .mv (.const (.slice none 0 0)), none, 0⟩]) <|
    .keep [2] <|
    .ret)
    (.skip)) <|
  .seq (.ops [
    ⟨some 5, .buildSl 1 [] [] 0, none, 0⟩,
    ⟨some 6, .mv (.tmp 0), none, 0⟩,
    ⟨some 7, .app 1 8 [.int .i64 0] (.tmp 5) (.tmp 6), none, 0⟩,
    ⟨some 2, .mv (.tmp 7), none, 0⟩]) <|
  .keep [2] <|
  .ret⟩

theorem e_slices_Clone_int64_int64 : EntOK Tryd.prog (compD Tryd.prog) k_slices_Clone_int64_int64 i_slices_Clone_int64_int64.vf :=
  ⟨Tryd.f113, Tryd.f113.body.getD .skip, Tryd.func113, by kernel_rfl, by kernel_rfl, by kernel_rfl, by kernel_rfl, by kernel_rfl⟩

/-- loop.example/g01331/impl.size -/
def i_impl_size : FF := ⟨6, [.tmp 2],
  .seq (.ops [
    ⟨some 2, .mv (.const (.int .i64 0)), none, 0⟩]) <|
  .seq (.ops [
    ⟨some 3, .mv (.tmp 0), none, 0⟩,
    ⟨some 4, .conv .u64 (.tmp 3), none, 0⟩,
    ⟨some 5, .call k_math_bits_OnesCount64 [(.tmp 4)], none, 0⟩,
    ⟨some 2, .mv (.tmp 5), none, 0⟩]) <|
  .keep [2] <|
  .ret⟩

theorem e_impl_size : EntOK Tryd.prog (compD Tryd.prog) k_impl_size i_impl_size.vf :=
  ⟨Tryd.f115, Tryd.f115.body.getD .skip, Tryd.func115, by kernel_rfl, by kernel_rfl, by kernel_rfl, by kernel_rfl, by kernel_rfl⟩

/-- math/bits.Mul -/
def i_math_bits_Mul : FF := ⟨30, [.tmp 4, .tmp 5],
  .seq (.ops [
    ⟨some 4, .mv (.const (.int .u64 0)), none, 0⟩,
    ⟨some 5, .mv (.const (.int .u64 0)), none, 0⟩]) <|
  .seq (.cond (.const (.bool false))
    (.seq (.ops [
      ⟨some 11, .mv (.tmp 0), none, 0⟩,
      ⟨some 12, .conv .u32 (.tmp 11), none, 0⟩,
      ⟨some 13, .mv (.tmp 1), none, 0⟩,
      ⟨some 14, .conv .u32 (.tmp 13), none, 0⟩,
      ⟨some 15, .call k_math_bits_Mul32 [(.tmp 12), (.tmp 14)], none, 0⟩,
      ⟨some 10, .mv (.tmp 15), none, 0⟩,
      ⟨some 16, .ext (.tmp 10) 0, none, 0⟩,
      ⟨some 17, .ext (.tmp 10) 1, none, 0⟩,
      ⟨some 6, .mv (.tmp 16), none, 0⟩,
      ⟨some 7, .mv (.tmp 17), none, 0⟩]) <|
    .seq (.ops [
      ⟨some 18, .mv (.tmp 6), none, 0⟩,
      ⟨some 19, .conv .u64 (.tmp 18), none, 0⟩,
      ⟨some 20, .mv (.tmp 7), none, 0⟩,
      ⟨some 21, .conv .u64 (.tmp 20), none, 0⟩,
      ⟨some 4, .mv (.tmp 19), none, 0⟩,
      ⟨some 5, .mv (.tmp 21), none, 0⟩]) <|
    .keep [4, 5] <|
    .ret)
    (.skip)) <|
  .seq (.ops [
    ⟨some 23, .mv (.tmp 0), none, 0⟩,
    ⟨some 24, .mv (.tmp 1), none, 0⟩,
    ⟨some 25, .call k_math_bits_Mul64 [(.tmp 23), (.tmp 24)], none, 0⟩,
    ⟨some 22, .mv (.tmp 25), none, 0⟩,
    ⟨some 26, .ext (.tmp 22) 0, none, 0⟩,
    ⟨some 27, .ext (.tmp 22) 1, none, 0⟩,
    ⟨some 8, .mv (.tmp 26), none, 0⟩,
    ⟨some 9, .mv (.tmp 27), none, 0⟩]) <|
  .seq (.ops [
    ⟨some 28, .mv (.tmp 8), none, 0⟩,
    ⟨some 29, .mv (.tmp 9), none, 0⟩,
    ⟨some 4, .mv (.tmp 28), none, 0⟩,
    ⟨some 5, .mv (.tmp 29), none, 0⟩]) <|
  .keep [4, 5] <|
  .ret⟩

theorem e_math_bits_Mul : EntOK Tryd.prog (compD Tryd.prog) k_math_bits_Mul i_math_bits_Mul.vf :=
  ⟨Tryd.f118, Tryd.f118.body.getD .skip, Tryd.func118, by kernel_rfl, by kernel_rfl, by kernel_rfl, by kernel_rfl, by kernel_rfl⟩

/-- loop.example/g01331/spec.l01Edges -/
def i_spec_l01Edges_B1 : FC :=
  .seq (.seq (.ops [
    ⟨some 15, .mv (.tmp 5), none, 0⟩,
    ⟨some 16, .fld 0 (.tmp 1), none, 0⟩,
    ⟨some 17, .load false 1 (.tmp 16), none, 0⟩,
    ⟨some 18, .bin .lss (.tmp 15) (.tmp 17), none, 0⟩]) <|
  .cond (.tmp 18)
    (.skip)
    (.keep [1, 3, 4] <|
    .exit 2)) <|
  .seq (.block 3 <|
  .seq (.ops [
    ⟨some 21, .load true 2 (.tmp 1), none, 0⟩,
    ⟨some 22, .mv (.tmp 4), none, 0⟩,
    ⟨some 23, .mv (.tmp 5), none, 0⟩,
    ⟨some 24, .call k_spec_l01Has [(.tmp 21), (.tmp 22), (.tmp 23)], none, 0⟩]) <|
  .cond (.tmp 24)
    (.ops [
      ⟨some 25, .mv (.tmp 3), none, 0⟩,
      ⟨some 26, .mv (.tmp 4), none, 0⟩,
      ⟨some 27, .mv (.tmp 5), none, 0⟩,
      ⟨some 28, .buildSl 1 [.int .i64 0, .int .i64 0] [(0, 1, (.tmp 26)), (1, 1, (.tmp 27))] 2, none, 0⟩,
      ⟨some 29, .buildSl 1 [.slice none 0 0] [(0, 1, (.tmp 28))] 1, none, 0⟩,
      ⟨some 30, .app 1 24 [.slice none 0 0] (.tmp 25) (.tmp 29), none, 0⟩,
      ⟨some 3, .mv (.tmp 30), none, 0⟩])
    (.skip)) <|
  .ops [
    ⟨some 19, .mv (.tmp 5), none, 0⟩,
    ⟨some 20, .bin .add (.tmp 19) (.const (.int .i64 1)), none, 0⟩,
    ⟨some 5, .mv (.tmp 20), none, 0⟩]
def i_spec_l01Edges_B2 : FC :=
  .seq (.seq (.ops [
    ⟨some 7, .mv (.tmp 4), none, 0⟩,
    ⟨some 8, .fld 0 (.tmp 1), none, 0⟩,
    ⟨some 9, .load false 1 (.tmp 8), none, 0⟩,
    ⟨some 10, .bin .lss (.tmp 7) (.tmp 9), none, 0⟩]) <|
  .cond (.tmp 10)
    (.skip)
    (.keep [3] <|
    .exit 0)) <|
  .seq (.block 1 <|
  .seq (.ops [
    ⟨some 13, .mv (.tmp 4), none, 0⟩,
    ⟨some 14, .bin .add (.tmp 13) (.const (.int .i64 1)), none, 0⟩,
    ⟨some 5, .mv (.tmp 14), none, 0⟩]) <|
  .block 2 <|
  .loop [1, 3, 4, 5] i_spec_l01Edges_B1) <|
  .ops [
    ⟨some 11, .mv (.tmp 4), none, 0⟩,
    ⟨some 12, .bin .add (.tmp 11) (.const (.int .i64 1)), none, 0⟩,
    ⟨some 4, .mv (.tmp 12), none, 0⟩]
def i_spec_l01Edges : FF := ⟨32, [.tmp 2],
  .seq (.ops [
    ⟨some 1, .box 2 (.tmp 0), none, 0⟩,
    ⟨some 2, .mv (.const (.slice none 0 0)), none, 0⟩]) <|
  .seq (.ops [
    ⟨some 6, .buildSl 1 [] [] 0, none, 0⟩,
    ⟨some 3, .mv (.tmp 6), none, 0⟩]) <|
  .seq (.seq (.ops [
    ⟨some 4, .mv (.const (.int .i64 0)), none, 0⟩]) <|
  .block 0 <|
  .loop [1, 3, 4] i_spec_l01Edges_B2) <|
  .seq (.ops [
    ⟨some 31, .mv (.tmp 3), none, 0⟩,
    ⟨some 2, .mv (.tmp 31), none, 0⟩]) <|
  .keep [2] <|
  .ret⟩

theorem e_spec_l01Edges : EntOK Tryd.prog (compD Tryd.prog) k_spec_l01Edges i_spec_l01Edges.vf :=
  ⟨Tryd.f120, Tryd.f120.body.getD .skip, Tryd.func120, by kernel_rfl, by kernel_rfl, by kernel_rfl, by kernel_rfl, by kernel_rfl⟩

/-- loop.example/g01331/spec.l01Cut -/
def i_spec_l01Cut : FF := ⟨39, [.cell 6 true 2],
  .seq (.ops [
    ⟨some 3, .box 2 (.tmp 0), none, 0⟩,
    ⟨some 6, .alloc [.int .i64 0, .slice none 0 0], none, 0⟩]) <|
  .seq (.ops [
    ⟨some 8, .load true 2 (.tmp 3), none, 0⟩,
    ⟨some 9, .mv (.tmp 1), none, 0⟩,
    ⟨some 10, .mv (.tmp 2), none, 0⟩,
    ⟨some 11, .call k_spec_l01Join [(.tmp 8), (.tmp 9), (.tmp 10)], none, 0⟩,
    ⟨some 7, .alloc [.int .i64 0, .slice none 0 0], none, 0⟩,
    ⟨none, .store 2 (.tmp 7) (.tmp 11), none, 0⟩]) <|
  .seq (.dops [
    ⟨some 12, .fld 1 (.tmp 7), none, 0⟩,
    ⟨some 13, .load false 1 (.tmp 12), none, 0⟩,
    ⟨some 14, .mv (.tmp 1), none, 0⟩,
    ⟨some 15, .fld 1 (.tmp 7), none, 0⟩,
    ⟨some 16, .load false 1 (.tmp 15), none, 0⟩,
    ⟨some 17, .mv (.tmp 1), none, 0⟩,
    ⟨some 18, .idx 1 (.tmp 16) (.tmp 17), none, 0⟩,
    ⟨some 19, .load false 1 (.tmp 18), none, 0⟩,
    ⟨some 20, .mv (.tmp 2), none, 0⟩,
    ⟨some 21, .conv .u64 (.tmp 20), none, 0⟩,
    ⟨some 22, .bin .shl (.const (.int .i64 1)) (.tmp 21), none, 0⟩,
    ⟨some 23, .bin .sub (.tmp 19) (.tmp 22), none, 0⟩,
    ⟨some 24, .idx 1 (.tmp 13) (.tmp 14), none, 0⟩,
    ⟨none, .store 1 (.tmp 24) (.tmp 23), none, 0⟩]) <|
  .seq (.dops [
    ⟨some 25, .fld 1 (.tmp 7), none, 0⟩,
    ⟨some 26, .load false 1 (.tmp 25), none, 0⟩,
    ⟨some 27, .mv (.tmp 2), none, 0⟩,
    ⟨some 28, .fld 1 (.tmp 7), none, 0⟩,
    ⟨some 29, .load false 1 (.tmp 28), none, 0⟩,
    ⟨some 30, .mv (.tmp 2), none, 0⟩,
    ⟨some 31, .idx 1 (.tmp 29) (.tmp 30), none, 0⟩,
    ⟨some 32, .load false 1 (.tmp 31), none, 0⟩,
    ⟨some 33, .mv (.tmp 1), none, 0⟩,
    ⟨some 34, .conv .u64 (.tmp 33), none, 0⟩,
    ⟨some 35, .bin .shl (.const (.int .i64 1)) (.tmp 34), none, 0⟩,
    ⟨some 36, .bin .sub (.tmp 32) (.tmp 35), none, 0⟩,
    ⟨some 37, .idx 1 (.tmp 26) (.tmp 27), none, 0⟩,
    ⟨none, .store 1 (.tmp 37) (.tmp 36), none, 0⟩]) <|
  .seq (.ops [
    ⟨some 38, .load true 2 (.tmp 7), none, 0⟩,
    ⟨none, .store 2 (.tmp 6) (.tmp 38), none, 0⟩]) <|
  .keep [6] <|
  .ret⟩

theorem e_spec_l01Cut : EntOK Tryd.prog (compD Tryd.prog) k_spec_l01Cut i_spec_l01Cut.vf :=
  ⟨Tryd.f121, Tryd.f121.body.getD .skip, Tryd.func121, by kernel_rfl, by kernel_rfl, by kernel_rfl, by kernel_rfl, by kernel_rfl⟩

/-- loop.example/g01331/spec.l01Bits -/
def i_spec_l01Bits_B1 : FC :=
  .seq (.seq (.ops [
    ⟨some 4, .mv (.tmp 0), none, 0⟩,
    ⟨some 5, .bin .gtr (.tmp 4) (.const (.int .i64 0)), none, 0⟩]) <|
  .cond (.tmp 5)
    (.skip)
    (.keep [3] <|
    .exit 0)) <|
  .seq (.block 1 <|
  .ops [
    ⟨some 8, .mv (.tmp 3), none, 0⟩,
    ⟨some 9, .mv (.tmp 0), none, 0⟩,
    ⟨some 10, .bin .rem (.tmp 9) (.const (.int .i64 2)), none, 0⟩,
    ⟨some 11, .bin .add (.tmp 8) (.tmp 10), none, 0⟩,
    ⟨some 3, .mv (.tmp 11), none, 0⟩]) <|
  .ops [
    ⟨some 6, .mv (.tmp 0), none, 0⟩,
    ⟨some 7, .bin .quo (.tmp 6) (.const (.int .i64 2)), none, 0⟩,
    ⟨some 0, .mv (.tmp 7), none, 0⟩]
def i_spec_l01Bits : FF := ⟨13, [.tmp 2],
  .seq (.ops [
    ⟨some 2, .mv (.const (.int .i64 0)), none, 0⟩]) <|
  .seq (.ops [
    ⟨some 3, .mv (.const (.int .i64 0)), none, 0⟩]) <|
  .seq (.block 0 <|
  .loop [0, 3] i_spec_l01Bits_B1) <|
  .seq (.ops [
    ⟨some 12, .mv (.tmp 3), none, 0⟩,
    ⟨some 2, .mv (.tmp 12), none, 0⟩]) <|
  .keep [2] <|
  .ret⟩

theorem e_spec_l01Bits : EntOK Tryd.prog (compD Tryd.prog) k_spec_l01Bits i_spec_l01Bits.vf :=
  ⟨Tryd.f122, Tryd.f122.body.getD .skip, Tryd.func122, by kernel_rfl, by kernel_rfl, by kernel_rfl, by kernel_rfl, by kernel_rfl⟩

/-- math/bits.OnesCount64 -/
def i_math_bits_OnesCount64 : FF := ⟨35, [.tmp 2],
  .seq (.ops [
    ⟨some 2, .mv (.const (.int .i64 0)), none, 0⟩]) <|
  .seq (.ops [
    ⟨some 3, .mv (.tmp 0), none, 0⟩,
    ⟨some 4, .bin .shr (.tmp 3) (.const (.int .u64 1)), none, 0⟩,
    ⟨some 5, .bin .and (.tmp 4) (.const (.int .u64 6148914691236517205)), none, 0⟩,
    ⟨some 6, .mv (.tmp 0), none, 0⟩,
    ⟨some 7, .bin .and (.tmp 6) (.const (.int .u64 6148914691236517205)), none, 0⟩,
    ⟨some 8, .bin .add (.tmp 5) (.tmp 7), none, 0⟩,
    ⟨some 0, .mv (.tmp 8), none, 0⟩]) <|
  .seq (.ops [
    ⟨some 9, .mv (.tmp 0), none, 0⟩,
    ⟨some 10, .bin .shr (.tmp 9) (.const (.int .u64 2)), none, 0⟩,
    ⟨some 11, .bin .and (.tmp 10) (.const (.int .u64 3689348814741910323)), none, 0⟩,
    ⟨some 12, .mv (.tmp 0), none, 0⟩,
    ⟨some 13, .bin .and (.tmp 12) (.const (.int .u64 3689348814741910323)), none, 0⟩,
    ⟨some 14, .bin .add (.tmp 11) (.tmp 13), none, 0⟩,
    ⟨some 0, .mv (.tmp 14), none, 0⟩]) <|
  .seq (.ops [
    ⟨some 15, .mv (.tmp 0), none, 0⟩,
    ⟨some 16, .bin .shr (.tmp 15) (.const (.int .u64 4)), none, 0⟩,
    ⟨some 17, .mv (.tmp 0), none, 0⟩,
    ⟨some 18, .bin .add (.tmp 16) (.tmp 17), none, 0⟩,
    ⟨some 19, .bin .and (.tmp 18) (.const (.int .u64 1085102592571150095)), none, 0⟩,
    ⟨some 0, .mv (.tmp 19), none, 0⟩]) <|
  .seq (.ops [
    ⟨some 20, .mv (.tmp 0), none, 0⟩,
    ⟨some 21, .mv (.tmp 0), none, 0⟩,
    ⟨some 22, .bin .shr (.tmp 21) (.const (.int .u64 8)), none, 0⟩,
    ⟨some 23, .bin .add (.tmp 20) (.tmp 22), none, 0⟩,
    ⟨some 0, .mv (.tmp 23), none, 0⟩]) <|
  .seq (.ops [
    ⟨some 24, .mv (.tmp 0), none, 0⟩,
    ⟨some 25, .mv (.tmp 0), none, 0⟩,
    ⟨some 26, .bin .shr (.tmp 25) (.const (.int .u64 16)), none, 0⟩,
    ⟨some 27, .bin .add (.tmp 24) (.tmp 26), none, 0⟩,
    ⟨some 0, .mv (.tmp 27), none, 0⟩]) <|
  .seq (.ops [
    ⟨some 28, .mv (.tmp 0), none, 0⟩,
    ⟨some 29, .mv (.tmp 0), none, 0⟩,
    ⟨some 30, .bin .shr (.tmp 29) (.const (.int .u64 32)), none, 0⟩,
    ⟨some 31, .bin .add (.tmp 28) (.tmp 30), none, 0⟩,
    ⟨some 0, .mv (.tmp 31), none, 0⟩]) <|
  .seq (.ops [
    ⟨some 32, .mv (.tmp 0), none, 0⟩,
    ⟨some 33, .conv .i64 (.tmp 32), none, 0⟩,
    ⟨some 34, .bin .and (.tmp 33) (.const (.int .i64 127)), none, 0⟩,
    ⟨some 2, .mv (.tmp 34), none, 0⟩]) <|
  .keep [2] <|
  .ret⟩

theorem e_math_bits_OnesCount64 : EntOK Tryd.prog (compD Tryd.prog) k_math_bits_OnesCount64 i_math_bits_OnesCount64.vf :=
  ⟨Tryd.f123, Tryd.f123.body.getD .skip, Tryd.func123, by kernel_rfl, by kernel_rfl, by kernel_rfl, by kernel_rfl, by kernel_rfl⟩

/-- math/bits.Mul32 -/
def i_math_bits_Mul32 : FF := ⟨17, [.tmp 4, .tmp 5],
  .seq (.ops [
    ⟨some 4, .mv (.const (.int .u32 0)), none, 0⟩,
    ⟨some 5, .mv (.const (.int .u32 0)), none, 0⟩]) <|
  .seq (.ops [
    ⟨some 7, .mv (.tmp 0), none, 0⟩,
    ⟨some 8, .conv .u64 (.tmp 7), none, 0⟩,
    ⟨some 9, .mv (.tmp 1), none, 0⟩,
    ⟨some 10, .conv .u64 (.tmp 9), none, 0⟩,
    ⟨some 11, .bin .mul (.tmp 8) (.tmp 10), none, 0⟩,
    ⟨some 6, .mv (.tmp 11), none, 0⟩]) <|
  .seq (.ops [
    ⟨some 12, .mv (.tmp 6), none, 0⟩,
    ⟨some 13, .bin .shr (.tmp 12) (.const (.int .u64 32)), none, 0⟩,
    ⟨some 14, .conv .u32 (.tmp 13), none, 0⟩,
    ⟨some 15, .mv (.tmp 6), none, 0⟩,
    ⟨some 16, .conv .u32 (.tmp 15), none, 0⟩,
    ⟨some 4, .mv (.tmp 14), none, 0⟩,
    ⟨some 5, .mv (.tmp 16), none, 0⟩]) <|
  .keep [4, 5] <|
  .ret⟩

theorem e_math_bits_Mul32 : EntOK Tryd.prog (compD Tryd.prog) k_math_bits_Mul32 i_math_bits_Mul32.vf :=
  ⟨Tryd.f124, Tryd.f124.body.getD .skip, Tryd.func124, by kernel_rfl, by kernel_rfl, by kernel_rfl, by kernel_rfl, by kernel_rfl⟩

/-- math/bits.Mul64 -/
def i_math_bits_Mul64 : FF := ⟨51, [.tmp 4, .tmp 5],
  .seq (.ops [
    ⟨some 4, .mv (.const (.int .u64 0)), none, 0⟩,
    ⟨some 5, .mv (.const (.int .u64 0)), none, 0⟩]) <|
  .seq (.ops [
    ⟨some 14, .mv (.tmp 0), none, 0⟩,
    ⟨some 15, .bin .and (.tmp 14) (.const (.int .u64 4294967295)), none, 0⟩,
    ⟨some 6, .mv (.tmp 15), none, 0⟩]) <|
  .seq (.ops [
    ⟨some 16, .mv (.tmp 0), none, 0⟩,
    ⟨some 17, .bin .shr (.tmp 16) (.const (.int .u64 32)), none, 0⟩,
    ⟨some 7, .mv (.tmp 17), none, 0⟩]) <|
  .seq (.ops [
    ⟨some 18, .mv (.tmp 1), none, 0⟩,
    ⟨some 19, .bin .and (.tmp 18) (.const (.int .u64 4294967295)), none, 0⟩,
    ⟨some 8, .mv (.tmp 19), none, 0⟩]) <|
  .seq (.ops [
    ⟨some 20, .mv (.tmp 1), none, 0⟩,
    ⟨some 21, .bin .shr (.tmp 20) (.const (.int .u64 32)), none, 0⟩,
    ⟨some 9, .mv (.tmp 21), none, 0⟩]) <|
  .seq (.ops [
    ⟨some 22, .mv (.tmp 6), none, 0⟩,
    ⟨some 23, .mv (.tmp 8), none, 0⟩,
    ⟨some 24, .bin .mul (.tmp 22) (.tmp 23), none, 0⟩,
    ⟨some 10, .mv (.tmp 24), none, 0⟩]) <|
  .seq (.ops [
    ⟨some 25, .mv (.tmp 7), none, 0⟩,
    ⟨some 26, .mv (.tmp 8), none, 0⟩,
    ⟨some 27, .bin .mul (.tmp 25) (.tmp 26), none, 0⟩,
    ⟨some 28, .mv (.tmp 10), none, 0⟩,
    ⟨some 29, .bin .shr (.tmp 28) (.const (.int .u64 32)), none, 0⟩,
    ⟨some 30, .bin .add (.tmp 27) (.tmp 29), none, 0⟩,
    ⟨some 11, .mv (.tmp 30), none, 0⟩]) <|
  .seq (.ops [
    ⟨some 31, .mv (.tmp 11), none, 0⟩,
    ⟨some 32, .bin .and (.tmp 31) (.const (.int .u64 4294967295)), none, 0⟩,
    ⟨some 12, .mv (.tmp 32), none, 0⟩]) <|
  .seq (.ops [
    ⟨some 33, .mv (.tmp 11), none, 0⟩,
    ⟨some 34, .bin .shr (.tmp 33) (.const (.int .u64 32)), none, 0⟩,
    ⟨some 13, .mv (.tmp 34), none, 0⟩]) <|
  .seq (.ops [
    ⟨some 35, .mv (.tmp 12), none, 0⟩,
    ⟨some 36, .mv (.tmp 6), none, 0⟩,
    ⟨some 37, .mv (.tmp 9), none, 0⟩,
    ⟨some 38, .bin .mul (.tmp 36) (.tmp 37), none, 0⟩,
    ⟨some 39, .bin .add (.tmp 35) (.tmp 38), none, 0⟩,
    ⟨some 12, .mv (.tmp 39), none, 0⟩]) <|
  .seq (.ops [
    ⟨some 40, .mv (.tmp 7), none, 0⟩,
    ⟨some 41, .mv (.tmp 9), none, 0⟩,
    ⟨some 42, .bin .mul (.tmp 40) (.tmp 41), none, 0⟩,
    ⟨some 43, .mv (.tmp 13), none, 0⟩,
    ⟨some 44, .bin .add (.tmp 42) (.tmp 43), none, 0⟩,
    ⟨some 45, .mv (.tmp 12), none, 0⟩,
    ⟨some 46, .bin .shr (.tmp 45) (.const (.int .u64 32)), none, 0⟩,
    ⟨some 47, .bin .add (.tmp 44) (.tmp 46), none, 0⟩,
    ⟨some 4, .mv (.tmp 47), none, 0⟩]) <|
  .seq (.ops [
    ⟨some 48, .mv (.tmp 0), none, 0⟩,
    ⟨some 49, .mv (.tmp 1), none, 0⟩,
    ⟨some 50, .bin .mul (.tmp 48) (.tmp 49), none, 0⟩,
    ⟨some 5, .mv (.tmp 50), none, 0⟩]) <|
  .keep [4, 5] <|
  .ret⟩

theorem e_math_bits_Mul64 : EntOK Tryd.prog (compD Tryd.prog) k_math_bits_Mul64 i_math_bits_Mul64.vf :=
  ⟨Tryd.f125, Tryd.f125.body.getD .skip, Tryd.func125, by kernel_rfl, by kernel_rfl, by kernel_rfl, by kernel_rfl, by kernel_rfl⟩

/-- loop.example/g01331/spec.l01Join -/
def i_spec_l01Join : FF := ⟨15, [.cell 6 true 2],
  .seq (.ops [
    ⟨some 3, .box 2 (.tmp 0), none, 0⟩,
    ⟨some 6, .alloc [.int .i64 0, .slice none 0 0], none, 0⟩]) <|
  .seq (.ops [
    ⟨some 8, .load true 2 (.tmp 3), none, 0⟩,
    ⟨some 9, .call k_spec_l01Copy [(.tmp 8)], none, 0⟩,
    ⟨some 7, .alloc [.int .i64 0, .slice none 0 0], none, 0⟩,
    ⟨none, .store 2 (.tmp 7) (.tmp 9), none, 0⟩]) <|
  .seq (.ops [
    ⟨some 10, .load true 2 (.tmp 7), none, 0⟩,
    ⟨some 11, .mv (.tmp 1), none, 0⟩,
    ⟨some 12, .mv (.tmp 2), none, 0⟩,
    ⟨some 13, .call k_spec_l01Put [(.tmp 10), (.tmp 11), (.tmp 12)], none, 0⟩]) <|
  .seq (.ops [
    ⟨some 14, .load true 2 (.tmp 7), none, 0⟩,
    ⟨none, .store 2 (.tmp 6) (.tmp 14), none, 0⟩]) <|
  .keep [6] <|
  .ret⟩

theorem e_spec_l01Join : EntOK Tryd.prog (compD Tryd.prog) k_spec_l01Join i_spec_l01Join.vf :=
  ⟨Tryd.f126, Tryd.f126.body.getD .skip, Tryd.func126, by kernel_rfl, by kernel_rfl, by kernel_rfl, by kernel_rfl, by kernel_rfl⟩

def tab : List (Nat × FF) := [(k_laws_FnExactPairsToJoin, i_laws_FnExactPairsToJoin), (k_laws_eqGraph, i_laws_eqGraph), (k_laws_markGraph, i_laws_markGraph), (k_laws_szGraph, i_laws_szGraph), (k_laws_toGraph, i_laws_toGraph), (k_spec_PairsToJoin, i_spec_PairsToJoin), (k_impl_PairsToJoin, i_impl_PairsToJoin), (k_laws_eqInt64SS, i_laws_eqInt64SS), (k_laws_markInt64SS, i_laws_markInt64SS), (k_laws_heldInt64SS, i_laws_heldInt64SS), (k_spec_l01In, i_spec_l01In), (k_spec_l07Numbers, i_spec_l07Numbers), (k_impl_isBoth, i_impl_isBoth), (k_laws_eqInt64S, i_laws_eqInt64S), (k_laws_markInt64S, i_laws_markInt64S), (k_laws_heldInt64S, i_laws_heldInt64S), (k_laws_szInt64S, i_laws_szInt64S), (k_laws_toInt64S, i_laws_toInt64S), (k_impl_Graph_has, i_impl_Graph_has), (k_impl_Graph_girth, i_impl_Graph_girth), (k_impl_Graph_around, i_impl_Graph_around), (k_impl_Graph_distances, i_impl_Graph_distances), (k_spec_l07Given, i_spec_l07Given), (k_spec_l07May, i_spec_l07May), (k_impl_fitCode, i_impl_fitCode), (k_impl_Graph_pairs, i_impl_Graph_pairs), (k_impl_IsGraph, i_impl_IsGraph), (k_impl_bothCode, i_impl_bothCode), (k_impl_Graph_fits, i_impl_Graph_fits), (k_spec_l01Copy, i_spec_l01Copy), (k_spec_l01Put, i_spec_l01Put), (k_impl_own, i_impl_own), (k_impl_Graph_mayJoin, i_impl_Graph_mayJoin), (k_impl_Graph_degree, i_impl_Graph_degree), (k_impl_Graph_take, i_impl_Graph_take), (k_spec_l01Is, i_spec_l01Is), (k_impl_Graph_girthAt, i_impl_Graph_girthAt), (k_slices_Repeat_int64_int64, i_slices_Repeat_int64_int64), (k_impl_list, i_impl_list), (k_spec_l07Fits, i_spec_l07Fits), (k_spec_l01Has, i_spec_l01Has), (k_spec_l01Degree, i_spec_l01Degree), (k_spec_l07Far, i_spec_l07Far), (k_impl_Graph_degrees, i_impl_Graph_degrees), (k_slices_Max_int64_int64, i_slices_Max_int64_int64), (k_spec_l01Own, i_spec_l01Own), (k_slices_Clone_int64_int64, i_slices_Clone_int64_int64), (k_impl_size, i_impl_size), (k_math_bits_Mul, i_math_bits_Mul), (k_spec_l01Edges, i_spec_l01Edges), (k_spec_l01Cut, i_spec_l01Cut), (k_spec_l01Bits, i_spec_l01Bits), (k_math_bits_OnesCount64, i_math_bits_OnesCount64), (k_math_bits_Mul32, i_math_bits_Mul32), (k_math_bits_Mul64, i_math_bits_Mul64), (k_spec_l01Join, i_spec_l01Join)]
theorem tabOK : ∀ p ∈ tab, EntOK Tryd.prog (compD Tryd.prog) p.1 p.2.vf := by
  intro p hp
  simp only [tab, List.mem_cons, List.not_mem_nil, or_false] at hp
  rcases hp with rfl | rfl | rfl | rfl | rfl | rfl | rfl | rfl | rfl | rfl | rfl | rfl | rfl | rfl | rfl | rfl | rfl | rfl | rfl | rfl | rfl | rfl | rfl | rfl | rfl | rfl | rfl | rfl | rfl | rfl | rfl | rfl | rfl | rfl | rfl | rfl | rfl | rfl | rfl | rfl | rfl | rfl | rfl | rfl | rfl | rfl | rfl | rfl | rfl | rfl | rfl | rfl | rfl | rfl | rfl | rfl
  · exact e_laws_FnExactPairsToJoin
  · exact e_laws_eqGraph
  · exact e_laws_markGraph
  · exact e_laws_szGraph
  · exact e_laws_toGraph
  · exact e_spec_PairsToJoin
  · exact e_impl_PairsToJoin
  · exact e_laws_eqInt64SS
  · exact e_laws_markInt64SS
  · exact e_laws_heldInt64SS
  · exact e_spec_l01In
  · exact e_spec_l07Numbers
  · exact e_impl_isBoth
  · exact e_laws_eqInt64S
  · exact e_laws_markInt64S
  · exact e_laws_heldInt64S
  · exact e_laws_szInt64S
  · exact e_laws_toInt64S
  · exact e_impl_Graph_has
  · exact e_impl_Graph_girth
  · exact e_impl_Graph_around
  · exact e_impl_Graph_distances
  · exact e_spec_l07Given
  · exact e_spec_l07May
  · exact e_impl_fitCode
  · exact e_impl_Graph_pairs
  · exact e_impl_IsGraph
  · exact e_impl_bothCode
  · exact e_impl_Graph_fits
  · exact e_spec_l01Copy
  · exact e_spec_l01Put
  · exact e_impl_own
  · exact e_impl_Graph_mayJoin
  · exact e_impl_Graph_degree
  · exact e_impl_Graph_take
  · exact e_spec_l01Is
  · exact e_impl_Graph_girthAt
  · exact e_slices_Repeat_int64_int64
  · exact e_impl_list
  · exact e_spec_l07Fits
  · exact e_spec_l01Has
  · exact e_spec_l01Degree
  · exact e_spec_l07Far
  · exact e_impl_Graph_degrees
  · exact e_slices_Max_int64_int64
  · exact e_spec_l01Own
  · exact e_slices_Clone_int64_int64
  · exact e_impl_size
  · exact e_math_bits_Mul
  · exact e_spec_l01Edges
  · exact e_spec_l01Cut
  · exact e_spec_l01Bits
  · exact e_math_bits_OnesCount64
  · exact e_math_bits_Mul32
  · exact e_math_bits_Mul64
  · exact e_spec_l01Join

def F (n : Nat) : Option Ent := match tab.lookup n with
  | some f => some (.ir f.vf)
  | none => if n = k_math_bits_TrailingZeros64 then some (.ext tzX) else none
theorem v_laws_FnExactPairsToJoin {nro : Nat} {args : List Value} {h : VH} {r : Value × VH} (ha : args.length ≤ i_laws_FnExactPairsToJoin.ntmps) (hr : fbody (vcall F nro) nro i_laws_FnExactPairsToJoin args h = some r) : vcall F nro k_laws_FnExactPairsToJoin args h = some r := vcall_f (by kernel_rfl) (by kernel_rfl) ha hr
theorem v_laws_eqGraph {nro : Nat} {args : List Value} {h : VH} {r : Value × VH} (ha : args.length ≤ i_laws_eqGraph.ntmps) (hr : fbody (vcall F nro) nro i_laws_eqGraph args h = some r) : vcall F nro k_laws_eqGraph args h = some r := vcall_f (by kernel_rfl) (by kernel_rfl) ha hr
theorem v_laws_markGraph {nro : Nat} {args : List Value} {h : VH} {r : Value × VH} (ha : args.length ≤ i_laws_markGraph.ntmps) (hr : fbody (vcall F nro) nro i_laws_markGraph args h = some r) : vcall F nro k_laws_markGraph args h = some r := vcall_f (by kernel_rfl) (by kernel_rfl) ha hr
theorem v_laws_szGraph {nro : Nat} {args : List Value} {h : VH} {r : Value × VH} (ha : args.length ≤ i_laws_szGraph.ntmps) (hr : fbody (vcall F nro) nro i_laws_szGraph args h = some r) : vcall F nro k_laws_szGraph args h = some r := vcall_f (by kernel_rfl) (by kernel_rfl) ha hr
theorem v_laws_toGraph {nro : Nat} {args : List Value} {h : VH} {r : Value × VH} (ha : args.length ≤ i_laws_toGraph.ntmps) (hr : fbody (vcall F nro) nro i_laws_toGraph args h = some r) : vcall F nro k_laws_toGraph args h = some r := vcall_f (by kernel_rfl) (by kernel_rfl) ha hr
theorem v_spec_PairsToJoin {nro : Nat} {args : List Value} {h : VH} {r : Value × VH} (ha : args.length ≤ i_spec_PairsToJoin.ntmps) (hr : fbody (vcall F nro) nro i_spec_PairsToJoin args h = some r) : vcall F nro k_spec_PairsToJoin args h = some r := vcall_f (by kernel_rfl) (by kernel_rfl) ha hr
theorem v_impl_PairsToJoin {nro : Nat} {args : List Value} {h : VH} {r : Value × VH} (ha : args.length ≤ i_impl_PairsToJoin.ntmps) (hr : fbody (vcall F nro) nro i_impl_PairsToJoin args h = some r) : vcall F nro k_impl_PairsToJoin args h = some r := vcall_f (by kernel_rfl) (by kernel_rfl) ha hr
theorem v_laws_eqInt64SS {nro : Nat} {args : List Value} {h : VH} {r : Value × VH} (ha : args.length ≤ i_laws_eqInt64SS.ntmps) (hr : fbody (vcall F nro) nro i_laws_eqInt64SS args h = some r) : vcall F nro k_laws_eqInt64SS args h = some r := vcall_f (by kernel_rfl) (by kernel_rfl) ha hr
theorem v_laws_markInt64SS {nro : Nat} {args : List Value} {h : VH} {r : Value × VH} (ha : args.length ≤ i_laws_markInt64SS.ntmps) (hr : fbody (vcall F nro) nro i_laws_markInt64SS args h = some r) : vcall F nro k_laws_markInt64SS args h = some r := vcall_f (by kernel_rfl) (by kernel_rfl) ha hr
theorem v_laws_heldInt64SS {nro : Nat} {args : List Value} {h : VH} {r : Value × VH} (ha : args.length ≤ i_laws_heldInt64SS.ntmps) (hr : fbody (vcall F nro) nro i_laws_heldInt64SS args h = some r) : vcall F nro k_laws_heldInt64SS args h = some r := vcall_f (by kernel_rfl) (by kernel_rfl) ha hr
theorem v_spec_l01In {nro : Nat} {args : List Value} {h : VH} {r : Value × VH} (ha : args.length ≤ i_spec_l01In.ntmps) (hr : fbody (vcall F nro) nro i_spec_l01In args h = some r) : vcall F nro k_spec_l01In args h = some r := vcall_f (by kernel_rfl) (by kernel_rfl) ha hr
theorem v_spec_l07Numbers {nro : Nat} {args : List Value} {h : VH} {r : Value × VH} (ha : args.length ≤ i_spec_l07Numbers.ntmps) (hr : fbody (vcall F nro) nro i_spec_l07Numbers args h = some r) : vcall F nro k_spec_l07Numbers args h = some r := vcall_f (by kernel_rfl) (by kernel_rfl) ha hr
theorem v_impl_isBoth {nro : Nat} {args : List Value} {h : VH} {r : Value × VH} (ha : args.length ≤ i_impl_isBoth.ntmps) (hr : fbody (vcall F nro) nro i_impl_isBoth args h = some r) : vcall F nro k_impl_isBoth args h = some r := vcall_f (by kernel_rfl) (by kernel_rfl) ha hr
theorem v_laws_eqInt64S {nro : Nat} {args : List Value} {h : VH} {r : Value × VH} (ha : args.length ≤ i_laws_eqInt64S.ntmps) (hr : fbody (vcall F nro) nro i_laws_eqInt64S args h = some r) : vcall F nro k_laws_eqInt64S args h = some r := vcall_f (by kernel_rfl) (by kernel_rfl) ha hr
theorem v_laws_markInt64S {nro : Nat} {args : List Value} {h : VH} {r : Value × VH} (ha : args.length ≤ i_laws_markInt64S.ntmps) (hr : fbody (vcall F nro) nro i_laws_markInt64S args h = some r) : vcall F nro k_laws_markInt64S args h = some r := vcall_f (by kernel_rfl) (by kernel_rfl) ha hr
theorem v_laws_heldInt64S {nro : Nat} {args : List Value} {h : VH} {r : Value × VH} (ha : args.length ≤ i_laws_heldInt64S.ntmps) (hr : fbody (vcall F nro) nro i_laws_heldInt64S args h = some r) : vcall F nro k_laws_heldInt64S args h = some r := vcall_f (by kernel_rfl) (by kernel_rfl) ha hr
theorem v_laws_szInt64S {nro : Nat} {args : List Value} {h : VH} {r : Value × VH} (ha : args.length ≤ i_laws_szInt64S.ntmps) (hr : fbody (vcall F nro) nro i_laws_szInt64S args h = some r) : vcall F nro k_laws_szInt64S args h = some r := vcall_f (by kernel_rfl) (by kernel_rfl) ha hr
theorem v_laws_toInt64S {nro : Nat} {args : List Value} {h : VH} {r : Value × VH} (ha : args.length ≤ i_laws_toInt64S.ntmps) (hr : fbody (vcall F nro) nro i_laws_toInt64S args h = some r) : vcall F nro k_laws_toInt64S args h = some r := vcall_f (by kernel_rfl) (by kernel_rfl) ha hr
theorem v_impl_Graph_has {nro : Nat} {args : List Value} {h : VH} {r : Value × VH} (ha : args.length ≤ i_impl_Graph_has.ntmps) (hr : fbody (vcall F nro) nro i_impl_Graph_has args h = some r) : vcall F nro k_impl_Graph_has args h = some r := vcall_f (by kernel_rfl) (by kernel_rfl) ha hr
theorem v_impl_Graph_girth {nro : Nat} {args : List Value} {h : VH} {r : Value × VH} (ha : args.length ≤ i_impl_Graph_girth.ntmps) (hr : fbody (vcall F nro) nro i_impl_Graph_girth args h = some r) : vcall F nro k_impl_Graph_girth args h = some r := vcall_f (by kernel_rfl) (by kernel_rfl) ha hr
theorem v_impl_Graph_around {nro : Nat} {args : List Value} {h : VH} {r : Value × VH} (ha : args.length ≤ i_impl_Graph_around.ntmps) (hr : fbody (vcall F nro) nro i_impl_Graph_around args h = some r) : vcall F nro k_impl_Graph_around args h = some r := vcall_f (by kernel_rfl) (by kernel_rfl) ha hr
theorem v_impl_Graph_distances {nro : Nat} {args : List Value} {h : VH} {r : Value × VH} (ha : args.length ≤ i_impl_Graph_distances.ntmps) (hr : fbody (vcall F nro) nro i_impl_Graph_distances args h = some r) : vcall F nro k_impl_Graph_distances args h = some r := vcall_f (by kernel_rfl) (by kernel_rfl) ha hr
theorem v_spec_l07Given {nro : Nat} {args : List Value} {h : VH} {r : Value × VH} (ha : args.length ≤ i_spec_l07Given.ntmps) (hr : fbody (vcall F nro) nro i_spec_l07Given args h = some r) : vcall F nro k_spec_l07Given args h = some r := vcall_f (by kernel_rfl) (by kernel_rfl) ha hr
theorem v_spec_l07May {nro : Nat} {args : List Value} {h : VH} {r : Value × VH} (ha : args.length ≤ i_spec_l07May.ntmps) (hr : fbody (vcall F nro) nro i_spec_l07May args h = some r) : vcall F nro k_spec_l07May args h = some r := vcall_f (by kernel_rfl) (by kernel_rfl) ha hr
theorem v_impl_fitCode {nro : Nat} {args : List Value} {h : VH} {r : Value × VH} (ha : args.length ≤ i_impl_fitCode.ntmps) (hr : fbody (vcall F nro) nro i_impl_fitCode args h = some r) : vcall F nro k_impl_fitCode args h = some r := vcall_f (by kernel_rfl) (by kernel_rfl) ha hr
theorem v_impl_Graph_pairs {nro : Nat} {args : List Value} {h : VH} {r : Value × VH} (ha : args.length ≤ i_impl_Graph_pairs.ntmps) (hr : fbody (vcall F nro) nro i_impl_Graph_pairs args h = some r) : vcall F nro k_impl_Graph_pairs args h = some r := vcall_f (by kernel_rfl) (by kernel_rfl) ha hr
theorem v_impl_IsGraph {nro : Nat} {args : List Value} {h : VH} {r : Value × VH} (ha : args.length ≤ i_impl_IsGraph.ntmps) (hr : fbody (vcall F nro) nro i_impl_IsGraph args h = some r) : vcall F nro k_impl_IsGraph args h = some r := vcall_f (by kernel_rfl) (by kernel_rfl) ha hr
theorem v_impl_bothCode {nro : Nat} {args : List Value} {h : VH} {r : Value × VH} (ha : args.length ≤ i_impl_bothCode.ntmps) (hr : fbody (vcall F nro) nro i_impl_bothCode args h = some r) : vcall F nro k_impl_bothCode args h = some r := vcall_f (by kernel_rfl) (by kernel_rfl) ha hr
theorem v_impl_Graph_fits {nro : Nat} {args : List Value} {h : VH} {r : Value × VH} (ha : args.length ≤ i_impl_Graph_fits.ntmps) (hr : fbody (vcall F nro) nro i_impl_Graph_fits args h = some r) : vcall F nro k_impl_Graph_fits args h = some r := vcall_f (by kernel_rfl) (by kernel_rfl) ha hr
theorem v_spec_l01Copy {nro : Nat} {args : List Value} {h : VH} {r : Value × VH} (ha : args.length ≤ i_spec_l01Copy.ntmps) (hr : fbody (vcall F nro) nro i_spec_l01Copy args h = some r) : vcall F nro k_spec_l01Copy args h = some r := vcall_f (by kernel_rfl) (by kernel_rfl) ha hr
theorem v_spec_l01Put {nro : Nat} {args : List Value} {h : VH} {r : Value × VH} (ha : args.length ≤ i_spec_l01Put.ntmps) (hr : fbody (vcall F nro) nro i_spec_l01Put args h = some r) : vcall F nro k_spec_l01Put args h = some r := vcall_f (by kernel_rfl) (by kernel_rfl) ha hr
theorem v_impl_own {nro : Nat} {args : List Value} {h : VH} {r : Value × VH} (ha : args.length ≤ i_impl_own.ntmps) (hr : fbody (vcall F nro) nro i_impl_own args h = some r) : vcall F nro k_impl_own args h = some r := vcall_f (by kernel_rfl) (by kernel_rfl) ha hr
theorem v_impl_Graph_mayJoin {nro : Nat} {args : List Value} {h : VH} {r : Value × VH} (ha : args.length ≤ i_impl_Graph_mayJoin.ntmps) (hr : fbody (vcall F nro) nro i_impl_Graph_mayJoin args h = some r) : vcall F nro k_impl_Graph_mayJoin args h = some r := vcall_f (by kernel_rfl) (by kernel_rfl) ha hr
theorem v_impl_Graph_degree {nro : Nat} {args : List Value} {h : VH} {r : Value × VH} (ha : args.length ≤ i_impl_Graph_degree.ntmps) (hr : fbody (vcall F nro) nro i_impl_Graph_degree args h = some r) : vcall F nro k_impl_Graph_degree args h = some r := vcall_f (by kernel_rfl) (by kernel_rfl) ha hr
theorem v_impl_Graph_take {nro : Nat} {args : List Value} {h : VH} {r : Value × VH} (ha : args.length ≤ i_impl_Graph_take.ntmps) (hr : fbody (vcall F nro) nro i_impl_Graph_take args h = some r) : vcall F nro k_impl_Graph_take args h = some r := vcall_f (by kernel_rfl) (by kernel_rfl) ha hr
theorem v_spec_l01Is {nro : Nat} {args : List Value} {h : VH} {r : Value × VH} (ha : args.length ≤ i_spec_l01Is.ntmps) (hr : fbody (vcall F nro) nro i_spec_l01Is args h = some r) : vcall F nro k_spec_l01Is args h = some r := vcall_f (by kernel_rfl) (by kernel_rfl) ha hr
theorem v_impl_Graph_girthAt {nro : Nat} {args : List Value} {h : VH} {r : Value × VH} (ha : args.length ≤ i_impl_Graph_girthAt.ntmps) (hr : fbody (vcall F nro) nro i_impl_Graph_girthAt args h = some r) : vcall F nro k_impl_Graph_girthAt args h = some r := vcall_f (by kernel_rfl) (by kernel_rfl) ha hr
theorem v_slices_Repeat_int64_int64 {nro : Nat} {args : List Value} {h : VH} {r : Value × VH} (ha : args.length ≤ i_slices_Repeat_int64_int64.ntmps) (hr : fbody (vcall F nro) nro i_slices_Repeat_int64_int64 args h = some r) : vcall F nro k_slices_Repeat_int64_int64 args h = some r := vcall_f (by kernel_rfl) (by kernel_rfl) ha hr
theorem v_impl_list {nro : Nat} {args : List Value} {h : VH} {r : Value × VH} (ha : args.length ≤ i_impl_list.ntmps) (hr : fbody (vcall F nro) nro i_impl_list args h = some r) : vcall F nro k_impl_list args h = some r := vcall_f (by kernel_rfl) (by kernel_rfl) ha hr
theorem v_spec_l07Fits {nro : Nat} {args : List Value} {h : VH} {r : Value × VH} (ha : args.length ≤ i_spec_l07Fits.ntmps) (hr : fbody (vcall F nro) nro i_spec_l07Fits args h = some r) : vcall F nro k_spec_l07Fits args h = some r := vcall_f (by kernel_rfl) (by kernel_rfl) ha hr
theorem v_spec_l01Has {nro : Nat} {args : List Value} {h : VH} {r : Value × VH} (ha : args.length ≤ i_spec_l01Has.ntmps) (hr : fbody (vcall F nro) nro i_spec_l01Has args h = some r) : vcall F nro k_spec_l01Has args h = some r := vcall_f (by kernel_rfl) (by kernel_rfl) ha hr
theorem v_spec_l01Degree {nro : Nat} {args : List Value} {h : VH} {r : Value × VH} (ha : args.length ≤ i_spec_l01Degree.ntmps) (hr : fbody (vcall F nro) nro i_spec_l01Degree args h = some r) : vcall F nro k_spec_l01Degree args h = some r := vcall_f (by kernel_rfl) (by kernel_rfl) ha hr
theorem v_spec_l07Far {nro : Nat} {args : List Value} {h : VH} {r : Value × VH} (ha : args.length ≤ i_spec_l07Far.ntmps) (hr : fbody (vcall F nro) nro i_spec_l07Far args h = some r) : vcall F nro k_spec_l07Far args h = some r := vcall_f (by kernel_rfl) (by kernel_rfl) ha hr
theorem v_impl_Graph_degrees {nro : Nat} {args : List Value} {h : VH} {r : Value × VH} (ha : args.length ≤ i_impl_Graph_degrees.ntmps) (hr : fbody (vcall F nro) nro i_impl_Graph_degrees args h = some r) : vcall F nro k_impl_Graph_degrees args h = some r := vcall_f (by kernel_rfl) (by kernel_rfl) ha hr
theorem v_slices_Max_int64_int64 {nro : Nat} {args : List Value} {h : VH} {r : Value × VH} (ha : args.length ≤ i_slices_Max_int64_int64.ntmps) (hr : fbody (vcall F nro) nro i_slices_Max_int64_int64 args h = some r) : vcall F nro k_slices_Max_int64_int64 args h = some r := vcall_f (by kernel_rfl) (by kernel_rfl) ha hr
theorem v_spec_l01Own {nro : Nat} {args : List Value} {h : VH} {r : Value × VH} (ha : args.length ≤ i_spec_l01Own.ntmps) (hr : fbody (vcall F nro) nro i_spec_l01Own args h = some r) : vcall F nro k_spec_l01Own args h = some r := vcall_f (by kernel_rfl) (by kernel_rfl) ha hr
theorem v_slices_Clone_int64_int64 {nro : Nat} {args : List Value} {h : VH} {r : Value × VH} (ha : args.length ≤ i_slices_Clone_int64_int64.ntmps) (hr : fbody (vcall F nro) nro i_slices_Clone_int64_int64 args h = some r) : vcall F nro k_slices_Clone_int64_int64 args h = some r := vcall_f (by kernel_rfl) (by kernel_rfl) ha hr
theorem v_impl_size {nro : Nat} {args : List Value} {h : VH} {r : Value × VH} (ha : args.length ≤ i_impl_size.ntmps) (hr : fbody (vcall F nro) nro i_impl_size args h = some r) : vcall F nro k_impl_size args h = some r := vcall_f (by kernel_rfl) (by kernel_rfl) ha hr
theorem v_math_bits_Mul {nro : Nat} {args : List Value} {h : VH} {r : Value × VH} (ha : args.length ≤ i_math_bits_Mul.ntmps) (hr : fbody (vcall F nro) nro i_math_bits_Mul args h = some r) : vcall F nro k_math_bits_Mul args h = some r := vcall_f (by kernel_rfl) (by kernel_rfl) ha hr
theorem v_spec_l01Edges {nro : Nat} {args : List Value} {h : VH} {r : Value × VH} (ha : args.length ≤ i_spec_l01Edges.ntmps) (hr : fbody (vcall F nro) nro i_spec_l01Edges args h = some r) : vcall F nro k_spec_l01Edges args h = some r := vcall_f (by kernel_rfl) (by kernel_rfl) ha hr
theorem v_spec_l01Cut {nro : Nat} {args : List Value} {h : VH} {r : Value × VH} (ha : args.length ≤ i_spec_l01Cut.ntmps) (hr : fbody (vcall F nro) nro i_spec_l01Cut args h = some r) : vcall F nro k_spec_l01Cut args h = some r := vcall_f (by kernel_rfl) (by kernel_rfl) ha hr
theorem v_spec_l01Bits {nro : Nat} {args : List Value} {h : VH} {r : Value × VH} (ha : args.length ≤ i_spec_l01Bits.ntmps) (hr : fbody (vcall F nro) nro i_spec_l01Bits args h = some r) : vcall F nro k_spec_l01Bits args h = some r := vcall_f (by kernel_rfl) (by kernel_rfl) ha hr
theorem v_math_bits_OnesCount64 {nro : Nat} {args : List Value} {h : VH} {r : Value × VH} (ha : args.length ≤ i_math_bits_OnesCount64.ntmps) (hr : fbody (vcall F nro) nro i_math_bits_OnesCount64 args h = some r) : vcall F nro k_math_bits_OnesCount64 args h = some r := vcall_f (by kernel_rfl) (by kernel_rfl) ha hr
theorem v_math_bits_Mul32 {nro : Nat} {args : List Value} {h : VH} {r : Value × VH} (ha : args.length ≤ i_math_bits_Mul32.ntmps) (hr : fbody (vcall F nro) nro i_math_bits_Mul32 args h = some r) : vcall F nro k_math_bits_Mul32 args h = some r := vcall_f (by kernel_rfl) (by kernel_rfl) ha hr
theorem v_math_bits_Mul64 {nro : Nat} {args : List Value} {h : VH} {r : Value × VH} (ha : args.length ≤ i_math_bits_Mul64.ntmps) (hr : fbody (vcall F nro) nro i_math_bits_Mul64 args h = some r) : vcall F nro k_math_bits_Mul64 args h = some r := vcall_f (by kernel_rfl) (by kernel_rfl) ha hr
theorem v_spec_l01Join {nro : Nat} {args : List Value} {h : VH} {r : Value × VH} (ha : args.length ≤ i_spec_l01Join.ntmps) (hr : fbody (vcall F nro) nro i_spec_l01Join args h = some r) : vcall F nro k_spec_l01Join args h = some r := vcall_f (by kernel_rfl) (by kernel_rfl) ha hr

end Go.Proofs.YthpgiimaadohcaaDoor.Zv

/- Symbolic steps: what simp needs to walk through code. -/
namespace Go.Proofs.YthpgiimaadohcaaDoor.Zv
open Go

section
variable {call : VCall} {nro : Nat}

/-! ### places -/
@[simp] theorem fput_some (e : FE) (d t : Nat) (v : Value) : fput e (some d) v t = if t = d then v else e t := rfl
@[simp] theorem fput_none (e : FE) (v : Value) : fput e none v = e := rfl
@[simp] theorem fl_cons (i : Nat) (v : Value) (r : List (Nat × Value)) (t : Nat) : fl ((i, v) :: r) t = if t = i then v else fl r t := rfl
@[simp] theorem fargs_cons (a : Value) (r : List Value) : fargs (a :: r) 0 = a := rfl
@[simp] theorem fargs_succ (a : Value) (r : List Value) (t : Nat) : fargs (a :: r) (t + 1) = fargs r t := rfl
@[simp] theorem fev_tmp (e : FE) (t : Nat) : fev e (.tmp t) = e t := rfl
@[simp] theorem fev_const (e : FE) (v : Value) : fev e (.const v) = v := rfl
@[simp] theorem fev_func (e : FE) (f : Nat) : fev e (.func f) = .func (.func f) #[] #[] := rfl

/-! ### a region -/
def kops (call : VCall) (nro : Nat) (d : Option Nat) (os : List VOper) (e : FE) : Option (Value × VH) → Option (FE × VH)
  | some (v, h) => fops call nro os (fput e d v) h
  | none => none
theorem fput_self (e : FE) (g : Nat) (v : Value) (h : e g = v) : fput e (some g) v = e := by
  funext t
  simp only [fput_some]
  split
  · rename_i ht; rw [ht, h]
  · rfl
def kguard (call : VCall) (nro : Nat) (g : Nat) (b : Bool) (d : Option Nat) (op : VOp) (os : List VOper) (e : FE) (h : VH) : Value → Option (FE × VH)
  | .bool c => if c = b then kops call nro d os (fput e (some g) (.bool b)) (vop call nro (fev (fput e (some g) (.bool b))) h op) else fops call nro os (fput (fput e (some g) (.bool !b)) d undef) h
  | .tuple vs => if vs.size = 0 then fops call nro os (fput e d undef) h else none
  | _ => none
@[simp] theorem fops_nil (e : FE) (h : VH) : fops call nro [] e h = some (e, h) := rfl
@[simp] theorem fops_cons (d : Option Nat) (op : VOp) (k : Nat) (os : List VOper) (e : FE) (h : VH) : fops call nro (⟨d, op, none, k⟩ :: os) e h = kops call nro d os e (vop call nro (fev e) h op) := by
  simp only [fops, fwanted]
  cases vop call nro (fev e) h op <;> rfl
@[simp] theorem fops_guard (d : Option Nat) (op : VOp) (g : Nat) (b : Bool) (k : Nat) (os : List VOper) (e : FE) (h : VH) : fops call nro (⟨d, op, some (g, b), k⟩ :: os) e h = kguard call nro g b d op os e h (e g) := by
  simp only [fops, fwanted]
  generalize hg : e g = x
  cases x with
  | bool c =>
    simp only [kguard]
    cases c <;> cases b <;> simp [kops, fput_self _ _ _ hg] <;> cases vop call nro (fev e) h op <;> rfl
  | tuple vs => simp only [kguard]; split <;> simp_all
  | _ => rfl
@[simp] theorem kops_some (d : Option Nat) (os : List VOper) (e : FE) (v : Value) (h : VH) : kops call nro d os e (some (v, h)) = fops call nro os (fput e d v) h := rfl
@[simp] theorem kops_none (d : Option Nat) (os : List VOper) (e : FE) : kops call nro d os e none = none := rfl
@[simp] theorem kops_ite (d : Option Nat) (os : List VOper) (e : FE) (c : Prop) [Decidable c] (x y : Option (Value × VH)) : kops call nro d os e (if c then x else y) = if c then kops call nro d os e x else kops call nro d os e y := by split <;> rfl
@[simp] theorem kguard_bool (g : Nat) (b c : Bool) (d : Option Nat) (op : VOp) (os : List VOper) (e : FE) (h : VH) : kguard call nro g b d op os e h (.bool c) = if c = b then kops call nro d os (fput e (some g) (.bool b)) (vop call nro (fev (fput e (some g) (.bool b))) h op) else fops call nro os (fput (fput e (some g) (.bool !b)) d undef) h := rfl
@[simp] theorem kguard_undef (g : Nat) (b : Bool) (d : Option Nat) (op : VOp) (os : List VOper) (e : FE) (h : VH) : kguard call nro g b d op os e h undef = fops call nro os (fput e d undef) h := rfl

/-! ### a region whose order is open -/
open Classical in
noncomputable def kdops (call : VCall) (nro : Nat) (d : Option Nat) (op : VOp) (k : Nat) (os : List VOper) (e : FE) (h : VH) (hs : List VH) : Option (Value × VH) → Option (FE × VH)
  | some (v, h') => if op.eff = true then fdops call nro os (fput e d v) h' (h :: hs) else if ∀ g ∈ hs.take k, vop call nro (fev e) g op = some (v, g) then fdops call nro os (fput e d v) h' hs else none
  | none => none
noncomputable def kdguard (call : VCall) (nro : Nat) (g : Nat) (b : Bool) (d : Option Nat) (op : VOp) (k : Nat) (os : List VOper) (e : FE) (h : VH) (hs : List VH) : Value → Option (FE × VH)
  | .bool c => if c = b then kdops call nro d op k os (fput e (some g) (.bool b)) h hs (vop call nro (fev (fput e (some g) (.bool b))) h op) else fdops call nro os (fput (fput e (some g) (.bool !b)) d undef) h (if op.eff = true then h :: hs else hs)
  | .tuple vs => if vs.size = 0 then fdops call nro os (fput e d undef) h (if op.eff = true then h :: hs else hs) else none
  | _ => none
@[simp] theorem fdops_nil (e : FE) (h : VH) (hs : List VH) : fdops call nro [] e h hs = some (e, h) := rfl
@[simp] theorem fdops_cons (d : Option Nat) (op : VOp) (k : Nat) (os : List VOper) (e : FE) (h : VH) (hs : List VH) : fdops call nro (⟨d, op, none, k⟩ :: os) e h hs = kdops call nro d op k os e h hs (vop call nro (fev e) h op) := by
  simp only [fdops, fwanted]
  cases vop call nro (fev e) h op <;> rfl
@[simp] theorem fdops_guard (d : Option Nat) (op : VOp) (g : Nat) (b : Bool) (k : Nat) (os : List VOper) (e : FE) (h : VH) (hs : List VH) : fdops call nro (⟨d, op, some (g, b), k⟩ :: os) e h hs = kdguard call nro g b d op k os e h hs (e g) := by
  simp only [fdops, fwanted]
  generalize hg : e g = x
  cases x with
  | bool c =>
    simp only [kdguard]
    by_cases hcb : c = b
    · subst hcb
      rw [if_pos rfl, fput_self _ _ _ hg]
      simp only [beq_self_eq_true]
      cases vop call nro (fev e) h op <;> rfl
    · have h1 : (c == b) = false := by simpa using hcb
      have h2 : (!b) = c := by cases c <;> cases b <;> simp_all
      rw [if_neg hcb, h1, h2, fput_self _ _ _ hg]
  | tuple vs => simp only [kdguard]; split <;> simp_all
  | _ => rfl
open Classical in
@[simp] theorem kdops_some (d : Option Nat) (op : VOp) (k : Nat) (os : List VOper) (e : FE) (h : VH) (hs : List VH) (v : Value) (h' : VH) : kdops call nro d op k os e h hs (some (v, h')) = if op.eff = true then fdops call nro os (fput e d v) h' (h :: hs) else if ∀ g ∈ hs.take k, vop call nro (fev e) g op = some (v, g) then fdops call nro os (fput e d v) h' hs else none := rfl
@[simp] theorem kdops_none (d : Option Nat) (op : VOp) (k : Nat) (os : List VOper) (e : FE) (h : VH) (hs : List VH) : kdops call nro d op k os e h hs none = none := rfl
@[simp] theorem kdops_ite (d : Option Nat) (op : VOp) (k : Nat) (os : List VOper) (e : FE) (h : VH) (hs : List VH) (c : Prop) [Decidable c] (x y : Option (Value × VH)) : kdops call nro d op k os e h hs (if c then x else y) = if c then kdops call nro d op k os e h hs x else kdops call nro d op k os e h hs y := by split <;> rfl
@[simp] theorem kdguard_bool (g : Nat) (b c : Bool) (d : Option Nat) (op : VOp) (k : Nat) (os : List VOper) (e : FE) (h : VH) (hs : List VH) : kdguard call nro g b d op k os e h hs (.bool c) = if c = b then kdops call nro d op k os (fput e (some g) (.bool b)) h hs (vop call nro (fev (fput e (some g) (.bool b))) h op) else fdops call nro os (fput (fput e (some g) (.bool !b)) d undef) h (if op.eff = true then h :: hs else hs) := rfl
@[simp] theorem kdguard_undef (g : Nat) (b : Bool) (d : Option Nat) (op : VOp) (k : Nat) (os : List VOper) (e : FE) (h : VH) (hs : List VH) : kdguard call nro g b d op k os e h hs undef = fdops call nro os (fput e d undef) h (if op.eff = true then h :: hs else hs) := rfl

/-! ### code -/
/-- Garbage dropped. -/
noncomputable def kclean (h0 : VH) (vs : List Value) (h : VH) : List Value × VH := cleanup h0.length h0 vs h
def kn : Option (FE × VH) → Option (VX × FE × VH)
  | some (e, h) => some (.normal, e, h)
  | none => none
@[simp] theorem kn_some (e : FE) (h : VH) : kn (some (e, h)) = some (.normal, e, h) := rfl
@[simp] theorem kn_none : kn none = none := rfl
@[simp] theorem kn_ite (c : Prop) [Decidable c] (x y : Option (FE × VH)) : kn (if c then x else y) = if c then kn x else kn y := by split <;> rfl

noncomputable def kseq (call : VCall) (nro : Nat) (b : FC) : Option (VX × FE × VH) → Option (VX × FE × VH)
  | some (.normal, e, h) => fcode call nro b e h
  | r => r
@[simp] theorem kseq_normal (b : FC) (e : FE) (h : VH) : kseq call nro b (some (.normal, e, h)) = fcode call nro b e h := rfl
@[simp] theorem kseq_ret (b : FC) (e : FE) (h : VH) : kseq call nro b (some (.ret, e, h)) = some (.ret, e, h) := rfl
@[simp] theorem kseq_exit (b : FC) (i : Nat) (e : FE) (h : VH) : kseq call nro b (some (.exit i, e, h)) = some (.exit i, e, h) := rfl
@[simp] theorem kseq_none (b : FC) : kseq call nro b none = none := rfl
@[simp] theorem kseq_ite (b : FC) (c : Prop) [Decidable c] (x y : Option (VX × FE × VH)) : kseq call nro b (if c then x else y) = if c then kseq call nro b x else kseq call nro b y := by split <;> rfl

noncomputable def kcond (call : VCall) (nro : Nat) (a b : FC) (e : FE) (h : VH) : Value → Option (VX × FE × VH)
  | .bool true => fcode call nro a e h
  | .bool false => fcode call nro b e h
  | _ => none
@[simp] theorem kcond_bool (a b : FC) (e : FE) (h : VH) (c : Bool) : kcond call nro a b e h (.bool c) = if c = true then fcode call nro a e h else fcode call nro b e h := by cases c <;> rfl

def kblock (id : Nat) : Option (VX × FE × VH) → Option (VX × FE × VH)
  | some (.exit i, e, h) => if i = id then some (.normal, e, h) else some (.exit i, e, h)
  | r => r
@[simp] theorem kblock_normal (id : Nat) (e : FE) (h : VH) : kblock id (some (.normal, e, h)) = some (.normal, e, h) := rfl
@[simp] theorem kblock_ret (id : Nat) (e : FE) (h : VH) : kblock id (some (.ret, e, h)) = some (.ret, e, h) := rfl
@[simp] theorem kblock_exit (id i : Nat) (e : FE) (h : VH) : kblock id (some (.exit i, e, h)) = if i = id then some (.normal, e, h) else some (.exit i, e, h) := rfl
@[simp] theorem kblock_none (id : Nat) : kblock id none = none := rfl
@[simp] theorem kblock_ite (id : Nat) (c : Prop) [Decidable c] (x y : Option (VX × FE × VH)) : kblock id (if c then x else y) = if c then kblock id x else kblock id y := by split <;> rfl

/-- A loop from its head: the places that live there, the heap before the loop, and the heap now. -/
noncomputable def floop (call : VCall) (nro : Nat) (live : List Nat) (c : FC) (h0 : VH) (vs : List Value) (h : VH) : Option (VX × FE × VH) :=
  iter (fun s : List Value × VH => match fcode call nro c (fl (live.zip s.1)) s.2 with
      | some (.normal, e', h') => some (.inl (cleanup h0.length h0 (live.map e') h'))
      | some r => some (.inr r)
      | none => none) (vs, h)

noncomputable def kloop (call : VCall) (nro : Nat) (live : List Nat) (c : FC) (h0 : VH) (p : List Value × VH) : Option (VX × FE × VH) := floop call nro live c h0 p.1 p.2
@[simp] theorem kloop_mk (live : List Nat) (c : FC) (h0 : VH) (vs : List Value) (h : VH) : kloop call nro live c h0 (vs, h) = floop call nro live c h0 vs h := rfl
noncomputable def kback (call : VCall) (nro : Nat) (live : List Nat) (c : FC) (h0 : VH) : Option (VX × FE × VH) → Option (VX × FE × VH)
  | some (.normal, e, h) => kloop call nro live c h0 (kclean h0 (live.map e) h)
  | r => r
@[simp] theorem kback_normal (live : List Nat) (c : FC) (h0 : VH) (e : FE) (h : VH) : kback call nro live c h0 (some (.normal, e, h)) = kloop call nro live c h0 (kclean h0 (live.map e) h) := rfl
@[simp] theorem kback_exit (live : List Nat) (c : FC) (h0 : VH) (i : Nat) (e : FE) (h : VH) : kback call nro live c h0 (some (.exit i, e, h)) = some (.exit i, e, h) := rfl
@[simp] theorem kback_ret (live : List Nat) (c : FC) (h0 : VH) (e : FE) (h : VH) : kback call nro live c h0 (some (.ret, e, h)) = some (.ret, e, h) := rfl
@[simp] theorem kback_none (live : List Nat) (c : FC) (h0 : VH) : kback call nro live c h0 none = none := rfl
@[simp] theorem kback_ite (live : List Nat) (b : FC) (h0 : VH) (c : Prop) [Decidable c] (x y : Option (VX × FE × VH)) : kback call nro live b h0 (if c then x else y) = if c then kback call nro live b h0 x else kback call nro live b h0 y := by split <;> rfl

/-- One time round a loop. -/
theorem floop_eq (live : List Nat) (c : FC) (h0 : VH) (vs : List Value) (h : VH) : floop call nro live c h0 vs h = kback call nro live c h0 (fcode call nro c (fl (live.zip vs)) h) := by
  unfold floop
  rw [iter]
  dsimp only
  generalize fcode call nro c (fl (live.zip vs)) h = q
  match q with
  | none => rfl
  | some (.normal, e, h') => rfl
  | some (.exit i, e, h') => rfl
  | some (.ret, e, h') => rfl

/-- The same, the loop's code shown inside alone. -/
theorem floop_at {c c' : FC} (e : c = c') (live : List Nat) (h0 : VH) (vs : List Value) (h : VH) : floop call nro live c h0 vs h = kback call nro live c h0 (fcode call nro c' (fl (live.zip vs)) h) := by
  rw [floop_eq, ← e]

@[simp] theorem fcode_skip (e : FE) (h : VH) : fcode call nro .skip e h = some (.normal, e, h) := rfl
@[simp] theorem fcode_ops (os : List VOper) (e : FE) (h : VH) : fcode call nro (.ops os) e h = kn (fops call nro os e h) := by
  simp only [fcode]; cases fops call nro os e h <;> rfl
@[simp] theorem fcode_dops (os : List VOper) (e : FE) (h : VH) : fcode call nro (.dops os) e h = kn (fdops call nro os e h []) := by
  simp only [fcode]; cases fdops call nro os e h [] <;> rfl
@[simp] theorem fcode_seq (a b : FC) (e : FE) (h : VH) : fcode call nro (.seq a b) e h = kseq call nro b (fcode call nro a e h) := by
  simp only [fcode]
  generalize fcode call nro a e h = q
  match q with
  | none => rfl
  | some (.normal, e, h') => rfl
  | some (.exit i, e, h') => rfl
  | some (.ret, e, h') => rfl
@[simp] theorem fcode_cond (x : Operand) (a b : FC) (e : FE) (h : VH) : fcode call nro (.cond x a b) e h = kcond call nro a b e h (fev e x) := by
  simp only [fcode]
  generalize fev e x = v
  unfold kcond
  split <;> simp_all
@[simp] theorem fcode_block (id : Nat) (c : FC) (e : FE) (h : VH) : fcode call nro (.block id c) e h = kblock id (fcode call nro c e h) := by
  simp only [fcode]
  generalize fcode call nro c e h = q
  match q with
  | none => rfl
  | some (.normal, e, h') => rfl
  | some (.exit i, e, h') => rfl
  | some (.ret, e, h') => rfl
@[simp] theorem fcode_loop (live : List Nat) (c : FC) (e : FE) (h : VH) : fcode call nro (.loop live c) e h = floop call nro live c h (live.map e) h := rfl
@[simp] theorem fcode_keep (live : List Nat) (c : FC) (e : FE) (h : VH) : fcode call nro (.keep live c) e h = fcode call nro c (fl (live.zip (live.map e))) h := rfl
@[simp] theorem fcode_exit (i : Nat) (e : FE) (h : VH) : fcode call nro (.exit i) e h = some (.exit i, e, h) := rfl
@[simp] theorem fcode_ret (e : FE) (h : VH) : fcode call nro .ret e h = some (.ret, e, h) := rfl

/-! ### a function's end -/
noncomputable def kfin (p : List Value × VH) : Option (Value × VH) := some (p.1.getD 0 undef, p.2)
@[simp] theorem kfin_mk (v : Value) (h : VH) : kfin ([v], h) = some (v, h) := rfl
noncomputable def kret (res : List VR) (h : VH) : Option (VX × FE × VH) → Option (Value × VH)
  | some (.exit _, _, _) => none
  | some (_, e, h') => fend h (fresults e h' res) h'
  | none => none
@[simp] theorem kret_ret (res : List VR) (h : VH) (e : FE) (h' : VH) : kret res h (some (.ret, e, h')) = fend h (fresults e h' res) h' := rfl
@[simp] theorem kret_normal (res : List VR) (h : VH) (e : FE) (h' : VH) : kret res h (some (.normal, e, h')) = fend h (fresults e h' res) h' := rfl
@[simp] theorem kret_none (res : List VR) (h : VH) : kret res h none = none := rfl
@[simp] theorem kret_ite (res : List VR) (h : VH) (c : Prop) [Decidable c] (x y : Option (VX × FE × VH)) : kret res h (if c then x else y) = if c then kret res h x else kret res h y := by split <;> rfl
@[simp] theorem fend_some (h : VH) (v : Value) (h' : VH) : fend h (some v) h' = kfin (kclean h [v] h') := rfl
theorem fbody_eq (fn : FF) (args : List Value) (h : VH) : fbody call nro fn args h = kret fn.res h (fcode call nro fn.body (fargs args) h) := by
  unfold fbody
  generalize fcode call nro fn.body (fargs args) h = q
  match q with
  | none => rfl
  | some (.normal, e, h') => rfl
  | some (.exit i, e, h') => rfl
  | some (.ret, e, h') => rfl
@[simp] theorem fresults1 (e : FE) (h : VH) (t : Nat) : fresults e h [.tmp t] = some (e t) := rfl
@[simp] theorem fresults2 (e : FE) (h : VH) (t s : Nat) : fresults e h [.tmp t, .tmp s] = if notTup (e t) = true ∧ notTup (e s) = true then some (.tuple #[e t, e s]) else none := by
  simp [fresults, fresL, fres1]
@[simp] theorem fresults3 (e : FE) (h : VH) (t s u : Nat) : fresults e h [.tmp t, .tmp s, .tmp u] = if notTup (e t) = true ∧ notTup (e s) = true ∧ notTup (e u) = true then some (.tuple #[e t, e s, e u]) else none := by
  simp [fresults, fresL, fres1]
@[simp] theorem fresultsN (e : FE) (h : VH) : fresults e h [] = some (.tuple #[]) := rfl
attribute [simp] notTup

/-! ### what lies in the elder part -/
def Old (n : Nat) (v : Value) : Prop := ∀ r ∈ trefs v, r < n
theorem Old.le {n m : Nat} {v : Value} (h : Old n v) (hm : n ≤ m) : Old m v := fun r hr => Nat.lt_of_lt_of_le (h r hr) hm
@[simp] theorem old_int (n : Nat) (k : IntKind) (i : Int) : Old n (.int k i) := fun r hr => by simp [trefs, vrefs, crefs, arefs] at hr
@[simp] theorem old_bool (n : Nat) (b : Bool) : Old n (.bool b) := fun r hr => by simp [trefs, vrefs, crefs, arefs] at hr
@[simp] theorem old_str (n : Nat) (b : ByteArray) : Old n (.string b) := fun r hr => by simp [trefs, vrefs, crefs, arefs] at hr
@[simp] theorem old_junk (n : Nat) : Old n junk := fun r hr => by simp [junk, trefs, vrefs, crefs, arefs] at hr
@[simp] theorem old_undef (n : Nat) : Old n undef := fun r hr => by simp [undef, trefs] at hr
@[simp] theorem old_slN (n a b : Nat) : Old n (.slice none a b) := fun r hr => by simp [trefs, vrefs, crefs, arefs] at hr
@[simp] theorem old_ptrN (n : Nat) : Old n (.pointer none) := fun r hr => by simp [trefs, vrefs, crefs, arefs] at hr
@[simp] theorem old_nilF (n : Nat) : Old n .nilFunc := fun r hr => by simp [trefs, vrefs, crefs, arefs] at hr
@[simp] theorem old_sl (n : Nat) (a : Addr) (k t : Nat) : Old n (.slice (some a) k t) ↔ a.block < n := by simp [Old, trefs, vrefs, crefs, arefs]
@[simp] theorem old_ptr (n : Nat) (a : Addr) : Old n (.pointer (some a)) ↔ a.block < n := by simp [Old, trefs, vrefs, crefs, arefs]
/-- The same of a cell. -/
def OldC (n : Nat) (v : Value) : Prop := ∀ r ∈ crefs v, r < n
theorem old_all (n : Nat) (vs : List Value) : (∀ r ∈ vs.flatMap trefs, r < n) ↔ ∀ v ∈ vs, Old n v := by
  simp only [List.mem_flatMap, Old]
  constructor
  · intro h v hv r hr
    exact h r ⟨v, hv, hr⟩
  · rintro h r ⟨v, hv, hr⟩
    exact h v hv r hr

def flatO (n : Nat) (o : VO) : Prop := ∀ r ∈ orefs o, r < n

theorem keepL_nil {base : Nat} {vs : List Value} (h : ∀ v ∈ vs, Old base v) : keepL base vs = [] := by
  unfold keepL
  rw [List.filter_eq_nil_iff.mpr]
  · rfl
  · intro r hr
    have := (old_all base vs).mpr h r hr
    simp; omega

theorem tren_old {n : Nat} {v : Value} (h : Old n v) {r : Nat → Nat} (hr : ∀ i, i < n → r i = i) : tren r v = v := by
  have ha : ∀ v : Value, (∀ i ∈ arefs v, i < n) → aren r v = v := by
    intro v hv
    unfold aren
    split
    · rename_i a
      rw [hr a.block (hv _ (by simp [arefs]))]
    · rename_i a k c
      rw [hr a.block (hv _ (by simp [arefs]))]
    · rfl
  have hmap : ∀ (f : Value → Value) (vs : Array Value), (∀ v ∈ vs, f v = v) → vs.map f = vs := by
    intro f vs h
    exact (Array.map_congr_left (g := id) h).trans (Array.map_id _)
  have hc : ∀ v : Value, (∀ i ∈ crefs v, i < n) → cren r v = v := by
    intro v hv
    unfold cren
    split
    · rename_i f a c
      simp only [crefs, List.mem_append, List.mem_flatMap] at hv
      rw [hmap _ a fun v h => ha v fun i hi => hv i (.inl ⟨v, by simpa using h, hi⟩), hmap _ c fun v h => ha v fun i hi => hv i (.inr ⟨v, by simpa using h, hi⟩)]
    · rename_i hne
      refine ha v fun i hi => hv i ?_
      unfold crefs
      split
      · exact absurd rfl (hne _ _ _)
      · exact hi
  have hvv : ∀ v : Value, (∀ i ∈ vrefs v, i < n) → vren r v = v := by
    intro v hv
    unfold vren
    split
    · rename_i cs
      simp only [vrefs, List.mem_flatMap] at hv
      rw [hmap _ cs fun v h => hc v fun i hi => hv i ⟨v, by simpa using h, hi⟩]
    · rename_i hne
      refine hc v fun i hi => hv i ?_
      unfold vrefs
      split
      · exact absurd rfl (hne _)
      · exact hi
  unfold tren
  split
  · rename_i vs
    unfold Old at h
    simp only [trefs, List.mem_flatMap] at h
    rw [hmap _ vs fun v hv => hvv v fun i hi => h i ⟨v, by simpa using hv, hi⟩]
  · rename_i hne
    refine hvv v fun i hi => h i ?_
    unfold trefs
    split
    · exact absurd rfl (hne _)
    · exact hi

theorem okT_app {h0 L : VH} {L0 : VH} (hL : ∀ o ∈ L, flatO (h0.length + L0.length) o) : okT (h0 ++ L0).length (h0 ++ L0) (h0 ++ L) := by
  intro i o ho
  by_cases hi : i < h0.length
  · left
    rw [List.getElem?_append_left hi] at ho ⊢
    exact ho
  · right
    rw [List.getElem?_append_right (by omega)] at ho
    have := hL o (List.mem_of_getElem? ho)
    simpa [flatO] using this

/-- At the end of a time round: what is fresh and not led to is dropped. -/
@[simp] theorem cleanup_app {h0 L0 L : VH} {vs : List Value} (hv : ∀ v ∈ vs, Old (h0 ++ L0).length v) (hf : ∀ o ∈ L.take L0.length, flatO (h0.length + L0.length) o) :
    kclean (h0 ++ L0) vs (h0 ++ L) = (vs, h0 ++ L.take L0.length) := by
  have htake : (h0 ++ L).take (h0 ++ L0).length = h0 ++ L.take L0.length := by
    rw [List.length_append, List.take_append]
    simp [List.take_of_length_le]
  have hc : okT (h0 ++ L0).length (h0 ++ L0) ((h0 ++ L).take (h0 ++ L0).length) ∧ flatL (h0 ++ L0).length [] (h0 ++ L) := by
    refine ⟨?_, fun i hi => by cases hi⟩
    rw [htake]
    exact okT_app hf
  unfold kclean cleanup
  rw [keepL_nil hv, if_pos hc, htake]
  simp only [List.filterMap_nil, List.append_nil, Prod.mk.injEq, and_true]
  have : ∀ v ∈ vs, tren (renOf (h0 ++ L0).length []) v = v := fun v h => tren_old (hv v h) fun i hi => by simp only [renOf, if_pos hi]
  exact (List.map_congr_left this).trans (by simp)

@[simp] theorem cleanup_drop {h L : VH} {vs : List Value} (hv : ∀ v ∈ vs, Old h.length v) : kclean h vs (h ++ L) = (vs, h) := by
  have := cleanup_app (h0 := h) (L0 := []) (L := L) (vs := vs) (by simpa using hv) (by simp)
  simpa using this

@[simp] theorem cleanup_same {h : VH} {vs : List Value} (hv : ∀ v ∈ vs, Old h.length v) : kclean h vs h = (vs, h) := by
  have := cleanup_drop (h := h) (L := []) hv
  simpa using this

/-- What is fresh and led to is kept. -/
theorem cleanup_keep {h L : VH} {vs : List Value} {ks : List Nat} (hk : keepL h.length vs = ks) (hf : flatL h.length ks (h ++ L)) :
    kclean h vs (h ++ L) = (vs.map (tren (renOf h.length ks)), h ++ ks.filterMap fun i => (h ++ L)[i]?) := by
  have hc : okT h.length h ((h ++ L).take h.length) ∧ flatL h.length ks (h ++ L) := by
    refine ⟨fun i o ho => ?_, hf⟩
    left
    rw [List.getElem?_take] at ho
    split at ho
    · rename_i hi
      rw [List.getElem?_append_left hi] at ho
      exact ho
    · cases ho
  unfold kclean cleanup
  rw [hk, if_pos hc]
  simp

/-! ### the heap -/
@[simp] theorem hget0 (h L : VH) : (h ++ L)[h.length]? = L[0]? := by rw [List.getElem?_append_right (Nat.le_refl _)]; simp
@[simp] theorem hgetk (h L : VH) (k : Nat) : (h ++ L)[h.length + k]? = L[k]? := by rw [List.getElem?_append_right (by omega)]; congr 1; omega
@[simp] theorem hset0 (h L : VH) (o : VO) : (h ++ L).set h.length o = h ++ L.set 0 o := by rw [List.set_append_right _ _ (Nat.le_refl _)]; simp
@[simp] theorem hsetk (h L : VH) (k : Nat) (o : VO) : (h ++ L).set (h.length + k) o = h ++ L.set k o := by rw [List.set_append_right _ _ (by omega)]; congr 2; omega

/-! ### operations, in parts -/
def vlen (h : VH) : Value → Option (Value × VH)
  | .slice none 0 0 => some (.int .i64 0, h)
  | .slice none 0 1 => some (.int .i64 0, h)
  | .slice (some a) n tot => match h[a.block]? with
    | some o => if tot = o.cells.length then some (.int .i64 n, h) else none
    | none => none
  | _ => none
def vidx (sz : Nat) (h : VH) : Value → Value → Option (Value × VH)
  | .slice (some a) n tot, .int _ j =>
    match h[a.block]? with
    | some o => if o.sz = sz ∧ tot = o.cells.length ∧ 0 ≤ j ∧ j < n then some (.pointer (some ⟨a.block, a.off + j.toNat * sz, some tot⟩), h) else none
    | none => none
  | _, _ => none
def vpick (c a b : Value) (h : VH) : Option (Value × VH) := match c with
  | .bool t => some (if t then a else b, h)
  | _ => none
def vext (h : VH) (i : Nat) : Value → Option (Value × VH)
  | .tuple vs => match vs[i]? with
      | some v => some (v, h)
      | none => none
  | _ => none
def vconv (k : IntKind) (h : VH) : Value → Option (Value × VH)
  | .int _ n => some (.int k (k.wrap n), h)
  | _ => none
def vfld (off : Nat) (h : VH) : Value → Option (Value × VH)
  | .pointer (some a) => if vlive h a = true then some (.pointer (some { a with off := a.off + off }), h) else none
  | _ => none
def vfieldv (agg : Bool) (off n : Nat) (h : VH) : Value → Option (Value × VH)
  | .agg cs => if off + n ≤ cs.size then (if agg then some (.agg (cs.extract off (off + n)), h) else match cs[off]? with
      | some v => some (v, h)
      | none => none) else none
  | _ => none
def vmk (sz : Nat) (zero : List Value) (bytes : Nat) (h : VH) : Value → Value → Option (Value × VH)
  | .int .i64 n, .int .i64 m => if n = m ∧ 0 ≤ n ∧ bytes * n ≤ 2 ^ 47 ∧ n ≤ 2 ^ 47 then some (.slice (some ⟨h.length, 0, none⟩) n.toNat (n.toNat * sz), h ++ [⟨sz, (List.replicate n.toNat zero).flatten⟩]) else none
  | _, _ => none
def vbox (n : Nat) (h : VH) (x : Value) : Option (Value × VH) := if (vcells x).length = n ∧ isJunk x = false then some (.pointer (some ⟨h.length, 0, some n⟩), h ++ [⟨0, vcells x⟩]) else none
def vnil (h : VH) : Value → Option (Value × VH)
  | .pointer (some a) => if vlive h a = true then some (.pointer (some a), h) else none
  | .func (.func f) a c => some (.func (.func f) a c, h)
  | _ => none
def vlenStr (h : VH) : Value → Option (Value × VH)
  | .string s => some (.int .i64 s.size, h)
  | _ => none
def vmvStr (h : VH) : Value → Option (Value × VH)
  | .string s => some (.string s, h)
  | _ => none
def veqnilS (neg : Bool) (h : VH) : Value → Option (Value × VH)
  | .slice none 0 0 => some (.bool !neg, h)
  | .slice (some a) _ tot => match h[a.block]? with
      | some o => if tot = o.cells.length then some (.bool neg, h) else none
      | none => none
  | _ => none
def veqnilF (neg : Bool) (h : VH) : Value → Option (Value × VH)
  | .nilFunc => some (.bool !neg, h)
  | .func .. => some (.bool neg, h)
  | _ => none
def vcallv (call : VCall) (h : VH) (f : Value) (args : List Value) : Option (Value × VH) := match f with
  | .func (.func g) first caps => call g (first.toList ++ args ++ caps.toList) h
  | _ => none

variable (ev : Operand → Value) (h : VH)
@[simp] theorem vop_mv (x : Operand) : vop call nro ev h (.mv x) = some (ev x, h) := rfl
@[simp] theorem vop_pick (c a b : Operand) : vop call nro ev h (.pick c a b) = vpick (ev c) (ev a) (ev b) h := rfl
@[simp] theorem vop_bin (o : BinOp) (x y : Operand) : vop call nro ev h (.bin o x y) = (vbin o (ev x) (ev y)).map (·, h) := rfl
@[simp] theorem vop_beq (n : Bool) (x y : Operand) : vop call nro ev h (.beq n x y) = (vbeq n (ev x) (ev y)).map (·, h) := rfl
@[simp] theorem vop_un (o : UnOp) (x : Operand) : vop call nro ev h (.un o x) = (vun o (ev x)).map (·, h) := rfl
@[simp] theorem vop_conv (k : IntKind) (x : Operand) : vop call nro ev h (.conv k x) = vconv k h (ev x) := rfl
@[simp] theorem vop_box (n : Nat) (x : Operand) : vop call nro ev h (.box n x) = vbox n h (ev x) := rfl
@[simp] theorem vop_alloc (z : List Value) : vop call nro ev h (.alloc z) = some (.pointer (some ⟨h.length, 0, some z.length⟩), h ++ [⟨0, z⟩]) := rfl
@[simp] theorem vop_build (z : List Value) (ps : List (Nat × Nat × Operand)) : vop call nro ev h (.build z ps) = (vfill z (ps.map fun p => (p.1, p.2.1, ev p.2.2))).map fun cs => (.agg cs.toArray, h) := rfl
@[simp] theorem vop_buildSl (sz : Nat) (z : List Value) (ps : List (Nat × Nat × Operand)) (n : Nat) : vop call nro ev h (.buildSl sz z ps n) = (vfill z (ps.map fun p => (p.1, p.2.1, ev p.2.2))).map fun cs => (.slice (some ⟨h.length, 0, none⟩) n z.length, h ++ [⟨sz, cs⟩]) := rfl
@[simp] theorem vop_load (g : Bool) (n : Nat) (p : Operand) : vop call nro ev h (.load g n p) = (vload g n h (ev p)).map (·, h) := rfl
@[simp] theorem vop_store (n : Nat) (p x : Operand) : vop call nro ev h (.store n p x) = (vstore nro n h (ev p) (ev x)).map (undef, ·) := rfl
@[simp] theorem vop_nilchk (x : Operand) : vop call nro ev h (.nilchk x) = vnil h (ev x) := rfl
@[simp] theorem vop_fld (n : Nat) (p : Operand) : vop call nro ev h (.fld n p) = vfld n h (ev p) := rfl
@[simp] theorem vop_fieldv (g : Bool) (o n : Nat) (x : Operand) : vop call nro ev h (.fieldv g o n x) = vfieldv g o n h (ev x) := rfl
@[simp] theorem vop_idx (n : Nat) (s i : Operand) : vop call nro ev h (.idx n s i) = vidx n h (ev s) (ev i) := rfl
@[simp] theorem vop_mkSl (sz : Nat) (z : List Value) (b : Nat) (l c : Operand) : vop call nro ev h (.mkSl sz z b l c) = vmk sz z b h (ev l) (ev c) := rfl
@[simp] theorem vop_slc (sz : Nat) (x : Operand) (lo hi : Option Operand) : vop call nro ev h (.slc sz x lo hi) = (vslice sz h (ev x) (lo.map ev) (hi.map ev)).map (·, h) := rfl
@[simp] theorem vop_slcStr (x : Operand) (lo hi : Option Operand) : vop call nro ev h (.slcStr x lo hi) = (vsliceStr (ev x) (lo.map ev) (hi.map ev)).map (·, h) := rfl
@[simp] theorem vop_ext (x : Operand) (i : Nat) : vop call nro ev h (.ext x i) = vext h i (ev x) := rfl
@[simp] theorem vop_len (x : Operand) : vop call nro ev h (.len x) = vlen h (ev x) := rfl
@[simp] theorem vop_lenStr (x : Operand) : vop call nro ev h (.lenStr x) = vlenStr h (ev x) := rfl
@[simp] theorem vop_mvStr (x : Operand) : vop call nro ev h (.mvStr x) = vmvStr h (ev x) := rfl
@[simp] theorem vop_eqnilS (n : Bool) (x : Operand) : vop call nro ev h (.eqnilS n x) = veqnilS n h (ev x) := rfl
@[simp] theorem vop_eqnilF (n : Bool) (x : Operand) : vop call nro ev h (.eqnilF n x) = veqnilF n h (ev x) := rfl
@[simp] theorem vop_app (sz b : Nat) (z : List Value) (s x : Operand) : vop call nro ev h (.app sz b z s x) = vappend nro sz b h (ev s) (ev x) := rfl
@[simp] theorem vop_minmax (m : Bool) (xs : List Operand) : vop call nro ev h (.minmax m xs) = (vminmax m (xs.map ev)).map (·, h) := rfl
@[simp] theorem vop_call (f : Nat) (xs : List Operand) : vop call nro ev h (.call f xs) = call f (xs.map ev) h := rfl
@[simp] theorem vop_callv (f : Operand) (xs : List Operand) : vop call nro ev h (.callv f xs) = vcallv call h (ev f) (xs.map ev) := rfl
@[simp] theorem vop_clr (sz : Nat) (z : List Value) (x : Operand) : vop call nro ev h (.clr sz z x) = vclear nro sz z h (ev x) := rfl
@[simp] theorem vop_cpy (sz : Nat) (x y : Operand) : vop call nro ev h (.cpy sz x y) = vcopy nro sz h (ev x) (ev y) := rfl
@[simp] theorem vop_stop : vop call nro ev h .stop = none := rfl
@[simp] theorem vop_mkfn (f : Nat) (a b : List Operand) : vop call nro ev h (.mkfn f a b) = if (a.map ev).all isAtom && (b.map ev).all isAtom then some (.func (.func f) (a.map ev).toArray (b.map ev).toArray, h) else none := rfl
attribute [simp] VOp.eff
@[simp] theorem vpick_bool (c : Bool) (a b : Value) : vpick (.bool c) a b h = some (if c = true then a else b, h) := rfl
@[simp] theorem vconv_int (k k' : IntKind) (n : Int) : vconv k h (.int k' n) = some (.int k (k.wrap n), h) := rfl
@[simp] theorem vlenStr_str (s : ByteArray) : vlenStr h (.string s) = some (.int .i64 s.size, h) := rfl
@[simp] theorem vmvStr_str (s : ByteArray) : vmvStr h (.string s) = some (.string s, h) := rfl
@[simp] theorem vlen_nil : vlen h (.slice none 0 0) = some (.int .i64 0, h) := rfl
@[simp] theorem vlen_ref (a : Addr) (n tot : Nat) : vlen h (.slice (some a) n tot) = match h[a.block]? with
    | some o => if tot = o.cells.length then some (.int .i64 n, h) else none
    | none => none := rfl
@[simp] theorem vidx_ref (sz : Nat) (a : Addr) (n tot : Nat) (k : IntKind) (j : Int) : vidx sz h (.slice (some a) n tot) (.int k j) = match h[a.block]? with
    | some o => if o.sz = sz ∧ tot = o.cells.length ∧ 0 ≤ j ∧ j < n then some (.pointer (some ⟨a.block, a.off + j.toNat * sz, some tot⟩), h) else none
    | none => none := rfl
@[simp] theorem vext_tup (vs : Array Value) (i : Nat) : vext h i (.tuple vs) = match vs[i]? with
      | some v => some (v, h)
      | none => none := rfl
@[simp] theorem vfld_ref (off : Nat) (a : Addr) : vfld off h (.pointer (some a)) = if vlive h a = true then some (.pointer (some { a with off := a.off + off }), h) else none := rfl
@[simp] theorem vfieldv_agg (g : Bool) (off n : Nat) (cs : Array Value) : vfieldv g off n h (.agg cs) = if off + n ≤ cs.size then (if g then some (.agg (cs.extract off (off + n)), h) else match cs[off]? with
      | some v => some (v, h)
      | none => none) else none := rfl
@[simp] theorem vmk_int (sz : Nat) (z : List Value) (b : Nat) (n m : Int) : vmk sz z b h (.int .i64 n) (.int .i64 m) = if n = m ∧ 0 ≤ n ∧ b * n ≤ 2 ^ 47 ∧ n ≤ 2 ^ 47 then some (.slice (some ⟨h.length, 0, none⟩) n.toNat (n.toNat * sz), h ++ [⟨sz, (List.replicate n.toNat z).flatten⟩]) else none := rfl
@[simp] theorem vnil_ref (a : Addr) : vnil h (.pointer (some a)) = if vlive h a = true then some (.pointer (some a), h) else none := rfl
@[simp] theorem vnil_func (f : Nat) (a c : Array Value) : vnil h (.func (.func f) a c) = some (.func (.func f) a c, h) := rfl
@[simp] theorem veqnilS_nil (n : Bool) : veqnilS n h (.slice none 0 0) = some (.bool !n, h) := rfl
@[simp] theorem veqnilS_ref (n : Bool) (a : Addr) (k tot : Nat) : veqnilS n h (.slice (some a) k tot) = match h[a.block]? with
      | some o => if tot = o.cells.length then some (.bool n, h) else none
      | none => none := rfl
@[simp] theorem vcallv_func (f : Nat) (first caps : Array Value) (args : List Value) : vcallv call h (.func (.func f) first caps) args = call f (first.toList ++ args ++ caps.toList) h := rfl
attribute [simp] vbox vget vlive vfill isJunk vminmax vminmaxL vminmax2 vsliceStr
@[simp] theorem vload_ref (g : Bool) (n : Nat) (a : Addr) : vload g n h (.pointer (some a)) = match vget h a n with
    | some cs => if g then some (.agg cs.toArray) else match cs with
      | [v] => some v
      | _ => none
    | none => none := rfl
@[simp] theorem vstore_ref (nro n : Nat) (a : Addr) (x : Value) : vstore nro n h (.pointer (some a)) x = match h[a.block]? with
    | some o =>
      if nro ≤ a.block ∧ a.spot = some o.cells.length ∧ a.off + n ≤ o.cells.length ∧ (vcells x).length = n ∧ (vcells x).all (fun v => !isJunk v) = true then
        some (h.set a.block { o with cells := splice a.off (vcells x) o.cells })
      else none
    | none => none := rfl
@[simp] theorem splice_zero (v : Value) (vs : List Value) (c : Value) (cs : List Value) : splice 0 (v :: vs) (c :: cs) = v :: vs ++ cs.drop vs.length := by simp [splice]
@[simp] theorem splice_succ (k : Nat) (vs : List Value) (c : Value) (cs : List Value) : splice (k + 1) vs (c :: cs) = c :: splice k vs cs := by
  simp [splice, Nat.add_right_comm]
@[simp] theorem vsrc_nil (sz : Nat) : vsrc sz h (.slice none 0 0) = some ([], 0) := rfl
@[simp] theorem vsrc_ref (sz : Nat) (a : Addr) (n tot : Nat) : vsrc sz h (.slice (some a) n tot) = match h[a.block]? with
    | some o => if o.sz = sz ∧ tot = o.cells.length ∧ a.off + n * sz ≤ tot then some ((o.cells.drop a.off).take (n * sz), n) else none
    | none => none := rfl
/-- An append, once its source is known. -/
def vapp (nro sz bytes : Nat) (h : VH) (s : Value) : Option (List Value × Nat) → Option (Value × VH)
  | none => none
  | some (cs, m) =>
    if cs.all (fun v => !isJunk v) = true ∧ 1 ≤ sz then
      match s with
      | .slice none 0 0 =>
        if m = 0 then some (.slice none 0 0, h)
        else if m * bytes ≤ 2 ^ 40 ∧ m ≤ 2 ^ 40 then some (.slice (some ⟨h.length, 0, none⟩) m cs.length, h ++ [⟨sz, cs⟩]) else none
      | .slice (some a) n tot =>
        match h[a.block]? with
        | some o =>
          if nro ≤ a.block ∧ o.sz = sz ∧ tot = o.cells.length ∧ a.off = 0 ∧ n * sz = tot ∧ (n + m) * bytes ≤ 2 ^ 40 ∧ n + m ≤ 2 ^ 40 then
            some (.slice (some a) (n + m) (tot + cs.length), h.set a.block { o with cells := o.cells ++ cs })
          else none
        | none => none
      | _ => none
    else none
@[simp] theorem vappend_eq (nro sz b : Nat) (s x : Value) : vappend nro sz b h s x = vapp nro sz b h s (vsrc sz h x) := by
  unfold vappend vapp
  cases vsrc sz h x <;> rfl
@[simp] theorem vapp_nil (nro sz b : Nat) (cs : List Value) (m : Nat) : vapp nro sz b h (.slice none 0 0) (some (cs, m)) = if cs.all (fun v => !isJunk v) = true ∧ 1 ≤ sz then (if m = 0 then some (.slice none 0 0, h) else if m * b ≤ 2 ^ 40 ∧ m ≤ 2 ^ 40 then some (.slice (some ⟨h.length, 0, none⟩) m cs.length, h ++ [⟨sz, cs⟩]) else none) else none := rfl
@[simp] theorem vapp_ref (nro sz b : Nat) (a : Addr) (n tot : Nat) (cs : List Value) (m : Nat) : vapp nro sz b h (.slice (some a) n tot) (some (cs, m)) = if cs.all (fun v => !isJunk v) = true ∧ 1 ≤ sz then (match h[a.block]? with
        | some o =>
          if nro ≤ a.block ∧ o.sz = sz ∧ tot = o.cells.length ∧ a.off = 0 ∧ n * sz = tot ∧ (n + m) * b ≤ 2 ^ 40 ∧ n + m ≤ 2 ^ 40 then
            some (.slice (some a) (n + m) (tot + cs.length), h.set a.block { o with cells := o.cells ++ cs })
          else none
        | none => none) else none := rfl
@[simp] theorem vslice_nil (sz : Nat) (lo hi : Option Value) : vslice sz h (.slice none 0 0) lo hi = match lo.getD (.int .i64 0), hi.getD (.int .i64 0) with
    | .int _ 0, .int _ 0 => some (.slice none 0 0)
    | _, _ => none := rfl
@[simp] theorem vslice_ref (sz : Nat) (a : Addr) (n tot : Nat) (lo hi : Option Value) : vslice sz h (.slice (some a) n tot) lo hi = match h[a.block]? with
    | some o =>
      if o.sz = sz ∧ tot = o.cells.length then
        match lo.getD (.int .i64 0), hi.getD (.int .i64 n) with
        | .int _ l, .int _ u => if 0 ≤ l ∧ l ≤ u ∧ u ≤ n then some (.slice (some { a with off := a.off + l.toNat * sz }) (u.toNat - l.toNat) tot) else none
        | _, _ => none
      else none
    | none => none := rfl
@[simp] theorem vcells_agg (cs : Array Value) : vcells (.agg cs) = cs.toList := rfl
@[simp] theorem vcells_int (k : IntKind) (n : Int) : vcells (.int k n) = [.int k n] := rfl
@[simp] theorem vcells_bool (b : Bool) : vcells (.bool b) = [.bool b] := rfl
@[simp] theorem vcells_str (b : ByteArray) : vcells (.string b) = [.string b] := rfl
@[simp] theorem vcells_sl (a : Option Addr) (n c : Nat) : vcells (.slice a n c) = [.slice a n c] := rfl
@[simp] theorem vcells_ptr (a : Option Addr) : vcells (.pointer a) = [.pointer a] := rfl
end
end Go.Proofs.YthpgiimaadohcaaDoor.Zv

