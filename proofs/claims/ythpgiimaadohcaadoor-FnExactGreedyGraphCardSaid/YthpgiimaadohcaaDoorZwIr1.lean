/- The functions' intermediate form. -/
import Derived.Test.YthpgiimaadohcaaDoorZvTz
import Derived.Test.YthpgiimaadohcaaDoorProg
namespace Go.Proofs.YthpgiimaadohcaaDoor.Zv
open Go
def k_math_bits_TrailingZeros64 : Nat := 119
def k_laws_FnExactGreedyGraph : Nat := 3
def k_laws_FnExactLeastVertices : Nat := 4
def k_laws_FnExactFirstRegular : Nat := 5
def k_laws_FnExactShortestThrough : Nat := 6
def k_laws_FnExactHalfOf : Nat := 7
def k_laws_FnExactIsFull : Nat := 8
def k_laws_FnExactFillGraph : Nat := 9
def k_laws_FnExactPairsToJoin : Nat := 10
def k_laws_FnFirstRegular : Nat := 11
def k_spec_GreedyGraph : Nat := 12
def k_impl_GreedyGraph : Nat := 13
def k_laws_eqGraph : Nat := 14
def k_laws_markGraph : Nat := 15
def k_laws_heldGraph : Nat := 16
def k_spec_LeastVertices : Nat := 17
def k_impl_LeastVertices : Nat := 18
def k_spec_FirstRegular : Nat := 19
def k_impl_FirstRegular : Nat := 20
def k_laws_szGraph : Nat := 21
def k_spec_ShortestThrough : Nat := 22
def k_laws_toGraph : Nat := 23
def k_impl_ShortestThrough : Nat := 24
def k_spec_HalfOf : Nat := 25
def k_impl_HalfOf : Nat := 26
def k_spec_IsFull : Nat := 27
def k_impl_IsFull : Nat := 28
def k_spec_FillGraph : Nat := 29
def k_impl_FillGraph : Nat := 30
def k_spec_PairsToJoin : Nat := 31
def k_impl_PairsToJoin : Nat := 32
def k_laws_eqInt64SS : Nat := 33
def k_laws_markInt64SS : Nat := 34
def k_laws_heldInt64SS : Nat := 35
def k_laws_big : Nat := 36
def k_spec_DrawFirstRegular : Nat := 37
def k_laws_graphs5 : Nat := 38
def k_impl_RegularDegree : Nat := 39
def k_impl_FitsBoth : Nat := 40
def k_spec_DrawLeastVertices : Nat := 41
def k_spec_l01In : Nat := 42
def k_spec_l07Numbers : Nat := 43
def k_spec_l07Fill : Nat := 44
def k_spec_l01Empty : Nat := 45
def k_impl_isBoth : Nat := 46
def k_impl_filled : Nat := 47
def k_impl_empty : Nat := 48
def k_laws_eqInt64S : Nat := 49
def k_laws_markInt64S : Nat := 50
def k_laws_heldInt64S : Nat := 51
def k_spec_l07First : Nat := 52
def k_impl_firstRegular : Nat := 53
def k_laws_szInt64S : Nat := 54
def k_spec_l02Code : Nat := 55
def k_spec_l02Girth : Nat := 56
def k_spec_l02Around : Nat := 57
def k_laws_toInt64S : Nat := 58
def k_impl_graphCode : Nat := 59
def k_impl_Graph_has : Nat := 60
def k_impl_Graph_girth : Nat := 61
def k_impl_Graph_around : Nat := 62
def k_impl_Graph_through : Nat := 63
def k_spec_l06Code : Nat := 64
def k_spec_l02From : Nat := 65
def k_spec_l06Rows : Nat := 66
def k_spec_l04With : Nat := 67
def k_impl_connectedCode : Nat := 68
def k_impl_Graph_bipartite : Nat := 69
def k_impl_Graph_distances : Nat := 70
def k_impl_Graph_at : Nat := 71
def k_impl_Graph_partOn : Nat := 72
def k_spec_l07Given : Nat := 73
def k_spec_l07May : Nat := 74
def k_impl_fitCode : Nat := 75
def k_impl_Graph_pairs : Nat := 76
def k_spec_l01From : Nat := 77
def k_spec_l07DrawNumbers : Nat := 78
def k_spec_l01Next : Nat := 79
def k_spec_l01Pick : Nat := 80
def k_laws_likeInts : Nat := 81
def k_impl_IsGraph : Nat := 82
def k_impl_Graph_regular : Nat := 83
def k_impl_bothCode : Nat := 84
def k_impl_Graph_fits : Nat := 85
def k_spec_l01Copy : Nat := 86
def k_spec_l01Put : Nat := 87
def k_impl_own : Nat := 88
def k_impl_Graph_mayJoin : Nat := 89
def k_impl_Graph_put : Nat := 90
def k_spec_l07Search : Nat := 91
def k_impl_girthBound : Nat := 92
def k_impl_firstRegular_1 : Nat := 93
def k_impl_Graph_degree : Nat := 94
def k_impl_Graph_take : Nat := 95
def k_spec_l01Is : Nat := 96
def k_impl_Graph_girthAt : Nat := 97
def k_impl_Graph_walks : Nat := 98
def k_spec_l02Connected : Nat := 99
def k_impl_Graph_connected : Nat := 100
def k_impl_Graph_parts : Nat := 101
def k_impl_Graph_edges : Nat := 102
def k_slices_Repeat_int64_int64 : Nat := 103
def k_impl_list : Nat := 104
def k_spec_l07Fits : Nat := 105
def k_spec_l01Has : Nat := 106
def k_spec_l01Degree : Nat := 107
def k_spec_l07Far : Nat := 108
def k_impl_Graph_degrees : Nat := 109
def k_slices_Min_int64_int64 : Nat := 110
def k_slices_Max_int64_int64 : Nat := 111
def k_spec_l01Own : Nat := 112
def k_slices_Clone_int64_int64 : Nat := 113
def k_impl_powers : Nat := 114
def k_impl_size : Nat := 115
def k_impl_Graph_part : Nat := 116
def k_impl_all : Nat := 117
def k_math_bits_Mul : Nat := 118
def k_spec_l01Edges : Nat := 120
def k_spec_l01Cut : Nat := 121
def k_spec_l01Bits : Nat := 122
def k_math_bits_OnesCount64 : Nat := 123
def k_math_bits_Mul32 : Nat := 124
def k_math_bits_Mul64 : Nat := 125
def k_spec_l01Join : Nat := 126
/-- loop.example/g01331/laws.FnExactGreedyGraph -/
def i_laws_FnExactGreedyGraph : FF := ⟨73, [.tmp 6],
  .seq (.ops [
    ⟨some 6, .mv (.const (.bool false)), none, 0⟩]) <|
  .seq (.ops [
    ⟨some 16, .mv (.tmp 0), none, 0⟩,
    ⟨some 17, .mv (.tmp 1), none, 0⟩,
    ⟨some 18, .mv (.tmp 2), none, 0⟩,
    ⟨some 19, .call k_spec_GreedyGraph [(.tmp 16), (.tmp 17), (.tmp 18)], none, 0⟩,
    ⟨some 15, .mv (.tmp 19), none, 0⟩,
    ⟨some 20, .ext (.tmp 15) 0, none, 0⟩,
    ⟨some 21, .ext (.tmp 15) 1, none, 0⟩,
    ⟨some 7, .alloc [.int .i64 0, .slice none 0 0], none, 0⟩,
    ⟨none, .store 2 (.tmp 7) (.tmp 20), none, 0⟩,
    ⟨some 8, .mv (.tmp 21), none, 0⟩]) <|
  .seq (.ops [
    ⟨some 23, .mv (.tmp 0), none, 0⟩,
    ⟨some 24, .mv (.tmp 1), none, 0⟩,
    ⟨some 25, .mv (.tmp 2), none, 0⟩,
    ⟨some 26, .call k_impl_GreedyGraph [(.tmp 23), (.tmp 24), (.tmp 25)], none, 0⟩,
    ⟨some 22, .mv (.tmp 26), none, 0⟩,
    ⟨some 27, .ext (.tmp 22) 0, none, 0⟩,
    ⟨some 28, .ext (.tmp 22) 1, none, 0⟩,
    ⟨some 9, .alloc [.int .i64 0, .slice none 0 0], none, 0⟩,
    ⟨none, .store 2 (.tmp 9) (.tmp 27), none, 0⟩,
    ⟨some 10, .mv (.tmp 28), none, 0⟩]) <|
  .seq (.seq (.ops [
    ⟨some 29, .load true 2 (.tmp 9), none, 0⟩,
    ⟨some 30, .load true 2 (.tmp 7), none, 0⟩,
    ⟨some 31, .call k_laws_eqGraph [(.tmp 29), (.tmp 30)], none, 0⟩,
    ⟨some 32, .un .not (.tmp 31), none, 0⟩,
    ⟨some 33, .mv (.tmp 32), none, 0⟩,
    ⟨some 34, .mv (.tmp 10), some (33, false), 0⟩,
    ⟨some 35, .mv (.tmp 8), some (33, false), 0⟩,
    ⟨some 36, .bin .neq (.tmp 34) (.tmp 35), some (33, false), 0⟩,
    ⟨some 37, .pick (.tmp 33) (.const (.bool true)) (.tmp 36), none, 0⟩]) <|
  .cond (.tmp 37)
    (.seq (.ops [
      ⟨some 6, .mv (.const (.bool false)), none, 0⟩]) <|
    .keep [6] <|
    .ret)
    (.skip)) <|
  .seq (.ops [
    ⟨some 11, .mv (.const (.int .i64 1)), none, 0⟩]) <|
  .seq (.ops [
    ⟨some 38, .load true 2 (.tmp 9), none, 0⟩,
    ⟨some 39, .mv (.tmp 11), none, 0⟩,
    ⟨some 40, .call k_laws_markGraph [(.tmp 38), (.tmp 39)], none, 0⟩,
    ⟨some 11, .mv (.tmp 40), none, 0⟩]) <|
  .seq (.ops [
    ⟨some 12, .mv (.const (.int .i64 1)), none, 0⟩]) <|
  .seq (.ops [
    ⟨some 41, .load true 2 (.tmp 9), none, 0⟩,
    ⟨some 42, .mv (.tmp 12), none, 0⟩,
    ⟨some 43, .call k_laws_heldGraph [(.tmp 41), (.tmp 42)], none, 0⟩,
    ⟨some 12, .mv (.tmp 43), none, 0⟩]) <|
  .seq (.seq (.ops [
    ⟨some 44, .mv (.tmp 12), none, 0⟩,
    ⟨some 45, .bin .lss (.tmp 44) (.const (.int .i64 0)), none, 0⟩]) <|
  .cond (.tmp 45)
    (.seq (.ops [
      ⟨some 6, .mv (.const (.bool false)), none, 0⟩]) <|
    .keep [6] <|
    .ret)
    (.skip)) <|
  .seq (.seq (.ops [
    ⟨some 46, .mv (.tmp 12), none, 0⟩,
    ⟨some 47, .mv (.tmp 11), none, 0⟩,
    ⟨some 48, .bin .neq (.tmp 46) (.tmp 47), none, 0⟩]) <|
  .cond (.tmp 48)
    (.seq (.ops [
      ⟨some 6, .mv (.const (.bool false)), none, 0⟩]) <|
    .keep [6] <|
    .ret)
    (.skip)) <|
  .seq (.ops [
    ⟨some 50, .mv (.tmp 0), none, 0⟩,
    ⟨some 51, .mv (.tmp 1), none, 0⟩,
    ⟨some 52, .mv (.tmp 2), none, 0⟩,
    ⟨some 53, .call k_impl_GreedyGraph [(.tmp 50), (.tmp 51), (.tmp 52)], none, 0⟩,
    ⟨some 49, .mv (.tmp 53), none, 0⟩,
    ⟨some 54, .ext (.tmp 49) 0, none, 0⟩,
    ⟨some 55, .ext (.tmp 49) 1, none, 0⟩,
    ⟨some 13, .alloc [.int .i64 0, .slice none 0 0], none, 0⟩,
    ⟨none, .store 2 (.tmp 13) (.tmp 54), none, 0⟩,
    ⟨some 14, .mv (.tmp 55), none, 0⟩]) <|
  .seq (.seq (.ops [
    ⟨some 56, .load true 2 (.tmp 13), none, 0⟩,
    ⟨some 57, .load true 2 (.tmp 7), none, 0⟩,
    ⟨some 58, .call k_laws_eqGraph [(.tmp 56), (.tmp 57)], none, 0⟩,
    ⟨some 59, .un .not (.tmp 58), none, 0⟩,
    ⟨some 60, .mv (.tmp 59), none, 0⟩,
    ⟨some 61, .mv (.tmp 14), some (60, false), 0⟩,
    ⟨some 62, .mv (.tmp 8), some (60, false), 0⟩,
    ⟨some 63, .bin .neq (.tmp 61) (.tmp 62), some (60, false), 0⟩,
    ⟨some 64, .pick (.tmp 60) (.const (.bool true)) (.tmp 63), none, 0⟩]) <|
  .cond (.tmp 64)
    (.seq (.ops [
      ⟨some 6, .mv (.const (.bool false)), none, 0⟩]) <|
    .keep [6] <|
    .ret)
    (.skip)) <|
  .seq (.ops [
    ⟨some 12, .mv (.const (.int .i64 1)), none, 0⟩]) <|
  .seq (.ops [
    ⟨some 65, .load true 2 (.tmp 9), none, 0⟩,
    ⟨some 66, .mv (.tmp 12), none, 0⟩,
    ⟨some 67, .call k_laws_heldGraph [(.tmp 65), (.tmp 66)], none, 0⟩,
    ⟨some 12, .mv (.tmp 67), none, 0⟩]) <|
  .seq (.seq (.ops [
    ⟨some 68, .mv (.tmp 12), none, 0⟩,
    ⟨some 69, .bin .lss (.tmp 68) (.const (.int .i64 0)), none, 0⟩]) <|
  .cond (.tmp 69)
    (.seq (.ops [
      ⟨some 6, .mv (.const (.bool false)), none, 0⟩]) <|
    .keep [6] <|
    .ret)
    (.skip)) <|
  .seq (.seq (.ops [
    ⟨some 70, .mv (.tmp 12), none, 0⟩,
    ⟨some 71, .mv (.tmp 11), none, 0⟩,
    ⟨some 72, .bin .neq (.tmp 70) (.tmp 71), none, 0⟩]) <|
  .cond (.tmp 72)
    (.seq (.ops [
      ⟨some 6, .mv (.const (.bool false)), none, 0⟩]) <|
    .keep [6] <|
    .ret)
    (.skip)) <|
  .seq (.ops [
    ⟨some 6, .mv (.const (.bool true)), none, 0⟩]) <|
  .keep [6] <|
  .ret⟩

theorem e_laws_FnExactGreedyGraph : EntOK Tryd.prog (compD Tryd.prog) k_laws_FnExactGreedyGraph i_laws_FnExactGreedyGraph.vf :=
  ⟨Tryd.f3, Tryd.f3.body.getD .skip, Tryd.func3, by kernel_rfl, by kernel_rfl, by kernel_rfl, by kernel_rfl, by kernel_rfl⟩

/-- loop.example/g01331/laws.FnExactLeastVertices -/
def i_laws_FnExactLeastVertices : FF := ⟨29, [.tmp 4],
  .seq (.ops [
    ⟨some 4, .mv (.const (.bool false)), none, 0⟩]) <|
  .seq (.ops [
    ⟨some 10, .mv (.tmp 0), none, 0⟩,
    ⟨some 11, .mv (.tmp 1), none, 0⟩,
    ⟨some 12, .call k_spec_LeastVertices [(.tmp 10), (.tmp 11)], none, 0⟩,
    ⟨some 9, .mv (.tmp 12), none, 0⟩,
    ⟨some 13, .ext (.tmp 9) 0, none, 0⟩,
    ⟨some 14, .ext (.tmp 9) 1, none, 0⟩,
    ⟨some 5, .mv (.tmp 13), none, 0⟩,
    ⟨some 6, .mv (.tmp 14), none, 0⟩]) <|
  .seq (.ops [
    ⟨some 16, .mv (.tmp 0), none, 0⟩,
    ⟨some 17, .mv (.tmp 1), none, 0⟩,
    ⟨some 18, .call k_impl_LeastVertices [(.tmp 16), (.tmp 17)], none, 0⟩,
    ⟨some 15, .mv (.tmp 18), none, 0⟩,
    ⟨some 19, .ext (.tmp 15) 0, none, 0⟩,
    ⟨some 20, .ext (.tmp 15) 1, none, 0⟩,
    ⟨some 7, .mv (.tmp 19), none, 0⟩,
    ⟨some 8, .mv (.tmp 20), none, 0⟩]) <|
  .seq (.seq (.ops [
    ⟨some 21, .mv (.tmp 7), none, 0⟩,
    ⟨some 22, .mv (.tmp 5), none, 0⟩,
    ⟨some 23, .bin .neq (.tmp 21) (.tmp 22), none, 0⟩,
    ⟨some 24, .mv (.tmp 23), none, 0⟩,
    ⟨some 25, .mv (.tmp 8), some (24, false), 0⟩,
    ⟨some 26, .mv (.tmp 6), some (24, false), 0⟩,
    ⟨some 27, .bin .neq (.tmp 25) (.tmp 26), some (24, false), 0⟩,
    ⟨some 28, .pick (.tmp 24) (.const (.bool true)) (.tmp 27), none, 0⟩]) <|
  .cond (.tmp 28)
    (.seq (.ops [
      ⟨some 4, .mv (.const (.bool false)), none, 0⟩]) <|
    .keep [4] <|
    .ret)
    (.skip)) <|
  .seq (.ops [
    ⟨some 4, .mv (.const (.bool true)), none, 0⟩]) <|
  .keep [4] <|
  .ret⟩

theorem e_laws_FnExactLeastVertices : EntOK Tryd.prog (compD Tryd.prog) k_laws_FnExactLeastVertices i_laws_FnExactLeastVertices.vf :=
  ⟨Tryd.f4, Tryd.f4.body.getD .skip, Tryd.func4, by kernel_rfl, by kernel_rfl, by kernel_rfl, by kernel_rfl, by kernel_rfl⟩

/-- loop.example/g01331/laws.FnExactFirstRegular -/
def i_laws_FnExactFirstRegular : FF := ⟨73, [.tmp 6],
  .seq (.ops [
    ⟨some 6, .mv (.const (.bool false)), none, 0⟩]) <|
  .seq (.ops [
    ⟨some 16, .mv (.tmp 0), none, 0⟩,
    ⟨some 17, .mv (.tmp 1), none, 0⟩,
    ⟨some 18, .mv (.tmp 2), none, 0⟩,
    ⟨some 19, .call k_spec_FirstRegular [(.tmp 16), (.tmp 17), (.tmp 18)], none, 0⟩,
    ⟨some 15, .mv (.tmp 19), none, 0⟩,
    ⟨some 20, .ext (.tmp 15) 0, none, 0⟩,
    ⟨some 21, .ext (.tmp 15) 1, none, 0⟩,
    ⟨some 7, .alloc [.int .i64 0, .slice none 0 0], none, 0⟩,
    ⟨none, .store 2 (.tmp 7) (.tmp 20), none, 0⟩,
    ⟨some 8, .mv (.tmp 21), none, 0⟩]) <|
  .seq (.ops [
    ⟨some 23, .mv (.tmp 0), none, 0⟩,
    ⟨some 24, .mv (.tmp 1), none, 0⟩,
    ⟨some 25, .mv (.tmp 2), none, 0⟩,
    ⟨some 26, .call k_impl_FirstRegular [(.tmp 23), (.tmp 24), (.tmp 25)], none, 0⟩,
    ⟨some 22, .mv (.tmp 26), none, 0⟩,
    ⟨some 27, .ext (.tmp 22) 0, none, 0⟩,
    ⟨some 28, .ext (.tmp 22) 1, none, 0⟩,
    ⟨some 9, .alloc [.int .i64 0, .slice none 0 0], none, 0⟩,
    ⟨none, .store 2 (.tmp 9) (.tmp 27), none, 0⟩,
    ⟨some 10, .mv (.tmp 28), none, 0⟩]) <|
  .seq (.seq (.ops [
    ⟨some 29, .load true 2 (.tmp 9), none, 0⟩,
    ⟨some 30, .load true 2 (.tmp 7), none, 0⟩,
    ⟨some 31, .call k_laws_eqGraph [(.tmp 29), (.tmp 30)], none, 0⟩,
    ⟨some 32, .un .not (.tmp 31), none, 0⟩,
    ⟨some 33, .mv (.tmp 32), none, 0⟩,
    ⟨some 34, .mv (.tmp 10), some (33, false), 0⟩,
    ⟨some 35, .mv (.tmp 8), some (33, false), 0⟩,
    ⟨some 36, .bin .neq (.tmp 34) (.tmp 35), some (33, false), 0⟩,
    ⟨some 37, .pick (.tmp 33) (.const (.bool true)) (.tmp 36), none, 0⟩]) <|
  .cond (.tmp 37)
    (.seq (.ops [
      ⟨some 6, .mv (.const (.bool false)), none, 0⟩]) <|
    .keep [6] <|
    .ret)
    (.skip)) <|
  .seq (.ops [
    ⟨some 11, .mv (.const (.int .i64 1)), none, 0⟩]) <|
  .seq (.ops [
    ⟨some 38, .load true 2 (.tmp 9), none, 0⟩,
    ⟨some 39, .mv (.tmp 11), none, 0⟩,
    ⟨some 40, .call k_laws_markGraph [(.tmp 38), (.tmp 39)], none, 0⟩,
    ⟨some 11, .mv (.tmp 40), none, 0⟩]) <|
  .seq (.ops [
    ⟨some 12, .mv (.const (.int .i64 1)), none, 0⟩]) <|
  .seq (.ops [
    ⟨some 41, .load true 2 (.tmp 9), none, 0⟩,
    ⟨some 42, .mv (.tmp 12), none, 0⟩,
    ⟨some 43, .call k_laws_heldGraph [(.tmp 41), (.tmp 42)], none, 0⟩,
    ⟨some 12, .mv (.tmp 43), none, 0⟩]) <|
  .seq (.seq (.ops [
    ⟨some 44, .mv (.tmp 12), none, 0⟩,
    ⟨some 45, .bin .lss (.tmp 44) (.const (.int .i64 0)), none, 0⟩]) <|
  .cond (.tmp 45)
    (.seq (.ops [
      ⟨some 6, .mv (.const (.bool false)), none, 0⟩]) <|
    .keep [6] <|
    .ret)
    (.skip)) <|
  .seq (.seq (.ops [
    ⟨some 46, .mv (.tmp 12), none, 0⟩,
    ⟨some 47, .mv (.tmp 11), none, 0⟩,
    ⟨some 48, .bin .neq (.tmp 46) (.tmp 47), none, 0⟩]) <|
  .cond (.tmp 48)
    (.seq (.ops [
      ⟨some 6, .mv (.const (.bool false)), none, 0⟩]) <|
    .keep [6] <|
    .ret)
    (.skip)) <|
  .seq (.ops [
    ⟨some 50, .mv (.tmp 0), none, 0⟩,
    ⟨some 51, .mv (.tmp 1), none, 0⟩,
    ⟨some 52, .mv (.tmp 2), none, 0⟩,
    ⟨some 53, .call k_impl_FirstRegular [(.tmp 50), (.tmp 51), (.tmp 52)], none, 0⟩,
    ⟨some 49, .mv (.tmp 53), none, 0⟩,
    ⟨some 54, .ext (.tmp 49) 0, none, 0⟩,
    ⟨some 55, .ext (.tmp 49) 1, none, 0⟩,
    ⟨some 13, .alloc [.int .i64 0, .slice none 0 0], none, 0⟩,
    ⟨none, .store 2 (.tmp 13) (.tmp 54), none, 0⟩,
    ⟨some 14, .mv (.tmp 55), none, 0⟩]) <|
  .seq (.seq (.ops [
    ⟨some 56, .load true 2 (.tmp 13), none, 0⟩,
    ⟨some 57, .load true 2 (.tmp 7), none, 0⟩,
    ⟨some 58, .call k_laws_eqGraph [(.tmp 56), (.tmp 57)], none, 0⟩,
    ⟨some 59, .un .not (.tmp 58), none, 0⟩,
    ⟨some 60, .mv (.tmp 59), none, 0⟩,
    ⟨some 61, .mv (.tmp 14), some (60, false), 0⟩,
    ⟨some 62, .mv (.tmp 8), some (60, false), 0⟩,
    ⟨some 63, .bin .neq (.tmp 61) (.tmp 62), some (60, false), 0⟩,
    ⟨some 64, .pick (.tmp 60) (.const (.bool true)) (.tmp 63), none, 0⟩]) <|
  .cond (.tmp 64)
    (.seq (.ops [
      ⟨some 6, .mv (.const (.bool false)), none, 0⟩]) <|
    .keep [6] <|
    .ret)
    (.skip)) <|
  .seq (.ops [
    ⟨some 12, .mv (.const (.int .i64 1)), none, 0⟩]) <|
  .seq (.ops [
    ⟨some 65, .load true 2 (.tmp 9), none, 0⟩,
    ⟨some 66, .mv (.tmp 12), none, 0⟩,
    ⟨some 67, .call k_laws_heldGraph [(.tmp 65), (.tmp 66)], none, 0⟩,
    ⟨some 12, .mv (.tmp 67), none, 0⟩]) <|
  .seq (.seq (.ops [
    ⟨some 68, .mv (.tmp 12), none, 0⟩,
    ⟨some 69, .bin .lss (.tmp 68) (.const (.int .i64 0)), none, 0⟩]) <|
  .cond (.tmp 69)
    (.seq (.ops [
      ⟨some 6, .mv (.const (.bool false)), none, 0⟩]) <|
    .keep [6] <|
    .ret)
    (.skip)) <|
  .seq (.seq (.ops [
    ⟨some 70, .mv (.tmp 12), none, 0⟩,
    ⟨some 71, .mv (.tmp 11), none, 0⟩,
    ⟨some 72, .bin .neq (.tmp 70) (.tmp 71), none, 0⟩]) <|
  .cond (.tmp 72)
    (.seq (.ops [
      ⟨some 6, .mv (.const (.bool false)), none, 0⟩]) <|
    .keep [6] <|
    .ret)
    (.skip)) <|
  .seq (.ops [
    ⟨some 6, .mv (.const (.bool true)), none, 0⟩]) <|
  .keep [6] <|
  .ret⟩

theorem e_laws_FnExactFirstRegular : EntOK Tryd.prog (compD Tryd.prog) k_laws_FnExactFirstRegular i_laws_FnExactFirstRegular.vf :=
  ⟨Tryd.f5, Tryd.f5.body.getD .skip, Tryd.func5, by kernel_rfl, by kernel_rfl, by kernel_rfl, by kernel_rfl, by kernel_rfl⟩

/-- loop.example/g01331/laws.FnExactShortestThrough -/
def i_laws_FnExactShortestThrough : FF := ⟨48, [.tmp 6],
  .seq (.ops [
    ⟨some 3, .box 2 (.tmp 0), none, 0⟩,
    ⟨some 6, .mv (.const (.bool false)), none, 0⟩]) <|
  .seq (.ops [
    ⟨some 7, .mv (.const (.int .i64 1048576)), none, 0⟩]) <|
  .seq (.ops [
    ⟨some 13, .load true 2 (.tmp 3), none, 0⟩,
    ⟨some 14, .mv (.tmp 7), none, 0⟩,
    ⟨some 15, .call k_laws_szGraph [(.tmp 13), (.tmp 14)], none, 0⟩,
    ⟨some 7, .mv (.tmp 15), none, 0⟩]) <|
  .seq (.seq (.ops [
    ⟨some 16, .mv (.tmp 7), none, 0⟩,
    ⟨some 17, .bin .lss (.tmp 16) (.const (.int .i64 0)), none, 0⟩]) <|
  .cond (.tmp 17)
    (.seq (.ops [
      ⟨some 6, .mv (.const (.bool true)), none, 0⟩]) <|
    .keep [6] <|
    .ret)
    (.skip)) <|
  .seq (.ops [
    ⟨some 19, .load true 2 (.tmp 3), none, 0⟩,
    ⟨some 20, .call k_laws_toGraph [(.tmp 19)], none, 0⟩,
    ⟨some 21, .mv (.tmp 1), none, 0⟩,
    ⟨some 22, .mv (.tmp 2), none, 0⟩,
    ⟨some 23, .call k_spec_ShortestThrough [(.tmp 20), (.tmp 21), (.tmp 22)], none, 0⟩,
    ⟨some 18, .mv (.tmp 23), none, 0⟩,
    ⟨some 24, .ext (.tmp 18) 0, none, 0⟩,
    ⟨some 25, .ext (.tmp 18) 1, none, 0⟩,
    ⟨some 8, .mv (.tmp 24), none, 0⟩,
    ⟨some 9, .mv (.tmp 25), none, 0⟩]) <|
  .seq (.ops [
    ⟨some 26, .load true 2 (.tmp 3), none, 0⟩,
    ⟨some 27, .call k_laws_toGraph [(.tmp 26)], none, 0⟩,
    ⟨some 10, .alloc [.int .i64 0, .slice none 0 0], none, 0⟩,
    ⟨none, .store 2 (.tmp 10) (.tmp 27), none, 0⟩]) <|
  .seq (.ops [
    ⟨some 29, .load true 2 (.tmp 10), none, 0⟩,
    ⟨some 30, .mv (.tmp 1), none, 0⟩,
    ⟨some 31, .mv (.tmp 2), none, 0⟩,
    ⟨some 32, .call k_impl_ShortestThrough [(.tmp 29), (.tmp 30), (.tmp 31)], none, 0⟩,
    ⟨some 28, .mv (.tmp 32), none, 0⟩,
    ⟨some 33, .ext (.tmp 28) 0, none, 0⟩,
    ⟨some 34, .ext (.tmp 28) 1, none, 0⟩,
    ⟨some 11, .mv (.tmp 33), none, 0⟩,
    ⟨some 12, .mv (.tmp 34), none, 0⟩]) <|
  .seq (.seq (.ops [
    ⟨some 35, .mv (.tmp 11), none, 0⟩,
    ⟨some 36, .mv (.tmp 8), none, 0⟩,
    ⟨some 37, .bin .neq (.tmp 35) (.tmp 36), none, 0⟩,
    ⟨some 38, .mv (.tmp 37), none, 0⟩,
    ⟨some 39, .mv (.tmp 12), some (38, false), 0⟩,
    ⟨some 40, .mv (.tmp 9), some (38, false), 0⟩,
    ⟨some 41, .bin .neq (.tmp 39) (.tmp 40), some (38, false), 0⟩,
    ⟨some 42, .pick (.tmp 38) (.const (.bool true)) (.tmp 41), none, 0⟩]) <|
  .cond (.tmp 42)
    (.seq (.ops [
      ⟨some 6, .mv (.const (.bool false)), none, 0⟩]) <|
    .keep [6] <|
    .ret)
    (.skip)) <|
  .seq (.seq (.dops [
    ⟨some 44, .load true 2 (.tmp 3), none, 0⟩,
    ⟨some 45, .call k_laws_toGraph [(.tmp 44)], none, 0⟩,
    ⟨some 43, .load true 2 (.tmp 10), none, 1⟩,
    ⟨some 46, .call k_laws_eqGraph [(.tmp 43), (.tmp 45)], none, 0⟩,
    ⟨some 47, .un .not (.tmp 46), none, 0⟩]) <|
  .cond (.tmp 47)
    (.seq (.ops [
      ⟨some 6, .mv (.const (.bool false)), none, 0⟩]) <|
    .keep [6] <|
    .ret)
    (.skip)) <|
  .seq (.ops [
    ⟨some 6, .mv (.const (.bool true)), none, 0⟩]) <|
  .keep [6] <|
  .ret⟩

theorem e_laws_FnExactShortestThrough : EntOK Tryd.prog (compD Tryd.prog) k_laws_FnExactShortestThrough i_laws_FnExactShortestThrough.vf :=
  ⟨Tryd.f6, Tryd.f6.body.getD .skip, Tryd.func6, by kernel_rfl, by kernel_rfl, by kernel_rfl, by kernel_rfl, by kernel_rfl⟩

/-- loop.example/g01331/laws.FnExactHalfOf -/
def i_laws_FnExactHalfOf : FF := ⟨96, [.tmp 2],
  .seq (.ops [
    ⟨some 1, .box 2 (.tmp 0), none, 0⟩,
    ⟨some 2, .mv (.const (.bool false)), none, 0⟩]) <|
  .seq (.ops [
    ⟨some 3, .mv (.const (.int .i64 1048576)), none, 0⟩]) <|
  .seq (.ops [
    ⟨some 14, .load true 2 (.tmp 1), none, 0⟩,
    ⟨some 15, .mv (.tmp 3), none, 0⟩,
    ⟨some 16, .call k_laws_szGraph [(.tmp 14), (.tmp 15)], none, 0⟩,
    ⟨some 3, .mv (.tmp 16), none, 0⟩]) <|
  .seq (.seq (.ops [
    ⟨some 17, .mv (.tmp 3), none, 0⟩,
    ⟨some 18, .bin .lss (.tmp 17) (.const (.int .i64 0)), none, 0⟩]) <|
  .cond (.tmp 18)
    (.seq (.ops [
      ⟨some 2, .mv (.const (.bool true)), none, 0⟩]) <|
    .keep [2] <|
    .ret)
    (.skip)) <|
  .seq (.ops [
    ⟨some 20, .load true 2 (.tmp 1), none, 0⟩,
    ⟨some 21, .call k_laws_toGraph [(.tmp 20)], none, 0⟩,
    ⟨some 22, .call k_spec_HalfOf [(.tmp 21)], none, 0⟩,
    ⟨some 19, .mv (.tmp 22), none, 0⟩,
    ⟨some 23, .ext (.tmp 19) 0, none, 0⟩,
    ⟨some 24, .ext (.tmp 19) 1, none, 0⟩,
    ⟨some 4, .alloc [.int .i64 0, .slice none 0 0], none, 0⟩,
    ⟨none, .store 2 (.tmp 4) (.tmp 23), none, 0⟩,
    ⟨some 5, .mv (.tmp 24), none, 0⟩]) <|
  .seq (.ops [
    ⟨some 25, .load true 2 (.tmp 1), none, 0⟩,
    ⟨some 26, .call k_laws_toGraph [(.tmp 25)], none, 0⟩,
    ⟨some 6, .alloc [.int .i64 0, .slice none 0 0], none, 0⟩,
    ⟨none, .store 2 (.tmp 6) (.tmp 26), none, 0⟩]) <|
  .seq (.ops [
    ⟨some 28, .load true 2 (.tmp 6), none, 0⟩,
    ⟨some 29, .call k_impl_HalfOf [(.tmp 28)], none, 0⟩,
    ⟨some 27, .mv (.tmp 29), none, 0⟩,
    ⟨some 30, .ext (.tmp 27) 0, none, 0⟩,
    ⟨some 31, .ext (.tmp 27) 1, none, 0⟩,
    ⟨some 7, .alloc [.int .i64 0, .slice none 0 0], none, 0⟩,
    ⟨none, .store 2 (.tmp 7) (.tmp 30), none, 0⟩,
    ⟨some 8, .mv (.tmp 31), none, 0⟩]) <|
  .seq (.seq (.ops [
    ⟨some 32, .load true 2 (.tmp 7), none, 0⟩,
    ⟨some 33, .load true 2 (.tmp 4), none, 0⟩,
    ⟨some 34, .call k_laws_eqGraph [(.tmp 32), (.tmp 33)], none, 0⟩,
    ⟨some 35, .un .not (.tmp 34), none, 0⟩,
    ⟨some 36, .mv (.tmp 35), none, 0⟩,
    ⟨some 37, .mv (.tmp 8), some (36, false), 0⟩,
    ⟨some 38, .mv (.tmp 5), some (36, false), 0⟩,
    ⟨some 39, .bin .neq (.tmp 37) (.tmp 38), some (36, false), 0⟩,
    ⟨some 40, .pick (.tmp 36) (.const (.bool true)) (.tmp 39), none, 0⟩]) <|
  .cond (.tmp 40)
    (.seq (.ops [
      ⟨some 2, .mv (.const (.bool false)), none, 0⟩]) <|
    .keep [2] <|
    .ret)
    (.skip)) <|
  .seq (.seq (.dops [
    ⟨some 42, .load true 2 (.tmp 1), none, 0⟩,
    ⟨some 43, .call k_laws_toGraph [(.tmp 42)], none, 0⟩,
    ⟨some 41, .load true 2 (.tmp 6), none, 1⟩,
    ⟨some 44, .call k_laws_eqGraph [(.tmp 41), (.tmp 43)], none, 0⟩,
    ⟨some 45, .un .not (.tmp 44), none, 0⟩]) <|
  .cond (.tmp 45)
    (.seq (.ops [
      ⟨some 2, .mv (.const (.bool false)), none, 0⟩]) <|
    .keep [2] <|
    .ret)
    (.skip)) <|
  .seq (.ops [
    ⟨some 9, .mv (.const (.int .i64 1)), none, 0⟩]) <|
  .seq (.ops [
    ⟨some 46, .load true 2 (.tmp 6), none, 0⟩,
    ⟨some 47, .mv (.tmp 9), none, 0⟩,
    ⟨some 48, .call k_laws_markGraph [(.tmp 46), (.tmp 47)], none, 0⟩,
    ⟨some 9, .mv (.tmp 48), none, 0⟩]) <|
  .seq (.seq (.ops [
    ⟨some 49, .mv (.tmp 9), none, 0⟩,
    ⟨some 50, .bin .lss (.tmp 49) (.const (.int .i64 0)), none, 0⟩,
    ⟨some 51, .mv (.tmp 50), none, 0⟩,
    ⟨some 52, .load true 2 (.tmp 7), some (51, false), 0⟩,
    ⟨some 53, .load true 2 (.tmp 4), some (51, false), 0⟩,
    ⟨some 54, .call k_laws_eqGraph [(.tmp 52), (.tmp 53)], some (51, false), 0⟩,
    ⟨some 55, .un .not (.tmp 54), some (51, false), 0⟩,
    ⟨some 56, .pick (.tmp 51) (.const (.bool true)) (.tmp 55), none, 0⟩,
    ⟨some 57, .mv (.tmp 56), none, 0⟩,
    ⟨some 58, .mv (.tmp 8), some (57, false), 0⟩,
    ⟨some 59, .mv (.tmp 5), some (57, false), 0⟩,
    ⟨some 60, .bin .neq (.tmp 58) (.tmp 59), some (57, false), 0⟩,
    ⟨some 61, .pick (.tmp 57) (.const (.bool true)) (.tmp 60), none, 0⟩]) <|
  .cond (.tmp 61)
    (.seq (.ops [
      ⟨some 2, .mv (.const (.bool false)), none, 0⟩]) <|
    .keep [2] <|
    .ret)
    (.skip)) <|
  .seq (.ops [
    ⟨some 10, .mv (.const (.int .i64 1)), none, 0⟩]) <|
  .seq (.ops [
    ⟨some 62, .load true 2 (.tmp 7), none, 0⟩,
    ⟨some 63, .mv (.tmp 10), none, 0⟩,
    ⟨some 64, .call k_laws_markGraph [(.tmp 62), (.tmp 63)], none, 0⟩,
    ⟨some 10, .mv (.tmp 64), none, 0⟩]) <|
  .seq (.ops [
    ⟨some 11, .mv (.const (.int .i64 1)), none, 0⟩]) <|
  .seq (.ops [
    ⟨some 65, .load true 2 (.tmp 7), none, 0⟩,
    ⟨some 66, .mv (.tmp 11), none, 0⟩,
    ⟨some 67, .call k_laws_heldGraph [(.tmp 65), (.tmp 66)], none, 0⟩,
    ⟨some 11, .mv (.tmp 67), none, 0⟩]) <|
  .seq (.seq (.ops [
    ⟨some 68, .mv (.tmp 11), none, 0⟩,
    ⟨some 69, .bin .lss (.tmp 68) (.const (.int .i64 0)), none, 0⟩]) <|
  .cond (.tmp 69)
    (.seq (.ops [
      ⟨some 2, .mv (.const (.bool false)), none, 0⟩]) <|
    .keep [2] <|
    .ret)
    (.skip)) <|
  .seq (.seq (.ops [
    ⟨some 70, .mv (.tmp 11), none, 0⟩,
    ⟨some 71, .mv (.tmp 10), none, 0⟩,
    ⟨some 72, .bin .neq (.tmp 70) (.tmp 71), none, 0⟩]) <|
  .cond (.tmp 72)
    (.seq (.ops [
      ⟨some 2, .mv (.const (.bool false)), none, 0⟩]) <|
    .keep [2] <|
    .ret)
    (.skip)) <|
  .seq (.ops [
    ⟨some 74, .load true 2 (.tmp 1), none, 0⟩,
    ⟨some 75, .call k_laws_toGraph [(.tmp 74)], none, 0⟩,
    ⟨some 76, .call k_impl_HalfOf [(.tmp 75)], none, 0⟩,
    ⟨some 73, .mv (.tmp 76), none, 0⟩,
    ⟨some 77, .ext (.tmp 73) 0, none, 0⟩,
    ⟨some 78, .ext (.tmp 73) 1, none, 0⟩,
    ⟨some 12, .alloc [.int .i64 0, .slice none 0 0], none, 0⟩,
    ⟨none, .store 2 (.tmp 12) (.tmp 77), none, 0⟩,
    ⟨some 13, .mv (.tmp 78), none, 0⟩]) <|
  .seq (.seq (.ops [
    ⟨some 79, .load true 2 (.tmp 12), none, 0⟩,
    ⟨some 80, .load true 2 (.tmp 4), none, 0⟩,
    ⟨some 81, .call k_laws_eqGraph [(.tmp 79), (.tmp 80)], none, 0⟩,
    ⟨some 82, .un .not (.tmp 81), none, 0⟩,
    ⟨some 83, .mv (.tmp 82), none, 0⟩,
    ⟨some 84, .mv (.tmp 13), some (83, false), 0⟩,
    ⟨some 85, .mv (.tmp 5), some (83, false), 0⟩,
    ⟨some 86, .bin .neq (.tmp 84) (.tmp 85), some (83, false), 0⟩,
    ⟨some 87, .pick (.tmp 83) (.const (.bool true)) (.tmp 86), none, 0⟩]) <|
  .cond (.tmp 87)
    (.seq (.ops [
      ⟨some 2, .mv (.const (.bool false)), none, 0⟩]) <|
    .keep [2] <|
    .ret)
    (.skip)) <|
  .seq (.ops [
    ⟨some 11, .mv (.const (.int .i64 1)), none, 0⟩]) <|
  .seq (.ops [
    ⟨some 88, .load true 2 (.tmp 7), none, 0⟩,
    ⟨some 89, .mv (.tmp 11), none, 0⟩,
    ⟨some 90, .call k_laws_heldGraph [(.tmp 88), (.tmp 89)], none, 0⟩,
    ⟨some 11, .mv (.tmp 90), none, 0⟩]) <|
  .seq (.seq (.ops [
    ⟨some 91, .mv (.tmp 11), none, 0⟩,
    ⟨some 92, .bin .lss (.tmp 91) (.const (.int .i64 0)), none, 0⟩]) <|
  .cond (.tmp 92)
    (.seq (.ops [
      ⟨some 2, .mv (.const (.bool false)), none, 0⟩]) <|
    .keep [2] <|
    .ret)
    (.skip)) <|
  .seq (.seq (.ops [
    ⟨some 93, .mv (.tmp 11), none, 0⟩,
    ⟨some 94, .mv (.tmp 10), none, 0⟩,
    ⟨some 95, .bin .neq (.tmp 93) (.tmp 94), none, 0⟩]) <|
  .cond (.tmp 95)
    (.seq (.ops [
      ⟨some 2, .mv (.const (.bool false)), none, 0⟩]) <|
    .keep [2] <|
    .ret)
    (.skip)) <|
  .seq (.ops [
    ⟨some 2, .mv (.const (.bool true)), none, 0⟩]) <|
  .keep [2] <|
  .ret⟩

theorem e_laws_FnExactHalfOf : EntOK Tryd.prog (compD Tryd.prog) k_laws_FnExactHalfOf i_laws_FnExactHalfOf.vf :=
  ⟨Tryd.f7, Tryd.f7.body.getD .skip, Tryd.func7, by kernel_rfl, by kernel_rfl, by kernel_rfl, by kernel_rfl, by kernel_rfl⟩

/-- loop.example/g01331/laws.FnExactIsFull -/
def i_laws_FnExactIsFull : FF := ⟨48, [.tmp 6],
  .seq (.ops [
    ⟨some 3, .box 2 (.tmp 0), none, 0⟩,
    ⟨some 6, .mv (.const (.bool false)), none, 0⟩]) <|
  .seq (.ops [
    ⟨some 7, .mv (.const (.int .i64 1048576)), none, 0⟩]) <|
  .seq (.ops [
    ⟨some 13, .load true 2 (.tmp 3), none, 0⟩,
    ⟨some 14, .mv (.tmp 7), none, 0⟩,
    ⟨some 15, .call k_laws_szGraph [(.tmp 13), (.tmp 14)], none, 0⟩,
    ⟨some 7, .mv (.tmp 15), none, 0⟩]) <|
  .seq (.seq (.ops [
    ⟨some 16, .mv (.tmp 7), none, 0⟩,
    ⟨some 17, .bin .lss (.tmp 16) (.const (.int .i64 0)), none, 0⟩]) <|
  .cond (.tmp 17)
    (.seq (.ops [
      ⟨some 6, .mv (.const (.bool true)), none, 0⟩]) <|
    .keep [6] <|
    .ret)
    (.skip)) <|
  .seq (.ops [
    ⟨some 19, .load true 2 (.tmp 3), none, 0⟩,
    ⟨some 20, .call k_laws_toGraph [(.tmp 19)], none, 0⟩,
    ⟨some 21, .mv (.tmp 1), none, 0⟩,
    ⟨some 22, .mv (.tmp 2), none, 0⟩,
    ⟨some 23, .call k_spec_IsFull [(.tmp 20), (.tmp 21), (.tmp 22)], none, 0⟩,
    ⟨some 18, .mv (.tmp 23), none, 0⟩,
    ⟨some 24, .ext (.tmp 18) 0, none, 0⟩,
    ⟨some 25, .ext (.tmp 18) 1, none, 0⟩,
    ⟨some 8, .mv (.tmp 24), none, 0⟩,
    ⟨some 9, .mv (.tmp 25), none, 0⟩]) <|
  .seq (.ops [
    ⟨some 26, .load true 2 (.tmp 3), none, 0⟩,
    ⟨some 27, .call k_laws_toGraph [(.tmp 26)], none, 0⟩,
    ⟨some 10, .alloc [.int .i64 0, .slice none 0 0], none, 0⟩,
    ⟨none, .store 2 (.tmp 10) (.tmp 27), none, 0⟩]) <|
  .seq (.ops [
    ⟨some 29, .load true 2 (.tmp 10), none, 0⟩,
    ⟨some 30, .mv (.tmp 1), none, 0⟩,
    ⟨some 31, .mv (.tmp 2), none, 0⟩,
    ⟨some 32, .call k_impl_IsFull [(.tmp 29), (.tmp 30), (.tmp 31)], none, 0⟩,
    ⟨some 28, .mv (.tmp 32), none, 0⟩,
    ⟨some 33, .ext (.tmp 28) 0, none, 0⟩,
    ⟨some 34, .ext (.tmp 28) 1, none, 0⟩,
    ⟨some 11, .mv (.tmp 33), none, 0⟩,
    ⟨some 12, .mv (.tmp 34), none, 0⟩]) <|
  .seq (.seq (.ops [
    ⟨some 35, .mv (.tmp 11), none, 0⟩,
    ⟨some 36, .mv (.tmp 8), none, 0⟩,
    ⟨some 37, .beq true (.tmp 35) (.tmp 36), none, 0⟩,
    ⟨some 38, .mv (.tmp 37), none, 0⟩,
    ⟨some 39, .mv (.tmp 12), some (38, false), 0⟩,
    ⟨some 40, .mv (.tmp 9), some (38, false), 0⟩,
    ⟨some 41, .bin .neq (.tmp 39) (.tmp 40), some (38, false), 0⟩,
    ⟨some 42, .pick (.tmp 38) (.const (.bool true)) (.tmp 41), none, 0⟩]) <|
  .cond (.tmp 42)
    (.seq (.ops [
      ⟨some 6, .mv (.const (.bool false)), none, 0⟩]) <|
    .keep [6] <|
    .ret)
    (.skip)) <|
  .seq (.seq (.dops [
    ⟨some 44, .load true 2 (.tmp 3), none, 0⟩,
    ⟨some 45, .call k_laws_toGraph [(.tmp 44)], none, 0⟩,
    ⟨some 43, .load true 2 (.tmp 10), none, 1⟩,
    ⟨some 46, .call k_laws_eqGraph [(.tmp 43), (.tmp 45)], none, 0⟩,
    ⟨some 47, .un .not (.tmp 46), none, 0⟩]) <|
  .cond (.tmp 47)
    (.seq (.ops [
      ⟨some 6, .mv (.const (.bool false)), none, 0⟩]) <|
    .keep [6] <|
    .ret)
    (.skip)) <|
  .seq (.ops [
    ⟨some 6, .mv (.const (.bool true)), none, 0⟩]) <|
  .keep [6] <|
  .ret⟩

theorem e_laws_FnExactIsFull : EntOK Tryd.prog (compD Tryd.prog) k_laws_FnExactIsFull i_laws_FnExactIsFull.vf :=
  ⟨Tryd.f8, Tryd.f8.body.getD .skip, Tryd.func8, by kernel_rfl, by kernel_rfl, by kernel_rfl, by kernel_rfl, by kernel_rfl⟩

/-- loop.example/g01331/laws.FnExactFillGraph -/
def i_laws_FnExactFillGraph : FF := ⟨106, [.tmp 6],
  .seq (.ops [
    ⟨some 3, .box 2 (.tmp 0), none, 0⟩,
    ⟨some 6, .mv (.const (.bool false)), none, 0⟩]) <|
  .seq (.ops [
    ⟨some 7, .mv (.const (.int .i64 1048576)), none, 0⟩]) <|
  .seq (.ops [
    ⟨some 18, .load true 2 (.tmp 3), none, 0⟩,
    ⟨some 19, .mv (.tmp 7), none, 0⟩,
    ⟨some 20, .call k_laws_szGraph [(.tmp 18), (.tmp 19)], none, 0⟩,
    ⟨some 7, .mv (.tmp 20), none, 0⟩]) <|
  .seq (.seq (.ops [
    ⟨some 21, .mv (.tmp 7), none, 0⟩,
    ⟨some 22, .bin .lss (.tmp 21) (.const (.int .i64 0)), none, 0⟩]) <|
  .cond (.tmp 22)
    (.seq (.ops [
      ⟨some 6, .mv (.const (.bool true)), none, 0⟩]) <|
    .keep [6] <|
    .ret)
    (.skip)) <|
  .seq (.ops [
    ⟨some 24, .load true 2 (.tmp 3), none, 0⟩,
    ⟨some 25, .call k_laws_toGraph [(.tmp 24)], none, 0⟩,
    ⟨some 26, .mv (.tmp 1), none, 0⟩,
    ⟨some 27, .mv (.tmp 2), none, 0⟩,
    ⟨some 28, .call k_spec_FillGraph [(.tmp 25), (.tmp 26), (.tmp 27)], none, 0⟩,
    ⟨some 23, .mv (.tmp 28), none, 0⟩,
    ⟨some 29, .ext (.tmp 23) 0, none, 0⟩,
    ⟨some 30, .ext (.tmp 23) 1, none, 0⟩,
    ⟨some 8, .alloc [.int .i64 0, .slice none 0 0], none, 0⟩,
    ⟨none, .store 2 (.tmp 8) (.tmp 29), none, 0⟩,
    ⟨some 9, .mv (.tmp 30), none, 0⟩]) <|
  .seq (.ops [
    ⟨some 31, .load true 2 (.tmp 3), none, 0⟩,
    ⟨some 32, .call k_laws_toGraph [(.tmp 31)], none, 0⟩,
    ⟨some 10, .alloc [.int .i64 0, .slice none 0 0], none, 0⟩,
    ⟨none, .store 2 (.tmp 10) (.tmp 32), none, 0⟩]) <|
  .seq (.ops [
    ⟨some 34, .load true 2 (.tmp 10), none, 0⟩,
    ⟨some 35, .mv (.tmp 1), none, 0⟩,
    ⟨some 36, .mv (.tmp 2), none, 0⟩,
    ⟨some 37, .call k_impl_FillGraph [(.tmp 34), (.tmp 35), (.tmp 36)], none, 0⟩,
    ⟨some 33, .mv (.tmp 37), none, 0⟩,
    ⟨some 38, .ext (.tmp 33) 0, none, 0⟩,
    ⟨some 39, .ext (.tmp 33) 1, none, 0⟩,
    ⟨some 11, .alloc [.int .i64 0, .slice none 0 0], none, 0⟩,
    ⟨none, .store 2 (.tmp 11) (.tmp 38), none, 0⟩,
    ⟨some 12, .mv (.tmp 39), none, 0⟩]) <|
  .seq (.seq (.ops [
    ⟨some 40, .load true 2 (.tmp 11), none, 0⟩,
    ⟨some 41, .load true 2 (.tmp 8), none, 0⟩,
    ⟨some 42, .call k_laws_eqGraph [(.tmp 40), (.tmp 41)], none, 0⟩,
    ⟨some 43, .un .not (.tmp 42), none, 0⟩,
    ⟨some 44, .mv (.tmp 43), none, 0⟩,
    ⟨some 45, .mv (.tmp 12), some (44, false), 0⟩,
    ⟨some 46, .mv (.tmp 9), some (44, false), 0⟩,
    ⟨some 47, .bin .neq (.tmp 45) (.tmp 46), some (44, false), 0⟩,
    ⟨some 48, .pick (.tmp 44) (.const (.bool true)) (.tmp 47), none, 0⟩]) <|
  .cond (.tmp 48)
    (.seq (.ops [
      ⟨some 6, .mv (.const (.bool false)), none, 0⟩]) <|
    .keep [6] <|
    .ret)
    (.skip)) <|
  .seq (.seq (.dops [
    ⟨some 50, .load true 2 (.tmp 3), none, 0⟩,
    ⟨some 51, .call k_laws_toGraph [(.tmp 50)], none, 0⟩,
    ⟨some 49, .load true 2 (.tmp 10), none, 1⟩,
    ⟨some 52, .call k_laws_eqGraph [(.tmp 49), (.tmp 51)], none, 0⟩,
    ⟨some 53, .un .not (.tmp 52), none, 0⟩]) <|
  .cond (.tmp 53)
    (.seq (.ops [
      ⟨some 6, .mv (.const (.bool false)), none, 0⟩]) <|
    .keep [6] <|
    .ret)
    (.skip)) <|
  .seq (.ops [
    ⟨some 13, .mv (.const (.int .i64 1)), none, 0⟩]) <|
  .seq (.ops [
    ⟨some 54, .load true 2 (.tmp 10), none, 0⟩,
    ⟨some 55, .mv (.tmp 13), none, 0⟩,
    ⟨some 56, .call k_laws_markGraph [(.tmp 54), (.tmp 55)], none, 0⟩,
    ⟨some 13, .mv (.tmp 56), none, 0⟩]) <|
  .seq (.seq (.ops [
    ⟨some 57, .mv (.tmp 13), none, 0⟩,
    ⟨some 58, .bin .lss (.tmp 57) (.const (.int .i64 0)), none, 0⟩,
    ⟨some 59, .mv (.tmp 58), none, 0⟩,
    ⟨some 60, .load true 2 (.tmp 11), some (59, false), 0⟩,
    ⟨some 61, .load true 2 (.tmp 8), some (59, false), 0⟩,
    ⟨some 62, .call k_laws_eqGraph [(.tmp 60), (.tmp 61)], some (59, false), 0⟩,
    ⟨some 63, .un .not (.tmp 62), some (59, false), 0⟩,
    ⟨some 64, .pick (.tmp 59) (.const (.bool true)) (.tmp 63), none, 0⟩,
    ⟨some 65, .mv (.tmp 64), none, 0⟩,
    ⟨some 66, .mv (.tmp 12), some (65, false), 0⟩,
    ⟨some 67, .mv (.tmp 9), some (65, false), 0⟩,
    ⟨some 68, .bin .neq (.tmp 66) (.tmp 67), some (65, false), 0⟩,
    ⟨some 69, .pick (.tmp 65) (.const (.bool true)) (.tmp 68), none, 0⟩]) <|
  .cond (.tmp 69)
    (.seq (.ops [
      ⟨some 6, .mv (.const (.bool false)), none, 0⟩]) <|
    .keep [6] <|
    .ret)
    (.skip)) <|
  .seq (.ops [
    ⟨some 14, .mv (.const (.int .i64 1)), none, 0⟩]) <|
  .seq (.ops [
    ⟨some 70, .load true 2 (.tmp 11), none, 0⟩,
    ⟨some 71, .mv (.tmp 14), none, 0⟩,
    ⟨some 72, .call k_laws_markGraph [(.tmp 70), (.tmp 71)], none, 0⟩,
    ⟨some 14, .mv (.tmp 72), none, 0⟩]) <|
  .seq (.ops [
    ⟨some 15, .mv (.const (.int .i64 1)), none, 0⟩]) <|
  .seq (.ops [
    ⟨some 73, .load true 2 (.tmp 11), none, 0⟩,
    ⟨some 74, .mv (.tmp 15), none, 0⟩,
    ⟨some 75, .call k_laws_heldGraph [(.tmp 73), (.tmp 74)], none, 0⟩,
    ⟨some 15, .mv (.tmp 75), none, 0⟩]) <|
  .seq (.seq (.ops [
    ⟨some 76, .mv (.tmp 15), none, 0⟩,
    ⟨some 77, .bin .lss (.tmp 76) (.const (.int .i64 0)), none, 0⟩]) <|
  .cond (.tmp 77)
    (.seq (.ops [
      ⟨some 6, .mv (.const (.bool false)), none, 0⟩]) <|
    .keep [6] <|
    .ret)
    (.skip)) <|
  .seq (.seq (.ops [
    ⟨some 78, .mv (.tmp 15), none, 0⟩,
    ⟨some 79, .mv (.tmp 14), none, 0⟩,
    ⟨some 80, .bin .neq (.tmp 78) (.tmp 79), none, 0⟩]) <|
  .cond (.tmp 80)
    (.seq (.ops [
      ⟨some 6, .mv (.const (.bool false)), none, 0⟩]) <|
    .keep [6] <|
    .ret)
    (.skip)) <|
  .seq (.ops [
    ⟨some 82, .load true 2 (.tmp 3), none, 0⟩,
    ⟨some 83, .call k_laws_toGraph [(.tmp 82)], none, 0⟩,
    ⟨some 84, .mv (.tmp 1), none, 0⟩,
    ⟨some 85, .mv (.tmp 2), none, 0⟩,
    ⟨some 86, .call k_impl_FillGraph [(.tmp 83), (.tmp 84), (.tmp 85)], none, 0⟩,
    ⟨some 81, .mv (.tmp 86), none, 0⟩,
    ⟨some 87, .ext (.tmp 81) 0, none, 0⟩,
    ⟨some 88, .ext (.tmp 81) 1, none, 0⟩,
    ⟨some 16, .alloc [.int .i64 0, .slice none 0 0], none, 0⟩,
    ⟨none, .store 2 (.tmp 16) (.tmp 87), none, 0⟩,
    ⟨some 17, .mv (.tmp 88), none, 0⟩]) <|
  .seq (.seq (.ops [
    ⟨some 89, .load true 2 (.tmp 16), none, 0⟩,
    ⟨some 90, .load true 2 (.tmp 8), none, 0⟩,
    ⟨some 91, .call k_laws_eqGraph [(.tmp 89), (.tmp 90)], none, 0⟩,
    ⟨some 92, .un .not (.tmp 91), none, 0⟩,
    ⟨some 93, .mv (.tmp 92), none, 0⟩,
    ⟨some 94, .mv (.tmp 17), some (93, false), 0⟩,
    ⟨some 95, .mv (.tmp 9), some (93, false), 0⟩,
    ⟨some 96, .bin .neq (.tmp 94) (.tmp 95), some (93, false), 0⟩,
    ⟨some 97, .pick (.tmp 93) (.const (.bool true)) (.tmp 96), none, 0⟩]) <|
  .cond (.tmp 97)
    (.seq (.ops [
      ⟨some 6, .mv (.const (.bool false)), none, 0⟩]) <|
    .keep [6] <|
    .ret)
    (.skip)) <|
  .seq (.ops [
    ⟨some 15, .mv (.const (.int .i64 1)), none, 0⟩]) <|
  .seq (.ops [
    ⟨some 98, .load true 2 (.tmp 11), none, 0⟩,
    ⟨some 99, .mv (.tmp 15), none, 0⟩,
    ⟨some 100, .call k_laws_heldGraph [(.tmp 98), (.tmp 99)], none, 0⟩,
    ⟨some 15, .mv (.tmp 100), none, 0⟩]) <|
  .seq (.seq (.ops [
    ⟨some 101, .mv (.tmp 15), none, 0⟩,
    ⟨some 102, .bin .lss (.tmp 101) (.const (.int .i64 0)), none, 0⟩]) <|
  .cond (.tmp 102)
    (.seq (.ops [
      ⟨some 6, .mv (.const (.bool false)), none, 0⟩]) <|
    .keep [6] <|
    .ret)
    (.skip)) <|
  .seq (.seq (.ops [
    ⟨some 103, .mv (.tmp 15), none, 0⟩,
    ⟨some 104, .mv (.tmp 14), none, 0⟩,
    ⟨some 105, .bin .neq (.tmp 103) (.tmp 104), none, 0⟩]) <|
  .cond (.tmp 105)
    (.seq (.ops [
      ⟨some 6, .mv (.const (.bool false)), none, 0⟩]) <|
    .keep [6] <|
    .ret)
    (.skip)) <|
  .seq (.ops [
    ⟨some 6, .mv (.const (.bool true)), none, 0⟩]) <|
  .keep [6] <|
  .ret⟩

theorem e_laws_FnExactFillGraph : EntOK Tryd.prog (compD Tryd.prog) k_laws_FnExactFillGraph i_laws_FnExactFillGraph.vf :=
  ⟨Tryd.f9, Tryd.f9.body.getD .skip, Tryd.func9, by kernel_rfl, by kernel_rfl, by kernel_rfl, by kernel_rfl, by kernel_rfl⟩

/-- loop.example/g01331/laws.FnExactPairsToJoin -/
def i_laws_FnExactPairsToJoin : FF := ⟨106, [.tmp 6],
  .seq (.ops [
    ⟨some 3, .box 2 (.tmp 0), none, 0⟩,
    ⟨some 6, .mv (.const (.bool false)), none, 0⟩]) <|
  .seq (.ops [
    ⟨some 7, .mv (.const (.int .i64 1048576)), none, 0⟩]) <|
  .seq (.ops [
    ⟨some 18, .load true 2 (.tmp 3), none, 0⟩,
    ⟨some 19, .mv (.tmp 7), none, 0⟩,
    ⟨some 20, .call k_laws_szGraph [(.tmp 18), (.tmp 19)], none, 0⟩,
    ⟨some 7, .mv (.tmp 20), none, 0⟩]) <|
  .seq (.seq (.ops [
    ⟨some 21, .mv (.tmp 7), none, 0⟩,
    ⟨some 22, .bin .lss (.tmp 21) (.const (.int .i64 0)), none, 0⟩]) <|
  .cond (.tmp 22)
    (.seq (.ops [
      ⟨some 6, .mv (.const (.bool true)), none, 0⟩]) <|
    .keep [6] <|
    .ret)
    (.skip)) <|
  .seq (.ops [
    ⟨some 24, .load true 2 (.tmp 3), none, 0⟩,
    ⟨some 25, .call k_laws_toGraph [(.tmp 24)], none, 0⟩,
    ⟨some 26, .mv (.tmp 1), none, 0⟩,
    ⟨some 27, .mv (.tmp 2), none, 0⟩,
    ⟨some 28, .call k_spec_PairsToJoin [(.tmp 25), (.tmp 26), (.tmp 27)], none, 0⟩,
    ⟨some 23, .mv (.tmp 28), none, 0⟩,
    ⟨some 29, .ext (.tmp 23) 0, none, 0⟩,
    ⟨some 30, .ext (.tmp 23) 1, none, 0⟩,
    ⟨some 8, .mv (.tmp 29), none, 0⟩,
    ⟨some 9, .mv (.tmp 30), none, 0⟩]) <|
  .seq (.ops [
    ⟨some 31, .load true 2 (.tmp 3), none, 0⟩,
    ⟨some 32, .call k_laws_toGraph [(.tmp 31)], none, 0⟩,
    ⟨some 10, .alloc [.int .i64 0, .slice none 0 0], none, 0⟩,
    ⟨none, .store 2 (.tmp 10) (.tmp 32), none, 0⟩]) <|
  .seq (.ops [
    ⟨some 34, .load true 2 (.tmp 10), none, 0⟩,
    ⟨some 35, .mv (.tmp 1), none, 0⟩,
    ⟨some 36, .mv (.tmp 2), none, 0⟩,
    ⟨some 37, .call k_impl_PairsToJoin [(.tmp 34), (.tmp 35), (.tmp 36)], none, 0⟩,
    ⟨some 33, .mv (.tmp 37), none, 0⟩,
    ⟨some 38, .ext (.tmp 33) 0, none, 0⟩,
    ⟨some 39, .ext (.tmp 33) 1, none, 0⟩,
    ⟨some 11, .mv (.tmp 38), none, 0⟩,
    ⟨some 12, .mv (.tmp 39), none, 0⟩]) <|
  .seq (.seq (.ops [
    ⟨some 40, .mv (.tmp 11), none, 0⟩,
    ⟨some 41, .mv (.tmp 8), none, 0⟩,
    ⟨some 42, .call k_laws_eqInt64SS [(.tmp 40), (.tmp 41)], none, 0⟩,
    ⟨some 43, .un .not (.tmp 42), none, 0⟩,
    ⟨some 44, .mv (.tmp 43), none, 0⟩,
    ⟨some 45, .mv (.tmp 12), some (44, false), 0⟩,
    ⟨some 46, .mv (.tmp 9), some (44, false), 0⟩,
    ⟨some 47, .bin .neq (.tmp 45) (.tmp 46), some (44, false), 0⟩,
    ⟨some 48, .pick (.tmp 44) (.const (.bool true)) (.tmp 47), none, 0⟩]) <|
  .cond (.tmp 48)
    (.seq (.ops [
      ⟨some 6, .mv (.const (.bool false)), none, 0⟩]) <|
    .keep [6] <|
    .ret)
    (.skip)) <|
  .seq (.seq (.dops [
    ⟨some 50, .load true 2 (.tmp 3), none, 0⟩,
    ⟨some 51, .call k_laws_toGraph [(.tmp 50)], none, 0⟩,
    ⟨some 49, .load true 2 (.tmp 10), none, 1⟩,
    ⟨some 52, .call k_laws_eqGraph [(.tmp 49), (.tmp 51)], none, 0⟩,
    ⟨some 53, .un .not (.tmp 52), none, 0⟩]) <|
  .cond (.tmp 53)
    (.seq (.ops [
      ⟨some 6, .mv (.const (.bool false)), none, 0⟩]) <|
    .keep [6] <|
    .ret)
    (.skip)) <|
  .seq (.ops [
    ⟨some 13, .mv (.const (.int .i64 1)), none, 0⟩]) <|
  .seq (.ops [
    ⟨some 54, .load true 2 (.tmp 10), none, 0⟩,
    ⟨some 55, .mv (.tmp 13), none, 0⟩,
    ⟨some 56, .call k_laws_markGraph [(.tmp 54), (.tmp 55)], none, 0⟩,
    ⟨some 13, .mv (.tmp 56), none, 0⟩]) <|
  .seq (.seq (.ops [
    ⟨some 57, .mv (.tmp 13), none, 0⟩,
    ⟨some 58, .bin .lss (.tmp 57) (.const (.int .i64 0)), none, 0⟩,
    ⟨some 59, .mv (.tmp 58), none, 0⟩,
    ⟨some 60, .mv (.tmp 11), some (59, false), 0⟩,
    ⟨some 61, .mv (.tmp 8), some (59, false), 0⟩,
    ⟨some 62, .call k_laws_eqInt64SS [(.tmp 60), (.tmp 61)], some (59, false), 0⟩,
    ⟨some 63, .un .not (.tmp 62), some (59, false), 0⟩,
    ⟨some 64, .pick (.tmp 59) (.const (.bool true)) (.tmp 63), none, 0⟩,
    ⟨some 65, .mv (.tmp 64), none, 0⟩,
    ⟨some 66, .mv (.tmp 12), some (65, false), 0⟩,
    ⟨some 67, .mv (.tmp 9), some (65, false), 0⟩,
    ⟨some 68, .bin .neq (.tmp 66) (.tmp 67), some (65, false), 0⟩,
    ⟨some 69, .pick (.tmp 65) (.const (.bool true)) (.tmp 68), none, 0⟩]) <|
  .cond (.tmp 69)
    (.seq (.ops [
      ⟨some 6, .mv (.const (.bool false)), none, 0⟩]) <|
    .keep [6] <|
    .ret)
    (.skip)) <|
  .seq (.ops [
    ⟨some 14, .mv (.const (.int .i64 1)), none, 0⟩]) <|
  .seq (.ops [
    ⟨some 70, .mv (.tmp 11), none, 0⟩,
    ⟨some 71, .mv (.tmp 14), none, 0⟩,
    ⟨some 72, .call k_laws_markInt64SS [(.tmp 70), (.tmp 71)], none, 0⟩,
    ⟨some 14, .mv (.tmp 72), none, 0⟩]) <|
  .seq (.ops [
    ⟨some 15, .mv (.const (.int .i64 1)), none, 0⟩]) <|
  .seq (.ops [
    ⟨some 73, .mv (.tmp 11), none, 0⟩,
    ⟨some 74, .mv (.tmp 15), none, 0⟩,
    ⟨some 75, .call k_laws_heldInt64SS [(.tmp 73), (.tmp 74)], none, 0⟩,
    ⟨some 15, .mv (.tmp 75), none, 0⟩]) <|
  .seq (.seq (.ops [
    ⟨some 76, .mv (.tmp 15), none, 0⟩,
    ⟨some 77, .bin .lss (.tmp 76) (.const (.int .i64 0)), none, 0⟩]) <|
  .cond (.tmp 77)
    (.seq (.ops [
      ⟨some 6, .mv (.const (.bool false)), none, 0⟩]) <|
    .keep [6] <|
    .ret)
    (.skip)) <|
  .seq (.seq (.ops [
    ⟨some 78, .mv (.tmp 15), none, 0⟩,
    ⟨some 79, .mv (.tmp 14), none, 0⟩,
    ⟨some 80, .bin .neq (.tmp 78) (.tmp 79), none, 0⟩]) <|
  .cond (.tmp 80)
    (.seq (.ops [
      ⟨some 6, .mv (.const (.bool false)), none, 0⟩]) <|
    .keep [6] <|
    .ret)
    (.skip)) <|
  .seq (.ops [
    ⟨some 82, .load true 2 (.tmp 3), none, 0⟩,
    ⟨some 83, .call k_laws_toGraph [(.tmp 82)], none, 0⟩,
    ⟨some 84, .mv (.tmp 1), none, 0⟩,
    ⟨some 85, .mv (.tmp 2), none, 0⟩,
    ⟨some 86, .call k_impl_PairsToJoin [(.tmp 83), (.tmp 84), (.tmp 85)], none, 0⟩,
    ⟨some 81, .mv (.tmp 86), none, 0⟩,
    ⟨some 87, .ext (.tmp 81) 0, none, 0⟩,
    ⟨some 88, .ext (.tmp 81) 1, none, 0⟩,
    ⟨some 16, .mv (.tmp 87), none, 0⟩,
    ⟨some 17, .mv (.tmp 88), none, 0⟩]) <|
  .seq (.seq (.ops [
    ⟨some 89, .mv (.tmp 16), none, 0⟩,
    ⟨some 90, .mv (.tmp 8), none, 0⟩,
    ⟨some 91, .call k_laws_eqInt64SS [(.tmp 89), (.tmp 90)], none, 0⟩,
    ⟨some 92, .un .not (.tmp 91), none, 0⟩,
    ⟨some 93, .mv (.tmp 92), none, 0⟩,
    ⟨some 94, .mv (.tmp 17), some (93, false), 0⟩,
    ⟨some 95, .mv (.tmp 9), some (93, false), 0⟩,
    ⟨some 96, .bin .neq (.tmp 94) (.tmp 95), some (93, false), 0⟩,
    ⟨some 97, .pick (.tmp 93) (.const (.bool true)) (.tmp 96), none, 0⟩]) <|
  .cond (.tmp 97)
    (.seq (.ops [
      ⟨some 6, .mv (.const (.bool false)), none, 0⟩]) <|
    .keep [6] <|
    .ret)
    (.skip)) <|
  .seq (.ops [
    ⟨some 15, .mv (.const (.int .i64 1)), none, 0⟩]) <|
  .seq (.ops [
    ⟨some 98, .mv (.tmp 11), none, 0⟩,
    ⟨some 99, .mv (.tmp 15), none, 0⟩,
    ⟨some 100, .call k_laws_heldInt64SS [(.tmp 98), (.tmp 99)], none, 0⟩,
    ⟨some 15, .mv (.tmp 100), none, 0⟩]) <|
  .seq (.seq (.ops [
    ⟨some 101, .mv (.tmp 15), none, 0⟩,
    ⟨some 102, .bin .lss (.tmp 101) (.const (.int .i64 0)), none, 0⟩]) <|
  .cond (.tmp 102)
    (.seq (.ops [
      ⟨some 6, .mv (.const (.bool false)), none, 0⟩]) <|
    .keep [6] <|
    .ret)
    (.skip)) <|
  .seq (.seq (.ops [
    ⟨some 103, .mv (.tmp 15), none, 0⟩,
    ⟨some 104, .mv (.tmp 14), none, 0⟩,
    ⟨some 105, .bin .neq (.tmp 103) (.tmp 104), none, 0⟩]) <|
  .cond (.tmp 105)
    (.seq (.ops [
      ⟨some 6, .mv (.const (.bool false)), none, 0⟩]) <|
    .keep [6] <|
    .ret)
    (.skip)) <|
  .seq (.ops [
    ⟨some 6, .mv (.const (.bool true)), none, 0⟩]) <|
  .keep [6] <|
  .ret⟩

theorem e_laws_FnExactPairsToJoin : EntOK Tryd.prog (compD Tryd.prog) k_laws_FnExactPairsToJoin i_laws_FnExactPairsToJoin.vf :=
  ⟨Tryd.f10, Tryd.f10.body.getD .skip, Tryd.func10, by kernel_rfl, by kernel_rfl, by kernel_rfl, by kernel_rfl, by kernel_rfl⟩

/-- loop.example/g01331/laws.FnFirstRegular -/
def i_laws_FnFirstRegular : FF := ⟨137, [.tmp 2],
  .seq (.ops [
    ⟨some 2, .mv (.const (.bool false)), none, 0⟩]) <|
  .seq (.seq (.ops [
    ⟨some 24, .mv (.tmp 0), none, 0⟩,
    ⟨some 25, .call k_laws_big [(.tmp 24)], none, 0⟩]) <|
  .cond (.tmp 25)
    (.seq (.ops [
      ⟨some 2, .mv (.const (.bool true)), none, 0⟩]) <|
    .keep [2] <|
    .ret)
    (.skip)) <|
  .seq (.ops [
    ⟨some 27, .mv (.tmp 0), none, 0⟩,
    ⟨some 28, .call k_spec_DrawFirstRegular [(.tmp 27)], none, 0⟩,
    ⟨some 26, .mv (.tmp 28), none, 0⟩,
    ⟨some 29, .ext (.tmp 26) 0, none, 0⟩,
    ⟨some 30, .ext (.tmp 26) 1, none, 0⟩,
    ⟨some 31, .ext (.tmp 26) 2, none, 0⟩,
    ⟨some 3, .mv (.tmp 29), none, 0⟩,
    ⟨some 4, .mv (.tmp 30), none, 0⟩,
    ⟨some 5, .mv (.tmp 31), none, 0⟩]) <|
  .seq (.ops [
    ⟨some 33, .mv (.tmp 3), none, 0⟩,
    ⟨some 34, .mv (.tmp 4), none, 0⟩,
    ⟨some 35, .mv (.tmp 5), none, 0⟩,
    ⟨some 36, .call k_impl_FirstRegular [(.tmp 33), (.tmp 34), (.tmp 35)], none, 0⟩,
    ⟨some 32, .mv (.tmp 36), none, 0⟩,
    ⟨some 37, .ext (.tmp 32) 0, none, 0⟩,
    ⟨some 38, .ext (.tmp 32) 1, none, 0⟩,
    ⟨some 6, .alloc [.int .i64 0, .slice none 0 0], none, 0⟩,
    ⟨none, .store 2 (.tmp 6) (.tmp 37), none, 0⟩,
    ⟨some 7, .mv (.tmp 38), none, 0⟩]) <|
  .seq (.ops [
    ⟨some 40, .mv (.tmp 3), none, 0⟩,
    ⟨some 41, .mv (.tmp 4), none, 0⟩,
    ⟨some 42, .mv (.tmp 5), none, 0⟩,
    ⟨some 43, .call k_spec_FirstRegular [(.tmp 40), (.tmp 41), (.tmp 42)], none, 0⟩,
    ⟨some 39, .mv (.tmp 43), none, 0⟩,
    ⟨some 44, .ext (.tmp 39) 0, none, 0⟩,
    ⟨some 45, .ext (.tmp 39) 1, none, 0⟩,
    ⟨some 8, .alloc [.int .i64 0, .slice none 0 0], none, 0⟩,
    ⟨none, .store 2 (.tmp 8) (.tmp 44), none, 0⟩,
    ⟨some 9, .mv (.tmp 45), none, 0⟩]) <|
  .seq (.seq (.ops [
    ⟨some 46, .mv (.tmp 7), none, 0⟩,
    ⟨some 47, .mv (.tmp 9), none, 0⟩,
    ⟨some 48, .bin .neq (.tmp 46) (.tmp 47), none, 0⟩,
    ⟨some 49, .mv (.tmp 48), none, 0⟩,
    ⟨some 50, .load true 2 (.tmp 6), some (49, false), 0⟩,
    ⟨some 51, .load true 2 (.tmp 8), some (49, false), 0⟩,
    ⟨some 52, .call k_laws_graphs5 [(.tmp 50), (.tmp 51)], some (49, false), 0⟩,
    ⟨some 53, .un .not (.tmp 52), some (49, false), 0⟩,
    ⟨some 54, .pick (.tmp 49) (.const (.bool true)) (.tmp 53), none, 0⟩]) <|
  .cond (.tmp 54)
    (.seq (.ops [
      ⟨some 2, .mv (.const (.bool false)), none, 0⟩]) <|
    .keep [2] <|
    .ret)
    (.skip)) <|
  .seq (.seq (.ops [
    ⟨some 55, .mv (.tmp 7), none, 0⟩,
    ⟨some 56, .bin .eql (.tmp 55) (.const (.int .i64 0)), none, 0⟩]) <|
  .cond (.tmp 56)
    (.seq (.ops [
      ⟨some 58, .load true 2 (.tmp 6), none, 0⟩,
      ⟨some 59, .call k_impl_RegularDegree [(.tmp 58)], none, 0⟩,
      ⟨some 57, .mv (.tmp 59), none, 0⟩,
      ⟨some 60, .ext (.tmp 57) 0, none, 0⟩,
      ⟨some 61, .ext (.tmp 57) 1, none, 0⟩,
      ⟨some 10, .mv (.tmp 60), none, 0⟩,
      ⟨some 11, .mv (.tmp 61), none, 0⟩]) <|
    .seq (.ops [
      ⟨some 63, .load true 2 (.tmp 6), none, 0⟩,
      ⟨some 64, .mv (.tmp 4), none, 0⟩,
      ⟨some 65, .mv (.tmp 5), none, 0⟩,
      ⟨some 66, .call k_impl_FitsBoth [(.tmp 63), (.tmp 64), (.tmp 65)], none, 0⟩,
      ⟨some 62, .mv (.tmp 66), none, 0⟩,
      ⟨some 67, .ext (.tmp 62) 0, none, 0⟩,
      ⟨some 68, .ext (.tmp 62) 1, none, 0⟩,
      ⟨some 12, .mv (.tmp 67), none, 0⟩,
      ⟨some 13, .mv (.tmp 68), none, 0⟩]) <|
    .seq (.ops [
      ⟨some 69, .mv (.tmp 11), none, 0⟩,
      ⟨some 70, .bin .neq (.tmp 69) (.const (.int .i64 0)), none, 0⟩,
      ⟨some 71, .mv (.tmp 70), none, 0⟩,
      ⟨some 72, .mv (.tmp 13), some (71, false), 0⟩,
      ⟨some 73, .bin .neq (.tmp 72) (.const (.int .i64 0)), some (71, false), 0⟩,
      ⟨some 74, .pick (.tmp 71) (.const (.bool true)) (.tmp 73), none, 0⟩,
      ⟨some 75, .mv (.tmp 74), none, 0⟩,
      ⟨some 76, .mv (.tmp 10), some (75, false), 0⟩,
      ⟨some 77, .mv (.tmp 4), some (75, false), 0⟩,
      ⟨some 78, .bin .neq (.tmp 76) (.tmp 77), some (75, false), 0⟩,
      ⟨some 79, .pick (.tmp 75) (.const (.bool true)) (.tmp 78), none, 0⟩,
      ⟨some 80, .mv (.tmp 79), none, 0⟩,
      ⟨some 81, .mv (.tmp 12), some (80, false), 0⟩,
      ⟨some 82, .un .not (.tmp 81), some (80, false), 0⟩,
      ⟨some 83, .pick (.tmp 80) (.const (.bool true)) (.tmp 82), none, 0⟩]) <|
    .cond (.tmp 83)
      (.seq (.ops [
        ⟨some 2, .mv (.const (.bool false)), none, 0⟩]) <|
      .keep [2] <|
      .ret)
      (.skip))
    (.skip)) <|
  .seq (.ops [
    ⟨some 85, .mv (.tmp 0), none, 0⟩,
    ⟨some 86, .call k_spec_DrawLeastVertices [(.tmp 85)], none, 0⟩,
    ⟨some 84, .mv (.tmp 86), none, 0⟩,
    ⟨some 87, .ext (.tmp 84) 0, none, 0⟩,
    ⟨some 88, .ext (.tmp 84) 1, none, 0⟩,
    ⟨some 14, .mv (.tmp 87), none, 0⟩,
    ⟨some 15, .mv (.tmp 88), none, 0⟩]) <|
  .seq (.ops [
    ⟨some 90, .mv (.tmp 14), none, 0⟩,
    ⟨some 91, .mv (.tmp 15), none, 0⟩,
    ⟨some 92, .call k_impl_LeastVertices [(.tmp 90), (.tmp 91)], none, 0⟩,
    ⟨some 89, .mv (.tmp 92), none, 0⟩,
    ⟨some 93, .ext (.tmp 89) 0, none, 0⟩,
    ⟨some 94, .ext (.tmp 89) 1, none, 0⟩,
    ⟨some 16, .mv (.tmp 93), none, 0⟩,
    ⟨some 17, .mv (.tmp 94), none, 0⟩]) <|
  .seq (.ops [
    ⟨some 96, .mv (.tmp 14), none, 0⟩,
    ⟨some 97, .mv (.tmp 15), none, 0⟩,
    ⟨some 98, .call k_spec_LeastVertices [(.tmp 96), (.tmp 97)], none, 0⟩,
    ⟨some 95, .mv (.tmp 98), none, 0⟩,
    ⟨some 99, .ext (.tmp 95) 0, none, 0⟩,
    ⟨some 100, .ext (.tmp 95) 1, none, 0⟩,
    ⟨some 18, .mv (.tmp 99), none, 0⟩,
    ⟨some 19, .mv (.tmp 100), none, 0⟩]) <|
  .seq (.seq (.ops [
    ⟨some 101, .mv (.tmp 17), none, 0⟩,
    ⟨some 102, .mv (.tmp 19), none, 0⟩,
    ⟨some 103, .bin .neq (.tmp 101) (.tmp 102), none, 0⟩,
    ⟨some 104, .mv (.tmp 103), none, 0⟩,
    ⟨some 105, .mv (.tmp 16), some (104, false), 0⟩,
    ⟨some 106, .mv (.tmp 18), some (104, false), 0⟩,
    ⟨some 107, .bin .neq (.tmp 105) (.tmp 106), some (104, false), 0⟩,
    ⟨some 108, .pick (.tmp 104) (.const (.bool true)) (.tmp 107), none, 0⟩]) <|
  .cond (.tmp 108)
    (.seq (.ops [
      ⟨some 2, .mv (.const (.bool false)), none, 0⟩]) <|
    .keep [2] <|
    .ret)
    (.skip)) <|
  .seq (.seq (.ops [
    ⟨some 109, .mv (.tmp 17), none, 0⟩,
    ⟨some 110, .bin .eql (.tmp 109) (.const (.int .i64 0)), none, 0⟩]) <|
  .cond (.tmp 110)
    (.seq (.ops [
      ⟨some 112, .mv (.tmp 16), none, 0⟩,
      ⟨some 113, .mv (.tmp 14), none, 0⟩,
      ⟨some 114, .mv (.tmp 15), none, 0⟩,
      ⟨some 115, .call k_impl_FirstRegular [(.tmp 112), (.tmp 113), (.tmp 114)], none, 0⟩,
      ⟨some 111, .mv (.tmp 115), none, 0⟩,
      ⟨some 116, .ext (.tmp 111) 0, none, 0⟩,
      ⟨some 117, .ext (.tmp 111) 1, none, 0⟩,
      ⟨some 20, .alloc [.int .i64 0, .slice none 0 0], none, 0⟩,
      ⟨none, .store 2 (.tmp 20) (.tmp 116), none, 0⟩,
      ⟨some 21, .mv (.tmp 117), none, 0⟩]) <|
    .seq (.seq (.ops [
      ⟨some 118, .mv (.tmp 21), none, 0⟩,
      ⟨some 119, .bin .neq (.tmp 118) (.const (.int .i64 0)), none, 0⟩,
      ⟨some 120, .mv (.tmp 119), none, 0⟩,
      ⟨some 121, .mv (.tmp 16), some (120, false), 0⟩,
      ⟨some 122, .mv (.tmp 14), some (120, false), 0⟩,
      ⟨some 123, .bin .leq (.tmp 121) (.tmp 122), some (120, false), 0⟩,
      ⟨some 124, .pick (.tmp 120) (.const (.bool true)) (.tmp 123), none, 0⟩]) <|
    .cond (.tmp 124)
      (.seq (.ops [
        ⟨some 2, .mv (.const (.bool false)), none, 0⟩]) <|
      .keep [2] <|
      .ret)
      (.skip)) <|
    .seq (.ops [
      ⟨some 125, .mv (.tmp 16), none, 0⟩,
      ⟨some 126, .bin .gtr (.tmp 125) (.const (.int .i64 1)), none, 0⟩]) <|
    .cond (.tmp 126)
      (.seq (.ops [
        ⟨some 128, .mv (.tmp 16), none, 0⟩,
        ⟨some 129, .bin .sub (.tmp 128) (.const (.int .i64 1)), none, 0⟩,
        ⟨some 130, .mv (.tmp 14), none, 0⟩,
        ⟨some 131, .mv (.tmp 15), none, 0⟩,
        ⟨some 132, .call k_impl_FirstRegular [(.tmp 129), (.tmp 130), (.tmp 131)], none, 0⟩,
        ⟨some 127, .mv (.tmp 132), none, 0⟩,
        ⟨some 133, .ext (.tmp 127) 0, none, 0⟩,
        ⟨some 134, .ext (.tmp 127) 1, none, 0⟩,
        ⟨some 22, .alloc [.int .i64 0, .slice none 0 0], none, 0⟩,
        ⟨none, .store 2 (.tmp 22) (.tmp 133), none, 0⟩,
        ⟨some 23, .mv (.tmp 134), none, 0⟩]) <|
      .seq (.ops [
        ⟨some 135, .mv (.tmp 23), none, 0⟩,
        ⟨some 136, .bin .neq (.tmp 135) (.const (.int .i64 4)), none, 0⟩]) <|
      .cond (.tmp 136)
        (.seq (.ops [
          ⟨some 2, .mv (.const (.bool false)), none, 0⟩]) <|
        .keep [2] <|
        .ret)
        (.skip))
      (.skip))
    (.skip)) <|
  .seq (.ops [
    ⟨some 2, .mv (.const (.bool true)), none, 0⟩]) <|
  .keep [2] <|
  .ret⟩

theorem e_laws_FnFirstRegular : EntOK Tryd.prog (compD Tryd.prog) k_laws_FnFirstRegular i_laws_FnFirstRegular.vf :=
  ⟨Tryd.f11, Tryd.f11.body.getD .skip, Tryd.func11, by kernel_rfl, by kernel_rfl, by kernel_rfl, by kernel_rfl, by kernel_rfl⟩

/-- loop.example/g01331/spec.GreedyGraph -/
def i_spec_GreedyGraph : FF := ⟨23, [.cell 6 true 2, .tmp 7],
  .seq (.ops [
    ⟨some 6, .alloc [.int .i64 0, .slice none 0 0], none, 0⟩,
    ⟨some 7, .mv (.const (.int .i64 0)), none, 0⟩]) <|
  .seq (.seq (.ops [
    ⟨some 8, .mv (.tmp 0), none, 0⟩,
    ⟨some 9, .call k_spec_l01In [(.tmp 8), (.const (.int .i64 1)), (.const (.int .i64 62))], none, 0⟩,
    ⟨some 10, .un .not (.tmp 9), none, 0⟩,
    ⟨some 11, .mv (.tmp 10), none, 0⟩,
    ⟨some 12, .mv (.tmp 1), some (11, false), 0⟩,
    ⟨some 13, .mv (.tmp 2), some (11, false), 0⟩,
    ⟨some 14, .call k_spec_l07Numbers [(.tmp 12), (.tmp 13)], some (11, false), 0⟩,
    ⟨some 15, .un .not (.tmp 14), some (11, false), 0⟩,
    ⟨some 16, .pick (.tmp 11) (.const (.bool true)) (.tmp 15), none, 0⟩]) <|
  .cond (.tmp 16)
    (.seq (.ops [
      ⟨some 17, .build [.int .i64 0, .slice none 0 0] [], none, 0⟩,
      ⟨none, .store 2 (.tmp 6) (.tmp 17), none, 0⟩,
      ⟨some 7, .mv (.const (.int .i64 2)), none, 0⟩]) <|
    .keep [6, 7] <|
    .ret)
    (.skip)) <|
  .seq (.ops [
    ⟨some 18, .mv (.tmp 0), none, 0⟩,
    ⟨some 19, .call k_spec_l01Empty [(.tmp 18)], none, 0⟩,
    ⟨some 20, .mv (.tmp 1), none, 0⟩,
    ⟨some 21, .mv (.tmp 2), none, 0⟩,
    ⟨some 22, .call k_spec_l07Fill [(.tmp 19), (.tmp 20), (.tmp 21)], none, 0⟩,
    ⟨none, .store 2 (.tmp 6) (.tmp 22), none, 0⟩,
    ⟨some 7, .mv (.const (.int .i64 0)), none, 0⟩]) <|
  .keep [6, 7] <|
  .ret⟩

theorem e_spec_GreedyGraph : EntOK Tryd.prog (compD Tryd.prog) k_spec_GreedyGraph i_spec_GreedyGraph.vf :=
  ⟨Tryd.f12, Tryd.f12.body.getD .skip, Tryd.func12, by kernel_rfl, by kernel_rfl, by kernel_rfl, by kernel_rfl, by kernel_rfl⟩

/-- loop.example/g01331/impl.GreedyGraph -/
def i_impl_GreedyGraph : FF := ⟨26, [.cell 6 true 2, .tmp 7],
  .seq (.ops [
    ⟨some 6, .alloc [.int .i64 0, .slice none 0 0], none, 0⟩,
    ⟨some 7, .mv (.const (.int .i64 0)), none, 0⟩]) <|
  .seq (.seq (.ops [
    ⟨some 8, .mv (.tmp 0), none, 0⟩,
    ⟨some 9, .bin .lss (.tmp 8) (.const (.int .i64 1)), none, 0⟩,
    ⟨some 10, .mv (.tmp 9), none, 0⟩,
    ⟨some 11, .mv (.tmp 0), some (10, false), 0⟩,
    ⟨some 12, .bin .gtr (.tmp 11) (.const (.int .i64 62)), some (10, false), 0⟩,
    ⟨some 13, .pick (.tmp 10) (.const (.bool true)) (.tmp 12), none, 0⟩,
    ⟨some 14, .mv (.tmp 13), none, 0⟩,
    ⟨some 15, .mv (.tmp 1), some (14, false), 0⟩,
    ⟨some 16, .mv (.tmp 2), some (14, false), 0⟩,
    ⟨some 17, .call k_impl_isBoth [(.tmp 15), (.tmp 16)], some (14, false), 0⟩,
    ⟨some 18, .un .not (.tmp 17), some (14, false), 0⟩,
    ⟨some 19, .pick (.tmp 14) (.const (.bool true)) (.tmp 18), none, 0⟩]) <|
  .cond (.tmp 19)
    (.seq (.ops [
      ⟨some 20, .build [.int .i64 0, .slice none 0 0] [], none, 0⟩,
      ⟨none, .store 2 (.tmp 6) (.tmp 20), none, 0⟩,
      ⟨some 7, .mv (.const (.int .i64 2)), none, 0⟩]) <|
    .keep [6, 7] <|
    .ret)
    (.skip)) <|
  .seq (.ops [
    ⟨some 21, .mv (.tmp 0), none, 0⟩,
    ⟨some 22, .call k_impl_empty [(.tmp 21)], none, 0⟩,
    ⟨some 23, .mv (.tmp 1), none, 0⟩,
    ⟨some 24, .mv (.tmp 2), none, 0⟩,
    ⟨some 25, .call k_impl_filled [(.tmp 22), (.tmp 23), (.tmp 24)], none, 0⟩,
    ⟨none, .store 2 (.tmp 6) (.tmp 25), none, 0⟩,
    ⟨some 7, .mv (.const (.int .i64 0)), none, 0⟩]) <|
  .keep [6, 7] <|
  .ret⟩

theorem e_impl_GreedyGraph : EntOK Tryd.prog (compD Tryd.prog) k_impl_GreedyGraph i_impl_GreedyGraph.vf :=
  ⟨Tryd.f13, Tryd.f13.body.getD .skip, Tryd.func13, by kernel_rfl, by kernel_rfl, by kernel_rfl, by kernel_rfl, by kernel_rfl⟩

/-- loop.example/g01331/laws.eqGraph -/
def i_laws_eqGraph : FF := ⟨16, [.tmp 4],
  .seq (.ops [
    ⟨some 2, .box 2 (.tmp 0), none, 0⟩,
    ⟨some 3, .box 2 (.tmp 1), none, 0⟩,
    ⟨some 4, .mv (.const (.bool false)), none, 0⟩]) <|
  .seq (.seq (.ops [
    ⟨some 5, .fld 0 (.tmp 2), none, 0⟩,
    ⟨some 6, .load false 1 (.tmp 5), none, 0⟩,
    ⟨some 7, .fld 0 (.tmp 3), none, 0⟩,
    ⟨some 8, .load false 1 (.tmp 7), none, 0⟩,
    ⟨some 9, .bin .neq (.tmp 6) (.tmp 8), none, 0⟩]) <|
  .cond (.tmp 9)
    (.seq (.ops [
      ⟨some 4, .mv (.const (.bool false)), none, 0⟩]) <|
    .keep [4] <|
    .ret)
    (.skip)) <|
  .seq (.seq (.ops [
    ⟨some 10, .fld 1 (.tmp 2), none, 0⟩,
    ⟨some 11, .load false 1 (.tmp 10), none, 0⟩,
    ⟨some 12, .fld 1 (.tmp 3), none, 0⟩,
    ⟨some 13, .load false 1 (.tmp 12), none, 0⟩,
    ⟨some 14, .call k_laws_eqInt64S [(.tmp 11), (.tmp 13)], none, 0⟩,
    ⟨some 15, .un .not (.tmp 14), none, 0⟩]) <|
  .cond (.tmp 15)
    (.seq (.ops [
      ⟨some 4, .mv (.const (.bool false)), none, 0⟩]) <|
    .keep [4] <|
    .ret)
    (.skip)) <|
  .seq (.ops [
    ⟨some 4, .mv (.const (.bool true)), none, 0⟩]) <|
  .keep [4] <|
  .ret⟩

theorem e_laws_eqGraph : EntOK Tryd.prog (compD Tryd.prog) k_laws_eqGraph i_laws_eqGraph.vf :=
  ⟨Tryd.f14, Tryd.f14.body.getD .skip, Tryd.func14, by kernel_rfl, by kernel_rfl, by kernel_rfl, by kernel_rfl, by kernel_rfl⟩

/-- loop.example/g01331/laws.markGraph -/
def i_laws_markGraph : FF := ⟨10, [.tmp 4],
  .seq (.ops [
    ⟨some 2, .box 2 (.tmp 0), none, 0⟩,
    ⟨some 4, .mv (.const (.int .i64 0)), none, 0⟩]) <|
  .seq (.ops [
    ⟨some 5, .fld 1 (.tmp 2), none, 0⟩,
    ⟨some 6, .load false 1 (.tmp 5), none, 0⟩,
    ⟨some 7, .mv (.tmp 1), none, 0⟩,
    ⟨some 8, .call k_laws_markInt64S [(.tmp 6), (.tmp 7)], none, 0⟩,
    ⟨some 1, .mv (.tmp 8), none, 0⟩]) <|
  .seq (.ops [
    ⟨some 9, .mv (.tmp 1), none, 0⟩,
    ⟨some 4, .mv (.tmp 9), none, 0⟩]) <|
  .keep [4] <|
  .ret⟩

theorem e_laws_markGraph : EntOK Tryd.prog (compD Tryd.prog) k_laws_markGraph i_laws_markGraph.vf :=
  ⟨Tryd.f15, Tryd.f15.body.getD .skip, Tryd.func15, by kernel_rfl, by kernel_rfl, by kernel_rfl, by kernel_rfl, by kernel_rfl⟩

/-- loop.example/g01331/laws.heldGraph -/
def i_laws_heldGraph : FF := ⟨12, [.tmp 4],
  .seq (.ops [
    ⟨some 2, .box 2 (.tmp 0), none, 0⟩,
    ⟨some 4, .mv (.const (.int .i64 0)), none, 0⟩]) <|
  .seq (.ops [
    ⟨some 5, .fld 1 (.tmp 2), none, 0⟩,
    ⟨some 6, .load false 1 (.tmp 5), none, 0⟩,
    ⟨some 7, .mv (.tmp 1), none, 0⟩,
    ⟨some 8, .call k_laws_heldInt64S [(.tmp 6), (.tmp 7)], none, 0⟩,
    ⟨some 1, .mv (.tmp 8), none, 0⟩]) <|
  .seq (.seq (.ops [
    ⟨some 9, .mv (.tmp 1), none, 0⟩,
    ⟨some 10, .bin .lss (.tmp 9) (.const (.int .i64 0)), none, 0⟩]) <|
  .cond (.tmp 10)
    (.seq (.ops [
      ⟨some 4, .mv (.const (.int .i64 (-1))), none, 0⟩]) <|
    .keep [4] <|
    .ret)
    (.skip)) <|
  .seq (.ops [
    ⟨some 11, .mv (.tmp 1), none, 0⟩,
    ⟨some 4, .mv (.tmp 11), none, 0⟩]) <|
  .keep [4] <|
  .ret⟩

theorem e_laws_heldGraph : EntOK Tryd.prog (compD Tryd.prog) k_laws_heldGraph i_laws_heldGraph.vf :=
  ⟨Tryd.f16, Tryd.f16.body.getD .skip, Tryd.func16, by kernel_rfl, by kernel_rfl, by kernel_rfl, by kernel_rfl, by kernel_rfl⟩

/-- loop.example/g01331/spec.LeastVertices -/
def i_spec_LeastVertices_B1 : FC :=
  .seq (.seq (.ops [
    ⟨some 13, .mv (.tmp 6), none, 0⟩,
    ⟨some 14, .bin .leq (.tmp 13) (.const (.int .i64 10)), none, 0⟩]) <|
  .cond (.tmp 14)
    (.skip)
    (.keep [] <|
    .exit 0)) <|
  .seq (.block 1 <|
  .seq (.ops [
    ⟨some 18, .mv (.tmp 6), none, 0⟩,
    ⟨some 19, .mv (.tmp 0), none, 0⟩,
    ⟨some 20, .mv (.tmp 1), none, 0⟩,
    ⟨some 21, .call k_spec_l07First [(.tmp 18), (.tmp 19), (.tmp 20)], none, 0⟩,
    ⟨some 17, .mv (.tmp 21), none, 0⟩,
    ⟨some 22, .ext (.tmp 17) 0, none, 0⟩,
    ⟨some 23, .ext (.tmp 17) 1, none, 0⟩,
    ⟨some 7, .alloc [.int .i64 0, .slice none 0 0], none, 0⟩,
    ⟨none, .store 2 (.tmp 7) (.tmp 22), none, 0⟩,
    ⟨some 8, .mv (.tmp 23), none, 0⟩]) <|
  .seq (.ops [
    ⟨some 24, .mv (.tmp 8), none, 0⟩]) <|
  .cond (.tmp 24)
    (.seq (.ops [
      ⟨some 25, .mv (.tmp 6), none, 0⟩,
      ⟨some 4, .mv (.tmp 25), none, 0⟩,
      ⟨some 5, .mv (.const (.int .i64 0)), none, 0⟩]) <|
    .keep [4, 5] <|
    .ret)
    (.skip)) <|
  .ops [
    ⟨some 15, .mv (.tmp 6), none, 0⟩,
    ⟨some 16, .bin .add (.tmp 15) (.const (.int .i64 1)), none, 0⟩,
    ⟨some 6, .mv (.tmp 16), none, 0⟩]
def i_spec_LeastVertices : FF := ⟨26, [.tmp 4, .tmp 5],
  .seq (.ops [
    ⟨some 4, .mv (.const (.int .i64 0)), none, 0⟩,
    ⟨some 5, .mv (.const (.int .i64 0)), none, 0⟩]) <|
  .seq (.seq (.ops [
    ⟨some 9, .mv (.tmp 0), none, 0⟩,
    ⟨some 10, .mv (.tmp 1), none, 0⟩,
    ⟨some 11, .call k_spec_l07Numbers [(.tmp 9), (.tmp 10)], none, 0⟩,
    ⟨some 12, .un .not (.tmp 11), none, 0⟩]) <|
  .cond (.tmp 12)
    (.seq (.ops [
      ⟨some 4, .mv (.const (.int .i64 0)), none, 0⟩,
      ⟨some 5, .mv (.const (.int .i64 2)), none, 0⟩]) <|
    .keep [4, 5] <|
    .ret)
    (.skip)) <|
  .seq (.seq (.ops [
    ⟨some 6, .mv (.const (.int .i64 1)), none, 0⟩]) <|
  .block 0 <|
  .loop [0, 1, 6] i_spec_LeastVertices_B1) <|
  .seq (.ops [
    ⟨some 4, .mv (.const (.int .i64 0)), none, 0⟩,
    ⟨some 5, .mv (.const (.int .i64 4)), none, 0⟩]) <|
  .keep [4, 5] <|
  .ret⟩

theorem e_spec_LeastVertices : EntOK Tryd.prog (compD Tryd.prog) k_spec_LeastVertices i_spec_LeastVertices.vf :=
  ⟨Tryd.f17, Tryd.f17.body.getD .skip, Tryd.func17, by kernel_rfl, by kernel_rfl, by kernel_rfl, by kernel_rfl, by kernel_rfl⟩

/-- loop.example/g01331/impl.LeastVertices -/
def i_impl_LeastVertices_B1 : FC :=
  .seq (.seq (.ops [
    ⟨some 13, .mv (.tmp 6), none, 0⟩,
    ⟨some 14, .bin .leq (.tmp 13) (.const (.int .i64 10)), none, 0⟩]) <|
  .cond (.tmp 14)
    (.skip)
    (.keep [] <|
    .exit 0)) <|
  .seq (.block 1 <|
  .seq (.ops [
    ⟨some 18, .mv (.tmp 6), none, 0⟩,
    ⟨some 19, .mv (.tmp 0), none, 0⟩,
    ⟨some 20, .mv (.tmp 1), none, 0⟩,
    ⟨some 21, .call k_impl_firstRegular [(.tmp 18), (.tmp 19), (.tmp 20)], none, 0⟩,
    ⟨some 17, .mv (.tmp 21), none, 0⟩,
    ⟨some 22, .ext (.tmp 17) 0, none, 0⟩,
    ⟨some 23, .ext (.tmp 17) 1, none, 0⟩,
    ⟨some 7, .alloc [.int .i64 0, .slice none 0 0], none, 0⟩,
    ⟨none, .store 2 (.tmp 7) (.tmp 22), none, 0⟩,
    ⟨some 8, .mv (.tmp 23), none, 0⟩]) <|
  .seq (.ops [
    ⟨some 24, .mv (.tmp 8), none, 0⟩]) <|
  .cond (.tmp 24)
    (.seq (.ops [
      ⟨some 25, .mv (.tmp 6), none, 0⟩,
      ⟨some 4, .mv (.tmp 25), none, 0⟩,
      ⟨some 5, .mv (.const (.int .i64 0)), none, 0⟩]) <|
    .keep [4, 5] <|
    .ret)
    (.skip)) <|
  .ops [
    ⟨some 15, .mv (.tmp 6), none, 0⟩,
    ⟨some 16, .bin .add (.tmp 15) (.const (.int .i64 1)), none, 0⟩,
    ⟨some 6, .mv (.tmp 16), none, 0⟩]
def i_impl_LeastVertices : FF := ⟨26, [.tmp 4, .tmp 5],
  .seq (.ops [
    ⟨some 4, .mv (.const (.int .i64 0)), none, 0⟩,
    ⟨some 5, .mv (.const (.int .i64 0)), none, 0⟩]) <|
  .seq (.seq (.ops [
    ⟨some 9, .mv (.tmp 0), none, 0⟩,
    ⟨some 10, .mv (.tmp 1), none, 0⟩,
    ⟨some 11, .call k_impl_isBoth [(.tmp 9), (.tmp 10)], none, 0⟩,
    ⟨some 12, .un .not (.tmp 11), none, 0⟩]) <|
  .cond (.tmp 12)
    (.seq (.ops [
      ⟨some 4, .mv (.const (.int .i64 0)), none, 0⟩,
      ⟨some 5, .mv (.const (.int .i64 2)), none, 0⟩]) <|
    .keep [4, 5] <|
    .ret)
    (.skip)) <|
  .seq (.seq (.ops [
    ⟨some 6, .mv (.const (.int .i64 1)), none, 0⟩]) <|
  .block 0 <|
  .loop [0, 1, 6] i_impl_LeastVertices_B1) <|
  .seq (.ops [
    ⟨some 4, .mv (.const (.int .i64 0)), none, 0⟩,
    ⟨some 5, .mv (.const (.int .i64 4)), none, 0⟩]) <|
  .keep [4, 5] <|
  .ret⟩

theorem e_impl_LeastVertices : EntOK Tryd.prog (compD Tryd.prog) k_impl_LeastVertices i_impl_LeastVertices.vf :=
  ⟨Tryd.f18, Tryd.f18.body.getD .skip, Tryd.func18, by kernel_rfl, by kernel_rfl, by kernel_rfl, by kernel_rfl, by kernel_rfl⟩

/-- loop.example/g01331/spec.FirstRegular -/
def i_spec_FirstRegular : FF := ⟨31, [.cell 6 true 2, .tmp 7],
  .seq (.ops [
    ⟨some 6, .alloc [.int .i64 0, .slice none 0 0], none, 0⟩,
    ⟨some 7, .mv (.const (.int .i64 0)), none, 0⟩]) <|
  .seq (.seq (.ops [
    ⟨some 10, .mv (.tmp 0), none, 0⟩,
    ⟨some 11, .call k_spec_l01In [(.tmp 10), (.const (.int .i64 1)), (.const (.int .i64 10))], none, 0⟩,
    ⟨some 12, .un .not (.tmp 11), none, 0⟩,
    ⟨some 13, .mv (.tmp 12), none, 0⟩,
    ⟨some 14, .mv (.tmp 1), some (13, false), 0⟩,
    ⟨some 15, .mv (.tmp 2), some (13, false), 0⟩,
    ⟨some 16, .call k_spec_l07Numbers [(.tmp 14), (.tmp 15)], some (13, false), 0⟩,
    ⟨some 17, .un .not (.tmp 16), some (13, false), 0⟩,
    ⟨some 18, .pick (.tmp 13) (.const (.bool true)) (.tmp 17), none, 0⟩]) <|
  .cond (.tmp 18)
    (.seq (.ops [
      ⟨some 19, .build [.int .i64 0, .slice none 0 0] [], none, 0⟩,
      ⟨none, .store 2 (.tmp 6) (.tmp 19), none, 0⟩,
      ⟨some 7, .mv (.const (.int .i64 2)), none, 0⟩]) <|
    .keep [6, 7] <|
    .ret)
    (.skip)) <|
  .seq (.ops [
    ⟨some 21, .mv (.tmp 0), none, 0⟩,
    ⟨some 22, .mv (.tmp 1), none, 0⟩,
    ⟨some 23, .mv (.tmp 2), none, 0⟩,
    ⟨some 24, .call k_spec_l07First [(.tmp 21), (.tmp 22), (.tmp 23)], none, 0⟩,
    ⟨some 20, .mv (.tmp 24), none, 0⟩,
    ⟨some 25, .ext (.tmp 20) 0, none, 0⟩,
    ⟨some 26, .ext (.tmp 20) 1, none, 0⟩,
    ⟨some 8, .alloc [.int .i64 0, .slice none 0 0], none, 0⟩,
    ⟨none, .store 2 (.tmp 8) (.tmp 25), none, 0⟩,
    ⟨some 9, .mv (.tmp 26), none, 0⟩]) <|
  .seq (.seq (.ops [
    ⟨some 27, .mv (.tmp 9), none, 0⟩,
    ⟨some 28, .un .not (.tmp 27), none, 0⟩]) <|
  .cond (.tmp 28)
    (.seq (.ops [
      ⟨some 29, .build [.int .i64 0, .slice none 0 0] [], none, 0⟩,
      ⟨none, .store 2 (.tmp 6) (.tmp 29), none, 0⟩,
      ⟨some 7, .mv (.const (.int .i64 4)), none, 0⟩]) <|
    .keep [6, 7] <|
    .ret)
    (.skip)) <|
  .seq (.ops [
    ⟨some 30, .load true 2 (.tmp 8), none, 0⟩,
    ⟨none, .store 2 (.tmp 6) (.tmp 30), none, 0⟩,
    ⟨some 7, .mv (.const (.int .i64 0)), none, 0⟩]) <|
  .keep [6, 7] <|
  .ret⟩

theorem e_spec_FirstRegular : EntOK Tryd.prog (compD Tryd.prog) k_spec_FirstRegular i_spec_FirstRegular.vf :=
  ⟨Tryd.f19, Tryd.f19.body.getD .skip, Tryd.func19, by kernel_rfl, by kernel_rfl, by kernel_rfl, by kernel_rfl, by kernel_rfl⟩

/-- loop.example/g01331/impl.FirstRegular -/
def i_impl_FirstRegular : FF := ⟨34, [.cell 6 true 2, .tmp 7],
  .seq (.ops [
    ⟨some 6, .alloc [.int .i64 0, .slice none 0 0], none, 0⟩,
    ⟨some 7, .mv (.const (.int .i64 0)), none, 0⟩]) <|
  .seq (.seq (.ops [
    ⟨some 10, .mv (.tmp 0), none, 0⟩,
    ⟨some 11, .bin .lss (.tmp 10) (.const (.int .i64 1)), none, 0⟩,
    ⟨some 12, .mv (.tmp 11), none, 0⟩,
    ⟨some 13, .mv (.tmp 0), some (12, false), 0⟩,
    ⟨some 14, .bin .gtr (.tmp 13) (.const (.int .i64 10)), some (12, false), 0⟩,
    ⟨some 15, .pick (.tmp 12) (.const (.bool true)) (.tmp 14), none, 0⟩,
    ⟨some 16, .mv (.tmp 15), none, 0⟩,
    ⟨some 17, .mv (.tmp 1), some (16, false), 0⟩,
    ⟨some 18, .mv (.tmp 2), some (16, false), 0⟩,
    ⟨some 19, .call k_impl_isBoth [(.tmp 17), (.tmp 18)], some (16, false), 0⟩,
    ⟨some 20, .un .not (.tmp 19), some (16, false), 0⟩,
    ⟨some 21, .pick (.tmp 16) (.const (.bool true)) (.tmp 20), none, 0⟩]) <|
  .cond (.tmp 21)
    (.seq (.ops [
      ⟨some 22, .build [.int .i64 0, .slice none 0 0] [], none, 0⟩,
      ⟨none, .store 2 (.tmp 6) (.tmp 22), none, 0⟩,
      ⟨some 7, .mv (.const (.int .i64 2)), none, 0⟩]) <|
    .keep [6, 7] <|
    .ret)
    (.skip)) <|
  .seq (.ops [
    ⟨some 24, .mv (.tmp 0), none, 0⟩,
    ⟨some 25, .mv (.tmp 1), none, 0⟩,
    ⟨some 26, .mv (.tmp 2), none, 0⟩,
    ⟨some 27, .call k_impl_firstRegular [(.tmp 24), (.tmp 25), (.tmp 26)], none, 0⟩,
    ⟨some 23, .mv (.tmp 27), none, 0⟩,
    ⟨some 28, .ext (.tmp 23) 0, none, 0⟩,
    ⟨some 29, .ext (.tmp 23) 1, none, 0⟩,
    ⟨some 8, .alloc [.int .i64 0, .slice none 0 0], none, 0⟩,
    ⟨none, .store 2 (.tmp 8) (.tmp 28), none, 0⟩,
    ⟨some 9, .mv (.tmp 29), none, 0⟩]) <|
  .seq (.seq (.ops [
    ⟨some 30, .mv (.tmp 9), none, 0⟩,
    ⟨some 31, .un .not (.tmp 30), none, 0⟩]) <|
  .cond (.tmp 31)
    (.seq (.ops [
      ⟨some 32, .build [.int .i64 0, .slice none 0 0] [], none, 0⟩,
      ⟨none, .store 2 (.tmp 6) (.tmp 32), none, 0⟩,
      ⟨some 7, .mv (.const (.int .i64 4)), none, 0⟩]) <|
    .keep [6, 7] <|
    .ret)
    (.skip)) <|
  .seq (.ops [
    ⟨some 33, .load true 2 (.tmp 8), none, 0⟩,
    ⟨none, .store 2 (.tmp 6) (.tmp 33), none, 0⟩,
    ⟨some 7, .mv (.const (.int .i64 0)), none, 0⟩]) <|
  .keep [6, 7] <|
  .ret⟩

theorem e_impl_FirstRegular : EntOK Tryd.prog (compD Tryd.prog) k_impl_FirstRegular i_impl_FirstRegular.vf :=
  ⟨Tryd.f20, Tryd.f20.body.getD .skip, Tryd.func20, by kernel_rfl, by kernel_rfl, by kernel_rfl, by kernel_rfl, by kernel_rfl⟩

/-- loop.example/g01331/laws.szGraph -/
def i_laws_szGraph : FF := ⟨12, [.tmp 4],
  .seq (.ops [
    ⟨some 2, .box 2 (.tmp 0), none, 0⟩,
    ⟨some 4, .mv (.const (.int .i64 0)), none, 0⟩]) <|
  .seq (.ops [
    ⟨some 5, .fld 1 (.tmp 2), none, 0⟩,
    ⟨some 6, .load false 1 (.tmp 5), none, 0⟩,
    ⟨some 7, .mv (.tmp 1), none, 0⟩,
    ⟨some 8, .call k_laws_szInt64S [(.tmp 6), (.tmp 7)], none, 0⟩,
    ⟨some 1, .mv (.tmp 8), none, 0⟩]) <|
  .seq (.seq (.ops [
    ⟨some 9, .mv (.tmp 1), none, 0⟩,
    ⟨some 10, .bin .lss (.tmp 9) (.const (.int .i64 0)), none, 0⟩]) <|
  .cond (.tmp 10)
    (.seq (.ops [
      ⟨some 4, .mv (.const (.int .i64 (-1))), none, 0⟩]) <|
    .keep [4] <|
    .ret)
    (.skip)) <|
  .seq (.ops [
    ⟨some 11, .mv (.tmp 1), none, 0⟩,
    ⟨some 4, .mv (.tmp 11), none, 0⟩]) <|
  .keep [4] <|
  .ret⟩

theorem e_laws_szGraph : EntOK Tryd.prog (compD Tryd.prog) k_laws_szGraph i_laws_szGraph.vf :=
  ⟨Tryd.f21, Tryd.f21.body.getD .skip, Tryd.func21, by kernel_rfl, by kernel_rfl, by kernel_rfl, by kernel_rfl, by kernel_rfl⟩

/-- loop.example/g01331/spec.ShortestThrough -/
def i_spec_ShortestThrough : FF := ⟨45, [.tmp 6, .tmp 7],
  .seq (.ops [
    ⟨some 3, .box 2 (.tmp 0), none, 0⟩,
    ⟨some 6, .mv (.const (.int .i64 0)), none, 0⟩,
    ⟨some 7, .mv (.const (.int .i64 0)), none, 0⟩]) <|
  .seq (.seq (.ops [
    ⟨some 12, .load true 2 (.tmp 3), none, 0⟩,
    ⟨some 13, .mv (.tmp 1), none, 0⟩,
    ⟨some 14, .mv (.tmp 2), none, 0⟩,
    ⟨some 15, .buildSl 1 [.int .i64 0, .int .i64 0] [(0, 1, (.tmp 13)), (1, 1, (.tmp 14))] 2, none, 0⟩,
    ⟨some 16, .call k_spec_l02Code [(.tmp 12), (.tmp 15)], none, 0⟩,
    ⟨some 8, .mv (.tmp 16), none, 0⟩]) <|
  .seq (.ops [
    ⟨some 17, .mv (.tmp 8), none, 0⟩,
    ⟨some 18, .bin .neq (.tmp 17) (.const (.int .i64 0)), none, 0⟩]) <|
  .cond (.tmp 18)
    (.seq (.ops [
      ⟨some 19, .mv (.tmp 8), none, 0⟩,
      ⟨some 6, .mv (.const (.int .i64 0)), none, 0⟩,
      ⟨some 7, .mv (.tmp 19), none, 0⟩]) <|
    .keep [6, 7] <|
    .ret)
    (.skip)) <|
  .seq (.seq (.ops [
    ⟨some 20, .fld 1 (.tmp 3), none, 0⟩,
    ⟨some 21, .load false 1 (.tmp 20), none, 0⟩,
    ⟨some 22, .mv (.tmp 1), none, 0⟩,
    ⟨some 23, .idx 1 (.tmp 21) (.tmp 22), none, 0⟩,
    ⟨some 24, .load false 1 (.tmp 23), none, 0⟩,
    ⟨some 25, .mv (.tmp 2), none, 0⟩,
    ⟨some 26, .conv .u64 (.tmp 25), none, 0⟩,
    ⟨some 27, .bin .shr (.tmp 24) (.tmp 26), none, 0⟩,
    ⟨some 28, .bin .and (.tmp 27) (.const (.int .i64 1)), none, 0⟩,
    ⟨some 29, .bin .eql (.tmp 28) (.const (.int .i64 0)), none, 0⟩]) <|
  .cond (.tmp 29)
    (.seq (.ops [
      ⟨some 6, .mv (.const (.int .i64 0)), none, 0⟩,
      ⟨some 7, .mv (.const (.int .i64 5)), none, 0⟩]) <|
    .keep [6, 7] <|
    .ret)
    (.skip)) <|
  .seq (.ops [
    ⟨some 30, .load true 2 (.tmp 3), none, 0⟩,
    ⟨some 31, .call k_spec_l02Girth [(.tmp 30), (.const (.int .i64 (-1)))], none, 0⟩,
    ⟨some 9, .mv (.tmp 31), none, 0⟩]) <|
  .seq (.seq (.ops [
    ⟨some 32, .mv (.tmp 9), none, 0⟩,
    ⟨some 33, .bin .eql (.tmp 32) (.const (.int .i64 0)), none, 0⟩]) <|
  .cond (.tmp 33)
    (.seq (.ops [
      ⟨some 6, .mv (.const (.int .i64 0)), none, 0⟩,
      ⟨some 7, .mv (.const (.int .i64 4)), none, 0⟩]) <|
    .keep [6, 7] <|
    .ret)
    (.skip)) <|
  .seq (.ops [
    ⟨some 35, .load true 2 (.tmp 3), none, 0⟩,
    ⟨some 36, .mv (.tmp 1), none, 0⟩,
    ⟨some 37, .mv (.tmp 2), none, 0⟩,
    ⟨some 38, .call k_spec_l02Around [(.tmp 35), (.tmp 36), (.tmp 37)], none, 0⟩,
    ⟨some 34, .mv (.tmp 38), none, 0⟩,
    ⟨some 39, .ext (.tmp 34) 0, none, 0⟩,
    ⟨some 40, .ext (.tmp 34) 1, none, 0⟩,
    ⟨some 10, .mv (.tmp 39), none, 0⟩,
    ⟨some 11, .mv (.tmp 40), none, 0⟩]) <|
  .seq (.seq (.ops [
    ⟨some 41, .mv (.tmp 10), none, 0⟩,
    ⟨some 42, .mv (.tmp 9), none, 0⟩,
    ⟨some 43, .bin .neq (.tmp 41) (.tmp 42), none, 0⟩]) <|
  .cond (.tmp 43)
    (.seq (.ops [
      ⟨some 6, .mv (.const (.int .i64 0)), none, 0⟩,
      ⟨some 7, .mv (.const (.int .i64 0)), none, 0⟩]) <|
    .keep [6, 7] <|
    .ret)
    (.skip)) <|
  .seq (.ops [
    ⟨some 44, .mv (.tmp 11), none, 0⟩,
    ⟨some 6, .mv (.tmp 44), none, 0⟩,
    ⟨some 7, .mv (.const (.int .i64 0)), none, 0⟩]) <|
  .keep [6, 7] <|
  .ret⟩

theorem e_spec_ShortestThrough : EntOK Tryd.prog (compD Tryd.prog) k_spec_ShortestThrough i_spec_ShortestThrough.vf :=
  ⟨Tryd.f22, Tryd.f22.body.getD .skip, Tryd.func22, by kernel_rfl, by kernel_rfl, by kernel_rfl, by kernel_rfl, by kernel_rfl⟩

/-- loop.example/g01331/laws.toGraph -/
def i_laws_toGraph : FF := ⟨12, [.cell 2 true 2],
  .seq (.ops [
    ⟨some 1, .box 2 (.tmp 0), none, 0⟩,
    ⟨some 2, .alloc [.int .i64 0, .slice none 0 0], none, 0⟩]) <|
  .seq (.ops [
    ⟨some 3, .alloc [.int .i64 0, .slice none 0 0], none, 0⟩]) <|
  .seq (.ops [
    ⟨some 4, .fld 0 (.tmp 1), none, 0⟩,
    ⟨some 5, .load false 1 (.tmp 4), none, 0⟩,
    ⟨some 6, .fld 0 (.tmp 3), none, 0⟩,
    ⟨none, .store 1 (.tmp 6) (.tmp 5), none, 0⟩]) <|
  .seq (.ops [
    ⟨some 7, .fld 1 (.tmp 1), none, 0⟩,
    ⟨some 8, .load false 1 (.tmp 7), none, 0⟩,
    ⟨some 9, .call k_laws_toInt64S [(.tmp 8)], none, 0⟩,
    ⟨some 10, .fld 1 (.tmp 3), none, 0⟩,
    ⟨none, .store 1 (.tmp 10) (.tmp 9), none, 0⟩]) <|
  .seq (.ops [
    ⟨some 11, .load true 2 (.tmp 3), none, 0⟩,
    ⟨none, .store 2 (.tmp 2) (.tmp 11), none, 0⟩]) <|
  .keep [2] <|
  .ret⟩

theorem e_laws_toGraph : EntOK Tryd.prog (compD Tryd.prog) k_laws_toGraph i_laws_toGraph.vf :=
  ⟨Tryd.f23, Tryd.f23.body.getD .skip, Tryd.func23, by kernel_rfl, by kernel_rfl, by kernel_rfl, by kernel_rfl, by kernel_rfl⟩

/-- loop.example/g01331/impl.ShortestThrough -/
def i_impl_ShortestThrough : FF := ⟨40, [.tmp 6, .tmp 7],
  .seq (.ops [
    ⟨some 3, .box 2 (.tmp 0), none, 0⟩,
    ⟨some 6, .mv (.const (.int .i64 0)), none, 0⟩,
    ⟨some 7, .mv (.const (.int .i64 0)), none, 0⟩]) <|
  .seq (.seq (.ops [
    ⟨some 10, .load true 2 (.tmp 3), none, 0⟩,
    ⟨some 11, .mv (.tmp 1), none, 0⟩,
    ⟨some 12, .mv (.tmp 2), none, 0⟩,
    ⟨some 13, .buildSl 1 [.int .i64 0, .int .i64 0] [(0, 1, (.tmp 11)), (1, 1, (.tmp 12))] 2, none, 0⟩,
    ⟨some 14, .call k_impl_graphCode [(.tmp 10), (.tmp 13)], none, 0⟩,
    ⟨some 8, .mv (.tmp 14), none, 0⟩]) <|
  .seq (.ops [
    ⟨some 15, .mv (.tmp 8), none, 0⟩,
    ⟨some 16, .bin .neq (.tmp 15) (.const (.int .i64 0)), none, 0⟩]) <|
  .cond (.tmp 16)
    (.seq (.ops [
      ⟨some 17, .mv (.tmp 8), none, 0⟩,
      ⟨some 6, .mv (.const (.int .i64 0)), none, 0⟩,
      ⟨some 7, .mv (.tmp 17), none, 0⟩]) <|
    .keep [6, 7] <|
    .ret)
    (.skip)) <|
  .seq (.seq (.ops [
    ⟨some 18, .load true 2 (.tmp 3), none, 0⟩,
    ⟨some 19, .mv (.tmp 1), none, 0⟩,
    ⟨some 20, .mv (.tmp 2), none, 0⟩,
    ⟨some 21, .call k_impl_Graph_has [(.tmp 18), (.tmp 19), (.tmp 20)], none, 0⟩,
    ⟨some 22, .un .not (.tmp 21), none, 0⟩]) <|
  .cond (.tmp 22)
    (.seq (.ops [
      ⟨some 6, .mv (.const (.int .i64 0)), none, 0⟩,
      ⟨some 7, .mv (.const (.int .i64 5)), none, 0⟩]) <|
    .keep [6, 7] <|
    .ret)
    (.skip)) <|
  .seq (.ops [
    ⟨some 23, .load true 2 (.tmp 3), none, 0⟩,
    ⟨some 24, .call k_impl_Graph_girth [(.tmp 23)], none, 0⟩,
    ⟨some 9, .mv (.tmp 24), none, 0⟩]) <|
  .seq (.block 0 <|
  .seq (.ops [
    ⟨some 26, .mv (.tmp 9), none, 0⟩,
    ⟨some 27, .bin .eql (.tmp 26) (.const (.int .i64 0)), none, 0⟩,
    ⟨some 25, .mv (.tmp 27), none, 0⟩]) <|
  .cond (.tmp 25)
    (.seq (.ops [
      ⟨some 6, .mv (.const (.int .i64 0)), none, 0⟩,
      ⟨some 7, .mv (.const (.int .i64 4)), none, 0⟩]) <|
    .keep [6, 7] <|
    .ret)
    (.seq (.ops [
      ⟨some 29, .load true 2 (.tmp 3), none, 0⟩,
      ⟨some 30, .mv (.tmp 1), none, 0⟩,
      ⟨some 31, .mv (.tmp 2), none, 0⟩,
      ⟨some 32, .call k_impl_Graph_around [(.tmp 29), (.tmp 30), (.tmp 31)], none, 0⟩,
      ⟨some 33, .mv (.tmp 9), none, 0⟩,
      ⟨some 34, .bin .neq (.tmp 32) (.tmp 33), none, 0⟩,
      ⟨some 28, .mv (.tmp 34), none, 0⟩]) <|
    .cond (.tmp 28)
      (.seq (.ops [
        ⟨some 6, .mv (.const (.int .i64 0)), none, 0⟩,
        ⟨some 7, .mv (.const (.int .i64 0)), none, 0⟩]) <|
      .keep [6, 7] <|
      .ret)
      (.skip))) <|
  .seq (.ops [
    ⟨some 35, .load true 2 (.tmp 3), none, 0⟩,
    ⟨some 36, .mv (.tmp 1), none, 0⟩,
    ⟨some 37, .mv (.tmp 2), none, 0⟩,
    ⟨some 38, .mv (.tmp 9), none, 0⟩,
    ⟨some 39, .call k_impl_Graph_through [(.tmp 35), (.tmp 36), (.tmp 37), (.tmp 38)], none, 0⟩,
    ⟨some 6, .mv (.tmp 39), none, 0⟩,
    ⟨some 7, .mv (.const (.int .i64 0)), none, 0⟩]) <|
  .keep [6, 7] <|
  .ret⟩

theorem e_impl_ShortestThrough : EntOK Tryd.prog (compD Tryd.prog) k_impl_ShortestThrough i_impl_ShortestThrough.vf :=
  ⟨Tryd.f24, Tryd.f24.body.getD .skip, Tryd.func24, by kernel_rfl, by kernel_rfl, by kernel_rfl, by kernel_rfl, by kernel_rfl⟩

/-- loop.example/g01331/spec.HalfOf -/
def i_spec_HalfOf_B1 : FC :=
  .seq (.seq (.ops [
    ⟨some 38, .mv (.tmp 8), none, 0⟩,
    ⟨some 39, .mv (.tmp 7), none, 0⟩,
    ⟨some 40, .bin .lss (.tmp 38) (.tmp 39), none, 0⟩]) <|
  .cond (.tmp 40)
    (.skip)
    (.keep [1, 2, 5, 6, 7] <|
    .exit 2)) <|
  .seq (.block 3 <|
  .seq (.dops [
    ⟨some 43, .fld 1 (.tmp 1), none, 0⟩,
    ⟨some 44, .load false 1 (.tmp 43), none, 0⟩,
    ⟨some 45, .mv (.tmp 7), none, 0⟩,
    ⟨some 46, .idx 1 (.tmp 44) (.tmp 45), none, 0⟩,
    ⟨some 47, .load false 1 (.tmp 46), none, 0⟩,
    ⟨some 48, .mv (.tmp 8), none, 0⟩,
    ⟨some 49, .conv .u64 (.tmp 48), none, 0⟩,
    ⟨some 50, .bin .shr (.tmp 47) (.tmp 49), none, 0⟩,
    ⟨some 51, .bin .and (.tmp 50) (.const (.int .i64 1)), none, 0⟩,
    ⟨some 52, .bin .eql (.tmp 51) (.const (.int .i64 1)), none, 0⟩,
    ⟨some 53, .mv (.tmp 52), none, 0⟩,
    ⟨some 54, .mv (.tmp 5), some (53, true), 0⟩,
    ⟨some 55, .mv (.tmp 7), some (53, true), 0⟩,
    ⟨some 56, .idx 1 (.tmp 54) (.tmp 55), some (53, true), 0⟩,
    ⟨some 57, .load false 1 (.tmp 56), some (53, true), 0⟩,
    ⟨some 58, .mv (.tmp 5), some (53, true), 0⟩,
    ⟨some 59, .mv (.tmp 8), some (53, true), 0⟩,
    ⟨some 60, .idx 1 (.tmp 58) (.tmp 59), some (53, true), 0⟩,
    ⟨some 61, .load false 1 (.tmp 60), some (53, true), 0⟩,
    ⟨some 62, .bin .sub (.tmp 57) (.tmp 61), some (53, true), 0⟩,
    ⟨some 63, .bin .rem (.tmp 62) (.const (.int .i64 2)), some (53, true), 0⟩,
    ⟨some 64, .bin .eql (.tmp 63) (.const (.int .i64 0)), some (53, true), 0⟩,
    ⟨some 65, .pick (.tmp 53) (.tmp 64) (.const (.bool false)), none, 0⟩]) <|
  .cond (.tmp 65)
    (.seq (.ops [
      ⟨some 66, .build [.int .i64 0, .slice none 0 0] [], none, 0⟩,
      ⟨none, .store 2 (.tmp 2) (.tmp 66), none, 0⟩,
      ⟨some 3, .mv (.const (.int .i64 5)), none, 0⟩]) <|
    .keep [2, 3] <|
    .ret)
    (.skip)) <|
  .ops [
    ⟨some 41, .mv (.tmp 8), none, 0⟩,
    ⟨some 42, .bin .add (.tmp 41) (.const (.int .i64 1)), none, 0⟩,
    ⟨some 8, .mv (.tmp 42), none, 0⟩]
def i_spec_HalfOf_B2 : FC :=
  .seq (.seq (.ops [
    ⟨some 22, .mv (.tmp 7), none, 0⟩,
    ⟨some 23, .fld 0 (.tmp 1), none, 0⟩,
    ⟨some 24, .load false 1 (.tmp 23), none, 0⟩,
    ⟨some 25, .bin .lss (.tmp 22) (.tmp 24), none, 0⟩]) <|
  .cond (.tmp 25)
    (.skip)
    (.keep [1, 2, 6] <|
    .exit 0)) <|
  .seq (.block 1 <|
  .seq (.seq (.ops [
    ⟨some 28, .mv (.tmp 5), none, 0⟩,
    ⟨some 29, .mv (.tmp 7), none, 0⟩,
    ⟨some 30, .idx 1 (.tmp 28) (.tmp 29), none, 0⟩,
    ⟨some 31, .load false 1 (.tmp 30), none, 0⟩,
    ⟨some 32, .bin .rem (.tmp 31) (.const (.int .i64 2)), none, 0⟩,
    ⟨some 33, .bin .eql (.tmp 32) (.const (.int .i64 0)), none, 0⟩]) <|
  .cond (.tmp 33)
    (.ops [
      ⟨some 34, .mv (.tmp 6), none, 0⟩,
      ⟨some 35, .mv (.tmp 7), none, 0⟩,
      ⟨some 36, .buildSl 1 [.int .i64 0] [(0, 1, (.tmp 35))] 1, none, 0⟩,
      ⟨some 37, .app 1 8 [.int .i64 0] (.tmp 34) (.tmp 36), none, 0⟩,
      ⟨some 6, .mv (.tmp 37), none, 0⟩])
    (.skip)) <|
  .seq (.ops [
    ⟨some 8, .mv (.const (.int .i64 0)), none, 0⟩]) <|
  .block 2 <|
  .loop [1, 2, 5, 6, 7, 8] i_spec_HalfOf_B1) <|
  .ops [
    ⟨some 26, .mv (.tmp 7), none, 0⟩,
    ⟨some 27, .bin .add (.tmp 26) (.const (.int .i64 1)), none, 0⟩,
    ⟨some 7, .mv (.tmp 27), none, 0⟩]
def i_spec_HalfOf_B3 : FC :=
  .seq (.seq (.ops [
    ⟨some 78, .mv (.tmp 12), none, 0⟩,
    ⟨some 79, .mv (.tmp 11), none, 0⟩,
    ⟨some 80, .bin .lss (.tmp 78) (.tmp 79), none, 0⟩]) <|
  .cond (.tmp 80)
    (.skip)
    (.keep [2, 6, 9, 10, 11] <|
    .exit 6)) <|
  .seq (.block 7 <|
  .seq (.dops [
    ⟨some 83, .mv (.tmp 9), none, 0⟩,
    ⟨some 84, .mv (.tmp 6), none, 0⟩,
    ⟨some 85, .mv (.tmp 11), none, 0⟩,
    ⟨some 86, .idx 1 (.tmp 84) (.tmp 85), none, 0⟩,
    ⟨some 87, .load false 1 (.tmp 86), none, 0⟩,
    ⟨some 88, .idx 1 (.tmp 83) (.tmp 87), none, 0⟩,
    ⟨some 89, .load false 1 (.tmp 88), none, 0⟩,
    ⟨some 90, .mv (.tmp 6), none, 0⟩,
    ⟨some 91, .mv (.tmp 12), none, 0⟩,
    ⟨some 92, .idx 1 (.tmp 90) (.tmp 91), none, 0⟩,
    ⟨some 93, .load false 1 (.tmp 92), none, 0⟩,
    ⟨some 94, .idx 1 (.tmp 89) (.tmp 93), none, 0⟩,
    ⟨some 95, .load false 1 (.tmp 94), none, 0⟩,
    ⟨some 96, .bin .eql (.tmp 95) (.const (.int .i64 2)), none, 0⟩]) <|
  .cond (.tmp 96)
    (.ops [
      ⟨some 97, .load true 2 (.tmp 10), none, 0⟩,
      ⟨some 98, .mv (.tmp 11), none, 0⟩,
      ⟨some 99, .mv (.tmp 12), none, 0⟩,
      ⟨some 100, .call k_spec_l04With [(.tmp 97), (.tmp 98), (.tmp 99)], none, 0⟩,
      ⟨none, .store 2 (.tmp 10) (.tmp 100), none, 0⟩])
    (.skip)) <|
  .ops [
    ⟨some 81, .mv (.tmp 12), none, 0⟩,
    ⟨some 82, .bin .add (.tmp 81) (.const (.int .i64 1)), none, 0⟩,
    ⟨some 12, .mv (.tmp 82), none, 0⟩]
def i_spec_HalfOf_B4 : FC :=
  .seq (.seq (.ops [
    ⟨some 72, .mv (.tmp 11), none, 0⟩,
    ⟨some 73, .mv (.tmp 6), none, 0⟩,
    ⟨some 74, .len (.tmp 73), none, 0⟩,
    ⟨some 75, .bin .lss (.tmp 72) (.tmp 74), none, 0⟩]) <|
  .cond (.tmp 75)
    (.skip)
    (.keep [2, 10] <|
    .exit 4)) <|
  .seq (.block 5 <|
  .seq (.ops [
    ⟨some 12, .mv (.const (.int .i64 0)), none, 0⟩]) <|
  .block 6 <|
  .loop [2, 6, 9, 10, 11, 12] i_spec_HalfOf_B3) <|
  .ops [
    ⟨some 76, .mv (.tmp 11), none, 0⟩,
    ⟨some 77, .bin .add (.tmp 76) (.const (.int .i64 1)), none, 0⟩,
    ⟨some 11, .mv (.tmp 77), none, 0⟩]
def i_spec_HalfOf : FF := ⟨102, [.cell 2 true 2, .tmp 3],
  .seq (.ops [
    ⟨some 1, .box 2 (.tmp 0), none, 0⟩,
    ⟨some 2, .alloc [.int .i64 0, .slice none 0 0], none, 0⟩,
    ⟨some 3, .mv (.const (.int .i64 0)), none, 0⟩]) <|
  .seq (.seq (.ops [
    ⟨some 13, .load true 2 (.tmp 1), none, 0⟩,
    ⟨some 14, .call k_spec_l06Code [(.tmp 13)], none, 0⟩,
    ⟨some 4, .mv (.tmp 14), none, 0⟩]) <|
  .seq (.ops [
    ⟨some 15, .mv (.tmp 4), none, 0⟩,
    ⟨some 16, .bin .neq (.tmp 15) (.const (.int .i64 0)), none, 0⟩]) <|
  .cond (.tmp 16)
    (.seq (.ops [
      ⟨some 17, .build [.int .i64 0, .slice none 0 0] [], none, 0⟩,
      ⟨some 18, .mv (.tmp 4), none, 0⟩,
      ⟨none, .store 2 (.tmp 2) (.tmp 17), none, 0⟩,
      ⟨some 3, .mv (.tmp 18), none, 0⟩]) <|
    .keep [2, 3] <|
    .ret)
    (.skip)) <|
  .seq (.ops [
    ⟨some 19, .load true 2 (.tmp 1), none, 0⟩,
    ⟨some 20, .call k_spec_l02From [(.tmp 19), (.const (.int .i64 0)), (.const (.int .i64 (-1))), (.const (.int .i64 (-1)))], none, 0⟩,
    ⟨some 5, .mv (.tmp 20), none, 0⟩]) <|
  .seq (.ops [
    ⟨some 21, .buildSl 1 [] [] 0, none, 0⟩,
    ⟨some 6, .mv (.tmp 21), none, 0⟩]) <|
  .seq (.seq (.ops [
    ⟨some 7, .mv (.const (.int .i64 0)), none, 0⟩]) <|
  .block 0 <|
  .loop [1, 2, 5, 6, 7] i_spec_HalfOf_B2) <|
  .seq (.ops [
    ⟨some 67, .load true 2 (.tmp 1), none, 0⟩,
    ⟨some 68, .call k_spec_l06Rows [(.tmp 67)], none, 0⟩,
    ⟨some 69, .mv (.tmp 6), none, 0⟩,
    ⟨some 70, .len (.tmp 69), none, 0⟩,
    ⟨some 71, .call k_spec_l01Empty [(.tmp 70)], none, 0⟩,
    ⟨some 10, .alloc [.int .i64 0, .slice none 0 0], none, 0⟩,
    ⟨some 9, .mv (.tmp 68), none, 0⟩,
    ⟨none, .store 2 (.tmp 10) (.tmp 71), none, 0⟩]) <|
  .seq (.seq (.ops [
    ⟨some 11, .mv (.const (.int .i64 0)), none, 0⟩]) <|
  .block 4 <|
  .loop [2, 6, 9, 10, 11] i_spec_HalfOf_B4) <|
  .seq (.ops [
    ⟨some 101, .load true 2 (.tmp 10), none, 0⟩,
    ⟨none, .store 2 (.tmp 2) (.tmp 101), none, 0⟩,
    ⟨some 3, .mv (.const (.int .i64 0)), none, 0⟩]) <|
  .keep [2, 3] <|
  .ret⟩

theorem e_spec_HalfOf : EntOK Tryd.prog (compD Tryd.prog) k_spec_HalfOf i_spec_HalfOf.vf :=
  ⟨Tryd.f25, Tryd.f25.body.getD .skip, Tryd.func25, by kernel_rfl, by kernel_rfl, by kernel_rfl, by kernel_rfl, by kernel_rfl⟩

/-- loop.example/g01331/impl.HalfOf -/
def i_impl_HalfOf_B1 : FC :=
  .seq (.ops [
    ⟨some 23, .bin .lss (.tmp 22) (.tmp 21), none, 0⟩]) <|
  .seq (.cond (.tmp 23)
    (.skip)
    (.keep [1, 2, 5] <|
    .exit 0)) <|
  .seq (.block 1 <|
  .seq (.ops [
    ⟨some 24, .mv (.tmp 22), none, 0⟩,
    ⟨some 25, .idx 1 (.tmp 20) (.tmp 22), none, 0⟩,
    ⟨some 26, .load false 1 (.tmp 25), none, 0⟩,
    ⟨some 6, .mv (.tmp 24), none, 0⟩,
    ⟨some 7, .mv (.tmp 26), none, 0⟩]) <|
  .seq (.ops [
    ⟨some 27, .mv (.tmp 7), none, 0⟩,
    ⟨some 28, .bin .rem (.tmp 27) (.const (.int .i64 2)), none, 0⟩,
    ⟨some 29, .bin .eql (.tmp 28) (.const (.int .i64 0)), none, 0⟩]) <|
  .cond (.tmp 29)
    (.ops [
      ⟨some 30, .mv (.tmp 5), none, 0⟩,
      ⟨some 31, .mv (.tmp 6), none, 0⟩,
      ⟨some 32, .buildSl 1 [.int .i64 0] [(0, 1, (.tmp 31))] 1, none, 0⟩,
      ⟨some 33, .app 1 8 [.int .i64 0] (.tmp 30) (.tmp 32), none, 0⟩,
      ⟨some 5, .mv (.tmp 33), none, 0⟩])
    (.skip)) <|
  .ops [
    ⟨some 34, .bin .add (.tmp 22) (.const (.int .i64 1)), none, 0⟩,
    ⟨some 22, .mv (.tmp 34), none, 0⟩]
def i_impl_HalfOf : FF := ⟨39, [.cell 2 true 2, .tmp 3],
  .seq (.ops [
    ⟨some 1, .box 2 (.tmp 0), none, 0⟩,
    ⟨some 2, .alloc [.int .i64 0, .slice none 0 0], none, 0⟩,
    ⟨some 3, .mv (.const (.int .i64 0)), none, 0⟩]) <|
  .seq (.seq (.ops [
    ⟨some 8, .load true 2 (.tmp 1), none, 0⟩,
    ⟨some 9, .call k_impl_connectedCode [(.tmp 8)], none, 0⟩,
    ⟨some 4, .mv (.tmp 9), none, 0⟩]) <|
  .seq (.ops [
    ⟨some 10, .mv (.tmp 4), none, 0⟩,
    ⟨some 11, .bin .neq (.tmp 10) (.const (.int .i64 0)), none, 0⟩]) <|
  .cond (.tmp 11)
    (.seq (.ops [
      ⟨some 12, .build [.int .i64 0, .slice none 0 0] [], none, 0⟩,
      ⟨some 13, .mv (.tmp 4), none, 0⟩,
      ⟨none, .store 2 (.tmp 2) (.tmp 12), none, 0⟩,
      ⟨some 3, .mv (.tmp 13), none, 0⟩]) <|
    .keep [2, 3] <|
    .ret)
    (.skip)) <|
  .seq (.seq (.ops [
    ⟨some 14, .load true 2 (.tmp 1), none, 0⟩,
    ⟨some 15, .call k_impl_Graph_bipartite [(.tmp 14)], none, 0⟩,
    ⟨some 16, .un .not (.tmp 15), none, 0⟩]) <|
  .cond (.tmp 16)
    (.seq (.ops [
      ⟨some 17, .build [.int .i64 0, .slice none 0 0] [], none, 0⟩,
      ⟨none, .store 2 (.tmp 2) (.tmp 17), none, 0⟩,
      ⟨some 3, .mv (.const (.int .i64 5)), none, 0⟩]) <|
    .keep [2, 3] <|
    .ret)
    (.skip)) <|
  .seq (.ops [
    ⟨some 18, .buildSl 1 [] [] 0, none, 0⟩,
    ⟨some 5, .mv (.tmp 18), none, 0⟩]) <|
  .seq (.seq (.ops [
    ⟨some 19, .load true 2 (.tmp 1), none, 0⟩,
    ⟨some 20, .call k_impl_Graph_distances [(.tmp 19), (.const (.int .i64 0))], none, 0⟩,
    ⟨some 21, .len (.tmp 20), none, 0⟩,
    ⟨some 22, .mv (.const (.int .i64 0)), none, 0⟩]) <|
  .block 0 <|
  .loop [1, 2, 5, 20, 21, 22] i_impl_HalfOf_B1) <|
  .seq (.ops [
    ⟨some 35, .load true 2 (.tmp 1), none, 0⟩,
    ⟨some 36, .call k_impl_Graph_at [(.tmp 35), (.const (.int .i64 2))], none, 0⟩,
    ⟨some 37, .mv (.tmp 5), none, 0⟩,
    ⟨some 38, .call k_impl_Graph_partOn [(.tmp 36), (.tmp 37)], none, 0⟩,
    ⟨none, .store 2 (.tmp 2) (.tmp 38), none, 0⟩,
    ⟨some 3, .mv (.const (.int .i64 0)), none, 0⟩]) <|
  .keep [2, 3] <|
  .ret⟩

theorem e_impl_HalfOf : EntOK Tryd.prog (compD Tryd.prog) k_impl_HalfOf i_impl_HalfOf.vf :=
  ⟨Tryd.f26, Tryd.f26.body.getD .skip, Tryd.func26, by kernel_rfl, by kernel_rfl, by kernel_rfl, by kernel_rfl, by kernel_rfl⟩

/-- loop.example/g01331/spec.IsFull -/
def i_spec_IsFull_B1 : FC :=
  .seq (.seq (.ops [
    ⟨some 26, .mv (.tmp 10), none, 0⟩,
    ⟨some 27, .fld 0 (.tmp 3), none, 0⟩,
    ⟨some 28, .load false 1 (.tmp 27), none, 0⟩,
    ⟨some 29, .bin .lss (.tmp 26) (.tmp 28), none, 0⟩]) <|
  .cond (.tmp 29)
    (.skip)
    (.keep [1, 2, 3, 9] <|
    .exit 2)) <|
  .seq (.block 3 <|
  .seq (.ops [
    ⟨some 32, .load true 2 (.tmp 3), none, 0⟩,
    ⟨some 33, .mv (.tmp 1), none, 0⟩,
    ⟨some 34, .mv (.tmp 2), none, 0⟩,
    ⟨some 35, .mv (.tmp 9), none, 0⟩,
    ⟨some 36, .mv (.tmp 10), none, 0⟩,
    ⟨some 37, .call k_spec_l07May [(.tmp 32), (.tmp 33), (.tmp 34), (.tmp 35), (.tmp 36)], none, 0⟩]) <|
  .cond (.tmp 37)
    (.seq (.ops [
      ⟨some 6, .mv (.const (.bool false)), none, 0⟩,
      ⟨some 7, .mv (.const (.int .i64 0)), none, 0⟩]) <|
    .keep [6, 7] <|
    .ret)
    (.skip)) <|
  .ops [
    ⟨some 30, .mv (.tmp 10), none, 0⟩,
    ⟨some 31, .bin .add (.tmp 30) (.const (.int .i64 1)), none, 0⟩,
    ⟨some 10, .mv (.tmp 31), none, 0⟩]
def i_spec_IsFull_B2 : FC :=
  .seq (.seq (.ops [
    ⟨some 18, .mv (.tmp 9), none, 0⟩,
    ⟨some 19, .fld 0 (.tmp 3), none, 0⟩,
    ⟨some 20, .load false 1 (.tmp 19), none, 0⟩,
    ⟨some 21, .bin .lss (.tmp 18) (.tmp 20), none, 0⟩]) <|
  .cond (.tmp 21)
    (.skip)
    (.keep [] <|
    .exit 0)) <|
  .seq (.block 1 <|
  .seq (.ops [
    ⟨some 24, .mv (.tmp 9), none, 0⟩,
    ⟨some 25, .bin .add (.tmp 24) (.const (.int .i64 1)), none, 0⟩,
    ⟨some 10, .mv (.tmp 25), none, 0⟩]) <|
  .block 2 <|
  .loop [1, 2, 3, 9, 10] i_spec_IsFull_B1) <|
  .ops [
    ⟨some 22, .mv (.tmp 9), none, 0⟩,
    ⟨some 23, .bin .add (.tmp 22) (.const (.int .i64 1)), none, 0⟩,
    ⟨some 9, .mv (.tmp 23), none, 0⟩]
def i_spec_IsFull : FF := ⟨38, [.tmp 6, .tmp 7],
  .seq (.ops [
    ⟨some 3, .box 2 (.tmp 0), none, 0⟩,
    ⟨some 6, .mv (.const (.bool false)), none, 0⟩,
    ⟨some 7, .mv (.const (.int .i64 0)), none, 0⟩]) <|
  .seq (.seq (.ops [
    ⟨some 11, .load true 2 (.tmp 3), none, 0⟩,
    ⟨some 12, .mv (.tmp 1), none, 0⟩,
    ⟨some 13, .mv (.tmp 2), none, 0⟩,
    ⟨some 14, .call k_spec_l07Given [(.tmp 11), (.tmp 12), (.tmp 13)], none, 0⟩,
    ⟨some 8, .mv (.tmp 14), none, 0⟩]) <|
  .seq (.ops [
    ⟨some 15, .mv (.tmp 8), none, 0⟩,
    ⟨some 16, .bin .neq (.tmp 15) (.const (.int .i64 0)), none, 0⟩]) <|
  .cond (.tmp 16)
    (.seq (.ops [
      ⟨some 17, .mv (.tmp 8), none, 0⟩,
      ⟨some 6, .mv (.const (.bool false)), none, 0⟩,
      ⟨some 7, .mv (.tmp 17), none, 0⟩]) <|
    .keep [6, 7] <|
    .ret)
    (.skip)) <|
  .seq (.seq (.ops [
    ⟨some 9, .mv (.const (.int .i64 0)), none, 0⟩]) <|
  .block 0 <|
  .loop [1, 2, 3, 9] i_spec_IsFull_B2) <|
  .seq (.ops [
    ⟨some 6, .mv (.const (.bool true)), none, 0⟩,
    ⟨some 7, .mv (.const (.int .i64 0)), none, 0⟩]) <|
  .keep [6, 7] <|
  .ret⟩

theorem e_spec_IsFull : EntOK Tryd.prog (compD Tryd.prog) k_spec_IsFull i_spec_IsFull.vf :=
  ⟨Tryd.f27, Tryd.f27.body.getD .skip, Tryd.func27, by kernel_rfl, by kernel_rfl, by kernel_rfl, by kernel_rfl, by kernel_rfl⟩

/-- loop.example/g01331/impl.IsFull -/
def i_impl_IsFull : FF := ⟨22, [.tmp 6, .tmp 7],
  .seq (.ops [
    ⟨some 3, .box 2 (.tmp 0), none, 0⟩,
    ⟨some 6, .mv (.const (.bool false)), none, 0⟩,
    ⟨some 7, .mv (.const (.int .i64 0)), none, 0⟩]) <|
  .seq (.seq (.ops [
    ⟨some 9, .load true 2 (.tmp 3), none, 0⟩,
    ⟨some 10, .mv (.tmp 1), none, 0⟩,
    ⟨some 11, .mv (.tmp 2), none, 0⟩,
    ⟨some 12, .call k_impl_fitCode [(.tmp 9), (.tmp 10), (.tmp 11)], none, 0⟩,
    ⟨some 8, .mv (.tmp 12), none, 0⟩]) <|
  .seq (.ops [
    ⟨some 13, .mv (.tmp 8), none, 0⟩,
    ⟨some 14, .bin .neq (.tmp 13) (.const (.int .i64 0)), none, 0⟩]) <|
  .cond (.tmp 14)
    (.seq (.ops [
      ⟨some 15, .mv (.tmp 8), none, 0⟩,
      ⟨some 6, .mv (.const (.bool false)), none, 0⟩,
      ⟨some 7, .mv (.tmp 15), none, 0⟩]) <|
    .keep [6, 7] <|
    .ret)
    (.skip)) <|
  .seq (.ops [
    ⟨some 16, .load true 2 (.tmp 3), none, 0⟩,
    ⟨some 17, .mv (.tmp 1), none, 0⟩,
    ⟨some 18, .mv (.tmp 2), none, 0⟩,
    ⟨some 19, .call k_impl_Graph_pairs [(.tmp 16), (.tmp 17), (.tmp 18)], none, 0⟩,
    ⟨some 20, .len (.tmp 19), none, 0⟩,
    ⟨some 21, .bin .eql (.tmp 20) (.const (.int .i64 0)), none, 0⟩,
    ⟨some 6, .mv (.tmp 21), none, 0⟩,
    ⟨some 7, .mv (.const (.int .i64 0)), none, 0⟩]) <|
  .keep [6, 7] <|
  .ret⟩

theorem e_impl_IsFull : EntOK Tryd.prog (compD Tryd.prog) k_impl_IsFull i_impl_IsFull.vf :=
  ⟨Tryd.f28, Tryd.f28.body.getD .skip, Tryd.func28, by kernel_rfl, by kernel_rfl, by kernel_rfl, by kernel_rfl, by kernel_rfl⟩

/-- loop.example/g01331/spec.FillGraph -/
def i_spec_FillGraph : FF := ⟨21, [.cell 6 true 2, .tmp 7],
  .seq (.ops [
    ⟨some 3, .box 2 (.tmp 0), none, 0⟩,
    ⟨some 6, .alloc [.int .i64 0, .slice none 0 0], none, 0⟩,
    ⟨some 7, .mv (.const (.int .i64 0)), none, 0⟩]) <|
  .seq (.seq (.ops [
    ⟨some 9, .load true 2 (.tmp 3), none, 0⟩,
    ⟨some 10, .mv (.tmp 1), none, 0⟩,
    ⟨some 11, .mv (.tmp 2), none, 0⟩,
    ⟨some 12, .call k_spec_l07Given [(.tmp 9), (.tmp 10), (.tmp 11)], none, 0⟩,
    ⟨some 8, .mv (.tmp 12), none, 0⟩]) <|
  .seq (.ops [
    ⟨some 13, .mv (.tmp 8), none, 0⟩,
    ⟨some 14, .bin .neq (.tmp 13) (.const (.int .i64 0)), none, 0⟩]) <|
  .cond (.tmp 14)
    (.seq (.ops [
      ⟨some 15, .build [.int .i64 0, .slice none 0 0] [], none, 0⟩,
      ⟨some 16, .mv (.tmp 8), none, 0⟩,
      ⟨none, .store 2 (.tmp 6) (.tmp 15), none, 0⟩,
      ⟨some 7, .mv (.tmp 16), none, 0⟩]) <|
    .keep [6, 7] <|
    .ret)
    (.skip)) <|
  .seq (.ops [
    ⟨some 17, .load true 2 (.tmp 3), none, 0⟩,
    ⟨some 18, .mv (.tmp 1), none, 0⟩,
    ⟨some 19, .mv (.tmp 2), none, 0⟩,
    ⟨some 20, .call k_spec_l07Fill [(.tmp 17), (.tmp 18), (.tmp 19)], none, 0⟩,
    ⟨none, .store 2 (.tmp 6) (.tmp 20), none, 0⟩,
    ⟨some 7, .mv (.const (.int .i64 0)), none, 0⟩]) <|
  .keep [6, 7] <|
  .ret⟩

theorem e_spec_FillGraph : EntOK Tryd.prog (compD Tryd.prog) k_spec_FillGraph i_spec_FillGraph.vf :=
  ⟨Tryd.f29, Tryd.f29.body.getD .skip, Tryd.func29, by kernel_rfl, by kernel_rfl, by kernel_rfl, by kernel_rfl, by kernel_rfl⟩

/-- loop.example/g01331/impl.FillGraph -/
def i_impl_FillGraph : FF := ⟨21, [.cell 6 true 2, .tmp 7],
  .seq (.ops [
    ⟨some 3, .box 2 (.tmp 0), none, 0⟩,
    ⟨some 6, .alloc [.int .i64 0, .slice none 0 0], none, 0⟩,
    ⟨some 7, .mv (.const (.int .i64 0)), none, 0⟩]) <|
  .seq (.seq (.ops [
    ⟨some 9, .load true 2 (.tmp 3), none, 0⟩,
    ⟨some 10, .mv (.tmp 1), none, 0⟩,
    ⟨some 11, .mv (.tmp 2), none, 0⟩,
    ⟨some 12, .call k_impl_fitCode [(.tmp 9), (.tmp 10), (.tmp 11)], none, 0⟩,
    ⟨some 8, .mv (.tmp 12), none, 0⟩]) <|
  .seq (.ops [
    ⟨some 13, .mv (.tmp 8), none, 0⟩,
    ⟨some 14, .bin .neq (.tmp 13) (.const (.int .i64 0)), none, 0⟩]) <|
  .cond (.tmp 14)
    (.seq (.ops [
      ⟨some 15, .build [.int .i64 0, .slice none 0 0] [], none, 0⟩,
      ⟨some 16, .mv (.tmp 8), none, 0⟩,
      ⟨none, .store 2 (.tmp 6) (.tmp 15), none, 0⟩,
      ⟨some 7, .mv (.tmp 16), none, 0⟩]) <|
    .keep [6, 7] <|
    .ret)
    (.skip)) <|
  .seq (.ops [
    ⟨some 17, .load true 2 (.tmp 3), none, 0⟩,
    ⟨some 18, .mv (.tmp 1), none, 0⟩,
    ⟨some 19, .mv (.tmp 2), none, 0⟩,
    ⟨some 20, .call k_impl_filled [(.tmp 17), (.tmp 18), (.tmp 19)], none, 0⟩,
    ⟨none, .store 2 (.tmp 6) (.tmp 20), none, 0⟩,
    ⟨some 7, .mv (.const (.int .i64 0)), none, 0⟩]) <|
  .keep [6, 7] <|
  .ret⟩

theorem e_impl_FillGraph : EntOK Tryd.prog (compD Tryd.prog) k_impl_FillGraph i_impl_FillGraph.vf :=
  ⟨Tryd.f30, Tryd.f30.body.getD .skip, Tryd.func30, by kernel_rfl, by kernel_rfl, by kernel_rfl, by kernel_rfl, by kernel_rfl⟩

/-- loop.example/g01331/spec.PairsToJoin -/
def i_spec_PairsToJoin_B1 : FC :=
  .seq (.seq (.ops [
    ⟨some 28, .mv (.tmp 11), none, 0⟩,
    ⟨some 29, .fld 0 (.tmp 3), none, 0⟩,
    ⟨some 30, .load false 1 (.tmp 29), none, 0⟩,
    ⟨some 31, .bin .lss (.tmp 28) (.tmp 30), none, 0⟩]) <|
  .cond (.tmp 31)
    (.skip)
    (.keep [1, 2, 3, 9, 10] <|
    .exit 2)) <|
  .seq (.block 3 <|
  .seq (.ops [
    ⟨some 34, .load true 2 (.tmp 3), none, 0⟩,
    ⟨some 35, .mv (.tmp 1), none, 0⟩,
    ⟨some 36, .mv (.tmp 2), none, 0⟩,
    ⟨some 37, .mv (.tmp 10), none, 0⟩,
    ⟨some 38, .mv (.tmp 11), none, 0⟩,
    ⟨some 39, .call k_spec_l07May [(.tmp 34), (.tmp 35), (.tmp 36), (.tmp 37), (.tmp 38)], none, 0⟩]) <|
  .cond (.tmp 39)
    (.ops [
      ⟨some 40, .mv (.tmp 9), none, 0⟩,
      ⟨some 41, .mv (.tmp 10), none, 0⟩,
      ⟨some 42, .mv (.tmp 11), none, 0⟩,
      ⟨some 43, .buildSl 1 [.int .i64 0, .int .i64 0] [(0, 1, (.tmp 41)), (1, 1, (.tmp 42))] 2, none, 0⟩,
      ⟨some 44, .buildSl 1 [.slice none 0 0] [(0, 1, (.tmp 43))] 1, none, 0⟩,
      ⟨some 45, .app 1 24 [.slice none 0 0] (.tmp 40) (.tmp 44), none, 0⟩,
      ⟨some 9, .mv (.tmp 45), none, 0⟩])
    (.skip)) <|
  .ops [
    ⟨some 32, .mv (.tmp 11), none, 0⟩,
    ⟨some 33, .bin .add (.tmp 32) (.const (.int .i64 1)), none, 0⟩,
    ⟨some 11, .mv (.tmp 33), none, 0⟩]
def i_spec_PairsToJoin_B2 : FC :=
  .seq (.seq (.ops [
    ⟨some 20, .mv (.tmp 10), none, 0⟩,
    ⟨some 21, .fld 0 (.tmp 3), none, 0⟩,
    ⟨some 22, .load false 1 (.tmp 21), none, 0⟩,
    ⟨some 23, .bin .lss (.tmp 20) (.tmp 22), none, 0⟩]) <|
  .cond (.tmp 23)
    (.skip)
    (.keep [9] <|
    .exit 0)) <|
  .seq (.block 1 <|
  .seq (.ops [
    ⟨some 26, .mv (.tmp 10), none, 0⟩,
    ⟨some 27, .bin .add (.tmp 26) (.const (.int .i64 1)), none, 0⟩,
    ⟨some 11, .mv (.tmp 27), none, 0⟩]) <|
  .block 2 <|
  .loop [1, 2, 3, 9, 10, 11] i_spec_PairsToJoin_B1) <|
  .ops [
    ⟨some 24, .mv (.tmp 10), none, 0⟩,
    ⟨some 25, .bin .add (.tmp 24) (.const (.int .i64 1)), none, 0⟩,
    ⟨some 10, .mv (.tmp 25), none, 0⟩]
def i_spec_PairsToJoin : FF := ⟨47, [.tmp 6, .tmp 7],
  .seq (.ops [
    ⟨some 3, .box 2 (.tmp 0), none, 0⟩,
    ⟨some 6, .mv (.const (.slice none 0 0)), none, 0⟩,
    ⟨some 7, .mv (.const (.int .i64 0)), none, 0⟩]) <|
  .seq (.seq (.ops [
    ⟨some 12, .load true 2 (.tmp 3), none, 0⟩,
    ⟨some 13, .mv (.tmp 1), none, 0⟩,
    ⟨some 14, .mv (.tmp 2), none, 0⟩,
    ⟨some 15, .call k_spec_l07Given [(.tmp 12), (.tmp 13), (.tmp 14)], none, 0⟩,
    ⟨some 8, .mv (.tmp 15), none, 0⟩]) <|
  .seq (.ops [
    ⟨some 16, .mv (.tmp 8), none, 0⟩,
    ⟨some 17, .bin .neq (.tmp 16) (.const (.int .i64 0)), none, 0⟩]) <|
  .cond (.tmp 17)
    (.seq (.ops [
      ⟨some 18, .mv (.tmp 8), none, 0⟩,
      ⟨some 6, .mv (.const (.slice none 0 0)), none, 0⟩,
      ⟨some 7, .mv (.tmp 18), none, 0⟩]) <|
    .keep [6, 7] <|
    .ret)
    (.skip)) <|
  .seq (.ops [
    ⟨some 19, .buildSl 1 [] [] 0, none, 0⟩,
    ⟨some 9, .mv (.tmp 19), none, 0⟩]) <|
  .seq (.seq (.ops [
    ⟨some 10, .mv (.const (.int .i64 0)), none, 0⟩]) <|
  .block 0 <|
  .loop [1, 2, 3, 9, 10] i_spec_PairsToJoin_B2) <|
  .seq (.ops [
    ⟨some 46, .mv (.tmp 9), none, 0⟩,
    ⟨some 6, .mv (.tmp 46), none, 0⟩,
    ⟨some 7, .mv (.const (.int .i64 0)), none, 0⟩]) <|
  .keep [6, 7] <|
  .ret⟩

theorem e_spec_PairsToJoin : EntOK Tryd.prog (compD Tryd.prog) k_spec_PairsToJoin i_spec_PairsToJoin.vf :=
  ⟨Tryd.f31, Tryd.f31.body.getD .skip, Tryd.func31, by kernel_rfl, by kernel_rfl, by kernel_rfl, by kernel_rfl, by kernel_rfl⟩

/-- loop.example/g01331/impl.PairsToJoin -/
def i_impl_PairsToJoin : FF := ⟨20, [.tmp 6, .tmp 7],
  .seq (.ops [
    ⟨some 3, .box 2 (.tmp 0), none, 0⟩,
    ⟨some 6, .mv (.const (.slice none 0 0)), none, 0⟩,
    ⟨some 7, .mv (.const (.int .i64 0)), none, 0⟩]) <|
  .seq (.seq (.ops [
    ⟨some 9, .load true 2 (.tmp 3), none, 0⟩,
    ⟨some 10, .mv (.tmp 1), none, 0⟩,
    ⟨some 11, .mv (.tmp 2), none, 0⟩,
    ⟨some 12, .call k_impl_fitCode [(.tmp 9), (.tmp 10), (.tmp 11)], none, 0⟩,
    ⟨some 8, .mv (.tmp 12), none, 0⟩]) <|
  .seq (.ops [
    ⟨some 13, .mv (.tmp 8), none, 0⟩,
    ⟨some 14, .bin .neq (.tmp 13) (.const (.int .i64 0)), none, 0⟩]) <|
  .cond (.tmp 14)
    (.seq (.ops [
      ⟨some 15, .mv (.tmp 8), none, 0⟩,
      ⟨some 6, .mv (.const (.slice none 0 0)), none, 0⟩,
      ⟨some 7, .mv (.tmp 15), none, 0⟩]) <|
    .keep [6, 7] <|
    .ret)
    (.skip)) <|
  .seq (.ops [
    ⟨some 16, .load true 2 (.tmp 3), none, 0⟩,
    ⟨some 17, .mv (.tmp 1), none, 0⟩,
    ⟨some 18, .mv (.tmp 2), none, 0⟩,
    ⟨some 19, .call k_impl_Graph_pairs [(.tmp 16), (.tmp 17), (.tmp 18)], none, 0⟩,
    ⟨some 6, .mv (.tmp 19), none, 0⟩,
    ⟨some 7, .mv (.const (.int .i64 0)), none, 0⟩]) <|
  .keep [6, 7] <|
  .ret⟩

theorem e_impl_PairsToJoin : EntOK Tryd.prog (compD Tryd.prog) k_impl_PairsToJoin i_impl_PairsToJoin.vf :=
  ⟨Tryd.f32, Tryd.f32.body.getD .skip, Tryd.func32, by kernel_rfl, by kernel_rfl, by kernel_rfl, by kernel_rfl, by kernel_rfl⟩

/-- loop.example/g01331/laws.eqInt64SS -/
def i_laws_eqInt64SS_B1 : FC :=
  .seq (.seq (.ops [
    ⟨some 11, .mv (.tmp 5), none, 0⟩,
    ⟨some 12, .mv (.tmp 0), none, 0⟩,
    ⟨some 13, .len (.tmp 12), none, 0⟩,
    ⟨some 14, .bin .lss (.tmp 11) (.tmp 13), none, 0⟩]) <|
  .cond (.tmp 14)
    (.skip)
    (.keep [] <|
    .exit 0)) <|
  .seq (.block 1 <|
  .seq (.dops [
    ⟨some 17, .mv (.tmp 0), none, 0⟩,
    ⟨some 18, .mv (.tmp 5), none, 0⟩,
    ⟨some 19, .idx 1 (.tmp 17) (.tmp 18), none, 0⟩,
    ⟨some 20, .load false 1 (.tmp 19), none, 0⟩,
    ⟨some 21, .mv (.tmp 1), none, 0⟩,
    ⟨some 22, .mv (.tmp 5), none, 0⟩,
    ⟨some 23, .idx 1 (.tmp 21) (.tmp 22), none, 0⟩,
    ⟨some 24, .load false 1 (.tmp 23), none, 0⟩,
    ⟨some 25, .call k_laws_eqInt64S [(.tmp 20), (.tmp 24)], none, 0⟩,
    ⟨some 26, .un .not (.tmp 25), none, 0⟩]) <|
  .cond (.tmp 26)
    (.seq (.ops [
      ⟨some 4, .mv (.const (.bool false)), none, 0⟩]) <|
    .keep [4] <|
    .ret)
    (.skip)) <|
  .ops [
    ⟨some 15, .mv (.tmp 5), none, 0⟩,
    ⟨some 16, .bin .add (.tmp 15) (.const (.int .i64 1)), none, 0⟩,
    ⟨some 5, .mv (.tmp 16), none, 0⟩]
def i_laws_eqInt64SS : FF := ⟨27, [.tmp 4],
  .seq (.ops [
    ⟨some 4, .mv (.const (.bool false)), none, 0⟩]) <|
  .seq (.seq (.ops [
    ⟨some 6, .mv (.tmp 0), none, 0⟩,
    ⟨some 7, .len (.tmp 6), none, 0⟩,
    ⟨some 8, .mv (.tmp 1), none, 0⟩,
    ⟨some 9, .len (.tmp 8), none, 0⟩,
    ⟨some 10, .bin .neq (.tmp 7) (.tmp 9), none, 0⟩]) <|
  .cond (.tmp 10)
    (.seq (.ops [
      ⟨some 4, .mv (.const (.bool false)), none, 0⟩]) <|
    .keep [4] <|
    .ret)
    (.skip)) <|
  .seq (.seq (.ops [
    ⟨some 5, .mv (.const (.int .i64 0)), none, 0⟩]) <|
  .block 0 <|
  .loop [0, 1, 5] i_laws_eqInt64SS_B1) <|
  .seq (.ops [
    ⟨some 4, .mv (.const (.bool true)), none, 0⟩]) <|
  .keep [4] <|
  .ret⟩

theorem e_laws_eqInt64SS : EntOK Tryd.prog (compD Tryd.prog) k_laws_eqInt64SS i_laws_eqInt64SS.vf :=
  ⟨Tryd.f33, Tryd.f33.body.getD .skip, Tryd.func33, by kernel_rfl, by kernel_rfl, by kernel_rfl, by kernel_rfl, by kernel_rfl⟩

/-- loop.example/g01331/laws.markInt64SS -/
def i_laws_markInt64SS_B1 : FC :=
  .seq (.seq (.ops [
    ⟨some 6, .mv (.tmp 5), none, 0⟩,
    ⟨some 7, .mv (.tmp 0), none, 0⟩,
    ⟨some 8, .len (.tmp 7), none, 0⟩,
    ⟨some 9, .bin .lss (.tmp 6) (.tmp 8), none, 0⟩]) <|
  .cond (.tmp 9)
    (.skip)
    (.keep [1] <|
    .exit 0)) <|
  .seq (.block 1 <|
  .ops [
    ⟨some 12, .mv (.tmp 0), none, 0⟩,
    ⟨some 13, .mv (.tmp 5), none, 0⟩,
    ⟨some 14, .idx 1 (.tmp 12) (.tmp 13), none, 0⟩,
    ⟨some 15, .load false 1 (.tmp 14), none, 0⟩,
    ⟨some 16, .mv (.tmp 1), none, 0⟩,
    ⟨some 17, .call k_laws_markInt64S [(.tmp 15), (.tmp 16)], none, 0⟩,
    ⟨some 1, .mv (.tmp 17), none, 0⟩]) <|
  .ops [
    ⟨some 10, .mv (.tmp 5), none, 0⟩,
    ⟨some 11, .bin .add (.tmp 10) (.const (.int .i64 1)), none, 0⟩,
    ⟨some 5, .mv (.tmp 11), none, 0⟩]
def i_laws_markInt64SS : FF := ⟨19, [.tmp 4],
  .seq (.ops [
    ⟨some 4, .mv (.const (.int .i64 0)), none, 0⟩]) <|
  .seq (.seq (.ops [
    ⟨some 5, .mv (.const (.int .i64 0)), none, 0⟩]) <|
  .block 0 <|
  .loop [0, 1, 5] i_laws_markInt64SS_B1) <|
  .seq (.ops [
    ⟨some 18, .mv (.tmp 1), none, 0⟩,
    ⟨some 4, .mv (.tmp 18), none, 0⟩]) <|
  .keep [4] <|
  .ret⟩

theorem e_laws_markInt64SS : EntOK Tryd.prog (compD Tryd.prog) k_laws_markInt64SS i_laws_markInt64SS.vf :=
  ⟨Tryd.f34, Tryd.f34.body.getD .skip, Tryd.func34, by kernel_rfl, by kernel_rfl, by kernel_rfl, by kernel_rfl, by kernel_rfl⟩

/-- loop.example/g01331/laws.heldInt64SS -/
def i_laws_heldInt64SS_B1 : FC :=
  .seq (.seq (.ops [
    ⟨some 6, .mv (.tmp 5), none, 0⟩,
    ⟨some 7, .mv (.tmp 0), none, 0⟩,
    ⟨some 8, .len (.tmp 7), none, 0⟩,
    ⟨some 9, .bin .lss (.tmp 6) (.tmp 8), none, 0⟩]) <|
  .cond (.tmp 9)
    (.skip)
    (.keep [1] <|
    .exit 0)) <|
  .seq (.block 1 <|
  .seq (.ops [
    ⟨some 12, .mv (.tmp 0), none, 0⟩,
    ⟨some 13, .mv (.tmp 5), none, 0⟩,
    ⟨some 14, .idx 1 (.tmp 12) (.tmp 13), none, 0⟩,
    ⟨some 15, .load false 1 (.tmp 14), none, 0⟩,
    ⟨some 16, .mv (.tmp 1), none, 0⟩,
    ⟨some 17, .call k_laws_heldInt64S [(.tmp 15), (.tmp 16)], none, 0⟩,
    ⟨some 1, .mv (.tmp 17), none, 0⟩]) <|
  .seq (.ops [
    ⟨some 18, .mv (.tmp 1), none, 0⟩,
    ⟨some 19, .bin .lss (.tmp 18) (.const (.int .i64 0)), none, 0⟩]) <|
  .cond (.tmp 19)
    (.seq (.ops [
      ⟨some 4, .mv (.const (.int .i64 (-1))), none, 0⟩]) <|
    .keep [4] <|
    .ret)
    (.skip)) <|
  .ops [
    ⟨some 10, .mv (.tmp 5), none, 0⟩,
    ⟨some 11, .bin .add (.tmp 10) (.const (.int .i64 1)), none, 0⟩,
    ⟨some 5, .mv (.tmp 11), none, 0⟩]
def i_laws_heldInt64SS : FF := ⟨21, [.tmp 4],
  .seq (.ops [
    ⟨some 4, .mv (.const (.int .i64 0)), none, 0⟩]) <|
  .seq (.seq (.ops [
    ⟨some 5, .mv (.const (.int .i64 0)), none, 0⟩]) <|
  .block 0 <|
  .loop [0, 1, 5] i_laws_heldInt64SS_B1) <|
  .seq (.ops [
    ⟨some 20, .mv (.tmp 1), none, 0⟩,
    ⟨some 4, .mv (.tmp 20), none, 0⟩]) <|
  .keep [4] <|
  .ret⟩

theorem e_laws_heldInt64SS : EntOK Tryd.prog (compD Tryd.prog) k_laws_heldInt64SS i_laws_heldInt64SS.vf :=
  ⟨Tryd.f35, Tryd.f35.body.getD .skip, Tryd.func35, by kernel_rfl, by kernel_rfl, by kernel_rfl, by kernel_rfl, by kernel_rfl⟩

/-- loop.example/g01331/laws.big -/
def i_laws_big : FF := ⟨6, [.tmp 2],
  .seq (.ops [
    ⟨some 2, .mv (.const (.bool false)), none, 0⟩]) <|
  .seq (.ops [
    ⟨some 3, .mv (.tmp 0), none, 0⟩,
    ⟨some 4, .len (.tmp 3), none, 0⟩,
    ⟨some 5, .bin .gtr (.tmp 4) (.const (.int .i64 4096)), none, 0⟩,
    ⟨some 2, .mv (.tmp 5), none, 0⟩]) <|
  .keep [2] <|
  .ret⟩

theorem e_laws_big : EntOK Tryd.prog (compD Tryd.prog) k_laws_big i_laws_big.vf :=
  ⟨Tryd.f36, Tryd.f36.body.getD .skip, Tryd.func36, by kernel_rfl, by kernel_rfl, by kernel_rfl, by kernel_rfl, by kernel_rfl⟩

/-- loop.example/g01331/spec.DrawFirstRegular -/
def i_spec_DrawFirstRegular : FF := ⟨29, [.tmp 2, .tmp 3, .tmp 4],
  .seq (.ops [
    ⟨some 2, .mv (.const (.int .i64 0)), none, 0⟩,
    ⟨some 3, .mv (.const (.int .i64 0)), none, 0⟩,
    ⟨some 4, .mv (.const (.int .i64 0)), none, 0⟩]) <|
  .seq (.ops [
    ⟨some 9, .mv (.tmp 0), none, 0⟩,
    ⟨some 10, .call k_spec_l01From [(.tmp 9)], none, 0⟩,
    ⟨some 5, .mv (.tmp 10), none, 0⟩]) <|
  .seq (.ops [
    ⟨some 12, .mv (.tmp 5), none, 0⟩,
    ⟨some 13, .call k_spec_l07DrawNumbers [(.tmp 12)], none, 0⟩,
    ⟨some 11, .mv (.tmp 13), none, 0⟩,
    ⟨some 14, .ext (.tmp 11) 0, none, 0⟩,
    ⟨some 15, .ext (.tmp 11) 1, none, 0⟩,
    ⟨some 6, .mv (.tmp 14), none, 0⟩,
    ⟨some 7, .mv (.tmp 15), none, 0⟩]) <|
  .seq (.ops [
    ⟨some 16, .mv (.tmp 5), none, 0⟩,
    ⟨some 17, .call k_spec_l01Next [(.tmp 16), (.const (.int .i64 10))], none, 0⟩,
    ⟨some 18, .bin .add (.const (.int .i64 1)) (.tmp 17), none, 0⟩,
    ⟨some 8, .mv (.tmp 18), none, 0⟩]) <|
  .seq (.ops [
    ⟨some 19, .mv (.tmp 5), none, 0⟩,
    ⟨some 20, .mv (.tmp 8), none, 0⟩,
    ⟨some 21, .mv (.tmp 8), none, 0⟩,
    ⟨some 22, .mv (.tmp 8), none, 0⟩,
    ⟨some 23, .mv (.tmp 8), none, 0⟩,
    ⟨some 24, .mv (.tmp 8), none, 0⟩,
    ⟨some 25, .buildSl 1 [.int .i64 0, .int .i64 0, .int .i64 0, .int .i64 0, .int .i64 0, .int .i64 0, .int .i64 0] [(0, 1, (.tmp 20)), (1, 1, (.tmp 21)), (2, 1, (.tmp 22)), (3, 1, (.tmp 23)), (4, 1, (.tmp 24)), (5, 1, (.const (.int .i64 0))), (6, 1, (.const (.int .i64 11)))] 7, none, 0⟩,
    ⟨some 26, .call k_spec_l01Pick [(.tmp 19), (.tmp 25)], none, 0⟩,
    ⟨some 27, .mv (.tmp 6), none, 0⟩,
    ⟨some 28, .mv (.tmp 7), none, 0⟩,
    ⟨some 2, .mv (.tmp 26), none, 0⟩,
    ⟨some 3, .mv (.tmp 27), none, 0⟩,
    ⟨some 4, .mv (.tmp 28), none, 0⟩]) <|
  .keep [2, 3, 4] <|
  .ret⟩

theorem e_spec_DrawFirstRegular : EntOK Tryd.prog (compD Tryd.prog) k_spec_DrawFirstRegular i_spec_DrawFirstRegular.vf :=
  ⟨Tryd.f37, Tryd.f37.body.getD .skip, Tryd.func37, by kernel_rfl, by kernel_rfl, by kernel_rfl, by kernel_rfl, by kernel_rfl⟩

/-- loop.example/g01331/laws.graphs5 -/
def i_laws_graphs5 : FF := ⟨17, [.tmp 4],
  .seq (.ops [
    ⟨some 2, .box 2 (.tmp 0), none, 0⟩,
    ⟨some 3, .box 2 (.tmp 1), none, 0⟩,
    ⟨some 4, .mv (.const (.bool false)), none, 0⟩]) <|
  .seq (.ops [
    ⟨some 5, .fld 0 (.tmp 2), none, 0⟩,
    ⟨some 6, .load false 1 (.tmp 5), none, 0⟩,
    ⟨some 7, .fld 0 (.tmp 3), none, 0⟩,
    ⟨some 8, .load false 1 (.tmp 7), none, 0⟩,
    ⟨some 9, .bin .eql (.tmp 6) (.tmp 8), none, 0⟩,
    ⟨some 10, .mv (.tmp 9), none, 0⟩,
    ⟨some 11, .fld 1 (.tmp 2), some (10, true), 0⟩,
    ⟨some 12, .load false 1 (.tmp 11), some (10, true), 0⟩,
    ⟨some 13, .fld 1 (.tmp 3), some (10, true), 0⟩,
    ⟨some 14, .load false 1 (.tmp 13), some (10, true), 0⟩,
    ⟨some 15, .call k_laws_likeInts [(.tmp 12), (.tmp 14)], some (10, true), 0⟩,
    ⟨some 16, .pick (.tmp 10) (.tmp 15) (.const (.bool false)), none, 0⟩,
    ⟨some 4, .mv (.tmp 16), none, 0⟩]) <|
  .keep [4] <|
  .ret⟩

theorem e_laws_graphs5 : EntOK Tryd.prog (compD Tryd.prog) k_laws_graphs5 i_laws_graphs5.vf :=
  ⟨Tryd.f38, Tryd.f38.body.getD .skip, Tryd.func38, by kernel_rfl, by kernel_rfl, by kernel_rfl, by kernel_rfl, by kernel_rfl⟩

/-- loop.example/g01331/impl.RegularDegree -/
def i_impl_RegularDegree : FF := ⟨13, [.tmp 2, .tmp 3],
  .seq (.ops [
    ⟨some 1, .box 2 (.tmp 0), none, 0⟩,
    ⟨some 2, .mv (.const (.int .i64 0)), none, 0⟩,
    ⟨some 3, .mv (.const (.int .i64 0)), none, 0⟩]) <|
  .seq (.seq (.ops [
    ⟨some 5, .load true 2 (.tmp 1), none, 0⟩,
    ⟨some 6, .call k_impl_IsGraph [(.tmp 5)], none, 0⟩,
    ⟨some 7, .un .not (.tmp 6), none, 0⟩]) <|
  .cond (.tmp 7)
    (.seq (.ops [
      ⟨some 2, .mv (.const (.int .i64 0)), none, 0⟩,
      ⟨some 3, .mv (.const (.int .i64 1)), none, 0⟩]) <|
    .keep [2, 3] <|
    .ret)
    (.skip)) <|
  .seq (.ops [
    ⟨some 8, .load true 2 (.tmp 1), none, 0⟩,
    ⟨some 9, .call k_impl_Graph_regular [(.tmp 8)], none, 0⟩,
    ⟨some 4, .mv (.tmp 9), none, 0⟩]) <|
  .seq (.seq (.ops [
    ⟨some 10, .mv (.tmp 4), none, 0⟩,
    ⟨some 11, .bin .lss (.tmp 10) (.const (.int .i64 0)), none, 0⟩]) <|
  .cond (.tmp 11)
    (.seq (.ops [
      ⟨some 2, .mv (.const (.int .i64 0)), none, 0⟩,
      ⟨some 3, .mv (.const (.int .i64 5)), none, 0⟩]) <|
    .keep [2, 3] <|
    .ret)
    (.skip)) <|
  .seq (.ops [
    ⟨some 12, .mv (.tmp 4), none, 0⟩,
    ⟨some 2, .mv (.tmp 12), none, 0⟩,
    ⟨some 3, .mv (.const (.int .i64 0)), none, 0⟩]) <|
  .keep [2, 3] <|
  .ret⟩

theorem e_impl_RegularDegree : EntOK Tryd.prog (compD Tryd.prog) k_impl_RegularDegree i_impl_RegularDegree.vf :=
  ⟨Tryd.f39, Tryd.f39.body.getD .skip, Tryd.func39, by kernel_rfl, by kernel_rfl, by kernel_rfl, by kernel_rfl, by kernel_rfl⟩

/-- loop.example/g01331/impl.FitsBoth -/
def i_impl_FitsBoth : FF := ⟨20, [.tmp 6, .tmp 7],
  .seq (.ops [
    ⟨some 3, .box 2 (.tmp 0), none, 0⟩,
    ⟨some 6, .mv (.const (.bool false)), none, 0⟩,
    ⟨some 7, .mv (.const (.int .i64 0)), none, 0⟩]) <|
  .seq (.seq (.ops [
    ⟨some 9, .load true 2 (.tmp 3), none, 0⟩,
    ⟨some 10, .mv (.tmp 1), none, 0⟩,
    ⟨some 11, .mv (.tmp 2), none, 0⟩,
    ⟨some 12, .call k_impl_bothCode [(.tmp 9), (.tmp 10), (.tmp 11)], none, 0⟩,
    ⟨some 8, .mv (.tmp 12), none, 0⟩]) <|
  .seq (.ops [
    ⟨some 13, .mv (.tmp 8), none, 0⟩,
    ⟨some 14, .bin .neq (.tmp 13) (.const (.int .i64 0)), none, 0⟩]) <|
  .cond (.tmp 14)
    (.seq (.ops [
      ⟨some 15, .mv (.tmp 8), none, 0⟩,
      ⟨some 6, .mv (.const (.bool false)), none, 0⟩,
      ⟨some 7, .mv (.tmp 15), none, 0⟩]) <|
    .keep [6, 7] <|
    .ret)
    (.skip)) <|
  .seq (.ops [
    ⟨some 16, .load true 2 (.tmp 3), none, 0⟩,
    ⟨some 17, .mv (.tmp 1), none, 0⟩,
    ⟨some 18, .mv (.tmp 2), none, 0⟩,
    ⟨some 19, .call k_impl_Graph_fits [(.tmp 16), (.tmp 17), (.tmp 18)], none, 0⟩,
    ⟨some 6, .mv (.tmp 19), none, 0⟩,
    ⟨some 7, .mv (.const (.int .i64 0)), none, 0⟩]) <|
  .keep [6, 7] <|
  .ret⟩

theorem e_impl_FitsBoth : EntOK Tryd.prog (compD Tryd.prog) k_impl_FitsBoth i_impl_FitsBoth.vf :=
  ⟨Tryd.f40, Tryd.f40.body.getD .skip, Tryd.func40, by kernel_rfl, by kernel_rfl, by kernel_rfl, by kernel_rfl, by kernel_rfl⟩

/-- loop.example/g01331/spec.DrawLeastVertices -/
def i_spec_DrawLeastVertices : FF := ⟨14, [.tmp 2, .tmp 3],
  .seq (.ops [
    ⟨some 2, .mv (.const (.int .i64 0)), none, 0⟩,
    ⟨some 3, .mv (.const (.int .i64 0)), none, 0⟩]) <|
  .seq (.ops [
    ⟨some 7, .mv (.tmp 0), none, 0⟩,
    ⟨some 8, .call k_spec_l01From [(.tmp 7)], none, 0⟩,
    ⟨some 9, .call k_spec_l07DrawNumbers [(.tmp 8)], none, 0⟩,
    ⟨some 6, .mv (.tmp 9), none, 0⟩,
    ⟨some 10, .ext (.tmp 6) 0, none, 0⟩,
    ⟨some 11, .ext (.tmp 6) 1, none, 0⟩,
    ⟨some 4, .mv (.tmp 10), none, 0⟩,
    ⟨some 5, .mv (.tmp 11), none, 0⟩]) <|
  .seq (.ops [
    ⟨some 12, .mv (.tmp 4), none, 0⟩,
    ⟨some 13, .mv (.tmp 5), none, 0⟩,
    ⟨some 2, .mv (.tmp 12), none, 0⟩,
    ⟨some 3, .mv (.tmp 13), none, 0⟩]) <|
  .keep [2, 3] <|
  .ret⟩

theorem e_spec_DrawLeastVertices : EntOK Tryd.prog (compD Tryd.prog) k_spec_DrawLeastVertices i_spec_DrawLeastVertices.vf :=
  ⟨Tryd.f41, Tryd.f41.body.getD .skip, Tryd.func41, by kernel_rfl, by kernel_rfl, by kernel_rfl, by kernel_rfl, by kernel_rfl⟩

/-- loop.example/g01331/spec.l01In -/
def i_spec_l01In : FF := ⟨15, [.tmp 6],
  .seq (.ops [
    ⟨some 6, .mv (.const (.bool false)), none, 0⟩]) <|
  .seq (.ops [
    ⟨some 7, .mv (.tmp 0), none, 0⟩,
    ⟨some 8, .mv (.tmp 1), none, 0⟩,
    ⟨some 9, .bin .geq (.tmp 7) (.tmp 8), none, 0⟩,
    ⟨some 10, .mv (.tmp 9), none, 0⟩,
    ⟨some 11, .mv (.tmp 0), some (10, true), 0⟩,
    ⟨some 12, .mv (.tmp 2), some (10, true), 0⟩,
    ⟨some 13, .bin .leq (.tmp 11) (.tmp 12), some (10, true), 0⟩,
    ⟨some 14, .pick (.tmp 10) (.tmp 13) (.const (.bool false)), none, 0⟩,
    ⟨some 6, .mv (.tmp 14), none, 0⟩]) <|
  .keep [6] <|
  .ret⟩

theorem e_spec_l01In : EntOK Tryd.prog (compD Tryd.prog) k_spec_l01In i_spec_l01In.vf :=
  ⟨Tryd.f42, Tryd.f42.body.getD .skip, Tryd.func42, by kernel_rfl, by kernel_rfl, by kernel_rfl, by kernel_rfl, by kernel_rfl⟩

/-- loop.example/g01331/spec.l07Numbers -/
def i_spec_l07Numbers : FF := ⟨11, [.tmp 4],
  .seq (.ops [
    ⟨some 4, .mv (.const (.bool false)), none, 0⟩]) <|
  .seq (.ops [
    ⟨some 5, .mv (.tmp 0), none, 0⟩,
    ⟨some 6, .call k_spec_l01In [(.tmp 5), (.const (.int .i64 1)), (.const (.int .i64 6))], none, 0⟩,
    ⟨some 7, .mv (.tmp 6), none, 0⟩,
    ⟨some 8, .mv (.tmp 1), some (7, true), 0⟩,
    ⟨some 9, .call k_spec_l01In [(.tmp 8), (.const (.int .i64 3)), (.const (.int .i64 12))], some (7, true), 0⟩,
    ⟨some 10, .pick (.tmp 7) (.tmp 9) (.const (.bool false)), none, 0⟩,
    ⟨some 4, .mv (.tmp 10), none, 0⟩]) <|
  .keep [4] <|
  .ret⟩

theorem e_spec_l07Numbers : EntOK Tryd.prog (compD Tryd.prog) k_spec_l07Numbers i_spec_l07Numbers.vf :=
  ⟨Tryd.f43, Tryd.f43.body.getD .skip, Tryd.func43, by kernel_rfl, by kernel_rfl, by kernel_rfl, by kernel_rfl, by kernel_rfl⟩

/-- loop.example/g01331/spec.l07Fill -/
def i_spec_l07Fill_B1 : FC :=
  .seq (.seq (.ops [
    ⟨some 20, .mv (.tmp 9), none, 0⟩,
    ⟨some 21, .fld 0 (.tmp 3), none, 0⟩,
    ⟨some 22, .load false 1 (.tmp 21), none, 0⟩,
    ⟨some 23, .bin .lss (.tmp 20) (.tmp 22), none, 0⟩]) <|
  .cond (.tmp 23)
    (.skip)
    (.keep [1, 2, 3, 6, 7, 8] <|
    .exit 2)) <|
  .seq (.block 3 <|
  .seq (.ops [
    ⟨some 26, .load true 2 (.tmp 7), none, 0⟩,
    ⟨some 27, .mv (.tmp 1), none, 0⟩,
    ⟨some 28, .mv (.tmp 2), none, 0⟩,
    ⟨some 29, .mv (.tmp 8), none, 0⟩,
    ⟨some 30, .mv (.tmp 9), none, 0⟩,
    ⟨some 31, .call k_spec_l07May [(.tmp 26), (.tmp 27), (.tmp 28), (.tmp 29), (.tmp 30)], none, 0⟩]) <|
  .cond (.tmp 31)
    (.ops [
      ⟨some 32, .load true 2 (.tmp 7), none, 0⟩,
      ⟨some 33, .mv (.tmp 8), none, 0⟩,
      ⟨some 34, .mv (.tmp 9), none, 0⟩,
      ⟨some 35, .call k_spec_l01Put [(.tmp 32), (.tmp 33), (.tmp 34)], none, 0⟩])
    (.skip)) <|
  .ops [
    ⟨some 24, .mv (.tmp 9), none, 0⟩,
    ⟨some 25, .bin .add (.tmp 24) (.const (.int .i64 1)), none, 0⟩,
    ⟨some 9, .mv (.tmp 25), none, 0⟩]
def i_spec_l07Fill_B2 : FC :=
  .seq (.seq (.ops [
    ⟨some 12, .mv (.tmp 8), none, 0⟩,
    ⟨some 13, .fld 0 (.tmp 3), none, 0⟩,
    ⟨some 14, .load false 1 (.tmp 13), none, 0⟩,
    ⟨some 15, .bin .lss (.tmp 12) (.tmp 14), none, 0⟩]) <|
  .cond (.tmp 15)
    (.skip)
    (.keep [6, 7] <|
    .exit 0)) <|
  .seq (.block 1 <|
  .seq (.ops [
    ⟨some 18, .mv (.tmp 8), none, 0⟩,
    ⟨some 19, .bin .add (.tmp 18) (.const (.int .i64 1)), none, 0⟩,
    ⟨some 9, .mv (.tmp 19), none, 0⟩]) <|
  .block 2 <|
  .loop [1, 2, 3, 6, 7, 8, 9] i_spec_l07Fill_B1) <|
  .ops [
    ⟨some 16, .mv (.tmp 8), none, 0⟩,
    ⟨some 17, .bin .add (.tmp 16) (.const (.int .i64 1)), none, 0⟩,
    ⟨some 8, .mv (.tmp 17), none, 0⟩]
def i_spec_l07Fill : FF := ⟨37, [.cell 6 true 2],
  .seq (.ops [
    ⟨some 3, .box 2 (.tmp 0), none, 0⟩,
    ⟨some 6, .alloc [.int .i64 0, .slice none 0 0], none, 0⟩]) <|
  .seq (.ops [
    ⟨some 10, .load true 2 (.tmp 3), none, 0⟩,
    ⟨some 11, .call k_spec_l01Copy [(.tmp 10)], none, 0⟩,
    ⟨some 7, .alloc [.int .i64 0, .slice none 0 0], none, 0⟩,
    ⟨none, .store 2 (.tmp 7) (.tmp 11), none, 0⟩]) <|
  .seq (.seq (.ops [
    ⟨some 8, .mv (.const (.int .i64 0)), none, 0⟩]) <|
  .block 0 <|
  .loop [1, 2, 3, 6, 7, 8] i_spec_l07Fill_B2) <|
  .seq (.ops [
    ⟨some 36, .load true 2 (.tmp 7), none, 0⟩,
    ⟨none, .store 2 (.tmp 6) (.tmp 36), none, 0⟩]) <|
  .keep [6] <|
  .ret⟩

theorem e_spec_l07Fill : EntOK Tryd.prog (compD Tryd.prog) k_spec_l07Fill i_spec_l07Fill.vf :=
  ⟨Tryd.f44, Tryd.f44.body.getD .skip, Tryd.func44, by kernel_rfl, by kernel_rfl, by kernel_rfl, by kernel_rfl, by kernel_rfl⟩

/-- loop.example/g01331/spec.l01Empty -/
def i_spec_l01Empty : FF := ⟨7, [.cell 2 true 2],
  .seq (.ops [
    ⟨some 2, .alloc [.int .i64 0, .slice none 0 0], none, 0⟩]) <|
  .seq (.ops [
    ⟨some 3, .mv (.tmp 0), none, 0⟩,
    ⟨some 4, .mv (.tmp 0), none, 0⟩,
    ⟨some 5, .mkSl 1 [.int .i64 0] 8 (.tmp 4) (.tmp 4), none, 0⟩,
    ⟨some 6, .build [.int .i64 0, .slice none 0 0] [(0, 1, (.tmp 3)), (1, 1, (.tmp 5))], none, 0⟩,
    ⟨none, .store 2 (.tmp 2) (.tmp 6), none, 0⟩]) <|
  .keep [2] <|
  .ret⟩

theorem e_spec_l01Empty : EntOK Tryd.prog (compD Tryd.prog) k_spec_l01Empty i_spec_l01Empty.vf :=
  ⟨Tryd.f45, Tryd.f45.body.getD .skip, Tryd.func45, by kernel_rfl, by kernel_rfl, by kernel_rfl, by kernel_rfl, by kernel_rfl⟩

/-- loop.example/g01331/impl.isBoth -/
def i_impl_isBoth : FF := ⟨19, [.tmp 4],
  .seq (.ops [
    ⟨some 4, .mv (.const (.bool false)), none, 0⟩]) <|
  .seq (.ops [
    ⟨some 5, .mv (.tmp 0), none, 0⟩,
    ⟨some 6, .bin .geq (.tmp 5) (.const (.int .i64 1)), none, 0⟩,
    ⟨some 7, .mv (.tmp 6), none, 0⟩,
    ⟨some 8, .mv (.tmp 0), some (7, true), 0⟩,
    ⟨some 9, .bin .leq (.tmp 8) (.const (.int .i64 6)), some (7, true), 0⟩,
    ⟨some 10, .pick (.tmp 7) (.tmp 9) (.const (.bool false)), none, 0⟩,
    ⟨some 11, .mv (.tmp 10), none, 0⟩,
    ⟨some 12, .mv (.tmp 1), some (11, true), 0⟩,
    ⟨some 13, .bin .geq (.tmp 12) (.const (.int .i64 3)), some (11, true), 0⟩,
    ⟨some 14, .pick (.tmp 11) (.tmp 13) (.const (.bool false)), none, 0⟩,
    ⟨some 15, .mv (.tmp 14), none, 0⟩,
    ⟨some 16, .mv (.tmp 1), some (15, true), 0⟩,
    ⟨some 17, .bin .leq (.tmp 16) (.const (.int .i64 12)), some (15, true), 0⟩,
    ⟨some 18, .pick (.tmp 15) (.tmp 17) (.const (.bool false)), none, 0⟩,
    ⟨some 4, .mv (.tmp 18), none, 0⟩]) <|
  .keep [4] <|
  .ret⟩

theorem e_impl_isBoth : EntOK Tryd.prog (compD Tryd.prog) k_impl_isBoth i_impl_isBoth.vf :=
  ⟨Tryd.f46, Tryd.f46.body.getD .skip, Tryd.func46, by kernel_rfl, by kernel_rfl, by kernel_rfl, by kernel_rfl, by kernel_rfl⟩

/-- loop.example/g01331/impl.filled -/
def i_impl_filled_B1 : FC :=
  .seq (.seq (.ops [
    ⟨some 19, .mv (.tmp 9), none, 0⟩,
    ⟨some 20, .fld 0 (.tmp 3), none, 0⟩,
    ⟨some 21, .load false 1 (.tmp 20), none, 0⟩,
    ⟨some 22, .bin .lss (.tmp 19) (.tmp 21), none, 0⟩]) <|
  .cond (.tmp 22)
    (.skip)
    (.keep [1, 2, 3, 6, 7, 13, 14] <|
    .exit 2)) <|
  .seq (.block 3 <|
  .seq (.ops [
    ⟨some 25, .load true 2 (.tmp 7), none, 0⟩,
    ⟨some 26, .mv (.tmp 8), none, 0⟩,
    ⟨some 27, .mv (.tmp 9), none, 0⟩,
    ⟨some 28, .mv (.tmp 1), none, 0⟩,
    ⟨some 29, .mv (.tmp 2), none, 0⟩,
    ⟨some 30, .call k_impl_Graph_mayJoin [(.tmp 25), (.tmp 26), (.tmp 27), (.tmp 28), (.tmp 29)], none, 0⟩]) <|
  .cond (.tmp 30)
    (.ops [
      ⟨some 31, .load true 2 (.tmp 7), none, 0⟩,
      ⟨some 32, .mv (.tmp 8), none, 0⟩,
      ⟨some 33, .mv (.tmp 9), none, 0⟩,
      ⟨some 34, .call k_impl_Graph_put [(.tmp 31), (.tmp 32), (.tmp 33)], none, 0⟩])
    (.skip)) <|
  .ops [
    ⟨some 23, .mv (.tmp 9), none, 0⟩,
    ⟨some 24, .bin .add (.tmp 23) (.const (.int .i64 1)), none, 0⟩,
    ⟨some 9, .mv (.tmp 24), none, 0⟩]
def i_impl_filled_B2 : FC :=
  .seq (.ops [
    ⟨some 15, .bin .lss (.tmp 14) (.tmp 13), none, 0⟩]) <|
  .seq (.cond (.tmp 15)
    (.skip)
    (.keep [6, 7] <|
    .exit 0)) <|
  .seq (.block 1 <|
  .seq (.ops [
    ⟨some 16, .mv (.tmp 14), none, 0⟩,
    ⟨some 8, .mv (.tmp 16), none, 0⟩]) <|
  .seq (.ops [
    ⟨some 17, .mv (.tmp 8), none, 0⟩,
    ⟨some 18, .bin .add (.tmp 17) (.const (.int .i64 1)), none, 0⟩,
    ⟨some 9, .mv (.tmp 18), none, 0⟩]) <|
  .block 2 <|
  .loop [1, 2, 3, 6, 7, 8, 9, 13, 14] i_impl_filled_B1) <|
  .ops [
    ⟨some 35, .bin .add (.tmp 14) (.const (.int .i64 1)), none, 0⟩,
    ⟨some 14, .mv (.tmp 35), none, 0⟩]
def i_impl_filled : FF := ⟨37, [.cell 6 true 2],
  .seq (.ops [
    ⟨some 3, .box 2 (.tmp 0), none, 0⟩,
    ⟨some 6, .alloc [.int .i64 0, .slice none 0 0], none, 0⟩]) <|
  .seq (.ops [
    ⟨some 10, .load true 2 (.tmp 3), none, 0⟩,
    ⟨some 11, .call k_impl_own [(.tmp 10)], none, 0⟩,
    ⟨some 7, .alloc [.int .i64 0, .slice none 0 0], none, 0⟩,
    ⟨none, .store 2 (.tmp 7) (.tmp 11), none, 0⟩]) <|
  .seq (.seq (.ops [
    ⟨some 12, .fld 0 (.tmp 3), none, 0⟩,
    ⟨some 13, .load false 1 (.tmp 12), none, 0⟩,
    ⟨some 14, .mv (.const (.int .i64 0)), none, 0⟩]) <|
  .block 0 <|
  .loop [1, 2, 3, 6, 7, 13, 14] i_impl_filled_B2) <|
  .seq (.ops [
    ⟨some 36, .load true 2 (.tmp 7), none, 0⟩,
    ⟨none, .store 2 (.tmp 6) (.tmp 36), none, 0⟩]) <|
  .keep [6] <|
  .ret⟩

theorem e_impl_filled : EntOK Tryd.prog (compD Tryd.prog) k_impl_filled i_impl_filled.vf :=
  ⟨Tryd.f47, Tryd.f47.body.getD .skip, Tryd.func47, by kernel_rfl, by kernel_rfl, by kernel_rfl, by kernel_rfl, by kernel_rfl⟩

/-- loop.example/g01331/impl.empty -/
def i_impl_empty : FF := ⟨7, [.cell 2 true 2],
  .seq (.ops [
    ⟨some 2, .alloc [.int .i64 0, .slice none 0 0], none, 0⟩]) <|
  .seq (.ops [
    ⟨some 3, .mv (.tmp 0), none, 0⟩,
    ⟨some 4, .mv (.tmp 0), none, 0⟩,
    ⟨some 5, .mkSl 1 [.int .i64 0] 8 (.tmp 4) (.tmp 4), none, 0⟩,
    ⟨some 6, .build [.int .i64 0, .slice none 0 0] [(0, 1, (.tmp 3)), (1, 1, (.tmp 5))], none, 0⟩,
    ⟨none, .store 2 (.tmp 2) (.tmp 6), none, 0⟩]) <|
  .keep [2] <|
  .ret⟩

theorem e_impl_empty : EntOK Tryd.prog (compD Tryd.prog) k_impl_empty i_impl_empty.vf :=
  ⟨Tryd.f48, Tryd.f48.body.getD .skip, Tryd.func48, by kernel_rfl, by kernel_rfl, by kernel_rfl, by kernel_rfl, by kernel_rfl⟩

/-- loop.example/g01331/laws.eqInt64S -/
def i_laws_eqInt64S_B1 : FC :=
  .seq (.seq (.ops [
    ⟨some 11, .mv (.tmp 5), none, 0⟩,
    ⟨some 12, .mv (.tmp 0), none, 0⟩,
    ⟨some 13, .len (.tmp 12), none, 0⟩,
    ⟨some 14, .bin .lss (.tmp 11) (.tmp 13), none, 0⟩]) <|
  .cond (.tmp 14)
    (.skip)
    (.keep [] <|
    .exit 0)) <|
  .seq (.block 1 <|
  .seq (.dops [
    ⟨some 17, .mv (.tmp 0), none, 0⟩,
    ⟨some 18, .mv (.tmp 5), none, 0⟩,
    ⟨some 19, .idx 1 (.tmp 17) (.tmp 18), none, 0⟩,
    ⟨some 20, .load false 1 (.tmp 19), none, 0⟩,
    ⟨some 21, .mv (.tmp 1), none, 0⟩,
    ⟨some 22, .mv (.tmp 5), none, 0⟩,
    ⟨some 23, .idx 1 (.tmp 21) (.tmp 22), none, 0⟩,
    ⟨some 24, .load false 1 (.tmp 23), none, 0⟩,
    ⟨some 25, .bin .neq (.tmp 20) (.tmp 24), none, 0⟩]) <|
  .cond (.tmp 25)
    (.seq (.ops [
      ⟨some 4, .mv (.const (.bool false)), none, 0⟩]) <|
    .keep [4] <|
    .ret)
    (.skip)) <|
  .ops [
    ⟨some 15, .mv (.tmp 5), none, 0⟩,
    ⟨some 16, .bin .add (.tmp 15) (.const (.int .i64 1)), none, 0⟩,
    ⟨some 5, .mv (.tmp 16), none, 0⟩]
def i_laws_eqInt64S : FF := ⟨26, [.tmp 4],
  .seq (.ops [
    ⟨some 4, .mv (.const (.bool false)), none, 0⟩]) <|
  .seq (.seq (.ops [
    ⟨some 6, .mv (.tmp 0), none, 0⟩,
    ⟨some 7, .len (.tmp 6), none, 0⟩,
    ⟨some 8, .mv (.tmp 1), none, 0⟩,
    ⟨some 9, .len (.tmp 8), none, 0⟩,
    ⟨some 10, .bin .neq (.tmp 7) (.tmp 9), none, 0⟩]) <|
  .cond (.tmp 10)
    (.seq (.ops [
      ⟨some 4, .mv (.const (.bool false)), none, 0⟩]) <|
    .keep [4] <|
    .ret)
    (.skip)) <|
  .seq (.seq (.ops [
    ⟨some 5, .mv (.const (.int .i64 0)), none, 0⟩]) <|
  .block 0 <|
  .loop [0, 1, 5] i_laws_eqInt64S_B1) <|
  .seq (.ops [
    ⟨some 4, .mv (.const (.bool true)), none, 0⟩]) <|
  .keep [4] <|
  .ret⟩

theorem e_laws_eqInt64S : EntOK Tryd.prog (compD Tryd.prog) k_laws_eqInt64S i_laws_eqInt64S.vf :=
  ⟨Tryd.f49, Tryd.f49.body.getD .skip, Tryd.func49, by kernel_rfl, by kernel_rfl, by kernel_rfl, by kernel_rfl, by kernel_rfl⟩

/-- loop.example/g01331/laws.markInt64S -/
def i_laws_markInt64S_B1 : FC :=
  .seq (.seq (.ops [
    ⟨some 6, .mv (.tmp 5), none, 0⟩,
    ⟨some 7, .mv (.tmp 0), none, 0⟩,
    ⟨some 8, .len (.tmp 7), none, 0⟩,
    ⟨some 9, .bin .lss (.tmp 6) (.tmp 8), none, 0⟩]) <|
  .cond (.tmp 9)
    (.skip)
    (.keep [1] <|
    .exit 0)) <|
  .seq (.block 1 <|
  .seq (.ops [
    ⟨some 12, .mv (.tmp 0), none, 0⟩,
    ⟨some 13, .mv (.tmp 5), none, 0⟩,
    ⟨some 14, .mv (.tmp 1), none, 0⟩,
    ⟨some 15, .idx 1 (.tmp 12) (.tmp 13), none, 0⟩,
    ⟨none, .store 1 (.tmp 15) (.tmp 14), none, 0⟩]) <|
  .ops [
    ⟨some 16, .mv (.tmp 1), none, 0⟩,
    ⟨some 17, .bin .add (.tmp 16) (.const (.int .i64 1)), none, 0⟩,
    ⟨some 1, .mv (.tmp 17), none, 0⟩]) <|
  .ops [
    ⟨some 10, .mv (.tmp 5), none, 0⟩,
    ⟨some 11, .bin .add (.tmp 10) (.const (.int .i64 1)), none, 0⟩,
    ⟨some 5, .mv (.tmp 11), none, 0⟩]
def i_laws_markInt64S : FF := ⟨19, [.tmp 4],
  .seq (.ops [
    ⟨some 4, .mv (.const (.int .i64 0)), none, 0⟩]) <|
  .seq (.seq (.ops [
    ⟨some 5, .mv (.const (.int .i64 0)), none, 0⟩]) <|
  .block 0 <|
  .loop [0, 1, 5] i_laws_markInt64S_B1) <|
  .seq (.ops [
    ⟨some 18, .mv (.tmp 1), none, 0⟩,
    ⟨some 4, .mv (.tmp 18), none, 0⟩]) <|
  .keep [4] <|
  .ret⟩

theorem e_laws_markInt64S : EntOK Tryd.prog (compD Tryd.prog) k_laws_markInt64S i_laws_markInt64S.vf :=
  ⟨Tryd.f50, Tryd.f50.body.getD .skip, Tryd.func50, by kernel_rfl, by kernel_rfl, by kernel_rfl, by kernel_rfl, by kernel_rfl⟩

/-- loop.example/g01331/laws.heldInt64S -/
def i_laws_heldInt64S_B1 : FC :=
  .seq (.seq (.ops [
    ⟨some 6, .mv (.tmp 5), none, 0⟩,
    ⟨some 7, .mv (.tmp 0), none, 0⟩,
    ⟨some 8, .len (.tmp 7), none, 0⟩,
    ⟨some 9, .bin .lss (.tmp 6) (.tmp 8), none, 0⟩]) <|
  .cond (.tmp 9)
    (.skip)
    (.keep [1] <|
    .exit 0)) <|
  .seq (.block 1 <|
  .seq (.seq (.ops [
    ⟨some 12, .mv (.tmp 0), none, 0⟩,
    ⟨some 13, .mv (.tmp 5), none, 0⟩,
    ⟨some 14, .idx 1 (.tmp 12) (.tmp 13), none, 0⟩,
    ⟨some 15, .load false 1 (.tmp 14), none, 0⟩,
    ⟨some 16, .mv (.tmp 1), none, 0⟩,
    ⟨some 17, .bin .neq (.tmp 15) (.tmp 16), none, 0⟩]) <|
  .cond (.tmp 17)
    (.seq (.ops [
      ⟨some 4, .mv (.const (.int .i64 (-1))), none, 0⟩]) <|
    .keep [4] <|
    .ret)
    (.skip)) <|
  .ops [
    ⟨some 18, .mv (.tmp 1), none, 0⟩,
    ⟨some 19, .bin .add (.tmp 18) (.const (.int .i64 1)), none, 0⟩,
    ⟨some 1, .mv (.tmp 19), none, 0⟩]) <|
  .ops [
    ⟨some 10, .mv (.tmp 5), none, 0⟩,
    ⟨some 11, .bin .add (.tmp 10) (.const (.int .i64 1)), none, 0⟩,
    ⟨some 5, .mv (.tmp 11), none, 0⟩]
def i_laws_heldInt64S : FF := ⟨21, [.tmp 4],
  .seq (.ops [
    ⟨some 4, .mv (.const (.int .i64 0)), none, 0⟩]) <|
  .seq (.seq (.ops [
    ⟨some 5, .mv (.const (.int .i64 0)), none, 0⟩]) <|
  .block 0 <|
  .loop [0, 1, 5] i_laws_heldInt64S_B1) <|
  .seq (.ops [
    ⟨some 20, .mv (.tmp 1), none, 0⟩,
    ⟨some 4, .mv (.tmp 20), none, 0⟩]) <|
  .keep [4] <|
  .ret⟩

theorem e_laws_heldInt64S : EntOK Tryd.prog (compD Tryd.prog) k_laws_heldInt64S i_laws_heldInt64S.vf :=
  ⟨Tryd.f51, Tryd.f51.body.getD .skip, Tryd.func51, by kernel_rfl, by kernel_rfl, by kernel_rfl, by kernel_rfl, by kernel_rfl⟩

/-- loop.example/g01331/spec.l07First -/
def i_spec_l07First : FF := ⟨38, [.cell 6 true 2, .tmp 7],
  .seq (.ops [
    ⟨some 6, .alloc [.int .i64 0, .slice none 0 0], none, 0⟩,
    ⟨some 7, .mv (.const (.bool false)), none, 0⟩]) <|
  .seq (.ops [
    ⟨some 10, .mv (.tmp 0), none, 0⟩,
    ⟨some 11, .call k_spec_l01Empty [(.tmp 10)], none, 0⟩,
    ⟨some 8, .alloc [.int .i64 0, .slice none 0 0], none, 0⟩,
    ⟨none, .store 2 (.tmp 8) (.tmp 11), none, 0⟩]) <|
  .seq (.seq (.ops [
    ⟨some 12, .mv (.tmp 0), none, 0⟩,
    ⟨some 13, .mv (.tmp 1), none, 0⟩,
    ⟨some 14, .bin .mul (.tmp 12) (.tmp 13), none, 0⟩,
    ⟨some 15, .bin .rem (.tmp 14) (.const (.int .i64 2)), none, 0⟩,
    ⟨some 16, .bin .neq (.tmp 15) (.const (.int .i64 0)), none, 0⟩,
    ⟨some 17, .mv (.tmp 16), none, 0⟩,
    ⟨some 18, .mv (.tmp 0), some (17, false), 0⟩,
    ⟨some 19, .mv (.tmp 1), some (17, false), 0⟩,
    ⟨some 20, .bin .leq (.tmp 18) (.tmp 19), some (17, false), 0⟩,
    ⟨some 21, .pick (.tmp 17) (.const (.bool true)) (.tmp 20), none, 0⟩,
    ⟨some 22, .mv (.tmp 21), none, 0⟩,
    ⟨some 23, .mv (.tmp 1), some (22, false), 0⟩,
    ⟨some 24, .bin .gtr (.tmp 23) (.const (.int .i64 1)), some (22, false), 0⟩,
    ⟨some 25, .mv (.tmp 24), some (22, false), 0⟩,
    ⟨some 26, .mv (.tmp 2), some (25, true), 0⟩,
    ⟨some 27, .mv (.tmp 0), some (25, true), 0⟩,
    ⟨some 28, .bin .gtr (.tmp 26) (.tmp 27), some (25, true), 0⟩,
    ⟨some 29, .pick (.tmp 25) (.tmp 28) (.const (.bool false)), some (22, false), 0⟩,
    ⟨some 30, .pick (.tmp 22) (.const (.bool true)) (.tmp 29), none, 0⟩]) <|
  .cond (.tmp 30)
    (.seq (.ops [
      ⟨some 31, .load true 2 (.tmp 8), none, 0⟩,
      ⟨none, .store 2 (.tmp 6) (.tmp 31), none, 0⟩,
      ⟨some 7, .mv (.const (.bool false)), none, 0⟩]) <|
    .keep [6, 7] <|
    .ret)
    (.skip)) <|
  .seq (.ops [
    ⟨some 32, .load true 2 (.tmp 8), none, 0⟩,
    ⟨some 33, .mv (.tmp 1), none, 0⟩,
    ⟨some 34, .mv (.tmp 2), none, 0⟩,
    ⟨some 35, .call k_spec_l07Search [(.tmp 32), (.tmp 33), (.tmp 34), (.const (.int .i64 0)), (.const (.int .i64 1))], none, 0⟩,
    ⟨some 9, .mv (.tmp 35), none, 0⟩]) <|
  .seq (.ops [
    ⟨some 36, .load true 2 (.tmp 8), none, 0⟩,
    ⟨some 37, .mv (.tmp 9), none, 0⟩,
    ⟨none, .store 2 (.tmp 6) (.tmp 36), none, 0⟩,
    ⟨some 7, .mv (.tmp 37), none, 0⟩]) <|
  .keep [6, 7] <|
  .ret⟩

theorem e_spec_l07First : EntOK Tryd.prog (compD Tryd.prog) k_spec_l07First i_spec_l07First.vf :=
  ⟨Tryd.f52, Tryd.f52.body.getD .skip, Tryd.func52, by kernel_rfl, by kernel_rfl, by kernel_rfl, by kernel_rfl, by kernel_rfl⟩

/-- loop.example/g01331/impl.firstRegular -/
def i_impl_firstRegular : FF := ⟨38, [.cell 6 true 2, .tmp 7],
  .seq (.ops [
    ⟨some 3, .box 1 (.tmp 0), none, 0⟩,
    ⟨some 4, .box 1 (.tmp 1), none, 0⟩,
    ⟨some 5, .box 1 (.tmp 2), none, 0⟩,
    ⟨some 6, .alloc [.int .i64 0, .slice none 0 0], none, 0⟩,
    ⟨some 7, .mv (.const (.bool false)), none, 0⟩]) <|
  .seq (.seq (.dops [
    ⟨some 10, .load false 1 (.tmp 3), none, 0⟩,
    ⟨some 11, .load false 1 (.tmp 4), none, 0⟩,
    ⟨some 12, .bin .mul (.tmp 10) (.tmp 11), none, 0⟩,
    ⟨some 13, .bin .rem (.tmp 12) (.const (.int .i64 2)), none, 0⟩,
    ⟨some 14, .bin .neq (.tmp 13) (.const (.int .i64 0)), none, 0⟩,
    ⟨some 15, .mv (.tmp 14), none, 0⟩,
    ⟨some 16, .load false 1 (.tmp 4), some (15, false), 0⟩,
    ⟨some 17, .load false 1 (.tmp 3), some (15, false), 0⟩,
    ⟨some 18, .bin .geq (.tmp 16) (.tmp 17), some (15, false), 0⟩,
    ⟨some 19, .pick (.tmp 15) (.const (.bool true)) (.tmp 18), none, 0⟩,
    ⟨some 20, .mv (.tmp 19), none, 0⟩,
    ⟨some 21, .load false 1 (.tmp 4), some (20, false), 0⟩,
    ⟨some 22, .bin .geq (.tmp 21) (.const (.int .i64 2)), some (20, false), 0⟩,
    ⟨some 23, .mv (.tmp 22), some (20, false), 0⟩,
    ⟨some 24, .load false 1 (.tmp 4), some (23, true), 0⟩,
    ⟨some 25, .load false 1 (.tmp 5), some (23, true), 0⟩,
    ⟨some 26, .call k_impl_girthBound [(.tmp 24), (.tmp 25)], some (23, true), 0⟩,
    ⟨some 27, .load false 1 (.tmp 3), some (23, true), 1⟩,
    ⟨some 28, .bin .gtr (.tmp 26) (.tmp 27), some (23, true), 0⟩,
    ⟨some 29, .pick (.tmp 23) (.tmp 28) (.const (.bool false)), some (20, false), 0⟩,
    ⟨some 30, .pick (.tmp 20) (.const (.bool true)) (.tmp 29), none, 0⟩]) <|
  .cond (.tmp 30)
    (.seq (.ops [
      ⟨some 31, .build [.int .i64 0, .slice none 0 0] [], none, 0⟩,
      ⟨none, .store 2 (.tmp 6) (.tmp 31), none, 0⟩,
      ⟨some 7, .mv (.const (.bool false)), none, 0⟩]) <|
    .keep [6, 7] <|
    .ret)
    (.skip)) <|
  .seq (.ops [
    ⟨some 32, .load false 1 (.tmp 3), none, 0⟩,
    ⟨some 33, .call k_impl_empty [(.tmp 32)], none, 0⟩,
    ⟨some 8, .alloc [.int .i64 0, .slice none 0 0], none, 0⟩,
    ⟨none, .store 2 (.tmp 8) (.tmp 33), none, 0⟩]) <|
  .seq (.ops [
    ⟨some 9, .alloc [.nilFunc], none, 0⟩]) <|
  .seq (.ops [
    ⟨some 34, .mkfn k_impl_firstRegular_1 [] [(.tmp 3), (.tmp 8), (.tmp 4), (.tmp 9), (.tmp 5)], none, 0⟩,
    ⟨none, .store 1 (.tmp 9) (.tmp 34), none, 0⟩]) <|
  .seq (.dops [
    ⟨some 36, .load false 1 (.tmp 9), none, 0⟩,
    ⟨some 37, .callv (.tmp 36) [(.const (.int .i64 0)), (.const (.int .i64 1))], none, 0⟩,
    ⟨some 35, .load true 2 (.tmp 8), none, 1⟩,
    ⟨none, .store 2 (.tmp 6) (.tmp 35), none, 0⟩,
    ⟨some 7, .mv (.tmp 37), none, 0⟩]) <|
  .keep [6, 7] <|
  .ret⟩

theorem e_impl_firstRegular : EntOK Tryd.prog (compD Tryd.prog) k_impl_firstRegular i_impl_firstRegular.vf :=
  ⟨Tryd.f53, Tryd.f53.body.getD .skip, Tryd.func53, by kernel_rfl, by kernel_rfl, by kernel_rfl, by kernel_rfl, by kernel_rfl⟩

/-- loop.example/g01331/laws.szInt64S -/
def i_laws_szInt64S : FF := ⟨12, [.tmp 4],
  .seq (.ops [
    ⟨some 4, .mv (.const (.int .i64 0)), none, 0⟩]) <|
  .seq (.ops [
    ⟨some 5, .mv (.tmp 1), none, 0⟩,
    ⟨some 6, .mv (.tmp 0), none, 0⟩,
    ⟨some 7, .len (.tmp 6), none, 0⟩,
    ⟨some 8, .bin .sub (.tmp 5) (.tmp 7), none, 0⟩,
    ⟨some 1, .mv (.tmp 8), none, 0⟩]) <|
  .seq (.seq (.ops [
    ⟨some 9, .mv (.tmp 1), none, 0⟩,
    ⟨some 10, .bin .lss (.tmp 9) (.const (.int .i64 0)), none, 0⟩]) <|
  .cond (.tmp 10)
    (.seq (.ops [
      ⟨some 4, .mv (.const (.int .i64 (-1))), none, 0⟩]) <|
    .keep [4] <|
    .ret)
    (.skip)) <|
  .seq (.ops [
    ⟨some 11, .mv (.tmp 1), none, 0⟩,
    ⟨some 4, .mv (.tmp 11), none, 0⟩]) <|
  .keep [4] <|
  .ret⟩

theorem e_laws_szInt64S : EntOK Tryd.prog (compD Tryd.prog) k_laws_szInt64S i_laws_szInt64S.vf :=
  ⟨Tryd.f54, Tryd.f54.body.getD .skip, Tryd.func54, by kernel_rfl, by kernel_rfl, by kernel_rfl, by kernel_rfl, by kernel_rfl⟩

/-- loop.example/g01331/spec.l02Code -/
def i_spec_l02Code_B1 : FC :=
  .seq (.seq (.ops [
    ⟨some 9, .mv (.tmp 5), none, 0⟩,
    ⟨some 10, .mv (.tmp 1), none, 0⟩,
    ⟨some 11, .len (.tmp 10), none, 0⟩,
    ⟨some 12, .bin .lss (.tmp 9) (.tmp 11), none, 0⟩]) <|
  .cond (.tmp 12)
    (.skip)
    (.keep [] <|
    .exit 0)) <|
  .seq (.block 1 <|
  .seq (.dops [
    ⟨some 15, .mv (.tmp 1), none, 0⟩,
    ⟨some 16, .mv (.tmp 5), none, 0⟩,
    ⟨some 17, .idx 1 (.tmp 15) (.tmp 16), none, 0⟩,
    ⟨some 18, .load false 1 (.tmp 17), none, 0⟩,
    ⟨some 19, .fld 0 (.tmp 2), none, 0⟩,
    ⟨some 20, .load false 1 (.tmp 19), none, 0⟩,
    ⟨some 21, .bin .sub (.tmp 20) (.const (.int .i64 1)), none, 0⟩,
    ⟨some 22, .call k_spec_l01In [(.tmp 18), (.const (.int .i64 0)), (.tmp 21)], none, 0⟩,
    ⟨some 23, .un .not (.tmp 22), none, 0⟩]) <|
  .cond (.tmp 23)
    (.seq (.ops [
      ⟨some 4, .mv (.const (.int .i64 2)), none, 0⟩]) <|
    .keep [4] <|
    .ret)
    (.skip)) <|
  .ops [
    ⟨some 13, .mv (.tmp 5), none, 0⟩,
    ⟨some 14, .bin .add (.tmp 13) (.const (.int .i64 1)), none, 0⟩,
    ⟨some 5, .mv (.tmp 14), none, 0⟩]
def i_spec_l02Code : FF := ⟨24, [.tmp 4],
  .seq (.ops [
    ⟨some 2, .box 2 (.tmp 0), none, 0⟩,
    ⟨some 4, .mv (.const (.int .i64 0)), none, 0⟩]) <|
  .seq (.seq (.ops [
    ⟨some 6, .load true 2 (.tmp 2), none, 0⟩,
    ⟨some 7, .call k_spec_l01Is [(.tmp 6)], none, 0⟩,
    ⟨some 8, .un .not (.tmp 7), none, 0⟩]) <|
  .cond (.tmp 8)
    (.seq (.ops [
      ⟨some 4, .mv (.const (.int .i64 1)), none, 0⟩]) <|
    .keep [4] <|
    .ret)
    (.skip)) <|
  .seq (.seq (.ops [
    ⟨some 5, .mv (.const (.int .i64 0)), none, 0⟩]) <|
  .block 0 <|
  .loop [1, 2, 5] i_spec_l02Code_B1) <|
  .seq (.ops [
    ⟨some 4, .mv (.const (.int .i64 0)), none, 0⟩]) <|
  .keep [4] <|
  .ret⟩

theorem e_spec_l02Code : EntOK Tryd.prog (compD Tryd.prog) k_spec_l02Code i_spec_l02Code.vf :=
  ⟨Tryd.f55, Tryd.f55.body.getD .skip, Tryd.func55, by kernel_rfl, by kernel_rfl, by kernel_rfl, by kernel_rfl, by kernel_rfl⟩

/-- loop.example/g01331/spec.l02Girth -/
def i_spec_l02Girth_B1 : FC :=
  .seq (.seq (.ops [
    ⟨some 18, .mv (.tmp 7), none, 0⟩,
    ⟨some 19, .fld 0 (.tmp 2), none, 0⟩,
    ⟨some 20, .load false 1 (.tmp 19), none, 0⟩,
    ⟨some 21, .bin .lss (.tmp 18) (.tmp 20), none, 0⟩]) <|
  .cond (.tmp 21)
    (.skip)
    (.keep [1, 2, 5, 6] <|
    .exit 2)) <|
  .seq (.block 3 <|
  .seq (.seq (.ops [
    ⟨some 24, .fld 1 (.tmp 2), none, 0⟩,
    ⟨some 25, .load false 1 (.tmp 24), none, 0⟩,
    ⟨some 26, .mv (.tmp 6), none, 0⟩,
    ⟨some 27, .idx 1 (.tmp 25) (.tmp 26), none, 0⟩,
    ⟨some 28, .load false 1 (.tmp 27), none, 0⟩,
    ⟨some 29, .mv (.tmp 7), none, 0⟩,
    ⟨some 30, .conv .u64 (.tmp 29), none, 0⟩,
    ⟨some 31, .bin .shr (.tmp 28) (.tmp 30), none, 0⟩,
    ⟨some 32, .bin .and (.tmp 31) (.const (.int .i64 1)), none, 0⟩,
    ⟨some 33, .bin .eql (.tmp 32) (.const (.int .i64 0)), none, 0⟩,
    ⟨some 34, .mv (.tmp 33), none, 0⟩,
    ⟨some 35, .mv (.tmp 1), some (34, false), 0⟩,
    ⟨some 36, .bin .geq (.tmp 35) (.const (.int .i64 0)), some (34, false), 0⟩,
    ⟨some 37, .mv (.tmp 36), some (34, false), 0⟩,
    ⟨some 38, .mv (.tmp 6), some (37, true), 0⟩,
    ⟨some 39, .mv (.tmp 1), some (37, true), 0⟩,
    ⟨some 40, .bin .neq (.tmp 38) (.tmp 39), some (37, true), 0⟩,
    ⟨some 41, .pick (.tmp 37) (.tmp 40) (.const (.bool false)), some (34, false), 0⟩,
    ⟨some 42, .mv (.tmp 41), some (34, false), 0⟩,
    ⟨some 43, .mv (.tmp 7), some (42, true), 0⟩,
    ⟨some 44, .mv (.tmp 1), some (42, true), 0⟩,
    ⟨some 45, .bin .neq (.tmp 43) (.tmp 44), some (42, true), 0⟩,
    ⟨some 46, .pick (.tmp 42) (.tmp 45) (.const (.bool false)), some (34, false), 0⟩,
    ⟨some 47, .pick (.tmp 34) (.const (.bool true)) (.tmp 46), none, 0⟩]) <|
  .cond (.tmp 47)
    (.keep [1, 2, 5, 6, 7] <|
    .exit 3)
    (.skip)) <|
  .seq (.ops [
    ⟨some 49, .load true 2 (.tmp 2), none, 0⟩,
    ⟨some 50, .mv (.tmp 6), none, 0⟩,
    ⟨some 51, .mv (.tmp 7), none, 0⟩,
    ⟨some 52, .call k_spec_l02Around [(.tmp 49), (.tmp 50), (.tmp 51)], none, 0⟩,
    ⟨some 48, .mv (.tmp 52), none, 0⟩,
    ⟨some 53, .ext (.tmp 48) 0, none, 0⟩,
    ⟨some 54, .ext (.tmp 48) 1, none, 0⟩,
    ⟨some 8, .mv (.tmp 53), none, 0⟩,
    ⟨some 9, .mv (.tmp 54), none, 0⟩]) <|
  .seq (.ops [
    ⟨some 55, .mv (.tmp 8), none, 0⟩,
    ⟨some 56, .bin .gtr (.tmp 55) (.const (.int .i64 0)), none, 0⟩,
    ⟨some 57, .mv (.tmp 56), none, 0⟩,
    ⟨some 58, .mv (.tmp 5), some (57, true), 0⟩,
    ⟨some 59, .bin .eql (.tmp 58) (.const (.int .i64 0)), some (57, true), 0⟩,
    ⟨some 60, .mv (.tmp 59), some (57, true), 0⟩,
    ⟨some 61, .mv (.tmp 8), some (60, false), 0⟩,
    ⟨some 62, .mv (.tmp 5), some (60, false), 0⟩,
    ⟨some 63, .bin .lss (.tmp 61) (.tmp 62), some (60, false), 0⟩,
    ⟨some 64, .pick (.tmp 60) (.const (.bool true)) (.tmp 63), some (57, true), 0⟩,
    ⟨some 65, .pick (.tmp 57) (.tmp 64) (.const (.bool false)), none, 0⟩]) <|
  .cond (.tmp 65)
    (.ops [
      ⟨some 66, .mv (.tmp 8), none, 0⟩,
      ⟨some 5, .mv (.tmp 66), none, 0⟩])
    (.skip)) <|
  .ops [
    ⟨some 22, .mv (.tmp 7), none, 0⟩,
    ⟨some 23, .bin .add (.tmp 22) (.const (.int .i64 1)), none, 0⟩,
    ⟨some 7, .mv (.tmp 23), none, 0⟩]
def i_spec_l02Girth_B2 : FC :=
  .seq (.seq (.ops [
    ⟨some 10, .mv (.tmp 6), none, 0⟩,
    ⟨some 11, .fld 0 (.tmp 2), none, 0⟩,
    ⟨some 12, .load false 1 (.tmp 11), none, 0⟩,
    ⟨some 13, .bin .lss (.tmp 10) (.tmp 12), none, 0⟩]) <|
  .cond (.tmp 13)
    (.skip)
    (.keep [5] <|
    .exit 0)) <|
  .seq (.block 1 <|
  .seq (.ops [
    ⟨some 16, .mv (.tmp 6), none, 0⟩,
    ⟨some 17, .bin .add (.tmp 16) (.const (.int .i64 1)), none, 0⟩,
    ⟨some 7, .mv (.tmp 17), none, 0⟩]) <|
  .block 2 <|
  .loop [1, 2, 5, 6, 7] i_spec_l02Girth_B1) <|
  .ops [
    ⟨some 14, .mv (.tmp 6), none, 0⟩,
    ⟨some 15, .bin .add (.tmp 14) (.const (.int .i64 1)), none, 0⟩,
    ⟨some 6, .mv (.tmp 15), none, 0⟩]
def i_spec_l02Girth : FF := ⟨68, [.tmp 4],
  .seq (.ops [
    ⟨some 2, .box 2 (.tmp 0), none, 0⟩,
    ⟨some 4, .mv (.const (.int .i64 0)), none, 0⟩]) <|
  .seq (.ops [
    ⟨some 5, .mv (.const (.int .i64 0)), none, 0⟩]) <|
  .seq (.seq (.ops [
    ⟨some 6, .mv (.const (.int .i64 0)), none, 0⟩]) <|
  .block 0 <|
  .loop [1, 2, 5, 6] i_spec_l02Girth_B2) <|
  .seq (.ops [
    ⟨some 67, .mv (.tmp 5), none, 0⟩,
    ⟨some 4, .mv (.tmp 67), none, 0⟩]) <|
  .keep [4] <|
  .ret⟩

theorem e_spec_l02Girth : EntOK Tryd.prog (compD Tryd.prog) k_spec_l02Girth i_spec_l02Girth.vf :=
  ⟨Tryd.f56, Tryd.f56.body.getD .skip, Tryd.func56, by kernel_rfl, by kernel_rfl, by kernel_rfl, by kernel_rfl, by kernel_rfl⟩

/-- loop.example/g01331/spec.l02Around -/
def i_spec_l02Around_B1 : FC :=
  .seq (.seq (.ops [
    ⟨some 43, .mv (.tmp 12), none, 0⟩,
    ⟨some 44, .fld 0 (.tmp 3), none, 0⟩,
    ⟨some 45, .load false 1 (.tmp 44), none, 0⟩,
    ⟨some 46, .bin .lss (.tmp 43) (.tmp 45), none, 0⟩,
    ⟨some 47, .mv (.tmp 46), none, 0⟩,
    ⟨some 48, .mv (.tmp 8), some (47, true), 0⟩,
    ⟨some 49, .mv (.tmp 11), some (47, true), 0⟩,
    ⟨some 50, .idx 1 (.tmp 48) (.tmp 49), some (47, true), 0⟩,
    ⟨some 51, .load false 1 (.tmp 50), some (47, true), 0⟩,
    ⟨some 52, .mv (.tmp 10), some (47, true), 0⟩,
    ⟨some 53, .bin .eql (.tmp 51) (.tmp 52), some (47, true), 0⟩,
    ⟨some 54, .pick (.tmp 47) (.tmp 53) (.const (.bool false)), none, 0⟩]) <|
  .cond (.tmp 54)
    (.skip)
    (.keep [1, 2, 3, 8, 9, 10, 11] <|
    .exit 4)) <|
  .seq (.block 5 <|
  .seq (.ops [
    ⟨some 57, .fld 1 (.tmp 3), none, 0⟩,
    ⟨some 58, .load false 1 (.tmp 57), none, 0⟩,
    ⟨some 59, .mv (.tmp 11), none, 0⟩,
    ⟨some 60, .idx 1 (.tmp 58) (.tmp 59), none, 0⟩,
    ⟨some 61, .load false 1 (.tmp 60), none, 0⟩,
    ⟨some 62, .mv (.tmp 12), none, 0⟩,
    ⟨some 63, .conv .u64 (.tmp 62), none, 0⟩,
    ⟨some 64, .bin .shr (.tmp 61) (.tmp 63), none, 0⟩,
    ⟨some 65, .bin .and (.tmp 64) (.const (.int .i64 1)), none, 0⟩,
    ⟨some 66, .bin .eql (.tmp 65) (.const (.int .i64 1)), none, 0⟩,
    ⟨some 67, .mv (.tmp 66), none, 0⟩,
    ⟨some 68, .mv (.tmp 8), some (67, true), 0⟩,
    ⟨some 69, .mv (.tmp 12), some (67, true), 0⟩,
    ⟨some 70, .idx 1 (.tmp 68) (.tmp 69), some (67, true), 0⟩,
    ⟨some 71, .load false 1 (.tmp 70), some (67, true), 0⟩,
    ⟨some 72, .mv (.tmp 10), some (67, true), 0⟩,
    ⟨some 73, .bin .add (.tmp 72) (.const (.int .i64 1)), some (67, true), 0⟩,
    ⟨some 74, .bin .eql (.tmp 71) (.tmp 73), some (67, true), 0⟩,
    ⟨some 75, .pick (.tmp 67) (.tmp 74) (.const (.bool false)), none, 0⟩,
    ⟨some 76, .mv (.tmp 75), none, 0⟩,
    ⟨some 77, .mv (.tmp 11), some (76, true), 0⟩,
    ⟨some 78, .mv (.tmp 1), some (76, true), 0⟩,
    ⟨some 79, .bin .eql (.tmp 77) (.tmp 78), some (76, true), 0⟩,
    ⟨some 80, .mv (.tmp 79), some (76, true), 0⟩,
    ⟨some 81, .mv (.tmp 12), some (80, true), 0⟩,
    ⟨some 82, .mv (.tmp 2), some (80, true), 0⟩,
    ⟨some 83, .bin .eql (.tmp 81) (.tmp 82), some (80, true), 0⟩,
    ⟨some 84, .pick (.tmp 80) (.tmp 83) (.const (.bool false)), some (76, true), 0⟩,
    ⟨some 85, .un .not (.tmp 84), some (76, true), 0⟩,
    ⟨some 86, .pick (.tmp 76) (.tmp 85) (.const (.bool false)), none, 0⟩]) <|
  .cond (.tmp 86)
    (.dops [
      ⟨some 87, .mv (.tmp 9), none, 0⟩,
      ⟨some 88, .mv (.tmp 12), none, 0⟩,
      ⟨some 89, .mv (.tmp 9), none, 0⟩,
      ⟨some 90, .mv (.tmp 12), none, 0⟩,
      ⟨some 91, .idx 1 (.tmp 89) (.tmp 90), none, 0⟩,
      ⟨some 92, .load false 1 (.tmp 91), none, 0⟩,
      ⟨some 93, .mv (.tmp 9), none, 0⟩,
      ⟨some 94, .mv (.tmp 11), none, 0⟩,
      ⟨some 95, .idx 1 (.tmp 93) (.tmp 94), none, 0⟩,
      ⟨some 96, .load false 1 (.tmp 95), none, 0⟩,
      ⟨some 97, .bin .add (.tmp 92) (.tmp 96), none, 0⟩,
      ⟨some 98, .idx 1 (.tmp 87) (.tmp 88), none, 0⟩,
      ⟨none, .store 1 (.tmp 98) (.tmp 97), none, 0⟩])
    (.skip)) <|
  .ops [
    ⟨some 55, .mv (.tmp 12), none, 0⟩,
    ⟨some 56, .bin .add (.tmp 55) (.const (.int .i64 1)), none, 0⟩,
    ⟨some 12, .mv (.tmp 56), none, 0⟩]
def i_spec_l02Around_B2 : FC :=
  .seq (.seq (.ops [
    ⟨some 37, .mv (.tmp 11), none, 0⟩,
    ⟨some 38, .fld 0 (.tmp 3), none, 0⟩,
    ⟨some 39, .load false 1 (.tmp 38), none, 0⟩,
    ⟨some 40, .bin .lss (.tmp 37) (.tmp 39), none, 0⟩]) <|
  .cond (.tmp 40)
    (.skip)
    (.keep [1, 2, 3, 8, 9, 10] <|
    .exit 2)) <|
  .seq (.block 3 <|
  .seq (.ops [
    ⟨some 12, .mv (.const (.int .i64 0)), none, 0⟩]) <|
  .block 4 <|
  .loop [1, 2, 3, 8, 9, 10, 11, 12] i_spec_l02Around_B1) <|
  .ops [
    ⟨some 41, .mv (.tmp 11), none, 0⟩,
    ⟨some 42, .bin .add (.tmp 41) (.const (.int .i64 1)), none, 0⟩,
    ⟨some 11, .mv (.tmp 42), none, 0⟩]
def i_spec_l02Around_B3 : FC :=
  .seq (.seq (.ops [
    ⟨some 29, .mv (.tmp 10), none, 0⟩,
    ⟨some 30, .mv (.tmp 8), none, 0⟩,
    ⟨some 31, .mv (.tmp 2), none, 0⟩,
    ⟨some 32, .idx 1 (.tmp 30) (.tmp 31), none, 0⟩,
    ⟨some 33, .load false 1 (.tmp 32), none, 0⟩,
    ⟨some 34, .bin .lss (.tmp 29) (.tmp 33), none, 0⟩]) <|
  .cond (.tmp 34)
    (.skip)
    (.keep [2, 8, 9] <|
    .exit 0)) <|
  .seq (.block 1 <|
  .seq (.ops [
    ⟨some 11, .mv (.const (.int .i64 0)), none, 0⟩]) <|
  .block 2 <|
  .loop [1, 2, 3, 8, 9, 10, 11] i_spec_l02Around_B2) <|
  .ops [
    ⟨some 35, .mv (.tmp 10), none, 0⟩,
    ⟨some 36, .bin .add (.tmp 35) (.const (.int .i64 1)), none, 0⟩,
    ⟨some 10, .mv (.tmp 36), none, 0⟩]
def i_spec_l02Around : FF := ⟨108, [.tmp 6, .tmp 7],
  .seq (.ops [
    ⟨some 3, .box 2 (.tmp 0), none, 0⟩,
    ⟨some 6, .mv (.const (.int .i64 0)), none, 0⟩,
    ⟨some 7, .mv (.const (.int .i64 0)), none, 0⟩]) <|
  .seq (.ops [
    ⟨some 13, .load true 2 (.tmp 3), none, 0⟩,
    ⟨some 14, .mv (.tmp 1), none, 0⟩,
    ⟨some 15, .mv (.tmp 1), none, 0⟩,
    ⟨some 16, .mv (.tmp 2), none, 0⟩,
    ⟨some 17, .call k_spec_l02From [(.tmp 13), (.tmp 14), (.tmp 15), (.tmp 16)], none, 0⟩,
    ⟨some 8, .mv (.tmp 17), none, 0⟩]) <|
  .seq (.seq (.ops [
    ⟨some 18, .mv (.tmp 8), none, 0⟩,
    ⟨some 19, .mv (.tmp 2), none, 0⟩,
    ⟨some 20, .idx 1 (.tmp 18) (.tmp 19), none, 0⟩,
    ⟨some 21, .load false 1 (.tmp 20), none, 0⟩,
    ⟨some 22, .bin .lss (.tmp 21) (.const (.int .i64 0)), none, 0⟩]) <|
  .cond (.tmp 22)
    (.seq (.ops [
      ⟨some 6, .mv (.const (.int .i64 0)), none, 0⟩,
      ⟨some 7, .mv (.const (.int .i64 0)), none, 0⟩]) <|
    .keep [6, 7] <|
    .ret)
    (.skip)) <|
  .seq (.ops [
    ⟨some 23, .fld 0 (.tmp 3), none, 0⟩,
    ⟨some 24, .load false 1 (.tmp 23), none, 0⟩,
    ⟨some 25, .mkSl 1 [.int .i64 0] 8 (.tmp 24) (.tmp 24), none, 0⟩,
    ⟨some 9, .mv (.tmp 25), none, 0⟩]) <|
  .seq (.ops [
    ⟨some 26, .mv (.tmp 9), none, 0⟩,
    ⟨some 27, .mv (.tmp 1), none, 0⟩,
    ⟨some 28, .idx 1 (.tmp 26) (.tmp 27), none, 0⟩,
    ⟨none, .store 1 (.tmp 28) (.const (.int .i64 1)), none, 0⟩]) <|
  .seq (.seq (.ops [
    ⟨some 10, .mv (.const (.int .i64 0)), none, 0⟩]) <|
  .block 0 <|
  .loop [1, 2, 3, 8, 9, 10] i_spec_l02Around_B3) <|
  .seq (.dops [
    ⟨some 99, .mv (.tmp 8), none, 0⟩,
    ⟨some 100, .mv (.tmp 2), none, 0⟩,
    ⟨some 101, .idx 1 (.tmp 99) (.tmp 100), none, 0⟩,
    ⟨some 102, .load false 1 (.tmp 101), none, 0⟩,
    ⟨some 103, .bin .add (.tmp 102) (.const (.int .i64 1)), none, 0⟩,
    ⟨some 104, .mv (.tmp 9), none, 0⟩,
    ⟨some 105, .mv (.tmp 2), none, 0⟩,
    ⟨some 106, .idx 1 (.tmp 104) (.tmp 105), none, 0⟩,
    ⟨some 107, .load false 1 (.tmp 106), none, 0⟩,
    ⟨some 6, .mv (.tmp 103), none, 0⟩,
    ⟨some 7, .mv (.tmp 107), none, 0⟩]) <|
  .keep [6, 7] <|
  .ret⟩

theorem e_spec_l02Around : EntOK Tryd.prog (compD Tryd.prog) k_spec_l02Around i_spec_l02Around.vf :=
  ⟨Tryd.f57, Tryd.f57.body.getD .skip, Tryd.func57, by kernel_rfl, by kernel_rfl, by kernel_rfl, by kernel_rfl, by kernel_rfl⟩

/-- loop.example/g01331/laws.toInt64S -/
def i_laws_toInt64S_B1 : FC :=
  .seq (.seq (.ops [
    ⟨some 8, .mv (.tmp 4), none, 0⟩,
    ⟨some 9, .mv (.tmp 0), none, 0⟩,
    ⟨some 10, .len (.tmp 9), none, 0⟩,
    ⟨some 11, .bin .lss (.tmp 8) (.tmp 10), none, 0⟩]) <|
  .cond (.tmp 11)
    (.skip)
    (.keep [3] <|
    .exit 0)) <|
  .seq (.block 1 <|
  .ops [
    ⟨some 14, .mv (.tmp 3), none, 0⟩,
    ⟨some 15, .mv (.tmp 4), none, 0⟩,
    ⟨some 16, .mv (.tmp 0), none, 0⟩,
    ⟨some 17, .mv (.tmp 4), none, 0⟩,
    ⟨some 18, .idx 1 (.tmp 16) (.tmp 17), none, 0⟩,
    ⟨some 19, .load false 1 (.tmp 18), none, 0⟩,
    ⟨some 20, .idx 1 (.tmp 14) (.tmp 15), none, 0⟩,
    ⟨none, .store 1 (.tmp 20) (.tmp 19), none, 0⟩]) <|
  .ops [
    ⟨some 12, .mv (.tmp 4), none, 0⟩,
    ⟨some 13, .bin .add (.tmp 12) (.const (.int .i64 1)), none, 0⟩,
    ⟨some 4, .mv (.tmp 13), none, 0⟩]
def i_laws_toInt64S : FF := ⟨22, [.tmp 2],
  .seq (.ops [
    ⟨some 2, .mv (.const (.slice none 0 0)), none, 0⟩]) <|
  .seq (.ops [
    ⟨some 5, .mv (.tmp 0), none, 0⟩,
    ⟨some 6, .len (.tmp 5), none, 0⟩,
    ⟨some 7, .mkSl 1 [.int .i64 0] 8 (.tmp 6) (.tmp 6), none, 0⟩,
    ⟨some 3, .mv (.tmp 7), none, 0⟩]) <|
  .seq (.seq (.ops [
    ⟨some 4, .mv (.const (.int .i64 0)), none, 0⟩]) <|
  .block 0 <|
  .loop [0, 3, 4] i_laws_toInt64S_B1) <|
  .seq (.ops [
    ⟨some 21, .mv (.tmp 3), none, 0⟩,
    ⟨some 2, .mv (.tmp 21), none, 0⟩]) <|
  .keep [2] <|
  .ret⟩

theorem e_laws_toInt64S : EntOK Tryd.prog (compD Tryd.prog) k_laws_toInt64S i_laws_toInt64S.vf :=
  ⟨Tryd.f58, Tryd.f58.body.getD .skip, Tryd.func58, by kernel_rfl, by kernel_rfl, by kernel_rfl, by kernel_rfl, by kernel_rfl⟩

/-- loop.example/g01331/impl.graphCode -/
def i_impl_graphCode_B1 : FC :=
  .seq (.ops [
    ⟨some 13, .bin .lss (.tmp 12) (.tmp 11), none, 0⟩]) <|
  .seq (.cond (.tmp 13)
    (.skip)
    (.keep [] <|
    .exit 0)) <|
  .seq (.block 1 <|
  .seq (.ops [
    ⟨some 14, .idx 1 (.tmp 10) (.tmp 12), none, 0⟩,
    ⟨some 15, .load false 1 (.tmp 14), none, 0⟩,
    ⟨some 6, .mv (.tmp 15), none, 0⟩]) <|
  .seq (.ops [
    ⟨some 16, .mv (.tmp 6), none, 0⟩,
    ⟨some 17, .bin .lss (.tmp 16) (.const (.int .i64 0)), none, 0⟩,
    ⟨some 18, .mv (.tmp 17), none, 0⟩,
    ⟨some 19, .mv (.tmp 6), some (18, false), 0⟩,
    ⟨some 20, .fld 0 (.tmp 2), some (18, false), 0⟩,
    ⟨some 21, .load false 1 (.tmp 20), some (18, false), 0⟩,
    ⟨some 22, .bin .geq (.tmp 19) (.tmp 21), some (18, false), 0⟩,
    ⟨some 23, .pick (.tmp 18) (.const (.bool true)) (.tmp 22), none, 0⟩]) <|
  .cond (.tmp 23)
    (.seq (.ops [
      ⟨some 4, .mv (.const (.int .i64 2)), none, 0⟩]) <|
    .keep [4] <|
    .ret)
    (.skip)) <|
  .ops [
    ⟨some 24, .bin .add (.tmp 12) (.const (.int .i64 1)), none, 0⟩,
    ⟨some 12, .mv (.tmp 24), none, 0⟩]
def i_impl_graphCode : FF := ⟨25, [.tmp 4],
  .seq (.ops [
    ⟨some 2, .box 2 (.tmp 0), none, 0⟩,
    ⟨some 4, .mv (.const (.int .i64 0)), none, 0⟩]) <|
  .seq (.seq (.ops [
    ⟨some 7, .load true 2 (.tmp 2), none, 0⟩,
    ⟨some 8, .call k_impl_IsGraph [(.tmp 7)], none, 0⟩,
    ⟨some 9, .un .not (.tmp 8), none, 0⟩]) <|
  .cond (.tmp 9)
    (.seq (.ops [
      ⟨some 4, .mv (.const (.int .i64 1)), none, 0⟩]) <|
    .keep [4] <|
    .ret)
    (.skip)) <|
  .seq (.seq (.ops [
    ⟨some 10, .mv (.tmp 1), none, 0⟩,
    ⟨some 11, .len (.tmp 10), none, 0⟩,
    ⟨some 12, .mv (.const (.int .i64 0)), none, 0⟩]) <|
  .block 0 <|
  .loop [2, 10, 11, 12] i_impl_graphCode_B1) <|
  .seq (.ops [
    ⟨some 4, .mv (.const (.int .i64 0)), none, 0⟩]) <|
  .keep [4] <|
  .ret⟩

theorem e_impl_graphCode : EntOK Tryd.prog (compD Tryd.prog) k_impl_graphCode i_impl_graphCode.vf :=
  ⟨Tryd.f59, Tryd.f59.body.getD .skip, Tryd.func59, by kernel_rfl, by kernel_rfl, by kernel_rfl, by kernel_rfl, by kernel_rfl⟩

/-- (loop.example/g01331/impl.Graph).has -/
def i_impl_Graph_has : FF := ⟨16, [.tmp 6],
  .seq (.ops [
    ⟨some 3, .box 2 (.tmp 0), none, 0⟩,
    ⟨some 6, .mv (.const (.bool false)), none, 0⟩]) <|
  .seq (.ops [
    ⟨some 7, .fld 1 (.tmp 3), none, 0⟩,
    ⟨some 8, .load false 1 (.tmp 7), none, 0⟩,
    ⟨some 9, .mv (.tmp 1), none, 0⟩,
    ⟨some 10, .idx 1 (.tmp 8) (.tmp 9), none, 0⟩,
    ⟨some 11, .load false 1 (.tmp 10), none, 0⟩,
    ⟨some 12, .mv (.tmp 2), none, 0⟩,
    ⟨some 13, .bin .shr (.tmp 11) (.tmp 12), none, 0⟩,
    ⟨some 14, .bin .and (.tmp 13) (.const (.int .i64 1)), none, 0⟩,
    ⟨some 15, .bin .eql (.tmp 14) (.const (.int .i64 1)), none, 0⟩,
    ⟨some 6, .mv (.tmp 15), none, 0⟩]) <|
  .keep [6] <|
  .ret⟩

theorem e_impl_Graph_has : EntOK Tryd.prog (compD Tryd.prog) k_impl_Graph_has i_impl_Graph_has.vf :=
  ⟨Tryd.f60, Tryd.f60.body.getD .skip, Tryd.func60, by kernel_rfl, by kernel_rfl, by kernel_rfl, by kernel_rfl, by kernel_rfl⟩

/-- (loop.example/g01331/impl.Graph).girth -/
def i_impl_Graph_girth_B1 : FC :=
  .seq (.ops [
    ⟨some 9, .bin .lss (.tmp 8) (.tmp 7), none, 0⟩]) <|
  .seq (.cond (.tmp 9)
    (.skip)
    (.keep [3] <|
    .exit 0)) <|
  .seq (.block 1 <|
  .seq (.ops [
    ⟨some 10, .mv (.tmp 8), none, 0⟩,
    ⟨some 4, .mv (.tmp 10), none, 0⟩]) <|
  .seq (.ops [
    ⟨some 11, .load true 2 (.tmp 1), none, 0⟩,
    ⟨some 12, .mv (.tmp 4), none, 0⟩,
    ⟨some 13, .call k_impl_Graph_girthAt [(.tmp 11), (.tmp 12)], none, 0⟩,
    ⟨some 5, .mv (.tmp 13), none, 0⟩]) <|
  .seq (.ops [
    ⟨some 14, .mv (.tmp 5), none, 0⟩,
    ⟨some 15, .bin .gtr (.tmp 14) (.const (.int .i64 0)), none, 0⟩,
    ⟨some 16, .mv (.tmp 15), none, 0⟩,
    ⟨some 17, .mv (.tmp 3), some (16, true), 0⟩,
    ⟨some 18, .bin .eql (.tmp 17) (.const (.int .i64 0)), some (16, true), 0⟩,
    ⟨some 19, .mv (.tmp 18), some (16, true), 0⟩,
    ⟨some 20, .mv (.tmp 5), some (19, false), 0⟩,
    ⟨some 21, .mv (.tmp 3), some (19, false), 0⟩,
    ⟨some 22, .bin .lss (.tmp 20) (.tmp 21), some (19, false), 0⟩,
    ⟨some 23, .pick (.tmp 19) (.const (.bool true)) (.tmp 22), some (16, true), 0⟩,
    ⟨some 24, .pick (.tmp 16) (.tmp 23) (.const (.bool false)), none, 0⟩]) <|
  .cond (.tmp 24)
    (.ops [
      ⟨some 25, .mv (.tmp 5), none, 0⟩,
      ⟨some 3, .mv (.tmp 25), none, 0⟩])
    (.skip)) <|
  .ops [
    ⟨some 26, .bin .add (.tmp 8) (.const (.int .i64 1)), none, 0⟩,
    ⟨some 8, .mv (.tmp 26), none, 0⟩]
def i_impl_Graph_girth : FF := ⟨28, [.tmp 2],
  .seq (.ops [
    ⟨some 1, .box 2 (.tmp 0), none, 0⟩,
    ⟨some 2, .mv (.const (.int .i64 0)), none, 0⟩]) <|
  .seq (.ops [
    ⟨some 3, .mv (.const (.int .i64 0)), none, 0⟩]) <|
  .seq (.seq (.ops [
    ⟨some 6, .fld 0 (.tmp 1), none, 0⟩,
    ⟨some 7, .load false 1 (.tmp 6), none, 0⟩,
    ⟨some 8, .mv (.const (.int .i64 0)), none, 0⟩]) <|
  .block 0 <|
  .loop [1, 3, 7, 8] i_impl_Graph_girth_B1) <|
  .seq (.ops [
    ⟨some 27, .mv (.tmp 3), none, 0⟩,
    ⟨some 2, .mv (.tmp 27), none, 0⟩]) <|
  .keep [2] <|
  .ret⟩

theorem e_impl_Graph_girth : EntOK Tryd.prog (compD Tryd.prog) k_impl_Graph_girth i_impl_Graph_girth.vf :=
  ⟨Tryd.f61, Tryd.f61.body.getD .skip, Tryd.func61, by kernel_rfl, by kernel_rfl, by kernel_rfl, by kernel_rfl, by kernel_rfl⟩

/-- (loop.example/g01331/impl.Graph).around -/
def i_impl_Graph_around : FF := ⟨21, [.tmp 6],
  .seq (.ops [
    ⟨some 3, .box 2 (.tmp 0), none, 0⟩,
    ⟨some 6, .mv (.const (.int .i64 0)), none, 0⟩]) <|
  .seq (.ops [
    ⟨some 8, .load true 2 (.tmp 3), none, 0⟩,
    ⟨some 9, .call k_impl_own [(.tmp 8)], none, 0⟩,
    ⟨some 7, .alloc [.int .i64 0, .slice none 0 0], none, 0⟩,
    ⟨none, .store 2 (.tmp 7) (.tmp 9), none, 0⟩]) <|
  .seq (.ops [
    ⟨some 10, .load true 2 (.tmp 7), none, 0⟩,
    ⟨some 11, .mv (.tmp 1), none, 0⟩,
    ⟨some 12, .mv (.tmp 2), none, 0⟩,
    ⟨some 13, .call k_impl_Graph_take [(.tmp 10), (.tmp 11), (.tmp 12)], none, 0⟩]) <|
  .seq (.ops [
    ⟨some 14, .load true 2 (.tmp 7), none, 0⟩,
    ⟨some 15, .mv (.tmp 1), none, 0⟩,
    ⟨some 16, .call k_impl_Graph_distances [(.tmp 14), (.tmp 15)], none, 0⟩,
    ⟨some 17, .mv (.tmp 2), none, 0⟩,
    ⟨some 18, .idx 1 (.tmp 16) (.tmp 17), none, 0⟩,
    ⟨some 19, .load false 1 (.tmp 18), none, 0⟩,
    ⟨some 20, .bin .add (.tmp 19) (.const (.int .i64 1)), none, 0⟩,
    ⟨some 6, .mv (.tmp 20), none, 0⟩]) <|
  .keep [6] <|
  .ret⟩

theorem e_impl_Graph_around : EntOK Tryd.prog (compD Tryd.prog) k_impl_Graph_around i_impl_Graph_around.vf :=
  ⟨Tryd.f62, Tryd.f62.body.getD .skip, Tryd.func62, by kernel_rfl, by kernel_rfl, by kernel_rfl, by kernel_rfl, by kernel_rfl⟩

/-- (loop.example/g01331/impl.Graph).through -/
def i_impl_Graph_through : FF := ⟨24, [.tmp 8],
  .seq (.ops [
    ⟨some 4, .box 2 (.tmp 0), none, 0⟩,
    ⟨some 8, .mv (.const (.int .i64 0)), none, 0⟩]) <|
  .seq (.ops [
    ⟨some 10, .load true 2 (.tmp 4), none, 0⟩,
    ⟨some 11, .call k_impl_own [(.tmp 10)], none, 0⟩,
    ⟨some 9, .alloc [.int .i64 0, .slice none 0 0], none, 0⟩,
    ⟨none, .store 2 (.tmp 9) (.tmp 11), none, 0⟩]) <|
  .seq (.ops [
    ⟨some 12, .load true 2 (.tmp 9), none, 0⟩,
    ⟨some 13, .mv (.tmp 1), none, 0⟩,
    ⟨some 14, .mv (.tmp 2), none, 0⟩,
    ⟨some 15, .call k_impl_Graph_take [(.tmp 12), (.tmp 13), (.tmp 14)], none, 0⟩]) <|
  .seq (.ops [
    ⟨some 16, .load true 2 (.tmp 9), none, 0⟩,
    ⟨some 17, .mv (.tmp 1), none, 0⟩,
    ⟨some 18, .mv (.tmp 3), none, 0⟩,
    ⟨some 19, .bin .sub (.tmp 18) (.const (.int .i64 1)), none, 0⟩,
    ⟨some 20, .call k_impl_Graph_walks [(.tmp 16), (.tmp 17), (.tmp 19)], none, 0⟩,
    ⟨some 21, .mv (.tmp 2), none, 0⟩,
    ⟨some 22, .idx 1 (.tmp 20) (.tmp 21), none, 0⟩,
    ⟨some 23, .load false 1 (.tmp 22), none, 0⟩,
    ⟨some 8, .mv (.tmp 23), none, 0⟩]) <|
  .keep [8] <|
  .ret⟩

theorem e_impl_Graph_through : EntOK Tryd.prog (compD Tryd.prog) k_impl_Graph_through i_impl_Graph_through.vf :=
  ⟨Tryd.f63, Tryd.f63.body.getD .skip, Tryd.func63, by kernel_rfl, by kernel_rfl, by kernel_rfl, by kernel_rfl, by kernel_rfl⟩

/-- loop.example/g01331/spec.l06Code -/
def i_spec_l06Code : FF := ⟨11, [.tmp 2],
  .seq (.ops [
    ⟨some 1, .box 2 (.tmp 0), none, 0⟩,
    ⟨some 2, .mv (.const (.int .i64 0)), none, 0⟩]) <|
  .seq (.block 0 <|
  .seq (.ops [
    ⟨some 4, .load true 2 (.tmp 1), none, 0⟩,
    ⟨some 5, .call k_spec_l01Is [(.tmp 4)], none, 0⟩,
    ⟨some 6, .un .not (.tmp 5), none, 0⟩,
    ⟨some 3, .mv (.tmp 6), none, 0⟩]) <|
  .cond (.tmp 3)
    (.seq (.ops [
      ⟨some 2, .mv (.const (.int .i64 1)), none, 0⟩]) <|
    .keep [2] <|
    .ret)
    (.seq (.ops [
      ⟨some 8, .load true 2 (.tmp 1), none, 0⟩,
      ⟨some 9, .call k_spec_l02Connected [(.tmp 8)], none, 0⟩,
      ⟨some 10, .un .not (.tmp 9), none, 0⟩,
      ⟨some 7, .mv (.tmp 10), none, 0⟩]) <|
    .cond (.tmp 7)
      (.seq (.ops [
        ⟨some 2, .mv (.const (.int .i64 5)), none, 0⟩]) <|
      .keep [2] <|
      .ret)
      (.skip))) <|
  .seq (.ops [
    ⟨some 2, .mv (.const (.int .i64 0)), none, 0⟩]) <|
  .keep [2] <|
  .ret⟩

theorem e_spec_l06Code : EntOK Tryd.prog (compD Tryd.prog) k_spec_l06Code i_spec_l06Code.vf :=
  ⟨Tryd.f64, Tryd.f64.body.getD .skip, Tryd.func64, by kernel_rfl, by kernel_rfl, by kernel_rfl, by kernel_rfl, by kernel_rfl⟩

/-- loop.example/g01331/spec.l02From -/
def i_spec_l02From_B1 : FC :=
  .seq (.seq (.ops [
    ⟨some 16, .mv (.tmp 10), none, 0⟩,
    ⟨some 17, .fld 0 (.tmp 4), none, 0⟩,
    ⟨some 18, .load false 1 (.tmp 17), none, 0⟩,
    ⟨some 19, .bin .lss (.tmp 16) (.tmp 18), none, 0⟩]) <|
  .cond (.tmp 19)
    (.skip)
    (.keep [1, 2, 3, 4, 9] <|
    .exit 0)) <|
  .seq (.block 1 <|
  .ops [
    ⟨some 22, .mv (.tmp 9), none, 0⟩,
    ⟨some 23, .buildSl 1 [.int .i64 0] [(0, 1, (.const (.int .i64 (-1))))] 1, none, 0⟩,
    ⟨some 24, .app 1 8 [.int .i64 0] (.tmp 22) (.tmp 23), none, 0⟩,
    ⟨some 9, .mv (.tmp 24), none, 0⟩]) <|
  .ops [
    ⟨some 20, .mv (.tmp 10), none, 0⟩,
    ⟨some 21, .bin .add (.tmp 20) (.const (.int .i64 1)), none, 0⟩,
    ⟨some 10, .mv (.tmp 21), none, 0⟩]
def i_spec_l02From_B2 : FC :=
  .seq (.seq (.ops [
    ⟨some 40, .mv (.tmp 14), none, 0⟩,
    ⟨some 41, .fld 0 (.tmp 4), none, 0⟩,
    ⟨some 42, .load false 1 (.tmp 41), none, 0⟩,
    ⟨some 43, .bin .lss (.tmp 40) (.tmp 42), none, 0⟩]) <|
  .cond (.tmp 43)
    (.skip)
    (.keep [2, 3, 4, 9, 11, 12] <|
    .exit 4)) <|
  .seq (.block 5 <|
  .seq (.seq (.ops [
    ⟨some 46, .fld 1 (.tmp 4), none, 0⟩,
    ⟨some 47, .load false 1 (.tmp 46), none, 0⟩,
    ⟨some 48, .mv (.tmp 13), none, 0⟩,
    ⟨some 49, .idx 1 (.tmp 47) (.tmp 48), none, 0⟩,
    ⟨some 50, .load false 1 (.tmp 49), none, 0⟩,
    ⟨some 51, .mv (.tmp 14), none, 0⟩,
    ⟨some 52, .conv .u64 (.tmp 51), none, 0⟩,
    ⟨some 53, .bin .shr (.tmp 50) (.tmp 52), none, 0⟩,
    ⟨some 54, .bin .and (.tmp 53) (.const (.int .i64 1)), none, 0⟩,
    ⟨some 55, .bin .eql (.tmp 54) (.const (.int .i64 0)), none, 0⟩,
    ⟨some 56, .mv (.tmp 55), none, 0⟩,
    ⟨some 57, .mv (.tmp 9), some (56, false), 0⟩,
    ⟨some 58, .mv (.tmp 14), some (56, false), 0⟩,
    ⟨some 59, .idx 1 (.tmp 57) (.tmp 58), some (56, false), 0⟩,
    ⟨some 60, .load false 1 (.tmp 59), some (56, false), 0⟩,
    ⟨some 61, .bin .geq (.tmp 60) (.const (.int .i64 0)), some (56, false), 0⟩,
    ⟨some 62, .pick (.tmp 56) (.const (.bool true)) (.tmp 61), none, 0⟩,
    ⟨some 63, .mv (.tmp 62), none, 0⟩,
    ⟨some 64, .mv (.tmp 13), some (63, false), 0⟩,
    ⟨some 65, .mv (.tmp 2), some (63, false), 0⟩,
    ⟨some 66, .bin .eql (.tmp 64) (.tmp 65), some (63, false), 0⟩,
    ⟨some 67, .mv (.tmp 66), some (63, false), 0⟩,
    ⟨some 68, .mv (.tmp 14), some (67, true), 0⟩,
    ⟨some 69, .mv (.tmp 3), some (67, true), 0⟩,
    ⟨some 70, .bin .eql (.tmp 68) (.tmp 69), some (67, true), 0⟩,
    ⟨some 71, .pick (.tmp 67) (.tmp 70) (.const (.bool false)), some (63, false), 0⟩,
    ⟨some 72, .pick (.tmp 63) (.const (.bool true)) (.tmp 71), none, 0⟩,
    ⟨some 73, .mv (.tmp 72), none, 0⟩,
    ⟨some 74, .mv (.tmp 13), some (73, false), 0⟩,
    ⟨some 75, .mv (.tmp 3), some (73, false), 0⟩,
    ⟨some 76, .bin .eql (.tmp 74) (.tmp 75), some (73, false), 0⟩,
    ⟨some 77, .mv (.tmp 76), some (73, false), 0⟩,
    ⟨some 78, .mv (.tmp 14), some (77, true), 0⟩,
    ⟨some 79, .mv (.tmp 2), some (77, true), 0⟩,
    ⟨some 80, .bin .eql (.tmp 78) (.tmp 79), some (77, true), 0⟩,
    ⟨some 81, .pick (.tmp 77) (.tmp 80) (.const (.bool false)), some (73, false), 0⟩,
    ⟨some 82, .pick (.tmp 73) (.const (.bool true)) (.tmp 81), none, 0⟩]) <|
  .cond (.tmp 82)
    (.keep [2, 3, 4, 9, 11, 12, 13, 14] <|
    .exit 5)
    (.skip)) <|
  .seq (.ops [
    ⟨some 83, .mv (.tmp 9), none, 0⟩,
    ⟨some 84, .mv (.tmp 14), none, 0⟩,
    ⟨some 85, .mv (.tmp 9), none, 0⟩,
    ⟨some 86, .mv (.tmp 13), none, 0⟩,
    ⟨some 87, .idx 1 (.tmp 85) (.tmp 86), none, 0⟩,
    ⟨some 88, .load false 1 (.tmp 87), none, 0⟩,
    ⟨some 89, .bin .add (.tmp 88) (.const (.int .i64 1)), none, 0⟩,
    ⟨some 90, .idx 1 (.tmp 83) (.tmp 84), none, 0⟩,
    ⟨none, .store 1 (.tmp 90) (.tmp 89), none, 0⟩]) <|
  .ops [
    ⟨some 91, .mv (.tmp 11), none, 0⟩,
    ⟨some 92, .mv (.tmp 14), none, 0⟩,
    ⟨some 93, .buildSl 1 [.int .i64 0] [(0, 1, (.tmp 92))] 1, none, 0⟩,
    ⟨some 94, .app 1 8 [.int .i64 0] (.tmp 91) (.tmp 93), none, 0⟩,
    ⟨some 11, .mv (.tmp 94), none, 0⟩]) <|
  .ops [
    ⟨some 44, .mv (.tmp 14), none, 0⟩,
    ⟨some 45, .bin .add (.tmp 44) (.const (.int .i64 1)), none, 0⟩,
    ⟨some 14, .mv (.tmp 45), none, 0⟩]
def i_spec_l02From_B3 : FC :=
  .seq (.seq (.ops [
    ⟨some 30, .mv (.tmp 12), none, 0⟩,
    ⟨some 31, .mv (.tmp 11), none, 0⟩,
    ⟨some 32, .len (.tmp 31), none, 0⟩,
    ⟨some 33, .bin .lss (.tmp 30) (.tmp 32), none, 0⟩]) <|
  .cond (.tmp 33)
    (.skip)
    (.keep [9] <|
    .exit 2)) <|
  .seq (.block 3 <|
  .seq (.ops [
    ⟨some 36, .mv (.tmp 11), none, 0⟩,
    ⟨some 37, .mv (.tmp 12), none, 0⟩,
    ⟨some 38, .idx 1 (.tmp 36) (.tmp 37), none, 0⟩,
    ⟨some 39, .load false 1 (.tmp 38), none, 0⟩,
    ⟨some 13, .mv (.tmp 39), none, 0⟩]) <|
  .seq (.ops [
    ⟨some 14, .mv (.const (.int .i64 0)), none, 0⟩]) <|
  .block 4 <|
  .loop [2, 3, 4, 9, 11, 12, 13, 14] i_spec_l02From_B2) <|
  .ops [
    ⟨some 34, .mv (.tmp 12), none, 0⟩,
    ⟨some 35, .bin .add (.tmp 34) (.const (.int .i64 1)), none, 0⟩,
    ⟨some 12, .mv (.tmp 35), none, 0⟩]
def i_spec_l02From : FF := ⟨96, [.tmp 8],
  .seq (.ops [
    ⟨some 4, .box 2 (.tmp 0), none, 0⟩,
    ⟨some 8, .mv (.const (.slice none 0 0)), none, 0⟩]) <|
  .seq (.ops [
    ⟨some 15, .buildSl 1 [] [] 0, none, 0⟩,
    ⟨some 9, .mv (.tmp 15), none, 0⟩]) <|
  .seq (.seq (.ops [
    ⟨some 10, .mv (.const (.int .i64 0)), none, 0⟩]) <|
  .block 0 <|
  .loop [1, 2, 3, 4, 9, 10] i_spec_l02From_B1) <|
  .seq (.ops [
    ⟨some 25, .mv (.tmp 9), none, 0⟩,
    ⟨some 26, .mv (.tmp 1), none, 0⟩,
    ⟨some 27, .idx 1 (.tmp 25) (.tmp 26), none, 0⟩,
    ⟨none, .store 1 (.tmp 27) (.const (.int .i64 0)), none, 0⟩]) <|
  .seq (.ops [
    ⟨some 28, .mv (.tmp 1), none, 0⟩,
    ⟨some 29, .buildSl 1 [.int .i64 0] [(0, 1, (.tmp 28))] 1, none, 0⟩,
    ⟨some 11, .mv (.tmp 29), none, 0⟩]) <|
  .seq (.seq (.ops [
    ⟨some 12, .mv (.const (.int .i64 0)), none, 0⟩]) <|
  .block 2 <|
  .loop [2, 3, 4, 9, 11, 12] i_spec_l02From_B3) <|
  .seq (.ops [
    ⟨some 95, .mv (.tmp 9), none, 0⟩,
    ⟨some 8, .mv (.tmp 95), none, 0⟩]) <|
  .keep [8] <|
  .ret⟩

theorem e_spec_l02From : EntOK Tryd.prog (compD Tryd.prog) k_spec_l02From i_spec_l02From.vf :=
  ⟨Tryd.f65, Tryd.f65.body.getD .skip, Tryd.func65, by kernel_rfl, by kernel_rfl, by kernel_rfl, by kernel_rfl, by kernel_rfl⟩

/-- loop.example/g01331/spec.l06Rows -/
def i_spec_l06Rows_B1 : FC :=
  .seq (.seq (.ops [
    ⟨some 6, .mv (.tmp 4), none, 0⟩,
    ⟨some 7, .fld 0 (.tmp 1), none, 0⟩,
    ⟨some 8, .load false 1 (.tmp 7), none, 0⟩,
    ⟨some 9, .bin .lss (.tmp 6) (.tmp 8), none, 0⟩]) <|
  .cond (.tmp 9)
    (.skip)
    (.keep [3] <|
    .exit 0)) <|
  .seq (.block 1 <|
  .ops [
    ⟨some 12, .mv (.tmp 3), none, 0⟩,
    ⟨some 13, .load true 2 (.tmp 1), none, 0⟩,
    ⟨some 14, .mv (.tmp 4), none, 0⟩,
    ⟨some 15, .call k_spec_l02From [(.tmp 13), (.tmp 14), (.const (.int .i64 (-1))), (.const (.int .i64 (-1)))], none, 0⟩,
    ⟨some 16, .buildSl 1 [.slice none 0 0] [(0, 1, (.tmp 15))] 1, none, 0⟩,
    ⟨some 17, .app 1 24 [.slice none 0 0] (.tmp 12) (.tmp 16), none, 0⟩,
    ⟨some 3, .mv (.tmp 17), none, 0⟩]) <|
  .ops [
    ⟨some 10, .mv (.tmp 4), none, 0⟩,
    ⟨some 11, .bin .add (.tmp 10) (.const (.int .i64 1)), none, 0⟩,
    ⟨some 4, .mv (.tmp 11), none, 0⟩]
def i_spec_l06Rows : FF := ⟨19, [.tmp 2],
  .seq (.ops [
    ⟨some 1, .box 2 (.tmp 0), none, 0⟩,
    ⟨some 2, .mv (.const (.slice none 0 0)), none, 0⟩]) <|
  .seq (.ops [
    ⟨some 5, .buildSl 1 [] [] 0, none, 0⟩,
    ⟨some 3, .mv (.tmp 5), none, 0⟩]) <|
  .seq (.seq (.ops [
    ⟨some 4, .mv (.const (.int .i64 0)), none, 0⟩]) <|
  .block 0 <|
  .loop [1, 3, 4] i_spec_l06Rows_B1) <|
  .seq (.ops [
    ⟨some 18, .mv (.tmp 3), none, 0⟩,
    ⟨some 2, .mv (.tmp 18), none, 0⟩]) <|
  .keep [2] <|
  .ret⟩

theorem e_spec_l06Rows : EntOK Tryd.prog (compD Tryd.prog) k_spec_l06Rows i_spec_l06Rows.vf :=
  ⟨Tryd.f66, Tryd.f66.body.getD .skip, Tryd.func66, by kernel_rfl, by kernel_rfl, by kernel_rfl, by kernel_rfl, by kernel_rfl⟩

/-- loop.example/g01331/spec.l04With -/
def i_spec_l04With : FF := ⟨34, [.cell 6 true 2],
  .seq (.ops [
    ⟨some 3, .box 2 (.tmp 0), none, 0⟩,
    ⟨some 6, .alloc [.int .i64 0, .slice none 0 0], none, 0⟩]) <|
  .seq (.dops [
    ⟨some 7, .fld 1 (.tmp 3), none, 0⟩,
    ⟨some 8, .load false 1 (.tmp 7), none, 0⟩,
    ⟨some 9, .mv (.tmp 1), none, 0⟩,
    ⟨some 10, .fld 1 (.tmp 3), none, 0⟩,
    ⟨some 11, .load false 1 (.tmp 10), none, 0⟩,
    ⟨some 12, .mv (.tmp 1), none, 0⟩,
    ⟨some 13, .idx 1 (.tmp 11) (.tmp 12), none, 0⟩,
    ⟨some 14, .load false 1 (.tmp 13), none, 0⟩,
    ⟨some 15, .mv (.tmp 2), none, 0⟩,
    ⟨some 16, .conv .u64 (.tmp 15), none, 0⟩,
    ⟨some 17, .bin .shl (.const (.int .i64 1)) (.tmp 16), none, 0⟩,
    ⟨some 18, .bin .or (.tmp 14) (.tmp 17), none, 0⟩,
    ⟨some 19, .idx 1 (.tmp 8) (.tmp 9), none, 0⟩,
    ⟨none, .store 1 (.tmp 19) (.tmp 18), none, 0⟩]) <|
  .seq (.dops [
    ⟨some 20, .fld 1 (.tmp 3), none, 0⟩,
    ⟨some 21, .load false 1 (.tmp 20), none, 0⟩,
    ⟨some 22, .mv (.tmp 2), none, 0⟩,
    ⟨some 23, .fld 1 (.tmp 3), none, 0⟩,
    ⟨some 24, .load false 1 (.tmp 23), none, 0⟩,
    ⟨some 25, .mv (.tmp 2), none, 0⟩,
    ⟨some 26, .idx 1 (.tmp 24) (.tmp 25), none, 0⟩,
    ⟨some 27, .load false 1 (.tmp 26), none, 0⟩,
    ⟨some 28, .mv (.tmp 1), none, 0⟩,
    ⟨some 29, .conv .u64 (.tmp 28), none, 0⟩,
    ⟨some 30, .bin .shl (.const (.int .i64 1)) (.tmp 29), none, 0⟩,
    ⟨some 31, .bin .or (.tmp 27) (.tmp 30), none, 0⟩,
    ⟨some 32, .idx 1 (.tmp 21) (.tmp 22), none, 0⟩,
    ⟨none, .store 1 (.tmp 32) (.tmp 31), none, 0⟩]) <|
  .seq (.ops [
    ⟨some 33, .load true 2 (.tmp 3), none, 0⟩,
    ⟨none, .store 2 (.tmp 6) (.tmp 33), none, 0⟩]) <|
  .keep [6] <|
  .ret⟩

theorem e_spec_l04With : EntOK Tryd.prog (compD Tryd.prog) k_spec_l04With i_spec_l04With.vf :=
  ⟨Tryd.f67, Tryd.f67.body.getD .skip, Tryd.func67, by kernel_rfl, by kernel_rfl, by kernel_rfl, by kernel_rfl, by kernel_rfl⟩

/-- loop.example/g01331/impl.connectedCode -/
def i_impl_connectedCode : FF := ⟨11, [.tmp 2],
  .seq (.ops [
    ⟨some 1, .box 2 (.tmp 0), none, 0⟩,
    ⟨some 2, .mv (.const (.int .i64 0)), none, 0⟩]) <|
  .seq (.block 0 <|
  .seq (.ops [
    ⟨some 4, .load true 2 (.tmp 1), none, 0⟩,
    ⟨some 5, .call k_impl_IsGraph [(.tmp 4)], none, 0⟩,
    ⟨some 6, .un .not (.tmp 5), none, 0⟩,
    ⟨some 3, .mv (.tmp 6), none, 0⟩]) <|
  .cond (.tmp 3)
    (.seq (.ops [
      ⟨some 2, .mv (.const (.int .i64 1)), none, 0⟩]) <|
    .keep [2] <|
    .ret)
    (.seq (.ops [
      ⟨some 8, .load true 2 (.tmp 1), none, 0⟩,
      ⟨some 9, .call k_impl_Graph_connected [(.tmp 8)], none, 0⟩,
      ⟨some 10, .un .not (.tmp 9), none, 0⟩,
      ⟨some 7, .mv (.tmp 10), none, 0⟩]) <|
    .cond (.tmp 7)
      (.seq (.ops [
        ⟨some 2, .mv (.const (.int .i64 5)), none, 0⟩]) <|
      .keep [2] <|
      .ret)
      (.skip))) <|
  .seq (.ops [
    ⟨some 2, .mv (.const (.int .i64 0)), none, 0⟩]) <|
  .keep [2] <|
  .ret⟩

theorem e_impl_connectedCode : EntOK Tryd.prog (compD Tryd.prog) k_impl_connectedCode i_impl_connectedCode.vf :=
  ⟨Tryd.f68, Tryd.f68.body.getD .skip, Tryd.func68, by kernel_rfl, by kernel_rfl, by kernel_rfl, by kernel_rfl, by kernel_rfl⟩

/-- (loop.example/g01331/impl.Graph).bipartite -/
def i_impl_Graph_bipartite_B1 : FC :=
  .seq (.ops [
    ⟨some 24, .bin .lss (.tmp 23) (.tmp 22), none, 0⟩]) <|
  .seq (.cond (.tmp 24)
    (.skip)
    (.keep [1, 9, 10, 11] <|
    .exit 2)) <|
  .seq (.block 3 <|
  .seq (.ops [
    ⟨some 25, .idx 1 (.tmp 21) (.tmp 23), none, 0⟩,
    ⟨some 26, .load false 1 (.tmp 25), none, 0⟩,
    ⟨some 7, .mv (.tmp 26), none, 0⟩]) <|
  .seq (.dops [
    ⟨some 27, .mv (.tmp 5), none, 0⟩,
    ⟨some 28, .mv (.tmp 7), none, 0⟩,
    ⟨some 29, .idx 1 (.tmp 28) (.const (.int .i64 0)), none, 0⟩,
    ⟨some 30, .load false 1 (.tmp 29), none, 0⟩,
    ⟨some 31, .idx 1 (.tmp 27) (.tmp 30), none, 0⟩,
    ⟨some 32, .load false 1 (.tmp 31), none, 0⟩,
    ⟨some 33, .bin .geq (.tmp 32) (.const (.int .i64 0)), none, 0⟩,
    ⟨some 34, .mv (.tmp 33), none, 0⟩,
    ⟨some 35, .mv (.tmp 5), some (34, true), 0⟩,
    ⟨some 36, .mv (.tmp 7), some (34, true), 0⟩,
    ⟨some 37, .idx 1 (.tmp 36) (.const (.int .i64 0)), some (34, true), 0⟩,
    ⟨some 38, .load false 1 (.tmp 37), some (34, true), 0⟩,
    ⟨some 39, .idx 1 (.tmp 35) (.tmp 38), some (34, true), 0⟩,
    ⟨some 40, .load false 1 (.tmp 39), some (34, true), 0⟩,
    ⟨some 41, .mv (.tmp 5), some (34, true), 0⟩,
    ⟨some 42, .mv (.tmp 7), some (34, true), 0⟩,
    ⟨some 43, .idx 1 (.tmp 42) (.const (.int .i64 1)), some (34, true), 0⟩,
    ⟨some 44, .load false 1 (.tmp 43), some (34, true), 0⟩,
    ⟨some 45, .idx 1 (.tmp 41) (.tmp 44), some (34, true), 0⟩,
    ⟨some 46, .load false 1 (.tmp 45), some (34, true), 0⟩,
    ⟨some 47, .bin .eql (.tmp 40) (.tmp 46), some (34, true), 0⟩,
    ⟨some 48, .pick (.tmp 34) (.tmp 47) (.const (.bool false)), none, 0⟩]) <|
  .cond (.tmp 48)
    (.seq (.ops [
      ⟨some 2, .mv (.const (.bool false)), none, 0⟩]) <|
    .keep [2] <|
    .ret)
    (.skip)) <|
  .ops [
    ⟨some 49, .bin .add (.tmp 23) (.const (.int .i64 1)), none, 0⟩,
    ⟨some 23, .mv (.tmp 49), none, 0⟩]
def i_impl_Graph_bipartite_B2 : FC :=
  .seq (.ops [
    ⟨some 12, .bin .lss (.tmp 11) (.tmp 10), none, 0⟩]) <|
  .seq (.cond (.tmp 12)
    (.skip)
    (.keep [] <|
    .exit 0)) <|
  .seq (.block 1 <|
  .seq (.ops [
    ⟨some 13, .idx 1 (.tmp 9) (.tmp 11), none, 0⟩,
    ⟨some 14, .load false 1 (.tmp 13), none, 0⟩,
    ⟨some 4, .mv (.tmp 14), none, 0⟩]) <|
  .seq (.dops [
    ⟨some 15, .load true 2 (.tmp 1), none, 0⟩,
    ⟨some 16, .mv (.tmp 4), none, 0⟩,
    ⟨some 17, .idx 1 (.tmp 16) (.const (.int .i64 0)), none, 0⟩,
    ⟨some 18, .load false 1 (.tmp 17), none, 0⟩,
    ⟨some 19, .call k_impl_Graph_distances [(.tmp 15), (.tmp 18)], none, 0⟩,
    ⟨some 5, .mv (.tmp 19), none, 0⟩]) <|
  .seq (.ops [
    ⟨some 20, .load true 2 (.tmp 1), none, 0⟩,
    ⟨some 21, .call k_impl_Graph_edges [(.tmp 20)], none, 0⟩,
    ⟨some 22, .len (.tmp 21), none, 0⟩,
    ⟨some 23, .mv (.const (.int .i64 0)), none, 0⟩]) <|
  .block 2 <|
  .loop [1, 5, 9, 10, 11, 21, 22, 23] i_impl_Graph_bipartite_B1) <|
  .ops [
    ⟨some 50, .bin .add (.tmp 11) (.const (.int .i64 1)), none, 0⟩,
    ⟨some 11, .mv (.tmp 50), none, 0⟩]
def i_impl_Graph_bipartite : FF := ⟨51, [.tmp 2],
  .seq (.ops [
    ⟨some 1, .box 2 (.tmp 0), none, 0⟩,
    ⟨some 2, .mv (.const (.bool false)), none, 0⟩]) <|
  .seq (.seq (.ops [
    ⟨some 8, .load true 2 (.tmp 1), none, 0⟩,
    ⟨some 9, .call k_impl_Graph_parts [(.tmp 8)], none, 0⟩,
    ⟨some 10, .len (.tmp 9), none, 0⟩,
    ⟨some 11, .mv (.const (.int .i64 0)), none, 0⟩]) <|
  .block 0 <|
  .loop [1, 9, 10, 11] i_impl_Graph_bipartite_B2) <|
  .seq (.ops [
    ⟨some 2, .mv (.const (.bool true)), none, 0⟩]) <|
  .keep [2] <|
  .ret⟩

theorem e_impl_Graph_bipartite : EntOK Tryd.prog (compD Tryd.prog) k_impl_Graph_bipartite i_impl_Graph_bipartite.vf :=
  ⟨Tryd.f69, Tryd.f69.body.getD .skip, Tryd.func69, by kernel_rfl, by kernel_rfl, by kernel_rfl, by kernel_rfl, by kernel_rfl⟩

/-- (loop.example/g01331/impl.Graph).distances -/
def i_impl_Graph_distances_B1 : FC :=
  .seq (.ops [
    ⟨some 28, .bin .lss (.tmp 27) (.tmp 26), none, 0⟩]) <|
  .seq (.cond (.tmp 28)
    (.skip)
    (.keep [2, 5, 6, 8, 9] <|
    .exit 2)) <|
  .seq (.block 3 <|
  .seq (.ops [
    ⟨some 29, .idx 1 (.tmp 25) (.tmp 27), none, 0⟩,
    ⟨some 30, .load false 1 (.tmp 29), none, 0⟩,
    ⟨some 11, .mv (.tmp 30), none, 0⟩]) <|
  .seq (.ops [
    ⟨some 31, .mv (.tmp 5), none, 0⟩,
    ⟨some 32, .mv (.tmp 11), none, 0⟩,
    ⟨some 33, .mv (.tmp 8), none, 0⟩,
    ⟨some 34, .idx 1 (.tmp 31) (.tmp 32), none, 0⟩,
    ⟨none, .store 1 (.tmp 34) (.tmp 33), none, 0⟩]) <|
  .ops [
    ⟨some 35, .mv (.tmp 9), none, 0⟩,
    ⟨some 36, .fld 1 (.tmp 2), none, 0⟩,
    ⟨some 37, .load false 1 (.tmp 36), none, 0⟩,
    ⟨some 38, .mv (.tmp 11), none, 0⟩,
    ⟨some 39, .idx 1 (.tmp 37) (.tmp 38), none, 0⟩,
    ⟨some 40, .load false 1 (.tmp 39), none, 0⟩,
    ⟨some 41, .bin .or (.tmp 35) (.tmp 40), none, 0⟩,
    ⟨some 9, .mv (.tmp 41), none, 0⟩]) <|
  .ops [
    ⟨some 42, .bin .add (.tmp 27) (.const (.int .i64 1)), none, 0⟩,
    ⟨some 27, .mv (.tmp 42), none, 0⟩]
def i_impl_Graph_distances_B2 : FC :=
  .seq (.seq (.ops [
    ⟨some 20, .mv (.tmp 7), none, 0⟩,
    ⟨some 21, .bin .neq (.tmp 20) (.const (.int .i64 0)), none, 0⟩]) <|
  .cond (.tmp 21)
    (.skip)
    (.keep [5] <|
    .exit 0)) <|
  .seq (.block 1 <|
  .seq (.ops [
    ⟨some 9, .mv (.const (.int .i64 0)), none, 0⟩]) <|
  .seq (.seq (.ops [
    ⟨some 24, .mv (.tmp 7), none, 0⟩,
    ⟨some 25, .call k_impl_list [(.tmp 24)], none, 0⟩,
    ⟨some 26, .len (.tmp 25), none, 0⟩,
    ⟨some 27, .mv (.const (.int .i64 0)), none, 0⟩]) <|
  .block 2 <|
  .loop [2, 5, 6, 8, 9, 25, 26, 27] i_impl_Graph_distances_B1) <|
  .seq (.ops [
    ⟨some 43, .mv (.tmp 9), none, 0⟩,
    ⟨some 44, .mv (.tmp 6), none, 0⟩,
    ⟨some 45, .bin .andNot (.tmp 43) (.tmp 44), none, 0⟩,
    ⟨some 7, .mv (.tmp 45), none, 0⟩]) <|
  .ops [
    ⟨some 46, .mv (.tmp 6), none, 0⟩,
    ⟨some 47, .mv (.tmp 9), none, 0⟩,
    ⟨some 48, .bin .or (.tmp 46) (.tmp 47), none, 0⟩,
    ⟨some 6, .mv (.tmp 48), none, 0⟩]) <|
  .ops [
    ⟨some 22, .mv (.tmp 8), none, 0⟩,
    ⟨some 23, .bin .add (.tmp 22) (.const (.int .i64 1)), none, 0⟩,
    ⟨some 8, .mv (.tmp 23), none, 0⟩]
def i_impl_Graph_distances : FF := ⟨50, [.tmp 4],
  .seq (.ops [
    ⟨some 2, .box 2 (.tmp 0), none, 0⟩,
    ⟨some 4, .mv (.const (.slice none 0 0)), none, 0⟩]) <|
  .seq (.ops [
    ⟨some 12, .buildSl 1 [.int .i64 0] [(0, 1, (.const (.int .i64 (-1))))] 1, none, 0⟩,
    ⟨some 13, .fld 0 (.tmp 2), none, 0⟩,
    ⟨some 14, .load false 1 (.tmp 13), none, 0⟩,
    ⟨some 15, .call k_slices_Repeat_int64_int64 [(.tmp 12), (.tmp 14)], none, 0⟩,
    ⟨some 5, .mv (.tmp 15), none, 0⟩]) <|
  .seq (.dops [
    ⟨some 16, .mv (.tmp 1), none, 0⟩,
    ⟨some 17, .bin .shl (.const (.int .i64 1)) (.tmp 16), none, 0⟩,
    ⟨some 18, .mv (.tmp 1), none, 0⟩,
    ⟨some 19, .bin .shl (.const (.int .i64 1)) (.tmp 18), none, 0⟩,
    ⟨some 6, .mv (.tmp 17), none, 0⟩,
    ⟨some 7, .mv (.tmp 19), none, 0⟩]) <|
  .seq (.seq (.ops [
    ⟨some 8, .mv (.const (.int .i64 0)), none, 0⟩]) <|
  .block 0 <|
  .loop [2, 5, 6, 7, 8] i_impl_Graph_distances_B2) <|
  .seq (.ops [
    ⟨some 49, .mv (.tmp 5), none, 0⟩,
    ⟨some 4, .mv (.tmp 49), none, 0⟩]) <|
  .keep [4] <|
  .ret⟩

theorem e_impl_Graph_distances : EntOK Tryd.prog (compD Tryd.prog) k_impl_Graph_distances i_impl_Graph_distances.vf :=
  ⟨Tryd.f70, Tryd.f70.body.getD .skip, Tryd.func70, by kernel_rfl, by kernel_rfl, by kernel_rfl, by kernel_rfl, by kernel_rfl⟩

/-- (loop.example/g01331/impl.Graph).at -/
def i_impl_Graph_at_B1 : FC :=
  .seq (.ops [
    ⟨some 22, .bin .lss (.tmp 21) (.tmp 20), none, 0⟩]) <|
  .seq (.cond (.tmp 22)
    (.skip)
    (.keep [1, 2, 4, 5, 13, 14] <|
    .exit 2)) <|
  .seq (.block 3 <|
  .seq (.ops [
    ⟨some 23, .mv (.tmp 21), none, 0⟩,
    ⟨some 24, .idx 1 (.tmp 19) (.tmp 21), none, 0⟩,
    ⟨some 25, .load false 1 (.tmp 24), none, 0⟩,
    ⟨some 7, .mv (.tmp 23), none, 0⟩,
    ⟨some 8, .mv (.tmp 25), none, 0⟩]) <|
  .seq (.ops [
    ⟨some 26, .mv (.tmp 8), none, 0⟩,
    ⟨some 27, .mv (.tmp 1), none, 0⟩,
    ⟨some 28, .bin .eql (.tmp 26) (.tmp 27), none, 0⟩]) <|
  .cond (.tmp 28)
    (.ops [
      ⟨some 29, .load true 2 (.tmp 5), none, 0⟩,
      ⟨some 30, .mv (.tmp 6), none, 0⟩,
      ⟨some 31, .mv (.tmp 7), none, 0⟩,
      ⟨some 32, .call k_impl_Graph_put [(.tmp 29), (.tmp 30), (.tmp 31)], none, 0⟩])
    (.skip)) <|
  .ops [
    ⟨some 33, .bin .add (.tmp 21) (.const (.int .i64 1)), none, 0⟩,
    ⟨some 21, .mv (.tmp 33), none, 0⟩]
def i_impl_Graph_at_B2 : FC :=
  .seq (.ops [
    ⟨some 15, .bin .lss (.tmp 14) (.tmp 13), none, 0⟩]) <|
  .seq (.cond (.tmp 15)
    (.skip)
    (.keep [4, 5] <|
    .exit 0)) <|
  .seq (.block 1 <|
  .seq (.ops [
    ⟨some 16, .mv (.tmp 14), none, 0⟩,
    ⟨some 6, .mv (.tmp 16), none, 0⟩]) <|
  .seq (.ops [
    ⟨some 17, .load true 2 (.tmp 2), none, 0⟩,
    ⟨some 18, .mv (.tmp 6), none, 0⟩,
    ⟨some 19, .call k_impl_Graph_distances [(.tmp 17), (.tmp 18)], none, 0⟩,
    ⟨some 20, .len (.tmp 19), none, 0⟩,
    ⟨some 21, .mv (.const (.int .i64 0)), none, 0⟩]) <|
  .block 2 <|
  .loop [1, 2, 4, 5, 6, 13, 14, 19, 20, 21] i_impl_Graph_at_B1) <|
  .ops [
    ⟨some 34, .bin .add (.tmp 14) (.const (.int .i64 1)), none, 0⟩,
    ⟨some 14, .mv (.tmp 34), none, 0⟩]
def i_impl_Graph_at : FF := ⟨36, [.cell 4 true 2],
  .seq (.ops [
    ⟨some 2, .box 2 (.tmp 0), none, 0⟩,
    ⟨some 4, .alloc [.int .i64 0, .slice none 0 0], none, 0⟩]) <|
  .seq (.ops [
    ⟨some 9, .fld 0 (.tmp 2), none, 0⟩,
    ⟨some 10, .load false 1 (.tmp 9), none, 0⟩,
    ⟨some 11, .call k_impl_empty [(.tmp 10)], none, 0⟩,
    ⟨some 5, .alloc [.int .i64 0, .slice none 0 0], none, 0⟩,
    ⟨none, .store 2 (.tmp 5) (.tmp 11), none, 0⟩]) <|
  .seq (.seq (.ops [
    ⟨some 12, .fld 0 (.tmp 2), none, 0⟩,
    ⟨some 13, .load false 1 (.tmp 12), none, 0⟩,
    ⟨some 14, .mv (.const (.int .i64 0)), none, 0⟩]) <|
  .block 0 <|
  .loop [1, 2, 4, 5, 13, 14] i_impl_Graph_at_B2) <|
  .seq (.ops [
    ⟨some 35, .load true 2 (.tmp 5), none, 0⟩,
    ⟨none, .store 2 (.tmp 4) (.tmp 35), none, 0⟩]) <|
  .keep [4] <|
  .ret⟩

theorem e_impl_Graph_at : EntOK Tryd.prog (compD Tryd.prog) k_impl_Graph_at i_impl_Graph_at.vf :=
  ⟨Tryd.f71, Tryd.f71.body.getD .skip, Tryd.func71, by kernel_rfl, by kernel_rfl, by kernel_rfl, by kernel_rfl, by kernel_rfl⟩

/-- (loop.example/g01331/impl.Graph).partOn -/
def i_impl_Graph_partOn_B1 : FC :=
  .seq (.ops [
    ⟨some 23, .bin .lss (.tmp 22) (.tmp 21), none, 0⟩]) <|
  .seq (.cond (.tmp 23)
    (.skip)
    (.keep [1, 2, 4, 5, 13, 14, 15] <|
    .exit 2)) <|
  .seq (.block 3 <|
  .seq (.ops [
    ⟨some 24, .mv (.tmp 22), none, 0⟩,
    ⟨some 25, .idx 1 (.tmp 20) (.tmp 22), none, 0⟩,
    ⟨some 26, .load false 1 (.tmp 25), none, 0⟩,
    ⟨some 8, .mv (.tmp 24), none, 0⟩,
    ⟨some 9, .mv (.tmp 26), none, 0⟩]) <|
  .seq (.ops [
    ⟨some 27, .load true 2 (.tmp 2), none, 0⟩,
    ⟨some 28, .mv (.tmp 7), none, 0⟩,
    ⟨some 29, .mv (.tmp 9), none, 0⟩,
    ⟨some 30, .call k_impl_Graph_has [(.tmp 27), (.tmp 28), (.tmp 29)], none, 0⟩]) <|
  .cond (.tmp 30)
    (.ops [
      ⟨some 31, .load true 2 (.tmp 5), none, 0⟩,
      ⟨some 32, .mv (.tmp 6), none, 0⟩,
      ⟨some 33, .mv (.tmp 8), none, 0⟩,
      ⟨some 34, .call k_impl_Graph_put [(.tmp 31), (.tmp 32), (.tmp 33)], none, 0⟩])
    (.skip)) <|
  .ops [
    ⟨some 35, .bin .add (.tmp 22) (.const (.int .i64 1)), none, 0⟩,
    ⟨some 22, .mv (.tmp 35), none, 0⟩]
def i_impl_Graph_partOn_B2 : FC :=
  .seq (.ops [
    ⟨some 16, .bin .lss (.tmp 15) (.tmp 14), none, 0⟩]) <|
  .seq (.cond (.tmp 16)
    (.skip)
    (.keep [4, 5] <|
    .exit 0)) <|
  .seq (.block 1 <|
  .seq (.ops [
    ⟨some 17, .mv (.tmp 15), none, 0⟩,
    ⟨some 18, .idx 1 (.tmp 13) (.tmp 15), none, 0⟩,
    ⟨some 19, .load false 1 (.tmp 18), none, 0⟩,
    ⟨some 6, .mv (.tmp 17), none, 0⟩,
    ⟨some 7, .mv (.tmp 19), none, 0⟩]) <|
  .seq (.ops [
    ⟨some 20, .mv (.tmp 1), none, 0⟩,
    ⟨some 21, .len (.tmp 20), none, 0⟩,
    ⟨some 22, .mv (.const (.int .i64 0)), none, 0⟩]) <|
  .block 2 <|
  .loop [1, 2, 4, 5, 6, 7, 13, 14, 15, 20, 21, 22] i_impl_Graph_partOn_B1) <|
  .ops [
    ⟨some 36, .bin .add (.tmp 15) (.const (.int .i64 1)), none, 0⟩,
    ⟨some 15, .mv (.tmp 36), none, 0⟩]
def i_impl_Graph_partOn : FF := ⟨38, [.cell 4 true 2],
  .seq (.ops [
    ⟨some 2, .box 2 (.tmp 0), none, 0⟩,
    ⟨some 4, .alloc [.int .i64 0, .slice none 0 0], none, 0⟩]) <|
  .seq (.ops [
    ⟨some 10, .mv (.tmp 1), none, 0⟩,
    ⟨some 11, .len (.tmp 10), none, 0⟩,
    ⟨some 12, .call k_impl_empty [(.tmp 11)], none, 0⟩,
    ⟨some 5, .alloc [.int .i64 0, .slice none 0 0], none, 0⟩,
    ⟨none, .store 2 (.tmp 5) (.tmp 12), none, 0⟩]) <|
  .seq (.seq (.ops [
    ⟨some 13, .mv (.tmp 1), none, 0⟩,
    ⟨some 14, .len (.tmp 13), none, 0⟩,
    ⟨some 15, .mv (.const (.int .i64 0)), none, 0⟩]) <|
  .block 0 <|
  .loop [1, 2, 4, 5, 13, 14, 15] i_impl_Graph_partOn_B2) <|
  .seq (.ops [
    ⟨some 37, .load true 2 (.tmp 5), none, 0⟩,
    ⟨none, .store 2 (.tmp 4) (.tmp 37), none, 0⟩]) <|
  .keep [4] <|
  .ret⟩

theorem e_impl_Graph_partOn : EntOK Tryd.prog (compD Tryd.prog) k_impl_Graph_partOn i_impl_Graph_partOn.vf :=
  ⟨Tryd.f72, Tryd.f72.body.getD .skip, Tryd.func72, by kernel_rfl, by kernel_rfl, by kernel_rfl, by kernel_rfl, by kernel_rfl⟩


end Go.Proofs.YthpgiimaadohcaaDoor.Zv
