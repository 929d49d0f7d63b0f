/- The functions' intermediate form. -/
import Derived.Test.YtcpmodengmffjaaZvF
import Derived.Test.YtcpmodengmffjaaProg
namespace Go.Proofs.Ytcpmodengmffjaa.Zv
open Go
def k_laws_FnExactDoubleGraph : Nat := 3
def k_laws_FnExactIsDesk : Nat := 4
def k_laws_FnExactIsCover : Nat := 5
def k_laws_FnExactPartOn : Nat := 6
def k_laws_FnExactPutEdge : Nat := 7
def k_laws_FnExactTakeEdge : Nat := 8
def k_laws_FnExactDirectProduct : Nat := 9
def k_laws_FnExactProductOf : Nat := 10
def k_laws_FnExactTakeVertex : Nat := 11
def k_laws_FnExactNewDesk : Nat := 12
def k_laws_szGraph : Nat := 13
def k_spec_DoubleGraph : Nat := 14
def k_laws_toGraph : Nat := 15
def k_impl_DoubleGraph : Nat := 16
def k_laws_eqGraph : Nat := 17
def k_laws_markGraph : Nat := 18
def k_laws_heldGraph : Nat := 19
def k_laws_szDesk : Nat := 20
def k_spec_IsDesk : Nat := 21
def k_laws_toDesk : Nat := 22
def k_impl_IsDesk : Nat := 23
def k_laws_eqDesk : Nat := 24
def k_spec_IsCover : Nat := 25
def k_laws_toInt64S : Nat := 26
def k_impl_IsCover : Nat := 27
def k_laws_eqInt64S : Nat := 28
def k_spec_PartOn : Nat := 29
def k_impl_PartOn : Nat := 30
def k_laws_markInt64S : Nat := 31
def k_spec_PutEdge : Nat := 32
def k_impl_PutEdge : Nat := 33
def k_spec_TakeEdge : Nat := 34
def k_impl_TakeEdge : Nat := 35
def k_spec_DirectProduct : Nat := 36
def k_impl_DirectProduct : Nat := 37
def k_spec_ProductOf : Nat := 38
def k_impl_ProductOf : Nat := 39
def k_spec_TakeVertex : Nat := 40
def k_impl_TakeVertex : Nat := 41
def k_spec_NewDesk : Nat := 42
def k_impl_NewDesk : Nat := 43
def k_laws_markDesk : Nat := 44
def k_laws_heldDesk : Nat := 45
def k_laws_szInt64S : Nat := 46
def k_spec_l01Is : Nat := 47
def k_spec_l01Empty : Nat := 48
def k_spec_l04With : Nat := 49
def k_impl_IsGraph : Nat := 50
def k_impl_made : Nat := 51
def k_impl_DoubleGraph_1 : Nat := 52
def k_impl_Graph_has : Nat := 53
def k_laws_heldInt64S : Nat := 54
def k_laws_szDigraph : Nat := 55
def k_spec_l08Is : Nat := 56
def k_laws_toDigraph : Nat := 57
def k_impl_IsDigraph : Nat := 58
def k_laws_eqDigraph : Nat := 59
def k_spec_l01In : Nat := 60
def k_spec_l01Neighbours : Nat := 61
def k_impl_areGraphs : Nat := 62
def k_impl_graphCode : Nat := 63
def k_impl_size : Nat := 64
def k_impl_Graph_degree : Nat := 65
def k_spec_l01Vertices : Nat := 66
def k_spec_l01On : Nat := 67
def k_impl_Graph_partOn : Nat := 68
def k_spec_l01Two : Nat := 69
def k_spec_l01Has : Nat := 70
def k_spec_l01Join : Nat := 71
def k_impl_pairCode : Nat := 72
def k_impl_own : Nat := 73
def k_impl_Graph_put : Nat := 74
def k_spec_l01Cut : Nat := 75
def k_impl_Graph_take : Nat := 76
def k_spec_l09Code : Nat := 77
def k_spec_l09Told : Nat := 78
def k_spec_l09Direct : Nat := 79
def k_impl_product : Nat := 80
def k_impl_DirectProduct_1 : Nat := 81
def k_spec_l09Product : Nat := 82
def k_impl_ProductOf_1 : Nat := 83
def k_spec_l09Without : Nat := 84
def k_impl_Graph_without : Nat := 85
def k_spec_l11New : Nat := 86
def k_impl_ringGraph : Nat := 87
def k_impl_kautz : Nat := 88
def k_laws_markDigraph : Nat := 89
def k_laws_heldDigraph : Nat := 90
def k_impl_empty : Nat := 91
def k_slices_ContainsFunc_int64_int64 : Nat := 92
def k_impl_IsDigraph_1 : Nat := 93
def k_math_bits_OnesCount64 : Nat := 94
def k_spec_l01Put : Nat := 95
def k_spec_l01Copy : Nat := 96
def k_slices_Clone_int64_int64 : Nat := 97
def k_spec_l01Edges : Nat := 98
def k_impl_limitedCode : Nat := 99
def k_impl_product_1 : Nat := 100
def k_slices_DeleteFunc_int64_int64 : Nat := 101
def k_impl_counting : Nat := 102
def k_impl_Graph_without_1 : Nat := 103
def k_spec_l01Named : Nat := 104
def k_spec_KautzDigraph : Nat := 105
def k_impl_kautzWords : Nat := 106
def k_impl_directed : Nat := 107
def k_impl_kautz_1 : Nat := 108
def k_slices_Equal_int64_int64 : Nat := 109
def k_slices_IndexFunc_int64_int64 : Nat := 110
def k_spec_l01Own : Nat := 111
def k_spec_l01Complement : Nat := 112
def k_spec_l01Beside : Nat := 113
def k_spec_l01Jumps : Nat := 114
def k_spec_l08Kautz : Nat := 115
def k_spec_l08Digraph : Nat := 116
def k_spec_l08List : Nat := 117
def k_spec_l08Words : Nat := 118
def k_spec_l08Follows : Nat := 119
/-- loop.example/g01331/laws.FnExactDoubleGraph -/
def i_laws_FnExactDoubleGraph : FF := ⟨96, [.tmp 2],
  .seq (.ops [
    ⟨some 1, .box 2 (.tmp 0), none, 0⟩,
    ⟨some 2, .mv (.const (.bool false)), none, 0⟩]) <|
  .seq (.ops [
    ⟨some 3, .mv (.const (.int .i64 1048576)), none, 0⟩]) <|
  .seq (.ops [
    ⟨some 14, .load true 2 (.tmp 1), none, 0⟩,
    ⟨some 15, .mv (.tmp 3), none, 0⟩,
    ⟨some 16, .call k_laws_szGraph [(.tmp 14), (.tmp 15)], none, 0⟩,
    ⟨some 3, .mv (.tmp 16), none, 0⟩]) <|
  .seq (.seq (.ops [
    ⟨some 17, .mv (.tmp 3), none, 0⟩,
    ⟨some 18, .bin .lss (.tmp 17) (.const (.int .i64 0)), none, 0⟩]) <|
  .cond (.tmp 18)
    (.seq (.ops [
      ⟨some 2, .mv (.const (.bool true)), none, 0⟩]) <|
    .keep [2] <|
    .ret)
    (.skip)) <|
  .seq (.ops [
    ⟨some 20, .load true 2 (.tmp 1), none, 0⟩,
    ⟨some 21, .call k_laws_toGraph [(.tmp 20)], none, 0⟩,
    ⟨some 22, .call k_spec_DoubleGraph [(.tmp 21)], none, 0⟩,
    ⟨some 19, .mv (.tmp 22), none, 0⟩,
    ⟨some 23, .ext (.tmp 19) 0, none, 0⟩,
    ⟨some 24, .ext (.tmp 19) 1, none, 0⟩,
    ⟨some 4, .alloc [.int .i64 0, .slice none 0 0], none, 0⟩,
    ⟨none, .store 2 (.tmp 4) (.tmp 23), none, 0⟩,
    ⟨some 5, .mv (.tmp 24), none, 0⟩]) <|
  .seq (.ops [
    ⟨some 25, .load true 2 (.tmp 1), none, 0⟩,
    ⟨some 26, .call k_laws_toGraph [(.tmp 25)], none, 0⟩,
    ⟨some 6, .alloc [.int .i64 0, .slice none 0 0], none, 0⟩,
    ⟨none, .store 2 (.tmp 6) (.tmp 26), none, 0⟩]) <|
  .seq (.ops [
    ⟨some 28, .load true 2 (.tmp 6), none, 0⟩,
    ⟨some 29, .call k_impl_DoubleGraph [(.tmp 28)], none, 0⟩,
    ⟨some 27, .mv (.tmp 29), none, 0⟩,
    ⟨some 30, .ext (.tmp 27) 0, none, 0⟩,
    ⟨some 31, .ext (.tmp 27) 1, none, 0⟩,
    ⟨some 7, .alloc [.int .i64 0, .slice none 0 0], none, 0⟩,
    ⟨none, .store 2 (.tmp 7) (.tmp 30), none, 0⟩,
    ⟨some 8, .mv (.tmp 31), none, 0⟩]) <|
  .seq (.seq (.ops [
    ⟨some 32, .load true 2 (.tmp 7), none, 0⟩,
    ⟨some 33, .load true 2 (.tmp 4), none, 0⟩,
    ⟨some 34, .call k_laws_eqGraph [(.tmp 32), (.tmp 33)], none, 0⟩,
    ⟨some 35, .un .not (.tmp 34), none, 0⟩,
    ⟨some 36, .mv (.tmp 35), none, 0⟩,
    ⟨some 37, .mv (.tmp 8), some (36, false), 0⟩,
    ⟨some 38, .mv (.tmp 5), some (36, false), 0⟩,
    ⟨some 39, .bin .neq (.tmp 37) (.tmp 38), some (36, false), 0⟩,
    ⟨some 40, .pick (.tmp 36) (.const (.bool true)) (.tmp 39), none, 0⟩]) <|
  .cond (.tmp 40)
    (.seq (.ops [
      ⟨some 2, .mv (.const (.bool false)), none, 0⟩]) <|
    .keep [2] <|
    .ret)
    (.skip)) <|
  .seq (.seq (.dops [
    ⟨some 42, .load true 2 (.tmp 1), none, 0⟩,
    ⟨some 43, .call k_laws_toGraph [(.tmp 42)], none, 0⟩,
    ⟨some 41, .load true 2 (.tmp 6), none, 1⟩,
    ⟨some 44, .call k_laws_eqGraph [(.tmp 41), (.tmp 43)], none, 0⟩,
    ⟨some 45, .un .not (.tmp 44), none, 0⟩]) <|
  .cond (.tmp 45)
    (.seq (.ops [
      ⟨some 2, .mv (.const (.bool false)), none, 0⟩]) <|
    .keep [2] <|
    .ret)
    (.skip)) <|
  .seq (.ops [
    ⟨some 9, .mv (.const (.int .i64 1)), none, 0⟩]) <|
  .seq (.ops [
    ⟨some 46, .load true 2 (.tmp 6), none, 0⟩,
    ⟨some 47, .mv (.tmp 9), none, 0⟩,
    ⟨some 48, .call k_laws_markGraph [(.tmp 46), (.tmp 47)], none, 0⟩,
    ⟨some 9, .mv (.tmp 48), none, 0⟩]) <|
  .seq (.seq (.ops [
    ⟨some 49, .mv (.tmp 9), none, 0⟩,
    ⟨some 50, .bin .lss (.tmp 49) (.const (.int .i64 0)), none, 0⟩,
    ⟨some 51, .mv (.tmp 50), none, 0⟩,
    ⟨some 52, .load true 2 (.tmp 7), some (51, false), 0⟩,
    ⟨some 53, .load true 2 (.tmp 4), some (51, false), 0⟩,
    ⟨some 54, .call k_laws_eqGraph [(.tmp 52), (.tmp 53)], some (51, false), 0⟩,
    ⟨some 55, .un .not (.tmp 54), some (51, false), 0⟩,
    ⟨some 56, .pick (.tmp 51) (.const (.bool true)) (.tmp 55), none, 0⟩,
    ⟨some 57, .mv (.tmp 56), none, 0⟩,
    ⟨some 58, .mv (.tmp 8), some (57, false), 0⟩,
    ⟨some 59, .mv (.tmp 5), some (57, false), 0⟩,
    ⟨some 60, .bin .neq (.tmp 58) (.tmp 59), some (57, false), 0⟩,
    ⟨some 61, .pick (.tmp 57) (.const (.bool true)) (.tmp 60), none, 0⟩]) <|
  .cond (.tmp 61)
    (.seq (.ops [
      ⟨some 2, .mv (.const (.bool false)), none, 0⟩]) <|
    .keep [2] <|
    .ret)
    (.skip)) <|
  .seq (.ops [
    ⟨some 10, .mv (.const (.int .i64 1)), none, 0⟩]) <|
  .seq (.ops [
    ⟨some 62, .load true 2 (.tmp 7), none, 0⟩,
    ⟨some 63, .mv (.tmp 10), none, 0⟩,
    ⟨some 64, .call k_laws_markGraph [(.tmp 62), (.tmp 63)], none, 0⟩,
    ⟨some 10, .mv (.tmp 64), none, 0⟩]) <|
  .seq (.ops [
    ⟨some 11, .mv (.const (.int .i64 1)), none, 0⟩]) <|
  .seq (.ops [
    ⟨some 65, .load true 2 (.tmp 7), none, 0⟩,
    ⟨some 66, .mv (.tmp 11), none, 0⟩,
    ⟨some 67, .call k_laws_heldGraph [(.tmp 65), (.tmp 66)], none, 0⟩,
    ⟨some 11, .mv (.tmp 67), none, 0⟩]) <|
  .seq (.seq (.ops [
    ⟨some 68, .mv (.tmp 11), none, 0⟩,
    ⟨some 69, .bin .lss (.tmp 68) (.const (.int .i64 0)), none, 0⟩]) <|
  .cond (.tmp 69)
    (.seq (.ops [
      ⟨some 2, .mv (.const (.bool false)), none, 0⟩]) <|
    .keep [2] <|
    .ret)
    (.skip)) <|
  .seq (.seq (.ops [
    ⟨some 70, .mv (.tmp 11), none, 0⟩,
    ⟨some 71, .mv (.tmp 10), none, 0⟩,
    ⟨some 72, .bin .neq (.tmp 70) (.tmp 71), none, 0⟩]) <|
  .cond (.tmp 72)
    (.seq (.ops [
      ⟨some 2, .mv (.const (.bool false)), none, 0⟩]) <|
    .keep [2] <|
    .ret)
    (.skip)) <|
  .seq (.ops [
    ⟨some 74, .load true 2 (.tmp 1), none, 0⟩,
    ⟨some 75, .call k_laws_toGraph [(.tmp 74)], none, 0⟩,
    ⟨some 76, .call k_impl_DoubleGraph [(.tmp 75)], none, 0⟩,
    ⟨some 73, .mv (.tmp 76), none, 0⟩,
    ⟨some 77, .ext (.tmp 73) 0, none, 0⟩,
    ⟨some 78, .ext (.tmp 73) 1, none, 0⟩,
    ⟨some 12, .alloc [.int .i64 0, .slice none 0 0], none, 0⟩,
    ⟨none, .store 2 (.tmp 12) (.tmp 77), none, 0⟩,
    ⟨some 13, .mv (.tmp 78), none, 0⟩]) <|
  .seq (.seq (.ops [
    ⟨some 79, .load true 2 (.tmp 12), none, 0⟩,
    ⟨some 80, .load true 2 (.tmp 4), none, 0⟩,
    ⟨some 81, .call k_laws_eqGraph [(.tmp 79), (.tmp 80)], none, 0⟩,
    ⟨some 82, .un .not (.tmp 81), none, 0⟩,
    ⟨some 83, .mv (.tmp 82), none, 0⟩,
    ⟨some 84, .mv (.tmp 13), some (83, false), 0⟩,
    ⟨some 85, .mv (.tmp 5), some (83, false), 0⟩,
    ⟨some 86, .bin .neq (.tmp 84) (.tmp 85), some (83, false), 0⟩,
    ⟨some 87, .pick (.tmp 83) (.const (.bool true)) (.tmp 86), none, 0⟩]) <|
  .cond (.tmp 87)
    (.seq (.ops [
      ⟨some 2, .mv (.const (.bool false)), none, 0⟩]) <|
    .keep [2] <|
    .ret)
    (.skip)) <|
  .seq (.ops [
    ⟨some 11, .mv (.const (.int .i64 1)), none, 0⟩]) <|
  .seq (.ops [
    ⟨some 88, .load true 2 (.tmp 7), none, 0⟩,
    ⟨some 89, .mv (.tmp 11), none, 0⟩,
    ⟨some 90, .call k_laws_heldGraph [(.tmp 88), (.tmp 89)], none, 0⟩,
    ⟨some 11, .mv (.tmp 90), none, 0⟩]) <|
  .seq (.seq (.ops [
    ⟨some 91, .mv (.tmp 11), none, 0⟩,
    ⟨some 92, .bin .lss (.tmp 91) (.const (.int .i64 0)), none, 0⟩]) <|
  .cond (.tmp 92)
    (.seq (.ops [
      ⟨some 2, .mv (.const (.bool false)), none, 0⟩]) <|
    .keep [2] <|
    .ret)
    (.skip)) <|
  .seq (.seq (.ops [
    ⟨some 93, .mv (.tmp 11), none, 0⟩,
    ⟨some 94, .mv (.tmp 10), none, 0⟩,
    ⟨some 95, .bin .neq (.tmp 93) (.tmp 94), none, 0⟩]) <|
  .cond (.tmp 95)
    (.seq (.ops [
      ⟨some 2, .mv (.const (.bool false)), none, 0⟩]) <|
    .keep [2] <|
    .ret)
    (.skip)) <|
  .seq (.ops [
    ⟨some 2, .mv (.const (.bool true)), none, 0⟩]) <|
  .keep [2] <|
  .ret⟩

theorem e_laws_FnExactDoubleGraph : EntOK Try.prog (compD Try.prog) k_laws_FnExactDoubleGraph i_laws_FnExactDoubleGraph.vf :=
  ⟨Try.f3, Try.f3.body.getD .skip, Try.func3, by kernel_rfl, by kernel_rfl, by kernel_rfl, by kernel_rfl, by kernel_rfl⟩

/-- loop.example/g01331/laws.FnExactIsDesk -/
def i_laws_FnExactIsDesk : FF := ⟨27, [.tmp 2],
  .seq (.ops [
    ⟨some 1, .box 4 (.tmp 0), none, 0⟩,
    ⟨some 2, .mv (.const (.bool false)), none, 0⟩]) <|
  .seq (.ops [
    ⟨some 3, .mv (.const (.int .i64 1048576)), none, 0⟩]) <|
  .seq (.ops [
    ⟨some 7, .load true 4 (.tmp 1), none, 0⟩,
    ⟨some 8, .mv (.tmp 3), none, 0⟩,
    ⟨some 9, .call k_laws_szDesk [(.tmp 7), (.tmp 8)], none, 0⟩,
    ⟨some 3, .mv (.tmp 9), none, 0⟩]) <|
  .seq (.seq (.ops [
    ⟨some 10, .mv (.tmp 3), none, 0⟩,
    ⟨some 11, .bin .lss (.tmp 10) (.const (.int .i64 0)), none, 0⟩]) <|
  .cond (.tmp 11)
    (.seq (.ops [
      ⟨some 2, .mv (.const (.bool true)), none, 0⟩]) <|
    .keep [2] <|
    .ret)
    (.skip)) <|
  .seq (.ops [
    ⟨some 12, .load true 4 (.tmp 1), none, 0⟩,
    ⟨some 13, .call k_laws_toDesk [(.tmp 12)], none, 0⟩,
    ⟨some 14, .call k_spec_IsDesk [(.tmp 13)], none, 0⟩,
    ⟨some 4, .mv (.tmp 14), none, 0⟩]) <|
  .seq (.ops [
    ⟨some 15, .load true 4 (.tmp 1), none, 0⟩,
    ⟨some 16, .call k_laws_toDesk [(.tmp 15)], none, 0⟩,
    ⟨some 5, .alloc [.int .i64 0, .slice none 0 0, .int .i64 0, .slice none 0 0], none, 0⟩,
    ⟨none, .store 4 (.tmp 5) (.tmp 16), none, 0⟩]) <|
  .seq (.ops [
    ⟨some 17, .load true 4 (.tmp 5), none, 0⟩,
    ⟨some 18, .call k_impl_IsDesk [(.tmp 17)], none, 0⟩,
    ⟨some 6, .mv (.tmp 18), none, 0⟩]) <|
  .seq (.seq (.ops [
    ⟨some 19, .mv (.tmp 6), none, 0⟩,
    ⟨some 20, .mv (.tmp 4), none, 0⟩,
    ⟨some 21, .beq true (.tmp 19) (.tmp 20), none, 0⟩]) <|
  .cond (.tmp 21)
    (.seq (.ops [
      ⟨some 2, .mv (.const (.bool false)), none, 0⟩]) <|
    .keep [2] <|
    .ret)
    (.skip)) <|
  .seq (.seq (.dops [
    ⟨some 23, .load true 4 (.tmp 1), none, 0⟩,
    ⟨some 24, .call k_laws_toDesk [(.tmp 23)], none, 0⟩,
    ⟨some 22, .load true 4 (.tmp 5), none, 1⟩,
    ⟨some 25, .call k_laws_eqDesk [(.tmp 22), (.tmp 24)], none, 0⟩,
    ⟨some 26, .un .not (.tmp 25), none, 0⟩]) <|
  .cond (.tmp 26)
    (.seq (.ops [
      ⟨some 2, .mv (.const (.bool false)), none, 0⟩]) <|
    .keep [2] <|
    .ret)
    (.skip)) <|
  .seq (.ops [
    ⟨some 2, .mv (.const (.bool true)), none, 0⟩]) <|
  .keep [2] <|
  .ret⟩

theorem e_laws_FnExactIsDesk : EntOK Try.prog (compD Try.prog) k_laws_FnExactIsDesk i_laws_FnExactIsDesk.vf :=
  ⟨Try.f4, Try.f4.body.getD .skip, Try.func4, by kernel_rfl, by kernel_rfl, by kernel_rfl, by kernel_rfl, by kernel_rfl⟩

/-- loop.example/g01331/laws.FnExactIsCover -/
def i_laws_FnExactIsCover : FF := ⟨74, [.tmp 6],
  .seq (.ops [
    ⟨some 3, .box 2 (.tmp 0), none, 0⟩,
    ⟨some 4, .box 2 (.tmp 1), none, 0⟩,
    ⟨some 6, .mv (.const (.bool false)), none, 0⟩]) <|
  .seq (.seq (.ops [
    ⟨some 15, .mv (.tmp 2), none, 0⟩,
    ⟨some 16, .len (.tmp 15), none, 0⟩,
    ⟨some 17, .bin .gtr (.tmp 16) (.const (.int .i64 1048576)), none, 0⟩]) <|
  .cond (.tmp 17)
    (.seq (.ops [
      ⟨some 6, .mv (.const (.bool true)), none, 0⟩]) <|
    .keep [6] <|
    .ret)
    (.skip)) <|
  .seq (.ops [
    ⟨some 7, .mv (.const (.int .i64 1048576)), none, 0⟩]) <|
  .seq (.ops [
    ⟨some 18, .load true 2 (.tmp 3), none, 0⟩,
    ⟨some 19, .mv (.tmp 7), none, 0⟩,
    ⟨some 20, .call k_laws_szGraph [(.tmp 18), (.tmp 19)], none, 0⟩,
    ⟨some 7, .mv (.tmp 20), none, 0⟩]) <|
  .seq (.seq (.ops [
    ⟨some 21, .mv (.tmp 7), none, 0⟩,
    ⟨some 22, .bin .lss (.tmp 21) (.const (.int .i64 0)), none, 0⟩]) <|
  .cond (.tmp 22)
    (.seq (.ops [
      ⟨some 6, .mv (.const (.bool true)), none, 0⟩]) <|
    .keep [6] <|
    .ret)
    (.skip)) <|
  .seq (.ops [
    ⟨some 23, .load true 2 (.tmp 4), none, 0⟩,
    ⟨some 24, .mv (.tmp 7), none, 0⟩,
    ⟨some 25, .call k_laws_szGraph [(.tmp 23), (.tmp 24)], none, 0⟩,
    ⟨some 7, .mv (.tmp 25), none, 0⟩]) <|
  .seq (.seq (.ops [
    ⟨some 26, .mv (.tmp 7), none, 0⟩,
    ⟨some 27, .bin .lss (.tmp 26) (.const (.int .i64 0)), none, 0⟩]) <|
  .cond (.tmp 27)
    (.seq (.ops [
      ⟨some 6, .mv (.const (.bool true)), none, 0⟩]) <|
    .keep [6] <|
    .ret)
    (.skip)) <|
  .seq (.dops [
    ⟨some 29, .load true 2 (.tmp 3), none, 0⟩,
    ⟨some 30, .call k_laws_toGraph [(.tmp 29)], none, 0⟩,
    ⟨some 31, .load true 2 (.tmp 4), none, 1⟩,
    ⟨some 32, .call k_laws_toGraph [(.tmp 31)], none, 0⟩,
    ⟨some 33, .mv (.tmp 2), none, 2⟩,
    ⟨some 34, .call k_laws_toInt64S [(.tmp 33)], none, 0⟩,
    ⟨some 35, .call k_spec_IsCover [(.tmp 30), (.tmp 32), (.tmp 34)], none, 0⟩,
    ⟨some 28, .mv (.tmp 35), none, 0⟩,
    ⟨some 36, .ext (.tmp 28) 0, none, 0⟩,
    ⟨some 37, .ext (.tmp 28) 1, none, 0⟩,
    ⟨some 8, .mv (.tmp 36), none, 0⟩,
    ⟨some 9, .mv (.tmp 37), none, 0⟩]) <|
  .seq (.ops [
    ⟨some 38, .load true 2 (.tmp 3), none, 0⟩,
    ⟨some 39, .call k_laws_toGraph [(.tmp 38)], none, 0⟩,
    ⟨some 10, .alloc [.int .i64 0, .slice none 0 0], none, 0⟩,
    ⟨none, .store 2 (.tmp 10) (.tmp 39), none, 0⟩]) <|
  .seq (.ops [
    ⟨some 40, .load true 2 (.tmp 4), none, 0⟩,
    ⟨some 41, .call k_laws_toGraph [(.tmp 40)], none, 0⟩,
    ⟨some 11, .alloc [.int .i64 0, .slice none 0 0], none, 0⟩,
    ⟨none, .store 2 (.tmp 11) (.tmp 41), none, 0⟩]) <|
  .seq (.ops [
    ⟨some 42, .mv (.tmp 2), none, 0⟩,
    ⟨some 43, .call k_laws_toInt64S [(.tmp 42)], none, 0⟩,
    ⟨some 12, .mv (.tmp 43), none, 0⟩]) <|
  .seq (.ops [
    ⟨some 45, .load true 2 (.tmp 10), none, 0⟩,
    ⟨some 46, .load true 2 (.tmp 11), none, 0⟩,
    ⟨some 47, .mv (.tmp 12), none, 0⟩,
    ⟨some 48, .call k_impl_IsCover [(.tmp 45), (.tmp 46), (.tmp 47)], none, 0⟩,
    ⟨some 44, .mv (.tmp 48), none, 0⟩,
    ⟨some 49, .ext (.tmp 44) 0, none, 0⟩,
    ⟨some 50, .ext (.tmp 44) 1, none, 0⟩,
    ⟨some 13, .mv (.tmp 49), none, 0⟩,
    ⟨some 14, .mv (.tmp 50), none, 0⟩]) <|
  .seq (.seq (.ops [
    ⟨some 51, .mv (.tmp 13), none, 0⟩,
    ⟨some 52, .mv (.tmp 8), none, 0⟩,
    ⟨some 53, .beq true (.tmp 51) (.tmp 52), none, 0⟩,
    ⟨some 54, .mv (.tmp 53), none, 0⟩,
    ⟨some 55, .mv (.tmp 14), some (54, false), 0⟩,
    ⟨some 56, .mv (.tmp 9), some (54, false), 0⟩,
    ⟨some 57, .bin .neq (.tmp 55) (.tmp 56), some (54, false), 0⟩,
    ⟨some 58, .pick (.tmp 54) (.const (.bool true)) (.tmp 57), none, 0⟩]) <|
  .cond (.tmp 58)
    (.seq (.ops [
      ⟨some 6, .mv (.const (.bool false)), none, 0⟩]) <|
    .keep [6] <|
    .ret)
    (.skip)) <|
  .seq (.seq (.dops [
    ⟨some 60, .load true 2 (.tmp 3), none, 0⟩,
    ⟨some 61, .call k_laws_toGraph [(.tmp 60)], none, 0⟩,
    ⟨some 59, .load true 2 (.tmp 10), none, 1⟩,
    ⟨some 62, .call k_laws_eqGraph [(.tmp 59), (.tmp 61)], none, 0⟩,
    ⟨some 63, .un .not (.tmp 62), none, 0⟩]) <|
  .cond (.tmp 63)
    (.seq (.ops [
      ⟨some 6, .mv (.const (.bool false)), none, 0⟩]) <|
    .keep [6] <|
    .ret)
    (.skip)) <|
  .seq (.seq (.dops [
    ⟨some 65, .load true 2 (.tmp 4), none, 0⟩,
    ⟨some 66, .call k_laws_toGraph [(.tmp 65)], none, 0⟩,
    ⟨some 64, .load true 2 (.tmp 11), none, 1⟩,
    ⟨some 67, .call k_laws_eqGraph [(.tmp 64), (.tmp 66)], none, 0⟩,
    ⟨some 68, .un .not (.tmp 67), none, 0⟩]) <|
  .cond (.tmp 68)
    (.seq (.ops [
      ⟨some 6, .mv (.const (.bool false)), none, 0⟩]) <|
    .keep [6] <|
    .ret)
    (.skip)) <|
  .seq (.seq (.ops [
    ⟨some 69, .mv (.tmp 12), none, 0⟩,
    ⟨some 70, .mv (.tmp 2), none, 0⟩,
    ⟨some 71, .call k_laws_toInt64S [(.tmp 70)], none, 0⟩,
    ⟨some 72, .call k_laws_eqInt64S [(.tmp 69), (.tmp 71)], none, 0⟩,
    ⟨some 73, .un .not (.tmp 72), none, 0⟩]) <|
  .cond (.tmp 73)
    (.seq (.ops [
      ⟨some 6, .mv (.const (.bool false)), none, 0⟩]) <|
    .keep [6] <|
    .ret)
    (.skip)) <|
  .seq (.ops [
    ⟨some 6, .mv (.const (.bool true)), none, 0⟩]) <|
  .keep [6] <|
  .ret⟩

theorem e_laws_FnExactIsCover : EntOK Try.prog (compD Try.prog) k_laws_FnExactIsCover i_laws_FnExactIsCover.vf :=
  ⟨Try.f5, Try.f5.body.getD .skip, Try.func5, by kernel_rfl, by kernel_rfl, by kernel_rfl, by kernel_rfl, by kernel_rfl⟩

/-- loop.example/g01331/laws.FnExactPartOn -/
def i_laws_FnExactPartOn : FF := ⟨117, [.tmp 4],
  .seq (.ops [
    ⟨some 2, .box 2 (.tmp 0), none, 0⟩,
    ⟨some 4, .mv (.const (.bool false)), none, 0⟩]) <|
  .seq (.seq (.ops [
    ⟨some 17, .mv (.tmp 1), none, 0⟩,
    ⟨some 18, .len (.tmp 17), none, 0⟩,
    ⟨some 19, .bin .gtr (.tmp 18) (.const (.int .i64 1048576)), none, 0⟩]) <|
  .cond (.tmp 19)
    (.seq (.ops [
      ⟨some 4, .mv (.const (.bool true)), none, 0⟩]) <|
    .keep [4] <|
    .ret)
    (.skip)) <|
  .seq (.ops [
    ⟨some 5, .mv (.const (.int .i64 1048576)), none, 0⟩]) <|
  .seq (.ops [
    ⟨some 20, .load true 2 (.tmp 2), none, 0⟩,
    ⟨some 21, .mv (.tmp 5), none, 0⟩,
    ⟨some 22, .call k_laws_szGraph [(.tmp 20), (.tmp 21)], none, 0⟩,
    ⟨some 5, .mv (.tmp 22), none, 0⟩]) <|
  .seq (.seq (.ops [
    ⟨some 23, .mv (.tmp 5), none, 0⟩,
    ⟨some 24, .bin .lss (.tmp 23) (.const (.int .i64 0)), none, 0⟩]) <|
  .cond (.tmp 24)
    (.seq (.ops [
      ⟨some 4, .mv (.const (.bool true)), none, 0⟩]) <|
    .keep [4] <|
    .ret)
    (.skip)) <|
  .seq (.ops [
    ⟨some 26, .load true 2 (.tmp 2), none, 0⟩,
    ⟨some 27, .call k_laws_toGraph [(.tmp 26)], none, 0⟩,
    ⟨some 28, .mv (.tmp 1), none, 0⟩,
    ⟨some 29, .call k_laws_toInt64S [(.tmp 28)], none, 0⟩,
    ⟨some 30, .call k_spec_PartOn [(.tmp 27), (.tmp 29)], none, 0⟩,
    ⟨some 25, .mv (.tmp 30), none, 0⟩,
    ⟨some 31, .ext (.tmp 25) 0, none, 0⟩,
    ⟨some 32, .ext (.tmp 25) 1, none, 0⟩,
    ⟨some 6, .alloc [.int .i64 0, .slice none 0 0], none, 0⟩,
    ⟨none, .store 2 (.tmp 6) (.tmp 31), none, 0⟩,
    ⟨some 7, .mv (.tmp 32), none, 0⟩]) <|
  .seq (.ops [
    ⟨some 33, .load true 2 (.tmp 2), none, 0⟩,
    ⟨some 34, .call k_laws_toGraph [(.tmp 33)], none, 0⟩,
    ⟨some 8, .alloc [.int .i64 0, .slice none 0 0], none, 0⟩,
    ⟨none, .store 2 (.tmp 8) (.tmp 34), none, 0⟩]) <|
  .seq (.ops [
    ⟨some 35, .mv (.tmp 1), none, 0⟩,
    ⟨some 36, .call k_laws_toInt64S [(.tmp 35)], none, 0⟩,
    ⟨some 9, .mv (.tmp 36), none, 0⟩]) <|
  .seq (.ops [
    ⟨some 38, .load true 2 (.tmp 8), none, 0⟩,
    ⟨some 39, .mv (.tmp 9), none, 0⟩,
    ⟨some 40, .call k_impl_PartOn [(.tmp 38), (.tmp 39)], none, 0⟩,
    ⟨some 37, .mv (.tmp 40), none, 0⟩,
    ⟨some 41, .ext (.tmp 37) 0, none, 0⟩,
    ⟨some 42, .ext (.tmp 37) 1, none, 0⟩,
    ⟨some 10, .alloc [.int .i64 0, .slice none 0 0], none, 0⟩,
    ⟨none, .store 2 (.tmp 10) (.tmp 41), none, 0⟩,
    ⟨some 11, .mv (.tmp 42), none, 0⟩]) <|
  .seq (.seq (.ops [
    ⟨some 43, .load true 2 (.tmp 10), none, 0⟩,
    ⟨some 44, .load true 2 (.tmp 6), none, 0⟩,
    ⟨some 45, .call k_laws_eqGraph [(.tmp 43), (.tmp 44)], none, 0⟩,
    ⟨some 46, .un .not (.tmp 45), none, 0⟩,
    ⟨some 47, .mv (.tmp 46), none, 0⟩,
    ⟨some 48, .mv (.tmp 11), some (47, false), 0⟩,
    ⟨some 49, .mv (.tmp 7), some (47, false), 0⟩,
    ⟨some 50, .bin .neq (.tmp 48) (.tmp 49), some (47, false), 0⟩,
    ⟨some 51, .pick (.tmp 47) (.const (.bool true)) (.tmp 50), none, 0⟩]) <|
  .cond (.tmp 51)
    (.seq (.ops [
      ⟨some 4, .mv (.const (.bool false)), none, 0⟩]) <|
    .keep [4] <|
    .ret)
    (.skip)) <|
  .seq (.seq (.dops [
    ⟨some 53, .load true 2 (.tmp 2), none, 0⟩,
    ⟨some 54, .call k_laws_toGraph [(.tmp 53)], none, 0⟩,
    ⟨some 52, .load true 2 (.tmp 8), none, 1⟩,
    ⟨some 55, .call k_laws_eqGraph [(.tmp 52), (.tmp 54)], none, 0⟩,
    ⟨some 56, .un .not (.tmp 55), none, 0⟩]) <|
  .cond (.tmp 56)
    (.seq (.ops [
      ⟨some 4, .mv (.const (.bool false)), none, 0⟩]) <|
    .keep [4] <|
    .ret)
    (.skip)) <|
  .seq (.seq (.ops [
    ⟨some 57, .mv (.tmp 9), none, 0⟩,
    ⟨some 58, .mv (.tmp 1), none, 0⟩,
    ⟨some 59, .call k_laws_toInt64S [(.tmp 58)], none, 0⟩,
    ⟨some 60, .call k_laws_eqInt64S [(.tmp 57), (.tmp 59)], none, 0⟩,
    ⟨some 61, .un .not (.tmp 60), none, 0⟩]) <|
  .cond (.tmp 61)
    (.seq (.ops [
      ⟨some 4, .mv (.const (.bool false)), none, 0⟩]) <|
    .keep [4] <|
    .ret)
    (.skip)) <|
  .seq (.ops [
    ⟨some 12, .mv (.const (.int .i64 1)), none, 0⟩]) <|
  .seq (.ops [
    ⟨some 62, .load true 2 (.tmp 8), none, 0⟩,
    ⟨some 63, .mv (.tmp 12), none, 0⟩,
    ⟨some 64, .call k_laws_markGraph [(.tmp 62), (.tmp 63)], none, 0⟩,
    ⟨some 12, .mv (.tmp 64), none, 0⟩]) <|
  .seq (.ops [
    ⟨some 65, .mv (.tmp 9), none, 0⟩,
    ⟨some 66, .mv (.tmp 12), none, 0⟩,
    ⟨some 67, .call k_laws_markInt64S [(.tmp 65), (.tmp 66)], none, 0⟩,
    ⟨some 12, .mv (.tmp 67), none, 0⟩]) <|
  .seq (.seq (.ops [
    ⟨some 68, .mv (.tmp 12), none, 0⟩,
    ⟨some 69, .bin .lss (.tmp 68) (.const (.int .i64 0)), none, 0⟩,
    ⟨some 70, .mv (.tmp 69), none, 0⟩,
    ⟨some 71, .load true 2 (.tmp 10), some (70, false), 0⟩,
    ⟨some 72, .load true 2 (.tmp 6), some (70, false), 0⟩,
    ⟨some 73, .call k_laws_eqGraph [(.tmp 71), (.tmp 72)], some (70, false), 0⟩,
    ⟨some 74, .un .not (.tmp 73), some (70, false), 0⟩,
    ⟨some 75, .pick (.tmp 70) (.const (.bool true)) (.tmp 74), none, 0⟩,
    ⟨some 76, .mv (.tmp 75), none, 0⟩,
    ⟨some 77, .mv (.tmp 11), some (76, false), 0⟩,
    ⟨some 78, .mv (.tmp 7), some (76, false), 0⟩,
    ⟨some 79, .bin .neq (.tmp 77) (.tmp 78), some (76, false), 0⟩,
    ⟨some 80, .pick (.tmp 76) (.const (.bool true)) (.tmp 79), none, 0⟩]) <|
  .cond (.tmp 80)
    (.seq (.ops [
      ⟨some 4, .mv (.const (.bool false)), none, 0⟩]) <|
    .keep [4] <|
    .ret)
    (.skip)) <|
  .seq (.ops [
    ⟨some 13, .mv (.const (.int .i64 1)), none, 0⟩]) <|
  .seq (.ops [
    ⟨some 81, .load true 2 (.tmp 10), none, 0⟩,
    ⟨some 82, .mv (.tmp 13), none, 0⟩,
    ⟨some 83, .call k_laws_markGraph [(.tmp 81), (.tmp 82)], none, 0⟩,
    ⟨some 13, .mv (.tmp 83), none, 0⟩]) <|
  .seq (.ops [
    ⟨some 14, .mv (.const (.int .i64 1)), none, 0⟩]) <|
  .seq (.ops [
    ⟨some 84, .load true 2 (.tmp 10), none, 0⟩,
    ⟨some 85, .mv (.tmp 14), none, 0⟩,
    ⟨some 86, .call k_laws_heldGraph [(.tmp 84), (.tmp 85)], none, 0⟩,
    ⟨some 14, .mv (.tmp 86), none, 0⟩]) <|
  .seq (.seq (.ops [
    ⟨some 87, .mv (.tmp 14), none, 0⟩,
    ⟨some 88, .bin .lss (.tmp 87) (.const (.int .i64 0)), none, 0⟩]) <|
  .cond (.tmp 88)
    (.seq (.ops [
      ⟨some 4, .mv (.const (.bool false)), none, 0⟩]) <|
    .keep [4] <|
    .ret)
    (.skip)) <|
  .seq (.seq (.ops [
    ⟨some 89, .mv (.tmp 14), none, 0⟩,
    ⟨some 90, .mv (.tmp 13), none, 0⟩,
    ⟨some 91, .bin .neq (.tmp 89) (.tmp 90), none, 0⟩]) <|
  .cond (.tmp 91)
    (.seq (.ops [
      ⟨some 4, .mv (.const (.bool false)), none, 0⟩]) <|
    .keep [4] <|
    .ret)
    (.skip)) <|
  .seq (.ops [
    ⟨some 93, .load true 2 (.tmp 2), none, 0⟩,
    ⟨some 94, .call k_laws_toGraph [(.tmp 93)], none, 0⟩,
    ⟨some 95, .mv (.tmp 1), none, 0⟩,
    ⟨some 96, .call k_laws_toInt64S [(.tmp 95)], none, 0⟩,
    ⟨some 97, .call k_impl_PartOn [(.tmp 94), (.tmp 96)], none, 0⟩,
    ⟨some 92, .mv (.tmp 97), none, 0⟩,
    ⟨some 98, .ext (.tmp 92) 0, none, 0⟩,
    ⟨some 99, .ext (.tmp 92) 1, none, 0⟩,
    ⟨some 15, .alloc [.int .i64 0, .slice none 0 0], none, 0⟩,
    ⟨none, .store 2 (.tmp 15) (.tmp 98), none, 0⟩,
    ⟨some 16, .mv (.tmp 99), none, 0⟩]) <|
  .seq (.seq (.ops [
    ⟨some 100, .load true 2 (.tmp 15), none, 0⟩,
    ⟨some 101, .load true 2 (.tmp 6), none, 0⟩,
    ⟨some 102, .call k_laws_eqGraph [(.tmp 100), (.tmp 101)], none, 0⟩,
    ⟨some 103, .un .not (.tmp 102), none, 0⟩,
    ⟨some 104, .mv (.tmp 103), none, 0⟩,
    ⟨some 105, .mv (.tmp 16), some (104, false), 0⟩,
    ⟨some 106, .mv (.tmp 7), some (104, false), 0⟩,
    ⟨some 107, .bin .neq (.tmp 105) (.tmp 106), some (104, false), 0⟩,
    ⟨some 108, .pick (.tmp 104) (.const (.bool true)) (.tmp 107), none, 0⟩]) <|
  .cond (.tmp 108)
    (.seq (.ops [
      ⟨some 4, .mv (.const (.bool false)), none, 0⟩]) <|
    .keep [4] <|
    .ret)
    (.skip)) <|
  .seq (.ops [
    ⟨some 14, .mv (.const (.int .i64 1)), none, 0⟩]) <|
  .seq (.ops [
    ⟨some 109, .load true 2 (.tmp 10), none, 0⟩,
    ⟨some 110, .mv (.tmp 14), none, 0⟩,
    ⟨some 111, .call k_laws_heldGraph [(.tmp 109), (.tmp 110)], none, 0⟩,
    ⟨some 14, .mv (.tmp 111), none, 0⟩]) <|
  .seq (.seq (.ops [
    ⟨some 112, .mv (.tmp 14), none, 0⟩,
    ⟨some 113, .bin .lss (.tmp 112) (.const (.int .i64 0)), none, 0⟩]) <|
  .cond (.tmp 113)
    (.seq (.ops [
      ⟨some 4, .mv (.const (.bool false)), none, 0⟩]) <|
    .keep [4] <|
    .ret)
    (.skip)) <|
  .seq (.seq (.ops [
    ⟨some 114, .mv (.tmp 14), none, 0⟩,
    ⟨some 115, .mv (.tmp 13), none, 0⟩,
    ⟨some 116, .bin .neq (.tmp 114) (.tmp 115), none, 0⟩]) <|
  .cond (.tmp 116)
    (.seq (.ops [
      ⟨some 4, .mv (.const (.bool false)), none, 0⟩]) <|
    .keep [4] <|
    .ret)
    (.skip)) <|
  .seq (.ops [
    ⟨some 4, .mv (.const (.bool true)), none, 0⟩]) <|
  .keep [4] <|
  .ret⟩

theorem e_laws_FnExactPartOn : EntOK Try.prog (compD Try.prog) k_laws_FnExactPartOn i_laws_FnExactPartOn.vf :=
  ⟨Try.f6, Try.f6.body.getD .skip, Try.func6, by kernel_rfl, by kernel_rfl, by kernel_rfl, by kernel_rfl, by kernel_rfl⟩

/-- loop.example/g01331/laws.FnExactPutEdge -/
def i_laws_FnExactPutEdge : FF := ⟨106, [.tmp 6],
  .seq (.ops [
    ⟨some 3, .box 2 (.tmp 0), none, 0⟩,
    ⟨some 6, .mv (.const (.bool false)), none, 0⟩]) <|
  .seq (.ops [
    ⟨some 7, .mv (.const (.int .i64 1048576)), none, 0⟩]) <|
  .seq (.ops [
    ⟨some 18, .load true 2 (.tmp 3), none, 0⟩,
    ⟨some 19, .mv (.tmp 7), none, 0⟩,
    ⟨some 20, .call k_laws_szGraph [(.tmp 18), (.tmp 19)], none, 0⟩,
    ⟨some 7, .mv (.tmp 20), none, 0⟩]) <|
  .seq (.seq (.ops [
    ⟨some 21, .mv (.tmp 7), none, 0⟩,
    ⟨some 22, .bin .lss (.tmp 21) (.const (.int .i64 0)), none, 0⟩]) <|
  .cond (.tmp 22)
    (.seq (.ops [
      ⟨some 6, .mv (.const (.bool true)), none, 0⟩]) <|
    .keep [6] <|
    .ret)
    (.skip)) <|
  .seq (.ops [
    ⟨some 24, .load true 2 (.tmp 3), none, 0⟩,
    ⟨some 25, .call k_laws_toGraph [(.tmp 24)], none, 0⟩,
    ⟨some 26, .mv (.tmp 1), none, 0⟩,
    ⟨some 27, .mv (.tmp 2), none, 0⟩,
    ⟨some 28, .call k_spec_PutEdge [(.tmp 25), (.tmp 26), (.tmp 27)], none, 0⟩,
    ⟨some 23, .mv (.tmp 28), none, 0⟩,
    ⟨some 29, .ext (.tmp 23) 0, none, 0⟩,
    ⟨some 30, .ext (.tmp 23) 1, none, 0⟩,
    ⟨some 8, .alloc [.int .i64 0, .slice none 0 0], none, 0⟩,
    ⟨none, .store 2 (.tmp 8) (.tmp 29), none, 0⟩,
    ⟨some 9, .mv (.tmp 30), none, 0⟩]) <|
  .seq (.ops [
    ⟨some 31, .load true 2 (.tmp 3), none, 0⟩,
    ⟨some 32, .call k_laws_toGraph [(.tmp 31)], none, 0⟩,
    ⟨some 10, .alloc [.int .i64 0, .slice none 0 0], none, 0⟩,
    ⟨none, .store 2 (.tmp 10) (.tmp 32), none, 0⟩]) <|
  .seq (.ops [
    ⟨some 34, .load true 2 (.tmp 10), none, 0⟩,
    ⟨some 35, .mv (.tmp 1), none, 0⟩,
    ⟨some 36, .mv (.tmp 2), none, 0⟩,
    ⟨some 37, .call k_impl_PutEdge [(.tmp 34), (.tmp 35), (.tmp 36)], none, 0⟩,
    ⟨some 33, .mv (.tmp 37), none, 0⟩,
    ⟨some 38, .ext (.tmp 33) 0, none, 0⟩,
    ⟨some 39, .ext (.tmp 33) 1, none, 0⟩,
    ⟨some 11, .alloc [.int .i64 0, .slice none 0 0], none, 0⟩,
    ⟨none, .store 2 (.tmp 11) (.tmp 38), none, 0⟩,
    ⟨some 12, .mv (.tmp 39), none, 0⟩]) <|
  .seq (.seq (.ops [
    ⟨some 40, .load true 2 (.tmp 11), none, 0⟩,
    ⟨some 41, .load true 2 (.tmp 8), none, 0⟩,
    ⟨some 42, .call k_laws_eqGraph [(.tmp 40), (.tmp 41)], none, 0⟩,
    ⟨some 43, .un .not (.tmp 42), none, 0⟩,
    ⟨some 44, .mv (.tmp 43), none, 0⟩,
    ⟨some 45, .mv (.tmp 12), some (44, false), 0⟩,
    ⟨some 46, .mv (.tmp 9), some (44, false), 0⟩,
    ⟨some 47, .bin .neq (.tmp 45) (.tmp 46), some (44, false), 0⟩,
    ⟨some 48, .pick (.tmp 44) (.const (.bool true)) (.tmp 47), none, 0⟩]) <|
  .cond (.tmp 48)
    (.seq (.ops [
      ⟨some 6, .mv (.const (.bool false)), none, 0⟩]) <|
    .keep [6] <|
    .ret)
    (.skip)) <|
  .seq (.seq (.dops [
    ⟨some 50, .load true 2 (.tmp 3), none, 0⟩,
    ⟨some 51, .call k_laws_toGraph [(.tmp 50)], none, 0⟩,
    ⟨some 49, .load true 2 (.tmp 10), none, 1⟩,
    ⟨some 52, .call k_laws_eqGraph [(.tmp 49), (.tmp 51)], none, 0⟩,
    ⟨some 53, .un .not (.tmp 52), none, 0⟩]) <|
  .cond (.tmp 53)
    (.seq (.ops [
      ⟨some 6, .mv (.const (.bool false)), none, 0⟩]) <|
    .keep [6] <|
    .ret)
    (.skip)) <|
  .seq (.ops [
    ⟨some 13, .mv (.const (.int .i64 1)), none, 0⟩]) <|
  .seq (.ops [
    ⟨some 54, .load true 2 (.tmp 10), none, 0⟩,
    ⟨some 55, .mv (.tmp 13), none, 0⟩,
    ⟨some 56, .call k_laws_markGraph [(.tmp 54), (.tmp 55)], none, 0⟩,
    ⟨some 13, .mv (.tmp 56), none, 0⟩]) <|
  .seq (.seq (.ops [
    ⟨some 57, .mv (.tmp 13), none, 0⟩,
    ⟨some 58, .bin .lss (.tmp 57) (.const (.int .i64 0)), none, 0⟩,
    ⟨some 59, .mv (.tmp 58), none, 0⟩,
    ⟨some 60, .load true 2 (.tmp 11), some (59, false), 0⟩,
    ⟨some 61, .load true 2 (.tmp 8), some (59, false), 0⟩,
    ⟨some 62, .call k_laws_eqGraph [(.tmp 60), (.tmp 61)], some (59, false), 0⟩,
    ⟨some 63, .un .not (.tmp 62), some (59, false), 0⟩,
    ⟨some 64, .pick (.tmp 59) (.const (.bool true)) (.tmp 63), none, 0⟩,
    ⟨some 65, .mv (.tmp 64), none, 0⟩,
    ⟨some 66, .mv (.tmp 12), some (65, false), 0⟩,
    ⟨some 67, .mv (.tmp 9), some (65, false), 0⟩,
    ⟨some 68, .bin .neq (.tmp 66) (.tmp 67), some (65, false), 0⟩,
    ⟨some 69, .pick (.tmp 65) (.const (.bool true)) (.tmp 68), none, 0⟩]) <|
  .cond (.tmp 69)
    (.seq (.ops [
      ⟨some 6, .mv (.const (.bool false)), none, 0⟩]) <|
    .keep [6] <|
    .ret)
    (.skip)) <|
  .seq (.ops [
    ⟨some 14, .mv (.const (.int .i64 1)), none, 0⟩]) <|
  .seq (.ops [
    ⟨some 70, .load true 2 (.tmp 11), none, 0⟩,
    ⟨some 71, .mv (.tmp 14), none, 0⟩,
    ⟨some 72, .call k_laws_markGraph [(.tmp 70), (.tmp 71)], none, 0⟩,
    ⟨some 14, .mv (.tmp 72), none, 0⟩]) <|
  .seq (.ops [
    ⟨some 15, .mv (.const (.int .i64 1)), none, 0⟩]) <|
  .seq (.ops [
    ⟨some 73, .load true 2 (.tmp 11), none, 0⟩,
    ⟨some 74, .mv (.tmp 15), none, 0⟩,
    ⟨some 75, .call k_laws_heldGraph [(.tmp 73), (.tmp 74)], none, 0⟩,
    ⟨some 15, .mv (.tmp 75), none, 0⟩]) <|
  .seq (.seq (.ops [
    ⟨some 76, .mv (.tmp 15), none, 0⟩,
    ⟨some 77, .bin .lss (.tmp 76) (.const (.int .i64 0)), none, 0⟩]) <|
  .cond (.tmp 77)
    (.seq (.ops [
      ⟨some 6, .mv (.const (.bool false)), none, 0⟩]) <|
    .keep [6] <|
    .ret)
    (.skip)) <|
  .seq (.seq (.ops [
    ⟨some 78, .mv (.tmp 15), none, 0⟩,
    ⟨some 79, .mv (.tmp 14), none, 0⟩,
    ⟨some 80, .bin .neq (.tmp 78) (.tmp 79), none, 0⟩]) <|
  .cond (.tmp 80)
    (.seq (.ops [
      ⟨some 6, .mv (.const (.bool false)), none, 0⟩]) <|
    .keep [6] <|
    .ret)
    (.skip)) <|
  .seq (.ops [
    ⟨some 82, .load true 2 (.tmp 3), none, 0⟩,
    ⟨some 83, .call k_laws_toGraph [(.tmp 82)], none, 0⟩,
    ⟨some 84, .mv (.tmp 1), none, 0⟩,
    ⟨some 85, .mv (.tmp 2), none, 0⟩,
    ⟨some 86, .call k_impl_PutEdge [(.tmp 83), (.tmp 84), (.tmp 85)], none, 0⟩,
    ⟨some 81, .mv (.tmp 86), none, 0⟩,
    ⟨some 87, .ext (.tmp 81) 0, none, 0⟩,
    ⟨some 88, .ext (.tmp 81) 1, none, 0⟩,
    ⟨some 16, .alloc [.int .i64 0, .slice none 0 0], none, 0⟩,
    ⟨none, .store 2 (.tmp 16) (.tmp 87), none, 0⟩,
    ⟨some 17, .mv (.tmp 88), none, 0⟩]) <|
  .seq (.seq (.ops [
    ⟨some 89, .load true 2 (.tmp 16), none, 0⟩,
    ⟨some 90, .load true 2 (.tmp 8), none, 0⟩,
    ⟨some 91, .call k_laws_eqGraph [(.tmp 89), (.tmp 90)], none, 0⟩,
    ⟨some 92, .un .not (.tmp 91), none, 0⟩,
    ⟨some 93, .mv (.tmp 92), none, 0⟩,
    ⟨some 94, .mv (.tmp 17), some (93, false), 0⟩,
    ⟨some 95, .mv (.tmp 9), some (93, false), 0⟩,
    ⟨some 96, .bin .neq (.tmp 94) (.tmp 95), some (93, false), 0⟩,
    ⟨some 97, .pick (.tmp 93) (.const (.bool true)) (.tmp 96), none, 0⟩]) <|
  .cond (.tmp 97)
    (.seq (.ops [
      ⟨some 6, .mv (.const (.bool false)), none, 0⟩]) <|
    .keep [6] <|
    .ret)
    (.skip)) <|
  .seq (.ops [
    ⟨some 15, .mv (.const (.int .i64 1)), none, 0⟩]) <|
  .seq (.ops [
    ⟨some 98, .load true 2 (.tmp 11), none, 0⟩,
    ⟨some 99, .mv (.tmp 15), none, 0⟩,
    ⟨some 100, .call k_laws_heldGraph [(.tmp 98), (.tmp 99)], none, 0⟩,
    ⟨some 15, .mv (.tmp 100), none, 0⟩]) <|
  .seq (.seq (.ops [
    ⟨some 101, .mv (.tmp 15), none, 0⟩,
    ⟨some 102, .bin .lss (.tmp 101) (.const (.int .i64 0)), none, 0⟩]) <|
  .cond (.tmp 102)
    (.seq (.ops [
      ⟨some 6, .mv (.const (.bool false)), none, 0⟩]) <|
    .keep [6] <|
    .ret)
    (.skip)) <|
  .seq (.seq (.ops [
    ⟨some 103, .mv (.tmp 15), none, 0⟩,
    ⟨some 104, .mv (.tmp 14), none, 0⟩,
    ⟨some 105, .bin .neq (.tmp 103) (.tmp 104), none, 0⟩]) <|
  .cond (.tmp 105)
    (.seq (.ops [
      ⟨some 6, .mv (.const (.bool false)), none, 0⟩]) <|
    .keep [6] <|
    .ret)
    (.skip)) <|
  .seq (.ops [
    ⟨some 6, .mv (.const (.bool true)), none, 0⟩]) <|
  .keep [6] <|
  .ret⟩

theorem e_laws_FnExactPutEdge : EntOK Try.prog (compD Try.prog) k_laws_FnExactPutEdge i_laws_FnExactPutEdge.vf :=
  ⟨Try.f7, Try.f7.body.getD .skip, Try.func7, by kernel_rfl, by kernel_rfl, by kernel_rfl, by kernel_rfl, by kernel_rfl⟩

/-- loop.example/g01331/laws.FnExactTakeEdge -/
def i_laws_FnExactTakeEdge : FF := ⟨106, [.tmp 6],
  .seq (.ops [
    ⟨some 3, .box 2 (.tmp 0), none, 0⟩,
    ⟨some 6, .mv (.const (.bool false)), none, 0⟩]) <|
  .seq (.ops [
    ⟨some 7, .mv (.const (.int .i64 1048576)), none, 0⟩]) <|
  .seq (.ops [
    ⟨some 18, .load true 2 (.tmp 3), none, 0⟩,
    ⟨some 19, .mv (.tmp 7), none, 0⟩,
    ⟨some 20, .call k_laws_szGraph [(.tmp 18), (.tmp 19)], none, 0⟩,
    ⟨some 7, .mv (.tmp 20), none, 0⟩]) <|
  .seq (.seq (.ops [
    ⟨some 21, .mv (.tmp 7), none, 0⟩,
    ⟨some 22, .bin .lss (.tmp 21) (.const (.int .i64 0)), none, 0⟩]) <|
  .cond (.tmp 22)
    (.seq (.ops [
      ⟨some 6, .mv (.const (.bool true)), none, 0⟩]) <|
    .keep [6] <|
    .ret)
    (.skip)) <|
  .seq (.ops [
    ⟨some 24, .load true 2 (.tmp 3), none, 0⟩,
    ⟨some 25, .call k_laws_toGraph [(.tmp 24)], none, 0⟩,
    ⟨some 26, .mv (.tmp 1), none, 0⟩,
    ⟨some 27, .mv (.tmp 2), none, 0⟩,
    ⟨some 28, .call k_spec_TakeEdge [(.tmp 25), (.tmp 26), (.tmp 27)], none, 0⟩,
    ⟨some 23, .mv (.tmp 28), none, 0⟩,
    ⟨some 29, .ext (.tmp 23) 0, none, 0⟩,
    ⟨some 30, .ext (.tmp 23) 1, none, 0⟩,
    ⟨some 8, .alloc [.int .i64 0, .slice none 0 0], none, 0⟩,
    ⟨none, .store 2 (.tmp 8) (.tmp 29), none, 0⟩,
    ⟨some 9, .mv (.tmp 30), none, 0⟩]) <|
  .seq (.ops [
    ⟨some 31, .load true 2 (.tmp 3), none, 0⟩,
    ⟨some 32, .call k_laws_toGraph [(.tmp 31)], none, 0⟩,
    ⟨some 10, .alloc [.int .i64 0, .slice none 0 0], none, 0⟩,
    ⟨none, .store 2 (.tmp 10) (.tmp 32), none, 0⟩]) <|
  .seq (.ops [
    ⟨some 34, .load true 2 (.tmp 10), none, 0⟩,
    ⟨some 35, .mv (.tmp 1), none, 0⟩,
    ⟨some 36, .mv (.tmp 2), none, 0⟩,
    ⟨some 37, .call k_impl_TakeEdge [(.tmp 34), (.tmp 35), (.tmp 36)], none, 0⟩,
    ⟨some 33, .mv (.tmp 37), none, 0⟩,
    ⟨some 38, .ext (.tmp 33) 0, none, 0⟩,
    ⟨some 39, .ext (.tmp 33) 1, none, 0⟩,
    ⟨some 11, .alloc [.int .i64 0, .slice none 0 0], none, 0⟩,
    ⟨none, .store 2 (.tmp 11) (.tmp 38), none, 0⟩,
    ⟨some 12, .mv (.tmp 39), none, 0⟩]) <|
  .seq (.seq (.ops [
    ⟨some 40, .load true 2 (.tmp 11), none, 0⟩,
    ⟨some 41, .load true 2 (.tmp 8), none, 0⟩,
    ⟨some 42, .call k_laws_eqGraph [(.tmp 40), (.tmp 41)], none, 0⟩,
    ⟨some 43, .un .not (.tmp 42), none, 0⟩,
    ⟨some 44, .mv (.tmp 43), none, 0⟩,
    ⟨some 45, .mv (.tmp 12), some (44, false), 0⟩,
    ⟨some 46, .mv (.tmp 9), some (44, false), 0⟩,
    ⟨some 47, .bin .neq (.tmp 45) (.tmp 46), some (44, false), 0⟩,
    ⟨some 48, .pick (.tmp 44) (.const (.bool true)) (.tmp 47), none, 0⟩]) <|
  .cond (.tmp 48)
    (.seq (.ops [
      ⟨some 6, .mv (.const (.bool false)), none, 0⟩]) <|
    .keep [6] <|
    .ret)
    (.skip)) <|
  .seq (.seq (.dops [
    ⟨some 50, .load true 2 (.tmp 3), none, 0⟩,
    ⟨some 51, .call k_laws_toGraph [(.tmp 50)], none, 0⟩,
    ⟨some 49, .load true 2 (.tmp 10), none, 1⟩,
    ⟨some 52, .call k_laws_eqGraph [(.tmp 49), (.tmp 51)], none, 0⟩,
    ⟨some 53, .un .not (.tmp 52), none, 0⟩]) <|
  .cond (.tmp 53)
    (.seq (.ops [
      ⟨some 6, .mv (.const (.bool false)), none, 0⟩]) <|
    .keep [6] <|
    .ret)
    (.skip)) <|
  .seq (.ops [
    ⟨some 13, .mv (.const (.int .i64 1)), none, 0⟩]) <|
  .seq (.ops [
    ⟨some 54, .load true 2 (.tmp 10), none, 0⟩,
    ⟨some 55, .mv (.tmp 13), none, 0⟩,
    ⟨some 56, .call k_laws_markGraph [(.tmp 54), (.tmp 55)], none, 0⟩,
    ⟨some 13, .mv (.tmp 56), none, 0⟩]) <|
  .seq (.seq (.ops [
    ⟨some 57, .mv (.tmp 13), none, 0⟩,
    ⟨some 58, .bin .lss (.tmp 57) (.const (.int .i64 0)), none, 0⟩,
    ⟨some 59, .mv (.tmp 58), none, 0⟩,
    ⟨some 60, .load true 2 (.tmp 11), some (59, false), 0⟩,
    ⟨some 61, .load true 2 (.tmp 8), some (59, false), 0⟩,
    ⟨some 62, .call k_laws_eqGraph [(.tmp 60), (.tmp 61)], some (59, false), 0⟩,
    ⟨some 63, .un .not (.tmp 62), some (59, false), 0⟩,
    ⟨some 64, .pick (.tmp 59) (.const (.bool true)) (.tmp 63), none, 0⟩,
    ⟨some 65, .mv (.tmp 64), none, 0⟩,
    ⟨some 66, .mv (.tmp 12), some (65, false), 0⟩,
    ⟨some 67, .mv (.tmp 9), some (65, false), 0⟩,
    ⟨some 68, .bin .neq (.tmp 66) (.tmp 67), some (65, false), 0⟩,
    ⟨some 69, .pick (.tmp 65) (.const (.bool true)) (.tmp 68), none, 0⟩]) <|
  .cond (.tmp 69)
    (.seq (.ops [
      ⟨some 6, .mv (.const (.bool false)), none, 0⟩]) <|
    .keep [6] <|
    .ret)
    (.skip)) <|
  .seq (.ops [
    ⟨some 14, .mv (.const (.int .i64 1)), none, 0⟩]) <|
  .seq (.ops [
    ⟨some 70, .load true 2 (.tmp 11), none, 0⟩,
    ⟨some 71, .mv (.tmp 14), none, 0⟩,
    ⟨some 72, .call k_laws_markGraph [(.tmp 70), (.tmp 71)], none, 0⟩,
    ⟨some 14, .mv (.tmp 72), none, 0⟩]) <|
  .seq (.ops [
    ⟨some 15, .mv (.const (.int .i64 1)), none, 0⟩]) <|
  .seq (.ops [
    ⟨some 73, .load true 2 (.tmp 11), none, 0⟩,
    ⟨some 74, .mv (.tmp 15), none, 0⟩,
    ⟨some 75, .call k_laws_heldGraph [(.tmp 73), (.tmp 74)], none, 0⟩,
    ⟨some 15, .mv (.tmp 75), none, 0⟩]) <|
  .seq (.seq (.ops [
    ⟨some 76, .mv (.tmp 15), none, 0⟩,
    ⟨some 77, .bin .lss (.tmp 76) (.const (.int .i64 0)), none, 0⟩]) <|
  .cond (.tmp 77)
    (.seq (.ops [
      ⟨some 6, .mv (.const (.bool false)), none, 0⟩]) <|
    .keep [6] <|
    .ret)
    (.skip)) <|
  .seq (.seq (.ops [
    ⟨some 78, .mv (.tmp 15), none, 0⟩,
    ⟨some 79, .mv (.tmp 14), none, 0⟩,
    ⟨some 80, .bin .neq (.tmp 78) (.tmp 79), none, 0⟩]) <|
  .cond (.tmp 80)
    (.seq (.ops [
      ⟨some 6, .mv (.const (.bool false)), none, 0⟩]) <|
    .keep [6] <|
    .ret)
    (.skip)) <|
  .seq (.ops [
    ⟨some 82, .load true 2 (.tmp 3), none, 0⟩,
    ⟨some 83, .call k_laws_toGraph [(.tmp 82)], none, 0⟩,
    ⟨some 84, .mv (.tmp 1), none, 0⟩,
    ⟨some 85, .mv (.tmp 2), none, 0⟩,
    ⟨some 86, .call k_impl_TakeEdge [(.tmp 83), (.tmp 84), (.tmp 85)], none, 0⟩,
    ⟨some 81, .mv (.tmp 86), none, 0⟩,
    ⟨some 87, .ext (.tmp 81) 0, none, 0⟩,
    ⟨some 88, .ext (.tmp 81) 1, none, 0⟩,
    ⟨some 16, .alloc [.int .i64 0, .slice none 0 0], none, 0⟩,
    ⟨none, .store 2 (.tmp 16) (.tmp 87), none, 0⟩,
    ⟨some 17, .mv (.tmp 88), none, 0⟩]) <|
  .seq (.seq (.ops [
    ⟨some 89, .load true 2 (.tmp 16), none, 0⟩,
    ⟨some 90, .load true 2 (.tmp 8), none, 0⟩,
    ⟨some 91, .call k_laws_eqGraph [(.tmp 89), (.tmp 90)], none, 0⟩,
    ⟨some 92, .un .not (.tmp 91), none, 0⟩,
    ⟨some 93, .mv (.tmp 92), none, 0⟩,
    ⟨some 94, .mv (.tmp 17), some (93, false), 0⟩,
    ⟨some 95, .mv (.tmp 9), some (93, false), 0⟩,
    ⟨some 96, .bin .neq (.tmp 94) (.tmp 95), some (93, false), 0⟩,
    ⟨some 97, .pick (.tmp 93) (.const (.bool true)) (.tmp 96), none, 0⟩]) <|
  .cond (.tmp 97)
    (.seq (.ops [
      ⟨some 6, .mv (.const (.bool false)), none, 0⟩]) <|
    .keep [6] <|
    .ret)
    (.skip)) <|
  .seq (.ops [
    ⟨some 15, .mv (.const (.int .i64 1)), none, 0⟩]) <|
  .seq (.ops [
    ⟨some 98, .load true 2 (.tmp 11), none, 0⟩,
    ⟨some 99, .mv (.tmp 15), none, 0⟩,
    ⟨some 100, .call k_laws_heldGraph [(.tmp 98), (.tmp 99)], none, 0⟩,
    ⟨some 15, .mv (.tmp 100), none, 0⟩]) <|
  .seq (.seq (.ops [
    ⟨some 101, .mv (.tmp 15), none, 0⟩,
    ⟨some 102, .bin .lss (.tmp 101) (.const (.int .i64 0)), none, 0⟩]) <|
  .cond (.tmp 102)
    (.seq (.ops [
      ⟨some 6, .mv (.const (.bool false)), none, 0⟩]) <|
    .keep [6] <|
    .ret)
    (.skip)) <|
  .seq (.seq (.ops [
    ⟨some 103, .mv (.tmp 15), none, 0⟩,
    ⟨some 104, .mv (.tmp 14), none, 0⟩,
    ⟨some 105, .bin .neq (.tmp 103) (.tmp 104), none, 0⟩]) <|
  .cond (.tmp 105)
    (.seq (.ops [
      ⟨some 6, .mv (.const (.bool false)), none, 0⟩]) <|
    .keep [6] <|
    .ret)
    (.skip)) <|
  .seq (.ops [
    ⟨some 6, .mv (.const (.bool true)), none, 0⟩]) <|
  .keep [6] <|
  .ret⟩

theorem e_laws_FnExactTakeEdge : EntOK Try.prog (compD Try.prog) k_laws_FnExactTakeEdge i_laws_FnExactTakeEdge.vf :=
  ⟨Try.f8, Try.f8.body.getD .skip, Try.func8, by kernel_rfl, by kernel_rfl, by kernel_rfl, by kernel_rfl, by kernel_rfl⟩

/-- loop.example/g01331/laws.FnExactDirectProduct -/
def i_laws_FnExactDirectProduct : FF := ⟨119, [.tmp 4],
  .seq (.ops [
    ⟨some 2, .box 2 (.tmp 0), none, 0⟩,
    ⟨some 3, .box 2 (.tmp 1), none, 0⟩,
    ⟨some 4, .mv (.const (.bool false)), none, 0⟩]) <|
  .seq (.ops [
    ⟨some 5, .mv (.const (.int .i64 1048576)), none, 0⟩]) <|
  .seq (.ops [
    ⟨some 17, .load true 2 (.tmp 2), none, 0⟩,
    ⟨some 18, .mv (.tmp 5), none, 0⟩,
    ⟨some 19, .call k_laws_szGraph [(.tmp 17), (.tmp 18)], none, 0⟩,
    ⟨some 5, .mv (.tmp 19), none, 0⟩]) <|
  .seq (.seq (.ops [
    ⟨some 20, .mv (.tmp 5), none, 0⟩,
    ⟨some 21, .bin .lss (.tmp 20) (.const (.int .i64 0)), none, 0⟩]) <|
  .cond (.tmp 21)
    (.seq (.ops [
      ⟨some 4, .mv (.const (.bool true)), none, 0⟩]) <|
    .keep [4] <|
    .ret)
    (.skip)) <|
  .seq (.ops [
    ⟨some 22, .load true 2 (.tmp 3), none, 0⟩,
    ⟨some 23, .mv (.tmp 5), none, 0⟩,
    ⟨some 24, .call k_laws_szGraph [(.tmp 22), (.tmp 23)], none, 0⟩,
    ⟨some 5, .mv (.tmp 24), none, 0⟩]) <|
  .seq (.seq (.ops [
    ⟨some 25, .mv (.tmp 5), none, 0⟩,
    ⟨some 26, .bin .lss (.tmp 25) (.const (.int .i64 0)), none, 0⟩]) <|
  .cond (.tmp 26)
    (.seq (.ops [
      ⟨some 4, .mv (.const (.bool true)), none, 0⟩]) <|
    .keep [4] <|
    .ret)
    (.skip)) <|
  .seq (.dops [
    ⟨some 28, .load true 2 (.tmp 2), none, 0⟩,
    ⟨some 29, .call k_laws_toGraph [(.tmp 28)], none, 0⟩,
    ⟨some 30, .load true 2 (.tmp 3), none, 1⟩,
    ⟨some 31, .call k_laws_toGraph [(.tmp 30)], none, 0⟩,
    ⟨some 32, .call k_spec_DirectProduct [(.tmp 29), (.tmp 31)], none, 0⟩,
    ⟨some 27, .mv (.tmp 32), none, 0⟩,
    ⟨some 33, .ext (.tmp 27) 0, none, 0⟩,
    ⟨some 6, .alloc [.int .i64 0, .slice none 0 0], none, 3⟩,
    ⟨none, .store 2 (.tmp 6) (.tmp 33), none, 1⟩,
    ⟨some 34, .ext (.tmp 27) 1, none, 2⟩,
    ⟨some 7, .mv (.tmp 34), none, 1⟩]) <|
  .seq (.ops [
    ⟨some 35, .load true 2 (.tmp 2), none, 0⟩,
    ⟨some 36, .call k_laws_toGraph [(.tmp 35)], none, 0⟩,
    ⟨some 8, .alloc [.int .i64 0, .slice none 0 0], none, 0⟩,
    ⟨none, .store 2 (.tmp 8) (.tmp 36), none, 0⟩]) <|
  .seq (.ops [
    ⟨some 37, .load true 2 (.tmp 3), none, 0⟩,
    ⟨some 38, .call k_laws_toGraph [(.tmp 37)], none, 0⟩,
    ⟨some 9, .alloc [.int .i64 0, .slice none 0 0], none, 0⟩,
    ⟨none, .store 2 (.tmp 9) (.tmp 38), none, 0⟩]) <|
  .seq (.ops [
    ⟨some 40, .load true 2 (.tmp 8), none, 0⟩,
    ⟨some 41, .load true 2 (.tmp 9), none, 0⟩,
    ⟨some 42, .call k_impl_DirectProduct [(.tmp 40), (.tmp 41)], none, 0⟩,
    ⟨some 39, .mv (.tmp 42), none, 0⟩,
    ⟨some 43, .ext (.tmp 39) 0, none, 0⟩,
    ⟨some 44, .ext (.tmp 39) 1, none, 0⟩,
    ⟨some 10, .alloc [.int .i64 0, .slice none 0 0], none, 0⟩,
    ⟨none, .store 2 (.tmp 10) (.tmp 43), none, 0⟩,
    ⟨some 11, .mv (.tmp 44), none, 0⟩]) <|
  .seq (.seq (.ops [
    ⟨some 45, .load true 2 (.tmp 10), none, 0⟩,
    ⟨some 46, .load true 2 (.tmp 6), none, 0⟩,
    ⟨some 47, .call k_laws_eqGraph [(.tmp 45), (.tmp 46)], none, 0⟩,
    ⟨some 48, .un .not (.tmp 47), none, 0⟩,
    ⟨some 49, .mv (.tmp 48), none, 0⟩,
    ⟨some 50, .mv (.tmp 11), some (49, false), 0⟩,
    ⟨some 51, .mv (.tmp 7), some (49, false), 0⟩,
    ⟨some 52, .bin .neq (.tmp 50) (.tmp 51), some (49, false), 0⟩,
    ⟨some 53, .pick (.tmp 49) (.const (.bool true)) (.tmp 52), none, 0⟩]) <|
  .cond (.tmp 53)
    (.seq (.ops [
      ⟨some 4, .mv (.const (.bool false)), none, 0⟩]) <|
    .keep [4] <|
    .ret)
    (.skip)) <|
  .seq (.seq (.dops [
    ⟨some 55, .load true 2 (.tmp 2), none, 0⟩,
    ⟨some 56, .call k_laws_toGraph [(.tmp 55)], none, 0⟩,
    ⟨some 54, .load true 2 (.tmp 8), none, 1⟩,
    ⟨some 57, .call k_laws_eqGraph [(.tmp 54), (.tmp 56)], none, 0⟩,
    ⟨some 58, .un .not (.tmp 57), none, 0⟩]) <|
  .cond (.tmp 58)
    (.seq (.ops [
      ⟨some 4, .mv (.const (.bool false)), none, 0⟩]) <|
    .keep [4] <|
    .ret)
    (.skip)) <|
  .seq (.seq (.dops [
    ⟨some 60, .load true 2 (.tmp 3), none, 0⟩,
    ⟨some 61, .call k_laws_toGraph [(.tmp 60)], none, 0⟩,
    ⟨some 59, .load true 2 (.tmp 9), none, 1⟩,
    ⟨some 62, .call k_laws_eqGraph [(.tmp 59), (.tmp 61)], none, 0⟩,
    ⟨some 63, .un .not (.tmp 62), none, 0⟩]) <|
  .cond (.tmp 63)
    (.seq (.ops [
      ⟨some 4, .mv (.const (.bool false)), none, 0⟩]) <|
    .keep [4] <|
    .ret)
    (.skip)) <|
  .seq (.ops [
    ⟨some 12, .mv (.const (.int .i64 1)), none, 0⟩]) <|
  .seq (.ops [
    ⟨some 64, .load true 2 (.tmp 8), none, 0⟩,
    ⟨some 65, .mv (.tmp 12), none, 0⟩,
    ⟨some 66, .call k_laws_markGraph [(.tmp 64), (.tmp 65)], none, 0⟩,
    ⟨some 12, .mv (.tmp 66), none, 0⟩]) <|
  .seq (.ops [
    ⟨some 67, .load true 2 (.tmp 9), none, 0⟩,
    ⟨some 68, .mv (.tmp 12), none, 0⟩,
    ⟨some 69, .call k_laws_markGraph [(.tmp 67), (.tmp 68)], none, 0⟩,
    ⟨some 12, .mv (.tmp 69), none, 0⟩]) <|
  .seq (.seq (.ops [
    ⟨some 70, .mv (.tmp 12), none, 0⟩,
    ⟨some 71, .bin .lss (.tmp 70) (.const (.int .i64 0)), none, 0⟩,
    ⟨some 72, .mv (.tmp 71), none, 0⟩,
    ⟨some 73, .load true 2 (.tmp 10), some (72, false), 0⟩,
    ⟨some 74, .load true 2 (.tmp 6), some (72, false), 0⟩,
    ⟨some 75, .call k_laws_eqGraph [(.tmp 73), (.tmp 74)], some (72, false), 0⟩,
    ⟨some 76, .un .not (.tmp 75), some (72, false), 0⟩,
    ⟨some 77, .pick (.tmp 72) (.const (.bool true)) (.tmp 76), none, 0⟩,
    ⟨some 78, .mv (.tmp 77), none, 0⟩,
    ⟨some 79, .mv (.tmp 11), some (78, false), 0⟩,
    ⟨some 80, .mv (.tmp 7), some (78, false), 0⟩,
    ⟨some 81, .bin .neq (.tmp 79) (.tmp 80), some (78, false), 0⟩,
    ⟨some 82, .pick (.tmp 78) (.const (.bool true)) (.tmp 81), none, 0⟩]) <|
  .cond (.tmp 82)
    (.seq (.ops [
      ⟨some 4, .mv (.const (.bool false)), none, 0⟩]) <|
    .keep [4] <|
    .ret)
    (.skip)) <|
  .seq (.ops [
    ⟨some 13, .mv (.const (.int .i64 1)), none, 0⟩]) <|
  .seq (.ops [
    ⟨some 83, .load true 2 (.tmp 10), none, 0⟩,
    ⟨some 84, .mv (.tmp 13), none, 0⟩,
    ⟨some 85, .call k_laws_markGraph [(.tmp 83), (.tmp 84)], none, 0⟩,
    ⟨some 13, .mv (.tmp 85), none, 0⟩]) <|
  .seq (.ops [
    ⟨some 14, .mv (.const (.int .i64 1)), none, 0⟩]) <|
  .seq (.ops [
    ⟨some 86, .load true 2 (.tmp 10), none, 0⟩,
    ⟨some 87, .mv (.tmp 14), none, 0⟩,
    ⟨some 88, .call k_laws_heldGraph [(.tmp 86), (.tmp 87)], none, 0⟩,
    ⟨some 14, .mv (.tmp 88), none, 0⟩]) <|
  .seq (.seq (.ops [
    ⟨some 89, .mv (.tmp 14), none, 0⟩,
    ⟨some 90, .bin .lss (.tmp 89) (.const (.int .i64 0)), none, 0⟩]) <|
  .cond (.tmp 90)
    (.seq (.ops [
      ⟨some 4, .mv (.const (.bool false)), none, 0⟩]) <|
    .keep [4] <|
    .ret)
    (.skip)) <|
  .seq (.seq (.ops [
    ⟨some 91, .mv (.tmp 14), none, 0⟩,
    ⟨some 92, .mv (.tmp 13), none, 0⟩,
    ⟨some 93, .bin .neq (.tmp 91) (.tmp 92), none, 0⟩]) <|
  .cond (.tmp 93)
    (.seq (.ops [
      ⟨some 4, .mv (.const (.bool false)), none, 0⟩]) <|
    .keep [4] <|
    .ret)
    (.skip)) <|
  .seq (.dops [
    ⟨some 95, .load true 2 (.tmp 2), none, 0⟩,
    ⟨some 96, .call k_laws_toGraph [(.tmp 95)], none, 0⟩,
    ⟨some 97, .load true 2 (.tmp 3), none, 1⟩,
    ⟨some 98, .call k_laws_toGraph [(.tmp 97)], none, 0⟩,
    ⟨some 99, .call k_impl_DirectProduct [(.tmp 96), (.tmp 98)], none, 0⟩,
    ⟨some 94, .mv (.tmp 99), none, 0⟩,
    ⟨some 100, .ext (.tmp 94) 0, none, 0⟩,
    ⟨some 15, .alloc [.int .i64 0, .slice none 0 0], none, 3⟩,
    ⟨none, .store 2 (.tmp 15) (.tmp 100), none, 1⟩,
    ⟨some 101, .ext (.tmp 94) 1, none, 2⟩,
    ⟨some 16, .mv (.tmp 101), none, 1⟩]) <|
  .seq (.seq (.ops [
    ⟨some 102, .load true 2 (.tmp 15), none, 0⟩,
    ⟨some 103, .load true 2 (.tmp 6), none, 0⟩,
    ⟨some 104, .call k_laws_eqGraph [(.tmp 102), (.tmp 103)], none, 0⟩,
    ⟨some 105, .un .not (.tmp 104), none, 0⟩,
    ⟨some 106, .mv (.tmp 105), none, 0⟩,
    ⟨some 107, .mv (.tmp 16), some (106, false), 0⟩,
    ⟨some 108, .mv (.tmp 7), some (106, false), 0⟩,
    ⟨some 109, .bin .neq (.tmp 107) (.tmp 108), some (106, false), 0⟩,
    ⟨some 110, .pick (.tmp 106) (.const (.bool true)) (.tmp 109), none, 0⟩]) <|
  .cond (.tmp 110)
    (.seq (.ops [
      ⟨some 4, .mv (.const (.bool false)), none, 0⟩]) <|
    .keep [4] <|
    .ret)
    (.skip)) <|
  .seq (.ops [
    ⟨some 14, .mv (.const (.int .i64 1)), none, 0⟩]) <|
  .seq (.ops [
    ⟨some 111, .load true 2 (.tmp 10), none, 0⟩,
    ⟨some 112, .mv (.tmp 14), none, 0⟩,
    ⟨some 113, .call k_laws_heldGraph [(.tmp 111), (.tmp 112)], none, 0⟩,
    ⟨some 14, .mv (.tmp 113), none, 0⟩]) <|
  .seq (.seq (.ops [
    ⟨some 114, .mv (.tmp 14), none, 0⟩,
    ⟨some 115, .bin .lss (.tmp 114) (.const (.int .i64 0)), none, 0⟩]) <|
  .cond (.tmp 115)
    (.seq (.ops [
      ⟨some 4, .mv (.const (.bool false)), none, 0⟩]) <|
    .keep [4] <|
    .ret)
    (.skip)) <|
  .seq (.seq (.ops [
    ⟨some 116, .mv (.tmp 14), none, 0⟩,
    ⟨some 117, .mv (.tmp 13), none, 0⟩,
    ⟨some 118, .bin .neq (.tmp 116) (.tmp 117), none, 0⟩]) <|
  .cond (.tmp 118)
    (.seq (.ops [
      ⟨some 4, .mv (.const (.bool false)), none, 0⟩]) <|
    .keep [4] <|
    .ret)
    (.skip)) <|
  .seq (.ops [
    ⟨some 4, .mv (.const (.bool true)), none, 0⟩]) <|
  .keep [4] <|
  .ret⟩

theorem e_laws_FnExactDirectProduct : EntOK Try.prog (compD Try.prog) k_laws_FnExactDirectProduct i_laws_FnExactDirectProduct.vf :=
  ⟨Try.f9, Try.f9.body.getD .skip, Try.func9, by kernel_rfl, by kernel_rfl, by kernel_rfl, by kernel_rfl, by kernel_rfl⟩

/-- loop.example/g01331/laws.FnExactProductOf -/
def i_laws_FnExactProductOf : FF := ⟨119, [.tmp 4],
  .seq (.ops [
    ⟨some 2, .box 2 (.tmp 0), none, 0⟩,
    ⟨some 3, .box 2 (.tmp 1), none, 0⟩,
    ⟨some 4, .mv (.const (.bool false)), none, 0⟩]) <|
  .seq (.ops [
    ⟨some 5, .mv (.const (.int .i64 1048576)), none, 0⟩]) <|
  .seq (.ops [
    ⟨some 17, .load true 2 (.tmp 2), none, 0⟩,
    ⟨some 18, .mv (.tmp 5), none, 0⟩,
    ⟨some 19, .call k_laws_szGraph [(.tmp 17), (.tmp 18)], none, 0⟩,
    ⟨some 5, .mv (.tmp 19), none, 0⟩]) <|
  .seq (.seq (.ops [
    ⟨some 20, .mv (.tmp 5), none, 0⟩,
    ⟨some 21, .bin .lss (.tmp 20) (.const (.int .i64 0)), none, 0⟩]) <|
  .cond (.tmp 21)
    (.seq (.ops [
      ⟨some 4, .mv (.const (.bool true)), none, 0⟩]) <|
    .keep [4] <|
    .ret)
    (.skip)) <|
  .seq (.ops [
    ⟨some 22, .load true 2 (.tmp 3), none, 0⟩,
    ⟨some 23, .mv (.tmp 5), none, 0⟩,
    ⟨some 24, .call k_laws_szGraph [(.tmp 22), (.tmp 23)], none, 0⟩,
    ⟨some 5, .mv (.tmp 24), none, 0⟩]) <|
  .seq (.seq (.ops [
    ⟨some 25, .mv (.tmp 5), none, 0⟩,
    ⟨some 26, .bin .lss (.tmp 25) (.const (.int .i64 0)), none, 0⟩]) <|
  .cond (.tmp 26)
    (.seq (.ops [
      ⟨some 4, .mv (.const (.bool true)), none, 0⟩]) <|
    .keep [4] <|
    .ret)
    (.skip)) <|
  .seq (.dops [
    ⟨some 28, .load true 2 (.tmp 2), none, 0⟩,
    ⟨some 29, .call k_laws_toGraph [(.tmp 28)], none, 0⟩,
    ⟨some 30, .load true 2 (.tmp 3), none, 1⟩,
    ⟨some 31, .call k_laws_toGraph [(.tmp 30)], none, 0⟩,
    ⟨some 32, .call k_spec_ProductOf [(.tmp 29), (.tmp 31)], none, 0⟩,
    ⟨some 27, .mv (.tmp 32), none, 0⟩,
    ⟨some 33, .ext (.tmp 27) 0, none, 0⟩,
    ⟨some 6, .alloc [.int .i64 0, .slice none 0 0], none, 3⟩,
    ⟨none, .store 2 (.tmp 6) (.tmp 33), none, 1⟩,
    ⟨some 34, .ext (.tmp 27) 1, none, 2⟩,
    ⟨some 7, .mv (.tmp 34), none, 1⟩]) <|
  .seq (.ops [
    ⟨some 35, .load true 2 (.tmp 2), none, 0⟩,
    ⟨some 36, .call k_laws_toGraph [(.tmp 35)], none, 0⟩,
    ⟨some 8, .alloc [.int .i64 0, .slice none 0 0], none, 0⟩,
    ⟨none, .store 2 (.tmp 8) (.tmp 36), none, 0⟩]) <|
  .seq (.ops [
    ⟨some 37, .load true 2 (.tmp 3), none, 0⟩,
    ⟨some 38, .call k_laws_toGraph [(.tmp 37)], none, 0⟩,
    ⟨some 9, .alloc [.int .i64 0, .slice none 0 0], none, 0⟩,
    ⟨none, .store 2 (.tmp 9) (.tmp 38), none, 0⟩]) <|
  .seq (.ops [
    ⟨some 40, .load true 2 (.tmp 8), none, 0⟩,
    ⟨some 41, .load true 2 (.tmp 9), none, 0⟩,
    ⟨some 42, .call k_impl_ProductOf [(.tmp 40), (.tmp 41)], none, 0⟩,
    ⟨some 39, .mv (.tmp 42), none, 0⟩,
    ⟨some 43, .ext (.tmp 39) 0, none, 0⟩,
    ⟨some 44, .ext (.tmp 39) 1, none, 0⟩,
    ⟨some 10, .alloc [.int .i64 0, .slice none 0 0], none, 0⟩,
    ⟨none, .store 2 (.tmp 10) (.tmp 43), none, 0⟩,
    ⟨some 11, .mv (.tmp 44), none, 0⟩]) <|
  .seq (.seq (.ops [
    ⟨some 45, .load true 2 (.tmp 10), none, 0⟩,
    ⟨some 46, .load true 2 (.tmp 6), none, 0⟩,
    ⟨some 47, .call k_laws_eqGraph [(.tmp 45), (.tmp 46)], none, 0⟩,
    ⟨some 48, .un .not (.tmp 47), none, 0⟩,
    ⟨some 49, .mv (.tmp 48), none, 0⟩,
    ⟨some 50, .mv (.tmp 11), some (49, false), 0⟩,
    ⟨some 51, .mv (.tmp 7), some (49, false), 0⟩,
    ⟨some 52, .bin .neq (.tmp 50) (.tmp 51), some (49, false), 0⟩,
    ⟨some 53, .pick (.tmp 49) (.const (.bool true)) (.tmp 52), none, 0⟩]) <|
  .cond (.tmp 53)
    (.seq (.ops [
      ⟨some 4, .mv (.const (.bool false)), none, 0⟩]) <|
    .keep [4] <|
    .ret)
    (.skip)) <|
  .seq (.seq (.dops [
    ⟨some 55, .load true 2 (.tmp 2), none, 0⟩,
    ⟨some 56, .call k_laws_toGraph [(.tmp 55)], none, 0⟩,
    ⟨some 54, .load true 2 (.tmp 8), none, 1⟩,
    ⟨some 57, .call k_laws_eqGraph [(.tmp 54), (.tmp 56)], none, 0⟩,
    ⟨some 58, .un .not (.tmp 57), none, 0⟩]) <|
  .cond (.tmp 58)
    (.seq (.ops [
      ⟨some 4, .mv (.const (.bool false)), none, 0⟩]) <|
    .keep [4] <|
    .ret)
    (.skip)) <|
  .seq (.seq (.dops [
    ⟨some 60, .load true 2 (.tmp 3), none, 0⟩,
    ⟨some 61, .call k_laws_toGraph [(.tmp 60)], none, 0⟩,
    ⟨some 59, .load true 2 (.tmp 9), none, 1⟩,
    ⟨some 62, .call k_laws_eqGraph [(.tmp 59), (.tmp 61)], none, 0⟩,
    ⟨some 63, .un .not (.tmp 62), none, 0⟩]) <|
  .cond (.tmp 63)
    (.seq (.ops [
      ⟨some 4, .mv (.const (.bool false)), none, 0⟩]) <|
    .keep [4] <|
    .ret)
    (.skip)) <|
  .seq (.ops [
    ⟨some 12, .mv (.const (.int .i64 1)), none, 0⟩]) <|
  .seq (.ops [
    ⟨some 64, .load true 2 (.tmp 8), none, 0⟩,
    ⟨some 65, .mv (.tmp 12), none, 0⟩,
    ⟨some 66, .call k_laws_markGraph [(.tmp 64), (.tmp 65)], none, 0⟩,
    ⟨some 12, .mv (.tmp 66), none, 0⟩]) <|
  .seq (.ops [
    ⟨some 67, .load true 2 (.tmp 9), none, 0⟩,
    ⟨some 68, .mv (.tmp 12), none, 0⟩,
    ⟨some 69, .call k_laws_markGraph [(.tmp 67), (.tmp 68)], none, 0⟩,
    ⟨some 12, .mv (.tmp 69), none, 0⟩]) <|
  .seq (.seq (.ops [
    ⟨some 70, .mv (.tmp 12), none, 0⟩,
    ⟨some 71, .bin .lss (.tmp 70) (.const (.int .i64 0)), none, 0⟩,
    ⟨some 72, .mv (.tmp 71), none, 0⟩,
    ⟨some 73, .load true 2 (.tmp 10), some (72, false), 0⟩,
    ⟨some 74, .load true 2 (.tmp 6), some (72, false), 0⟩,
    ⟨some 75, .call k_laws_eqGraph [(.tmp 73), (.tmp 74)], some (72, false), 0⟩,
    ⟨some 76, .un .not (.tmp 75), some (72, false), 0⟩,
    ⟨some 77, .pick (.tmp 72) (.const (.bool true)) (.tmp 76), none, 0⟩,
    ⟨some 78, .mv (.tmp 77), none, 0⟩,
    ⟨some 79, .mv (.tmp 11), some (78, false), 0⟩,
    ⟨some 80, .mv (.tmp 7), some (78, false), 0⟩,
    ⟨some 81, .bin .neq (.tmp 79) (.tmp 80), some (78, false), 0⟩,
    ⟨some 82, .pick (.tmp 78) (.const (.bool true)) (.tmp 81), none, 0⟩]) <|
  .cond (.tmp 82)
    (.seq (.ops [
      ⟨some 4, .mv (.const (.bool false)), none, 0⟩]) <|
    .keep [4] <|
    .ret)
    (.skip)) <|
  .seq (.ops [
    ⟨some 13, .mv (.const (.int .i64 1)), none, 0⟩]) <|
  .seq (.ops [
    ⟨some 83, .load true 2 (.tmp 10), none, 0⟩,
    ⟨some 84, .mv (.tmp 13), none, 0⟩,
    ⟨some 85, .call k_laws_markGraph [(.tmp 83), (.tmp 84)], none, 0⟩,
    ⟨some 13, .mv (.tmp 85), none, 0⟩]) <|
  .seq (.ops [
    ⟨some 14, .mv (.const (.int .i64 1)), none, 0⟩]) <|
  .seq (.ops [
    ⟨some 86, .load true 2 (.tmp 10), none, 0⟩,
    ⟨some 87, .mv (.tmp 14), none, 0⟩,
    ⟨some 88, .call k_laws_heldGraph [(.tmp 86), (.tmp 87)], none, 0⟩,
    ⟨some 14, .mv (.tmp 88), none, 0⟩]) <|
  .seq (.seq (.ops [
    ⟨some 89, .mv (.tmp 14), none, 0⟩,
    ⟨some 90, .bin .lss (.tmp 89) (.const (.int .i64 0)), none, 0⟩]) <|
  .cond (.tmp 90)
    (.seq (.ops [
      ⟨some 4, .mv (.const (.bool false)), none, 0⟩]) <|
    .keep [4] <|
    .ret)
    (.skip)) <|
  .seq (.seq (.ops [
    ⟨some 91, .mv (.tmp 14), none, 0⟩,
    ⟨some 92, .mv (.tmp 13), none, 0⟩,
    ⟨some 93, .bin .neq (.tmp 91) (.tmp 92), none, 0⟩]) <|
  .cond (.tmp 93)
    (.seq (.ops [
      ⟨some 4, .mv (.const (.bool false)), none, 0⟩]) <|
    .keep [4] <|
    .ret)
    (.skip)) <|
  .seq (.dops [
    ⟨some 95, .load true 2 (.tmp 2), none, 0⟩,
    ⟨some 96, .call k_laws_toGraph [(.tmp 95)], none, 0⟩,
    ⟨some 97, .load true 2 (.tmp 3), none, 1⟩,
    ⟨some 98, .call k_laws_toGraph [(.tmp 97)], none, 0⟩,
    ⟨some 99, .call k_impl_ProductOf [(.tmp 96), (.tmp 98)], none, 0⟩,
    ⟨some 94, .mv (.tmp 99), none, 0⟩,
    ⟨some 100, .ext (.tmp 94) 0, none, 0⟩,
    ⟨some 15, .alloc [.int .i64 0, .slice none 0 0], none, 3⟩,
    ⟨none, .store 2 (.tmp 15) (.tmp 100), none, 1⟩,
    ⟨some 101, .ext (.tmp 94) 1, none, 2⟩,
    ⟨some 16, .mv (.tmp 101), none, 1⟩]) <|
  .seq (.seq (.ops [
    ⟨some 102, .load true 2 (.tmp 15), none, 0⟩,
    ⟨some 103, .load true 2 (.tmp 6), none, 0⟩,
    ⟨some 104, .call k_laws_eqGraph [(.tmp 102), (.tmp 103)], none, 0⟩,
    ⟨some 105, .un .not (.tmp 104), none, 0⟩,
    ⟨some 106, .mv (.tmp 105), none, 0⟩,
    ⟨some 107, .mv (.tmp 16), some (106, false), 0⟩,
    ⟨some 108, .mv (.tmp 7), some (106, false), 0⟩,
    ⟨some 109, .bin .neq (.tmp 107) (.tmp 108), some (106, false), 0⟩,
    ⟨some 110, .pick (.tmp 106) (.const (.bool true)) (.tmp 109), none, 0⟩]) <|
  .cond (.tmp 110)
    (.seq (.ops [
      ⟨some 4, .mv (.const (.bool false)), none, 0⟩]) <|
    .keep [4] <|
    .ret)
    (.skip)) <|
  .seq (.ops [
    ⟨some 14, .mv (.const (.int .i64 1)), none, 0⟩]) <|
  .seq (.ops [
    ⟨some 111, .load true 2 (.tmp 10), none, 0⟩,
    ⟨some 112, .mv (.tmp 14), none, 0⟩,
    ⟨some 113, .call k_laws_heldGraph [(.tmp 111), (.tmp 112)], none, 0⟩,
    ⟨some 14, .mv (.tmp 113), none, 0⟩]) <|
  .seq (.seq (.ops [
    ⟨some 114, .mv (.tmp 14), none, 0⟩,
    ⟨some 115, .bin .lss (.tmp 114) (.const (.int .i64 0)), none, 0⟩]) <|
  .cond (.tmp 115)
    (.seq (.ops [
      ⟨some 4, .mv (.const (.bool false)), none, 0⟩]) <|
    .keep [4] <|
    .ret)
    (.skip)) <|
  .seq (.seq (.ops [
    ⟨some 116, .mv (.tmp 14), none, 0⟩,
    ⟨some 117, .mv (.tmp 13), none, 0⟩,
    ⟨some 118, .bin .neq (.tmp 116) (.tmp 117), none, 0⟩]) <|
  .cond (.tmp 118)
    (.seq (.ops [
      ⟨some 4, .mv (.const (.bool false)), none, 0⟩]) <|
    .keep [4] <|
    .ret)
    (.skip)) <|
  .seq (.ops [
    ⟨some 4, .mv (.const (.bool true)), none, 0⟩]) <|
  .keep [4] <|
  .ret⟩

theorem e_laws_FnExactProductOf : EntOK Try.prog (compD Try.prog) k_laws_FnExactProductOf i_laws_FnExactProductOf.vf :=
  ⟨Try.f10, Try.f10.body.getD .skip, Try.func10, by kernel_rfl, by kernel_rfl, by kernel_rfl, by kernel_rfl, by kernel_rfl⟩

/-- loop.example/g01331/laws.FnExactTakeVertex -/
def i_laws_FnExactTakeVertex : FF := ⟨101, [.tmp 4],
  .seq (.ops [
    ⟨some 2, .box 2 (.tmp 0), none, 0⟩,
    ⟨some 4, .mv (.const (.bool false)), none, 0⟩]) <|
  .seq (.ops [
    ⟨some 5, .mv (.const (.int .i64 1048576)), none, 0⟩]) <|
  .seq (.ops [
    ⟨some 16, .load true 2 (.tmp 2), none, 0⟩,
    ⟨some 17, .mv (.tmp 5), none, 0⟩,
    ⟨some 18, .call k_laws_szGraph [(.tmp 16), (.tmp 17)], none, 0⟩,
    ⟨some 5, .mv (.tmp 18), none, 0⟩]) <|
  .seq (.seq (.ops [
    ⟨some 19, .mv (.tmp 5), none, 0⟩,
    ⟨some 20, .bin .lss (.tmp 19) (.const (.int .i64 0)), none, 0⟩]) <|
  .cond (.tmp 20)
    (.seq (.ops [
      ⟨some 4, .mv (.const (.bool true)), none, 0⟩]) <|
    .keep [4] <|
    .ret)
    (.skip)) <|
  .seq (.ops [
    ⟨some 22, .load true 2 (.tmp 2), none, 0⟩,
    ⟨some 23, .call k_laws_toGraph [(.tmp 22)], none, 0⟩,
    ⟨some 24, .mv (.tmp 1), none, 0⟩,
    ⟨some 25, .call k_spec_TakeVertex [(.tmp 23), (.tmp 24)], none, 0⟩,
    ⟨some 21, .mv (.tmp 25), none, 0⟩,
    ⟨some 26, .ext (.tmp 21) 0, none, 0⟩,
    ⟨some 27, .ext (.tmp 21) 1, none, 0⟩,
    ⟨some 6, .alloc [.int .i64 0, .slice none 0 0], none, 0⟩,
    ⟨none, .store 2 (.tmp 6) (.tmp 26), none, 0⟩,
    ⟨some 7, .mv (.tmp 27), none, 0⟩]) <|
  .seq (.ops [
    ⟨some 28, .load true 2 (.tmp 2), none, 0⟩,
    ⟨some 29, .call k_laws_toGraph [(.tmp 28)], none, 0⟩,
    ⟨some 8, .alloc [.int .i64 0, .slice none 0 0], none, 0⟩,
    ⟨none, .store 2 (.tmp 8) (.tmp 29), none, 0⟩]) <|
  .seq (.ops [
    ⟨some 31, .load true 2 (.tmp 8), none, 0⟩,
    ⟨some 32, .mv (.tmp 1), none, 0⟩,
    ⟨some 33, .call k_impl_TakeVertex [(.tmp 31), (.tmp 32)], none, 0⟩,
    ⟨some 30, .mv (.tmp 33), none, 0⟩,
    ⟨some 34, .ext (.tmp 30) 0, none, 0⟩,
    ⟨some 35, .ext (.tmp 30) 1, none, 0⟩,
    ⟨some 9, .alloc [.int .i64 0, .slice none 0 0], none, 0⟩,
    ⟨none, .store 2 (.tmp 9) (.tmp 34), none, 0⟩,
    ⟨some 10, .mv (.tmp 35), none, 0⟩]) <|
  .seq (.seq (.ops [
    ⟨some 36, .load true 2 (.tmp 9), none, 0⟩,
    ⟨some 37, .load true 2 (.tmp 6), none, 0⟩,
    ⟨some 38, .call k_laws_eqGraph [(.tmp 36), (.tmp 37)], none, 0⟩,
    ⟨some 39, .un .not (.tmp 38), none, 0⟩,
    ⟨some 40, .mv (.tmp 39), none, 0⟩,
    ⟨some 41, .mv (.tmp 10), some (40, false), 0⟩,
    ⟨some 42, .mv (.tmp 7), some (40, false), 0⟩,
    ⟨some 43, .bin .neq (.tmp 41) (.tmp 42), some (40, false), 0⟩,
    ⟨some 44, .pick (.tmp 40) (.const (.bool true)) (.tmp 43), none, 0⟩]) <|
  .cond (.tmp 44)
    (.seq (.ops [
      ⟨some 4, .mv (.const (.bool false)), none, 0⟩]) <|
    .keep [4] <|
    .ret)
    (.skip)) <|
  .seq (.seq (.dops [
    ⟨some 46, .load true 2 (.tmp 2), none, 0⟩,
    ⟨some 47, .call k_laws_toGraph [(.tmp 46)], none, 0⟩,
    ⟨some 45, .load true 2 (.tmp 8), none, 1⟩,
    ⟨some 48, .call k_laws_eqGraph [(.tmp 45), (.tmp 47)], none, 0⟩,
    ⟨some 49, .un .not (.tmp 48), none, 0⟩]) <|
  .cond (.tmp 49)
    (.seq (.ops [
      ⟨some 4, .mv (.const (.bool false)), none, 0⟩]) <|
    .keep [4] <|
    .ret)
    (.skip)) <|
  .seq (.ops [
    ⟨some 11, .mv (.const (.int .i64 1)), none, 0⟩]) <|
  .seq (.ops [
    ⟨some 50, .load true 2 (.tmp 8), none, 0⟩,
    ⟨some 51, .mv (.tmp 11), none, 0⟩,
    ⟨some 52, .call k_laws_markGraph [(.tmp 50), (.tmp 51)], none, 0⟩,
    ⟨some 11, .mv (.tmp 52), none, 0⟩]) <|
  .seq (.seq (.ops [
    ⟨some 53, .mv (.tmp 11), none, 0⟩,
    ⟨some 54, .bin .lss (.tmp 53) (.const (.int .i64 0)), none, 0⟩,
    ⟨some 55, .mv (.tmp 54), none, 0⟩,
    ⟨some 56, .load true 2 (.tmp 9), some (55, false), 0⟩,
    ⟨some 57, .load true 2 (.tmp 6), some (55, false), 0⟩,
    ⟨some 58, .call k_laws_eqGraph [(.tmp 56), (.tmp 57)], some (55, false), 0⟩,
    ⟨some 59, .un .not (.tmp 58), some (55, false), 0⟩,
    ⟨some 60, .pick (.tmp 55) (.const (.bool true)) (.tmp 59), none, 0⟩,
    ⟨some 61, .mv (.tmp 60), none, 0⟩,
    ⟨some 62, .mv (.tmp 10), some (61, false), 0⟩,
    ⟨some 63, .mv (.tmp 7), some (61, false), 0⟩,
    ⟨some 64, .bin .neq (.tmp 62) (.tmp 63), some (61, false), 0⟩,
    ⟨some 65, .pick (.tmp 61) (.const (.bool true)) (.tmp 64), none, 0⟩]) <|
  .cond (.tmp 65)
    (.seq (.ops [
      ⟨some 4, .mv (.const (.bool false)), none, 0⟩]) <|
    .keep [4] <|
    .ret)
    (.skip)) <|
  .seq (.ops [
    ⟨some 12, .mv (.const (.int .i64 1)), none, 0⟩]) <|
  .seq (.ops [
    ⟨some 66, .load true 2 (.tmp 9), none, 0⟩,
    ⟨some 67, .mv (.tmp 12), none, 0⟩,
    ⟨some 68, .call k_laws_markGraph [(.tmp 66), (.tmp 67)], none, 0⟩,
    ⟨some 12, .mv (.tmp 68), none, 0⟩]) <|
  .seq (.ops [
    ⟨some 13, .mv (.const (.int .i64 1)), none, 0⟩]) <|
  .seq (.ops [
    ⟨some 69, .load true 2 (.tmp 9), none, 0⟩,
    ⟨some 70, .mv (.tmp 13), none, 0⟩,
    ⟨some 71, .call k_laws_heldGraph [(.tmp 69), (.tmp 70)], none, 0⟩,
    ⟨some 13, .mv (.tmp 71), none, 0⟩]) <|
  .seq (.seq (.ops [
    ⟨some 72, .mv (.tmp 13), none, 0⟩,
    ⟨some 73, .bin .lss (.tmp 72) (.const (.int .i64 0)), none, 0⟩]) <|
  .cond (.tmp 73)
    (.seq (.ops [
      ⟨some 4, .mv (.const (.bool false)), none, 0⟩]) <|
    .keep [4] <|
    .ret)
    (.skip)) <|
  .seq (.seq (.ops [
    ⟨some 74, .mv (.tmp 13), none, 0⟩,
    ⟨some 75, .mv (.tmp 12), none, 0⟩,
    ⟨some 76, .bin .neq (.tmp 74) (.tmp 75), none, 0⟩]) <|
  .cond (.tmp 76)
    (.seq (.ops [
      ⟨some 4, .mv (.const (.bool false)), none, 0⟩]) <|
    .keep [4] <|
    .ret)
    (.skip)) <|
  .seq (.ops [
    ⟨some 78, .load true 2 (.tmp 2), none, 0⟩,
    ⟨some 79, .call k_laws_toGraph [(.tmp 78)], none, 0⟩,
    ⟨some 80, .mv (.tmp 1), none, 0⟩,
    ⟨some 81, .call k_impl_TakeVertex [(.tmp 79), (.tmp 80)], none, 0⟩,
    ⟨some 77, .mv (.tmp 81), none, 0⟩,
    ⟨some 82, .ext (.tmp 77) 0, none, 0⟩,
    ⟨some 83, .ext (.tmp 77) 1, none, 0⟩,
    ⟨some 14, .alloc [.int .i64 0, .slice none 0 0], none, 0⟩,
    ⟨none, .store 2 (.tmp 14) (.tmp 82), none, 0⟩,
    ⟨some 15, .mv (.tmp 83), none, 0⟩]) <|
  .seq (.seq (.ops [
    ⟨some 84, .load true 2 (.tmp 14), none, 0⟩,
    ⟨some 85, .load true 2 (.tmp 6), none, 0⟩,
    ⟨some 86, .call k_laws_eqGraph [(.tmp 84), (.tmp 85)], none, 0⟩,
    ⟨some 87, .un .not (.tmp 86), none, 0⟩,
    ⟨some 88, .mv (.tmp 87), none, 0⟩,
    ⟨some 89, .mv (.tmp 15), some (88, false), 0⟩,
    ⟨some 90, .mv (.tmp 7), some (88, false), 0⟩,
    ⟨some 91, .bin .neq (.tmp 89) (.tmp 90), some (88, false), 0⟩,
    ⟨some 92, .pick (.tmp 88) (.const (.bool true)) (.tmp 91), none, 0⟩]) <|
  .cond (.tmp 92)
    (.seq (.ops [
      ⟨some 4, .mv (.const (.bool false)), none, 0⟩]) <|
    .keep [4] <|
    .ret)
    (.skip)) <|
  .seq (.ops [
    ⟨some 13, .mv (.const (.int .i64 1)), none, 0⟩]) <|
  .seq (.ops [
    ⟨some 93, .load true 2 (.tmp 9), none, 0⟩,
    ⟨some 94, .mv (.tmp 13), none, 0⟩,
    ⟨some 95, .call k_laws_heldGraph [(.tmp 93), (.tmp 94)], none, 0⟩,
    ⟨some 13, .mv (.tmp 95), none, 0⟩]) <|
  .seq (.seq (.ops [
    ⟨some 96, .mv (.tmp 13), none, 0⟩,
    ⟨some 97, .bin .lss (.tmp 96) (.const (.int .i64 0)), none, 0⟩]) <|
  .cond (.tmp 97)
    (.seq (.ops [
      ⟨some 4, .mv (.const (.bool false)), none, 0⟩]) <|
    .keep [4] <|
    .ret)
    (.skip)) <|
  .seq (.seq (.ops [
    ⟨some 98, .mv (.tmp 13), none, 0⟩,
    ⟨some 99, .mv (.tmp 12), none, 0⟩,
    ⟨some 100, .bin .neq (.tmp 98) (.tmp 99), none, 0⟩]) <|
  .cond (.tmp 100)
    (.seq (.ops [
      ⟨some 4, .mv (.const (.bool false)), none, 0⟩]) <|
    .keep [4] <|
    .ret)
    (.skip)) <|
  .seq (.ops [
    ⟨some 4, .mv (.const (.bool true)), none, 0⟩]) <|
  .keep [4] <|
  .ret⟩

theorem e_laws_FnExactTakeVertex : EntOK Try.prog (compD Try.prog) k_laws_FnExactTakeVertex i_laws_FnExactTakeVertex.vf :=
  ⟨Try.f11, Try.f11.body.getD .skip, Try.func11, by kernel_rfl, by kernel_rfl, by kernel_rfl, by kernel_rfl, by kernel_rfl⟩

/-- loop.example/g01331/laws.FnExactNewDesk -/
def i_laws_FnExactNewDesk : FF := ⟨36, [.tmp 0],
  .seq (.ops [
    ⟨some 0, .mv (.const (.bool false)), none, 0⟩]) <|
  .seq (.ops [
    ⟨some 6, .call k_spec_NewDesk [], none, 0⟩,
    ⟨some 1, .alloc [.int .i64 0, .slice none 0 0, .int .i64 0, .slice none 0 0], none, 0⟩,
    ⟨none, .store 4 (.tmp 1) (.tmp 6), none, 0⟩]) <|
  .seq (.ops [
    ⟨some 7, .call k_impl_NewDesk [], none, 0⟩,
    ⟨some 2, .alloc [.int .i64 0, .slice none 0 0, .int .i64 0, .slice none 0 0], none, 0⟩,
    ⟨none, .store 4 (.tmp 2) (.tmp 7), none, 0⟩]) <|
  .seq (.seq (.ops [
    ⟨some 8, .load true 4 (.tmp 2), none, 0⟩,
    ⟨some 9, .load true 4 (.tmp 1), none, 0⟩,
    ⟨some 10, .call k_laws_eqDesk [(.tmp 8), (.tmp 9)], none, 0⟩,
    ⟨some 11, .un .not (.tmp 10), none, 0⟩]) <|
  .cond (.tmp 11)
    (.seq (.ops [
      ⟨some 0, .mv (.const (.bool false)), none, 0⟩]) <|
    .keep [0] <|
    .ret)
    (.skip)) <|
  .seq (.ops [
    ⟨some 3, .mv (.const (.int .i64 1)), none, 0⟩]) <|
  .seq (.ops [
    ⟨some 12, .load true 4 (.tmp 2), none, 0⟩,
    ⟨some 13, .mv (.tmp 3), none, 0⟩,
    ⟨some 14, .call k_laws_markDesk [(.tmp 12), (.tmp 13)], none, 0⟩,
    ⟨some 3, .mv (.tmp 14), none, 0⟩]) <|
  .seq (.ops [
    ⟨some 4, .mv (.const (.int .i64 1)), none, 0⟩]) <|
  .seq (.ops [
    ⟨some 15, .load true 4 (.tmp 2), none, 0⟩,
    ⟨some 16, .mv (.tmp 4), none, 0⟩,
    ⟨some 17, .call k_laws_heldDesk [(.tmp 15), (.tmp 16)], none, 0⟩,
    ⟨some 4, .mv (.tmp 17), none, 0⟩]) <|
  .seq (.seq (.ops [
    ⟨some 18, .mv (.tmp 4), none, 0⟩,
    ⟨some 19, .bin .lss (.tmp 18) (.const (.int .i64 0)), none, 0⟩]) <|
  .cond (.tmp 19)
    (.seq (.ops [
      ⟨some 0, .mv (.const (.bool false)), none, 0⟩]) <|
    .keep [0] <|
    .ret)
    (.skip)) <|
  .seq (.seq (.ops [
    ⟨some 20, .mv (.tmp 4), none, 0⟩,
    ⟨some 21, .mv (.tmp 3), none, 0⟩,
    ⟨some 22, .bin .neq (.tmp 20) (.tmp 21), none, 0⟩]) <|
  .cond (.tmp 22)
    (.seq (.ops [
      ⟨some 0, .mv (.const (.bool false)), none, 0⟩]) <|
    .keep [0] <|
    .ret)
    (.skip)) <|
  .seq (.ops [
    ⟨some 23, .call k_impl_NewDesk [], none, 0⟩,
    ⟨some 5, .alloc [.int .i64 0, .slice none 0 0, .int .i64 0, .slice none 0 0], none, 0⟩,
    ⟨none, .store 4 (.tmp 5) (.tmp 23), none, 0⟩]) <|
  .seq (.seq (.ops [
    ⟨some 24, .load true 4 (.tmp 5), none, 0⟩,
    ⟨some 25, .load true 4 (.tmp 1), none, 0⟩,
    ⟨some 26, .call k_laws_eqDesk [(.tmp 24), (.tmp 25)], none, 0⟩,
    ⟨some 27, .un .not (.tmp 26), none, 0⟩]) <|
  .cond (.tmp 27)
    (.seq (.ops [
      ⟨some 0, .mv (.const (.bool false)), none, 0⟩]) <|
    .keep [0] <|
    .ret)
    (.skip)) <|
  .seq (.ops [
    ⟨some 4, .mv (.const (.int .i64 1)), none, 0⟩]) <|
  .seq (.ops [
    ⟨some 28, .load true 4 (.tmp 2), none, 0⟩,
    ⟨some 29, .mv (.tmp 4), none, 0⟩,
    ⟨some 30, .call k_laws_heldDesk [(.tmp 28), (.tmp 29)], none, 0⟩,
    ⟨some 4, .mv (.tmp 30), none, 0⟩]) <|
  .seq (.seq (.ops [
    ⟨some 31, .mv (.tmp 4), none, 0⟩,
    ⟨some 32, .bin .lss (.tmp 31) (.const (.int .i64 0)), none, 0⟩]) <|
  .cond (.tmp 32)
    (.seq (.ops [
      ⟨some 0, .mv (.const (.bool false)), none, 0⟩]) <|
    .keep [0] <|
    .ret)
    (.skip)) <|
  .seq (.seq (.ops [
    ⟨some 33, .mv (.tmp 4), none, 0⟩,
    ⟨some 34, .mv (.tmp 3), none, 0⟩,
    ⟨some 35, .bin .neq (.tmp 33) (.tmp 34), none, 0⟩]) <|
  .cond (.tmp 35)
    (.seq (.ops [
      ⟨some 0, .mv (.const (.bool false)), none, 0⟩]) <|
    .keep [0] <|
    .ret)
    (.skip)) <|
  .seq (.ops [
    ⟨some 0, .mv (.const (.bool true)), none, 0⟩]) <|
  .keep [0] <|
  .ret⟩

theorem e_laws_FnExactNewDesk : EntOK Try.prog (compD Try.prog) k_laws_FnExactNewDesk i_laws_FnExactNewDesk.vf :=
  ⟨Try.f12, Try.f12.body.getD .skip, Try.func12, by kernel_rfl, by kernel_rfl, by kernel_rfl, by kernel_rfl, by kernel_rfl⟩

/-- loop.example/g01331/laws.szGraph -/
def i_laws_szGraph : FF := ⟨12, [.tmp 4],
  .seq (.ops [
    ⟨some 2, .box 2 (.tmp 0), none, 0⟩,
    ⟨some 4, .mv (.const (.int .i64 0)), none, 0⟩]) <|
  .seq (.ops [
    ⟨some 5, .fld 1 (.tmp 2), none, 0⟩,
    ⟨some 6, .load false 1 (.tmp 5), none, 0⟩,
    ⟨some 7, .mv (.tmp 1), none, 0⟩,
    ⟨some 8, .call k_laws_szInt64S [(.tmp 6), (.tmp 7)], none, 0⟩,
    ⟨some 1, .mv (.tmp 8), none, 0⟩]) <|
  .seq (.seq (.ops [
    ⟨some 9, .mv (.tmp 1), none, 0⟩,
    ⟨some 10, .bin .lss (.tmp 9) (.const (.int .i64 0)), none, 0⟩]) <|
  .cond (.tmp 10)
    (.seq (.ops [
      ⟨some 4, .mv (.const (.int .i64 (-1))), none, 0⟩]) <|
    .keep [4] <|
    .ret)
    (.skip)) <|
  .seq (.ops [
    ⟨some 11, .mv (.tmp 1), none, 0⟩,
    ⟨some 4, .mv (.tmp 11), none, 0⟩]) <|
  .keep [4] <|
  .ret⟩

theorem e_laws_szGraph : EntOK Try.prog (compD Try.prog) k_laws_szGraph i_laws_szGraph.vf :=
  ⟨Try.f13, Try.f13.body.getD .skip, Try.func13, by kernel_rfl, by kernel_rfl, by kernel_rfl, by kernel_rfl, by kernel_rfl⟩

/-- loop.example/g01331/spec.DoubleGraph -/
def i_spec_DoubleGraph_B1 : FC :=
  .seq (.seq (.ops [
    ⟨some 28, .mv (.tmp 6), none, 0⟩,
    ⟨some 29, .fld 0 (.tmp 1), none, 0⟩,
    ⟨some 30, .load false 1 (.tmp 29), none, 0⟩,
    ⟨some 31, .bin .lss (.tmp 28) (.tmp 30), none, 0⟩]) <|
  .cond (.tmp 31)
    (.skip)
    (.keep [1, 2, 4, 5] <|
    .exit 3)) <|
  .seq (.block 4 <|
  .seq (.ops [
    ⟨some 34, .fld 1 (.tmp 1), none, 0⟩,
    ⟨some 35, .load false 1 (.tmp 34), none, 0⟩,
    ⟨some 36, .mv (.tmp 5), none, 0⟩,
    ⟨some 37, .idx 1 (.tmp 35) (.tmp 36), none, 0⟩,
    ⟨some 38, .load false 1 (.tmp 37), none, 0⟩,
    ⟨some 39, .mv (.tmp 6), none, 0⟩,
    ⟨some 40, .conv .u64 (.tmp 39), none, 0⟩,
    ⟨some 41, .bin .shr (.tmp 38) (.tmp 40), none, 0⟩,
    ⟨some 42, .bin .and (.tmp 41) (.const (.int .i64 1)), none, 0⟩,
    ⟨some 43, .bin .eql (.tmp 42) (.const (.int .i64 1)), none, 0⟩]) <|
  .cond (.tmp 43)
    (.ops [
      ⟨some 44, .load true 2 (.tmp 4), none, 0⟩,
      ⟨some 45, .mv (.tmp 5), none, 0⟩,
      ⟨some 46, .fld 0 (.tmp 1), none, 0⟩,
      ⟨some 47, .load false 1 (.tmp 46), none, 0⟩,
      ⟨some 48, .mv (.tmp 6), none, 0⟩,
      ⟨some 49, .bin .add (.tmp 47) (.tmp 48), none, 0⟩,
      ⟨some 50, .call k_spec_l04With [(.tmp 44), (.tmp 45), (.tmp 49)], none, 0⟩,
      ⟨none, .store 2 (.tmp 4) (.tmp 50), none, 0⟩])
    (.skip)) <|
  .ops [
    ⟨some 32, .mv (.tmp 6), none, 0⟩,
    ⟨some 33, .bin .add (.tmp 32) (.const (.int .i64 1)), none, 0⟩,
    ⟨some 6, .mv (.tmp 33), none, 0⟩]
def i_spec_DoubleGraph_B2 : FC :=
  .seq (.seq (.ops [
    ⟨some 22, .mv (.tmp 5), none, 0⟩,
    ⟨some 23, .fld 0 (.tmp 1), none, 0⟩,
    ⟨some 24, .load false 1 (.tmp 23), none, 0⟩,
    ⟨some 25, .bin .lss (.tmp 22) (.tmp 24), none, 0⟩]) <|
  .cond (.tmp 25)
    (.skip)
    (.keep [2, 4] <|
    .exit 1)) <|
  .seq (.block 2 <|
  .seq (.ops [
    ⟨some 6, .mv (.const (.int .i64 0)), none, 0⟩]) <|
  .block 3 <|
  .loop [1, 2, 4, 5, 6] i_spec_DoubleGraph_B1) <|
  .ops [
    ⟨some 26, .mv (.tmp 5), none, 0⟩,
    ⟨some 27, .bin .add (.tmp 26) (.const (.int .i64 1)), none, 0⟩,
    ⟨some 5, .mv (.tmp 27), none, 0⟩]
def i_spec_DoubleGraph : FF := ⟨52, [.cell 2 true 2, .tmp 3],
  .seq (.ops [
    ⟨some 1, .box 2 (.tmp 0), none, 0⟩,
    ⟨some 2, .alloc [.int .i64 0, .slice none 0 0], none, 0⟩,
    ⟨some 3, .mv (.const (.int .i64 0)), none, 0⟩]) <|
  .seq (.block 0 <|
  .seq (.ops [
    ⟨some 8, .load true 2 (.tmp 1), none, 0⟩,
    ⟨some 9, .call k_spec_l01Is [(.tmp 8)], none, 0⟩,
    ⟨some 10, .un .not (.tmp 9), none, 0⟩,
    ⟨some 7, .mv (.tmp 10), none, 0⟩]) <|
  .cond (.tmp 7)
    (.seq (.ops [
      ⟨some 11, .build [.int .i64 0, .slice none 0 0] [], none, 0⟩,
      ⟨none, .store 2 (.tmp 2) (.tmp 11), none, 0⟩,
      ⟨some 3, .mv (.const (.int .i64 1)), none, 0⟩]) <|
    .keep [2, 3] <|
    .ret)
    (.seq (.ops [
      ⟨some 13, .fld 0 (.tmp 1), none, 0⟩,
      ⟨some 14, .load false 1 (.tmp 13), none, 0⟩,
      ⟨some 15, .bin .mul (.const (.int .i64 2)) (.tmp 14), none, 0⟩,
      ⟨some 16, .bin .gtr (.tmp 15) (.const (.int .i64 62)), none, 0⟩,
      ⟨some 12, .mv (.tmp 16), none, 0⟩]) <|
    .cond (.tmp 12)
      (.seq (.ops [
        ⟨some 17, .build [.int .i64 0, .slice none 0 0] [], none, 0⟩,
        ⟨none, .store 2 (.tmp 2) (.tmp 17), none, 0⟩,
        ⟨some 3, .mv (.const (.int .i64 3)), none, 0⟩]) <|
      .keep [2, 3] <|
      .ret)
      (.skip))) <|
  .seq (.ops [
    ⟨some 18, .fld 0 (.tmp 1), none, 0⟩,
    ⟨some 19, .load false 1 (.tmp 18), none, 0⟩,
    ⟨some 20, .bin .mul (.const (.int .i64 2)) (.tmp 19), none, 0⟩,
    ⟨some 21, .call k_spec_l01Empty [(.tmp 20)], none, 0⟩,
    ⟨some 4, .alloc [.int .i64 0, .slice none 0 0], none, 0⟩,
    ⟨none, .store 2 (.tmp 4) (.tmp 21), none, 0⟩]) <|
  .seq (.seq (.ops [
    ⟨some 5, .mv (.const (.int .i64 0)), none, 0⟩]) <|
  .block 1 <|
  .loop [1, 2, 4, 5] i_spec_DoubleGraph_B2) <|
  .seq (.ops [
    ⟨some 51, .load true 2 (.tmp 4), none, 0⟩,
    ⟨none, .store 2 (.tmp 2) (.tmp 51), none, 0⟩,
    ⟨some 3, .mv (.const (.int .i64 0)), none, 0⟩]) <|
  .keep [2, 3] <|
  .ret⟩

theorem e_spec_DoubleGraph : EntOK Try.prog (compD Try.prog) k_spec_DoubleGraph i_spec_DoubleGraph.vf :=
  ⟨Try.f14, Try.f14.body.getD .skip, Try.func14, by kernel_rfl, by kernel_rfl, by kernel_rfl, by kernel_rfl, by kernel_rfl⟩

/-- loop.example/g01331/laws.toGraph -/
def i_laws_toGraph : FF := ⟨12, [.cell 2 true 2],
  .seq (.ops [
    ⟨some 1, .box 2 (.tmp 0), none, 0⟩,
    ⟨some 2, .alloc [.int .i64 0, .slice none 0 0], none, 0⟩]) <|
  .seq (.ops [
    ⟨some 3, .alloc [.int .i64 0, .slice none 0 0], none, 0⟩]) <|
  .seq (.ops [
    ⟨some 4, .fld 0 (.tmp 1), none, 0⟩,
    ⟨some 5, .load false 1 (.tmp 4), none, 0⟩,
    ⟨some 6, .fld 0 (.tmp 3), none, 0⟩,
    ⟨none, .store 1 (.tmp 6) (.tmp 5), none, 0⟩]) <|
  .seq (.ops [
    ⟨some 7, .fld 1 (.tmp 1), none, 0⟩,
    ⟨some 8, .load false 1 (.tmp 7), none, 0⟩,
    ⟨some 9, .call k_laws_toInt64S [(.tmp 8)], none, 0⟩,
    ⟨some 10, .fld 1 (.tmp 3), none, 0⟩,
    ⟨none, .store 1 (.tmp 10) (.tmp 9), none, 0⟩]) <|
  .seq (.ops [
    ⟨some 11, .load true 2 (.tmp 3), none, 0⟩,
    ⟨none, .store 2 (.tmp 2) (.tmp 11), none, 0⟩]) <|
  .keep [2] <|
  .ret⟩

theorem e_laws_toGraph : EntOK Try.prog (compD Try.prog) k_laws_toGraph i_laws_toGraph.vf :=
  ⟨Try.f15, Try.f15.body.getD .skip, Try.func15, by kernel_rfl, by kernel_rfl, by kernel_rfl, by kernel_rfl, by kernel_rfl⟩

/-- loop.example/g01331/impl.DoubleGraph -/
def i_impl_DoubleGraph : FF := ⟨21, [.cell 2 true 2, .tmp 3],
  .seq (.ops [
    ⟨some 1, .box 2 (.tmp 0), none, 0⟩,
    ⟨some 2, .alloc [.int .i64 0, .slice none 0 0], none, 0⟩,
    ⟨some 3, .mv (.const (.int .i64 0)), none, 0⟩]) <|
  .seq (.ops [
    ⟨some 5, .fld 0 (.tmp 1), none, 0⟩,
    ⟨some 6, .load false 1 (.tmp 5), none, 0⟩,
    ⟨some 4, .alloc [.int .i64 0], none, 0⟩,
    ⟨none, .store 1 (.tmp 4) (.tmp 6), none, 0⟩]) <|
  .seq (.block 0 <|
  .seq (.ops [
    ⟨some 8, .load true 2 (.tmp 1), none, 0⟩,
    ⟨some 9, .call k_impl_IsGraph [(.tmp 8)], none, 0⟩,
    ⟨some 10, .un .not (.tmp 9), none, 0⟩,
    ⟨some 7, .mv (.tmp 10), none, 0⟩]) <|
  .cond (.tmp 7)
    (.seq (.ops [
      ⟨some 11, .build [.int .i64 0, .slice none 0 0] [], none, 0⟩,
      ⟨none, .store 2 (.tmp 2) (.tmp 11), none, 0⟩,
      ⟨some 3, .mv (.const (.int .i64 1)), none, 0⟩]) <|
    .keep [2, 3] <|
    .ret)
    (.seq (.ops [
      ⟨some 13, .load false 1 (.tmp 4), none, 0⟩,
      ⟨some 14, .bin .mul (.const (.int .i64 2)) (.tmp 13), none, 0⟩,
      ⟨some 15, .bin .gtr (.tmp 14) (.const (.int .i64 62)), none, 0⟩,
      ⟨some 12, .mv (.tmp 15), none, 0⟩]) <|
    .cond (.tmp 12)
      (.seq (.ops [
        ⟨some 16, .build [.int .i64 0, .slice none 0 0] [], none, 0⟩,
        ⟨none, .store 2 (.tmp 2) (.tmp 16), none, 0⟩,
        ⟨some 3, .mv (.const (.int .i64 3)), none, 0⟩]) <|
      .keep [2, 3] <|
      .ret)
      (.skip))) <|
  .seq (.ops [
    ⟨some 17, .load false 1 (.tmp 4), none, 0⟩,
    ⟨some 18, .bin .mul (.const (.int .i64 2)) (.tmp 17), none, 0⟩,
    ⟨some 19, .mkfn k_impl_DoubleGraph_1 [] [(.tmp 4), (.tmp 1)], none, 0⟩,
    ⟨some 20, .call k_impl_made [(.tmp 18), (.tmp 19)], none, 0⟩,
    ⟨none, .store 2 (.tmp 2) (.tmp 20), none, 0⟩,
    ⟨some 3, .mv (.const (.int .i64 0)), none, 0⟩]) <|
  .keep [2, 3] <|
  .ret⟩

theorem e_impl_DoubleGraph : EntOK Try.prog (compD Try.prog) k_impl_DoubleGraph i_impl_DoubleGraph.vf :=
  ⟨Try.f16, Try.f16.body.getD .skip, Try.func16, by kernel_rfl, by kernel_rfl, by kernel_rfl, by kernel_rfl, by kernel_rfl⟩

/-- loop.example/g01331/laws.eqGraph -/
def i_laws_eqGraph : FF := ⟨16, [.tmp 4],
  .seq (.ops [
    ⟨some 2, .box 2 (.tmp 0), none, 0⟩,
    ⟨some 3, .box 2 (.tmp 1), none, 0⟩,
    ⟨some 4, .mv (.const (.bool false)), none, 0⟩]) <|
  .seq (.seq (.ops [
    ⟨some 5, .fld 0 (.tmp 2), none, 0⟩,
    ⟨some 6, .load false 1 (.tmp 5), none, 0⟩,
    ⟨some 7, .fld 0 (.tmp 3), none, 0⟩,
    ⟨some 8, .load false 1 (.tmp 7), none, 0⟩,
    ⟨some 9, .bin .neq (.tmp 6) (.tmp 8), none, 0⟩]) <|
  .cond (.tmp 9)
    (.seq (.ops [
      ⟨some 4, .mv (.const (.bool false)), none, 0⟩]) <|
    .keep [4] <|
    .ret)
    (.skip)) <|
  .seq (.seq (.ops [
    ⟨some 10, .fld 1 (.tmp 2), none, 0⟩,
    ⟨some 11, .load false 1 (.tmp 10), none, 0⟩,
    ⟨some 12, .fld 1 (.tmp 3), none, 0⟩,
    ⟨some 13, .load false 1 (.tmp 12), none, 0⟩,
    ⟨some 14, .call k_laws_eqInt64S [(.tmp 11), (.tmp 13)], none, 0⟩,
    ⟨some 15, .un .not (.tmp 14), none, 0⟩]) <|
  .cond (.tmp 15)
    (.seq (.ops [
      ⟨some 4, .mv (.const (.bool false)), none, 0⟩]) <|
    .keep [4] <|
    .ret)
    (.skip)) <|
  .seq (.ops [
    ⟨some 4, .mv (.const (.bool true)), none, 0⟩]) <|
  .keep [4] <|
  .ret⟩

theorem e_laws_eqGraph : EntOK Try.prog (compD Try.prog) k_laws_eqGraph i_laws_eqGraph.vf :=
  ⟨Try.f17, Try.f17.body.getD .skip, Try.func17, by kernel_rfl, by kernel_rfl, by kernel_rfl, by kernel_rfl, by kernel_rfl⟩

/-- loop.example/g01331/laws.markGraph -/
def i_laws_markGraph : FF := ⟨10, [.tmp 4],
  .seq (.ops [
    ⟨some 2, .box 2 (.tmp 0), none, 0⟩,
    ⟨some 4, .mv (.const (.int .i64 0)), none, 0⟩]) <|
  .seq (.ops [
    ⟨some 5, .fld 1 (.tmp 2), none, 0⟩,
    ⟨some 6, .load false 1 (.tmp 5), none, 0⟩,
    ⟨some 7, .mv (.tmp 1), none, 0⟩,
    ⟨some 8, .call k_laws_markInt64S [(.tmp 6), (.tmp 7)], none, 0⟩,
    ⟨some 1, .mv (.tmp 8), none, 0⟩]) <|
  .seq (.ops [
    ⟨some 9, .mv (.tmp 1), none, 0⟩,
    ⟨some 4, .mv (.tmp 9), none, 0⟩]) <|
  .keep [4] <|
  .ret⟩

theorem e_laws_markGraph : EntOK Try.prog (compD Try.prog) k_laws_markGraph i_laws_markGraph.vf :=
  ⟨Try.f18, Try.f18.body.getD .skip, Try.func18, by kernel_rfl, by kernel_rfl, by kernel_rfl, by kernel_rfl, by kernel_rfl⟩

/-- loop.example/g01331/laws.heldGraph -/
def i_laws_heldGraph : FF := ⟨12, [.tmp 4],
  .seq (.ops [
    ⟨some 2, .box 2 (.tmp 0), none, 0⟩,
    ⟨some 4, .mv (.const (.int .i64 0)), none, 0⟩]) <|
  .seq (.ops [
    ⟨some 5, .fld 1 (.tmp 2), none, 0⟩,
    ⟨some 6, .load false 1 (.tmp 5), none, 0⟩,
    ⟨some 7, .mv (.tmp 1), none, 0⟩,
    ⟨some 8, .call k_laws_heldInt64S [(.tmp 6), (.tmp 7)], none, 0⟩,
    ⟨some 1, .mv (.tmp 8), none, 0⟩]) <|
  .seq (.seq (.ops [
    ⟨some 9, .mv (.tmp 1), none, 0⟩,
    ⟨some 10, .bin .lss (.tmp 9) (.const (.int .i64 0)), none, 0⟩]) <|
  .cond (.tmp 10)
    (.seq (.ops [
      ⟨some 4, .mv (.const (.int .i64 (-1))), none, 0⟩]) <|
    .keep [4] <|
    .ret)
    (.skip)) <|
  .seq (.ops [
    ⟨some 11, .mv (.tmp 1), none, 0⟩,
    ⟨some 4, .mv (.tmp 11), none, 0⟩]) <|
  .keep [4] <|
  .ret⟩

theorem e_laws_heldGraph : EntOK Try.prog (compD Try.prog) k_laws_heldGraph i_laws_heldGraph.vf :=
  ⟨Try.f19, Try.f19.body.getD .skip, Try.func19, by kernel_rfl, by kernel_rfl, by kernel_rfl, by kernel_rfl, by kernel_rfl⟩

/-- loop.example/g01331/laws.szDesk -/
def i_laws_szDesk : FF := ⟨18, [.tmp 4],
  .seq (.ops [
    ⟨some 2, .box 4 (.tmp 0), none, 0⟩,
    ⟨some 4, .mv (.const (.int .i64 0)), none, 0⟩]) <|
  .seq (.ops [
    ⟨some 5, .fld 0 (.tmp 2), none, 0⟩,
    ⟨some 6, .load true 2 (.tmp 5), none, 0⟩,
    ⟨some 7, .mv (.tmp 1), none, 0⟩,
    ⟨some 8, .call k_laws_szGraph [(.tmp 6), (.tmp 7)], none, 0⟩,
    ⟨some 1, .mv (.tmp 8), none, 0⟩]) <|
  .seq (.seq (.ops [
    ⟨some 9, .mv (.tmp 1), none, 0⟩,
    ⟨some 10, .bin .lss (.tmp 9) (.const (.int .i64 0)), none, 0⟩]) <|
  .cond (.tmp 10)
    (.seq (.ops [
      ⟨some 4, .mv (.const (.int .i64 (-1))), none, 0⟩]) <|
    .keep [4] <|
    .ret)
    (.skip)) <|
  .seq (.ops [
    ⟨some 11, .fld 2 (.tmp 2), none, 0⟩,
    ⟨some 12, .load true 2 (.tmp 11), none, 0⟩,
    ⟨some 13, .mv (.tmp 1), none, 0⟩,
    ⟨some 14, .call k_laws_szDigraph [(.tmp 12), (.tmp 13)], none, 0⟩,
    ⟨some 1, .mv (.tmp 14), none, 0⟩]) <|
  .seq (.seq (.ops [
    ⟨some 15, .mv (.tmp 1), none, 0⟩,
    ⟨some 16, .bin .lss (.tmp 15) (.const (.int .i64 0)), none, 0⟩]) <|
  .cond (.tmp 16)
    (.seq (.ops [
      ⟨some 4, .mv (.const (.int .i64 (-1))), none, 0⟩]) <|
    .keep [4] <|
    .ret)
    (.skip)) <|
  .seq (.ops [
    ⟨some 17, .mv (.tmp 1), none, 0⟩,
    ⟨some 4, .mv (.tmp 17), none, 0⟩]) <|
  .keep [4] <|
  .ret⟩

theorem e_laws_szDesk : EntOK Try.prog (compD Try.prog) k_laws_szDesk i_laws_szDesk.vf :=
  ⟨Try.f20, Try.f20.body.getD .skip, Try.func20, by kernel_rfl, by kernel_rfl, by kernel_rfl, by kernel_rfl, by kernel_rfl⟩

/-- loop.example/g01331/spec.IsDesk -/
def i_spec_IsDesk : FF := ⟨11, [.tmp 2],
  .seq (.ops [
    ⟨some 1, .box 4 (.tmp 0), none, 0⟩,
    ⟨some 2, .mv (.const (.bool false)), none, 0⟩]) <|
  .seq (.ops [
    ⟨some 3, .fld 0 (.tmp 1), none, 0⟩,
    ⟨some 4, .load true 2 (.tmp 3), none, 0⟩,
    ⟨some 5, .call k_spec_l01Is [(.tmp 4)], none, 0⟩,
    ⟨some 6, .mv (.tmp 5), none, 0⟩,
    ⟨some 7, .fld 2 (.tmp 1), some (6, true), 0⟩,
    ⟨some 8, .load true 2 (.tmp 7), some (6, true), 0⟩,
    ⟨some 9, .call k_spec_l08Is [(.tmp 8)], some (6, true), 0⟩,
    ⟨some 10, .pick (.tmp 6) (.tmp 9) (.const (.bool false)), none, 0⟩,
    ⟨some 2, .mv (.tmp 10), none, 0⟩]) <|
  .keep [2] <|
  .ret⟩

theorem e_spec_IsDesk : EntOK Try.prog (compD Try.prog) k_spec_IsDesk i_spec_IsDesk.vf :=
  ⟨Try.f21, Try.f21.body.getD .skip, Try.func21, by kernel_rfl, by kernel_rfl, by kernel_rfl, by kernel_rfl, by kernel_rfl⟩

/-- loop.example/g01331/laws.toDesk -/
def i_laws_toDesk : FF := ⟨13, [.cell 2 true 4],
  .seq (.ops [
    ⟨some 1, .box 4 (.tmp 0), none, 0⟩,
    ⟨some 2, .alloc [.int .i64 0, .slice none 0 0, .int .i64 0, .slice none 0 0], none, 0⟩]) <|
  .seq (.ops [
    ⟨some 3, .alloc [.int .i64 0, .slice none 0 0, .int .i64 0, .slice none 0 0], none, 0⟩]) <|
  .seq (.ops [
    ⟨some 4, .fld 0 (.tmp 1), none, 0⟩,
    ⟨some 5, .load true 2 (.tmp 4), none, 0⟩,
    ⟨some 6, .call k_laws_toGraph [(.tmp 5)], none, 0⟩,
    ⟨some 7, .fld 0 (.tmp 3), none, 0⟩,
    ⟨none, .store 2 (.tmp 7) (.tmp 6), none, 0⟩]) <|
  .seq (.ops [
    ⟨some 8, .fld 2 (.tmp 1), none, 0⟩,
    ⟨some 9, .load true 2 (.tmp 8), none, 0⟩,
    ⟨some 10, .call k_laws_toDigraph [(.tmp 9)], none, 0⟩,
    ⟨some 11, .fld 2 (.tmp 3), none, 0⟩,
    ⟨none, .store 2 (.tmp 11) (.tmp 10), none, 0⟩]) <|
  .seq (.ops [
    ⟨some 12, .load true 4 (.tmp 3), none, 0⟩,
    ⟨none, .store 4 (.tmp 2) (.tmp 12), none, 0⟩]) <|
  .keep [2] <|
  .ret⟩

theorem e_laws_toDesk : EntOK Try.prog (compD Try.prog) k_laws_toDesk i_laws_toDesk.vf :=
  ⟨Try.f22, Try.f22.body.getD .skip, Try.func22, by kernel_rfl, by kernel_rfl, by kernel_rfl, by kernel_rfl, by kernel_rfl⟩

/-- loop.example/g01331/impl.IsDesk -/
def i_impl_IsDesk : FF := ⟨11, [.tmp 2],
  .seq (.ops [
    ⟨some 1, .box 4 (.tmp 0), none, 0⟩,
    ⟨some 2, .mv (.const (.bool false)), none, 0⟩]) <|
  .seq (.ops [
    ⟨some 3, .fld 0 (.tmp 1), none, 0⟩,
    ⟨some 4, .load true 2 (.tmp 3), none, 0⟩,
    ⟨some 5, .call k_impl_IsGraph [(.tmp 4)], none, 0⟩,
    ⟨some 6, .mv (.tmp 5), none, 0⟩,
    ⟨some 7, .fld 2 (.tmp 1), some (6, true), 0⟩,
    ⟨some 8, .load true 2 (.tmp 7), some (6, true), 0⟩,
    ⟨some 9, .call k_impl_IsDigraph [(.tmp 8)], some (6, true), 0⟩,
    ⟨some 10, .pick (.tmp 6) (.tmp 9) (.const (.bool false)), none, 0⟩,
    ⟨some 2, .mv (.tmp 10), none, 0⟩]) <|
  .keep [2] <|
  .ret⟩

theorem e_impl_IsDesk : EntOK Try.prog (compD Try.prog) k_impl_IsDesk i_impl_IsDesk.vf :=
  ⟨Try.f23, Try.f23.body.getD .skip, Try.func23, by kernel_rfl, by kernel_rfl, by kernel_rfl, by kernel_rfl, by kernel_rfl⟩

/-- loop.example/g01331/laws.eqDesk -/
def i_laws_eqDesk : FF := ⟨17, [.tmp 4],
  .seq (.ops [
    ⟨some 2, .box 4 (.tmp 0), none, 0⟩,
    ⟨some 3, .box 4 (.tmp 1), none, 0⟩,
    ⟨some 4, .mv (.const (.bool false)), none, 0⟩]) <|
  .seq (.seq (.ops [
    ⟨some 5, .fld 0 (.tmp 2), none, 0⟩,
    ⟨some 6, .load true 2 (.tmp 5), none, 0⟩,
    ⟨some 7, .fld 0 (.tmp 3), none, 0⟩,
    ⟨some 8, .load true 2 (.tmp 7), none, 0⟩,
    ⟨some 9, .call k_laws_eqGraph [(.tmp 6), (.tmp 8)], none, 0⟩,
    ⟨some 10, .un .not (.tmp 9), none, 0⟩]) <|
  .cond (.tmp 10)
    (.seq (.ops [
      ⟨some 4, .mv (.const (.bool false)), none, 0⟩]) <|
    .keep [4] <|
    .ret)
    (.skip)) <|
  .seq (.seq (.ops [
    ⟨some 11, .fld 2 (.tmp 2), none, 0⟩,
    ⟨some 12, .load true 2 (.tmp 11), none, 0⟩,
    ⟨some 13, .fld 2 (.tmp 3), none, 0⟩,
    ⟨some 14, .load true 2 (.tmp 13), none, 0⟩,
    ⟨some 15, .call k_laws_eqDigraph [(.tmp 12), (.tmp 14)], none, 0⟩,
    ⟨some 16, .un .not (.tmp 15), none, 0⟩]) <|
  .cond (.tmp 16)
    (.seq (.ops [
      ⟨some 4, .mv (.const (.bool false)), none, 0⟩]) <|
    .keep [4] <|
    .ret)
    (.skip)) <|
  .seq (.ops [
    ⟨some 4, .mv (.const (.bool true)), none, 0⟩]) <|
  .keep [4] <|
  .ret⟩

theorem e_laws_eqDesk : EntOK Try.prog (compD Try.prog) k_laws_eqDesk i_laws_eqDesk.vf :=
  ⟨Try.f24, Try.f24.body.getD .skip, Try.func24, by kernel_rfl, by kernel_rfl, by kernel_rfl, by kernel_rfl, by kernel_rfl⟩

/-- loop.example/g01331/spec.IsCover -/
def i_spec_IsCover_B1 : FC :=
  .seq (.seq (.ops [
    ⟨some 27, .mv (.tmp 8), none, 0⟩,
    ⟨some 28, .mv (.tmp 2), none, 0⟩,
    ⟨some 29, .len (.tmp 28), none, 0⟩,
    ⟨some 30, .bin .lss (.tmp 27) (.tmp 29), none, 0⟩]) <|
  .cond (.tmp 30)
    (.skip)
    (.keep [2, 3, 4] <|
    .exit 0)) <|
  .seq (.block 1 <|
  .seq (.dops [
    ⟨some 33, .mv (.tmp 2), none, 0⟩,
    ⟨some 34, .mv (.tmp 8), none, 0⟩,
    ⟨some 35, .idx 1 (.tmp 33) (.tmp 34), none, 0⟩,
    ⟨some 36, .load false 1 (.tmp 35), none, 0⟩,
    ⟨some 37, .fld 0 (.tmp 4), none, 0⟩,
    ⟨some 38, .load false 1 (.tmp 37), none, 0⟩,
    ⟨some 39, .bin .sub (.tmp 38) (.const (.int .i64 1)), none, 0⟩,
    ⟨some 40, .call k_spec_l01In [(.tmp 36), (.const (.int .i64 0)), (.tmp 39)], none, 0⟩,
    ⟨some 41, .un .not (.tmp 40), none, 0⟩]) <|
  .cond (.tmp 41)
    (.seq (.ops [
      ⟨some 6, .mv (.const (.bool false)), none, 0⟩,
      ⟨some 7, .mv (.const (.int .i64 2)), none, 0⟩]) <|
    .keep [6, 7] <|
    .ret)
    (.skip)) <|
  .ops [
    ⟨some 31, .mv (.tmp 8), none, 0⟩,
    ⟨some 32, .bin .add (.tmp 31) (.const (.int .i64 1)), none, 0⟩,
    ⟨some 8, .mv (.tmp 32), none, 0⟩]
def i_spec_IsCover_B2 : FC :=
  .seq (.seq (.ops [
    ⟨some 51, .mv (.tmp 12), none, 0⟩,
    ⟨some 52, .mv (.tmp 10), none, 0⟩,
    ⟨some 53, .len (.tmp 52), none, 0⟩,
    ⟨some 54, .bin .lss (.tmp 51) (.tmp 53), none, 0⟩]) <|
  .cond (.tmp 54)
    (.skip)
    (.keep [2, 3, 4, 9, 11] <|
    .exit 4)) <|
  .seq (.block 5 <|
  .seq (.ops [
    ⟨some 57, .mv (.tmp 2), none, 0⟩,
    ⟨some 58, .mv (.tmp 10), none, 0⟩,
    ⟨some 59, .mv (.tmp 12), none, 0⟩,
    ⟨some 60, .idx 1 (.tmp 58) (.tmp 59), none, 0⟩,
    ⟨some 61, .load false 1 (.tmp 60), none, 0⟩,
    ⟨some 62, .idx 1 (.tmp 57) (.tmp 61), none, 0⟩,
    ⟨some 63, .load false 1 (.tmp 62), none, 0⟩,
    ⟨some 64, .conv .u64 (.tmp 63), none, 0⟩,
    ⟨some 65, .bin .shl (.const (.int .i64 1)) (.tmp 64), none, 0⟩,
    ⟨some 13, .mv (.tmp 65), none, 0⟩]) <|
  .seq (.seq (.ops [
    ⟨some 66, .mv (.tmp 11), none, 0⟩,
    ⟨some 67, .mv (.tmp 13), none, 0⟩,
    ⟨some 68, .bin .and (.tmp 66) (.tmp 67), none, 0⟩,
    ⟨some 69, .bin .neq (.tmp 68) (.const (.int .i64 0)), none, 0⟩]) <|
  .cond (.tmp 69)
    (.seq (.ops [
      ⟨some 6, .mv (.const (.bool false)), none, 0⟩,
      ⟨some 7, .mv (.const (.int .i64 0)), none, 0⟩]) <|
    .keep [6, 7] <|
    .ret)
    (.skip)) <|
  .ops [
    ⟨some 70, .mv (.tmp 11), none, 0⟩,
    ⟨some 71, .mv (.tmp 13), none, 0⟩,
    ⟨some 72, .bin .or (.tmp 70) (.tmp 71), none, 0⟩,
    ⟨some 11, .mv (.tmp 72), none, 0⟩]) <|
  .ops [
    ⟨some 55, .mv (.tmp 12), none, 0⟩,
    ⟨some 56, .bin .add (.tmp 55) (.const (.int .i64 1)), none, 0⟩,
    ⟨some 12, .mv (.tmp 56), none, 0⟩]
def i_spec_IsCover_B3 : FC :=
  .seq (.seq (.ops [
    ⟨some 42, .mv (.tmp 9), none, 0⟩,
    ⟨some 43, .fld 0 (.tmp 3), none, 0⟩,
    ⟨some 44, .load false 1 (.tmp 43), none, 0⟩,
    ⟨some 45, .bin .lss (.tmp 42) (.tmp 44), none, 0⟩]) <|
  .cond (.tmp 45)
    (.skip)
    (.keep [] <|
    .exit 2)) <|
  .seq (.block 3 <|
  .seq (.ops [
    ⟨some 48, .load true 2 (.tmp 3), none, 0⟩,
    ⟨some 49, .mv (.tmp 9), none, 0⟩,
    ⟨some 50, .call k_spec_l01Neighbours [(.tmp 48), (.tmp 49)], none, 0⟩,
    ⟨some 10, .mv (.tmp 50), none, 0⟩,
    ⟨some 11, .mv (.const (.int .i64 0)), none, 0⟩]) <|
  .seq (.seq (.ops [
    ⟨some 12, .mv (.const (.int .i64 0)), none, 0⟩]) <|
  .block 4 <|
  .loop [2, 3, 4, 9, 10, 11, 12] i_spec_IsCover_B2) <|
  .seq (.dops [
    ⟨some 73, .mv (.tmp 11), none, 0⟩,
    ⟨some 74, .fld 1 (.tmp 4), none, 0⟩,
    ⟨some 75, .load false 1 (.tmp 74), none, 0⟩,
    ⟨some 76, .mv (.tmp 2), none, 0⟩,
    ⟨some 77, .mv (.tmp 9), none, 0⟩,
    ⟨some 78, .idx 1 (.tmp 76) (.tmp 77), none, 0⟩,
    ⟨some 79, .load false 1 (.tmp 78), none, 0⟩,
    ⟨some 80, .idx 1 (.tmp 75) (.tmp 79), none, 0⟩,
    ⟨some 81, .load false 1 (.tmp 80), none, 0⟩,
    ⟨some 82, .bin .neq (.tmp 73) (.tmp 81), none, 0⟩]) <|
  .cond (.tmp 82)
    (.seq (.ops [
      ⟨some 6, .mv (.const (.bool false)), none, 0⟩,
      ⟨some 7, .mv (.const (.int .i64 0)), none, 0⟩]) <|
    .keep [6, 7] <|
    .ret)
    (.skip)) <|
  .ops [
    ⟨some 46, .mv (.tmp 9), none, 0⟩,
    ⟨some 47, .bin .add (.tmp 46) (.const (.int .i64 1)), none, 0⟩,
    ⟨some 9, .mv (.tmp 47), none, 0⟩]
def i_spec_IsCover : FF := ⟨83, [.tmp 6, .tmp 7],
  .seq (.ops [
    ⟨some 3, .box 2 (.tmp 0), none, 0⟩,
    ⟨some 4, .box 2 (.tmp 1), none, 0⟩,
    ⟨some 6, .mv (.const (.bool false)), none, 0⟩,
    ⟨some 7, .mv (.const (.int .i64 0)), none, 0⟩]) <|
  .seq (.seq (.ops [
    ⟨some 14, .load true 2 (.tmp 3), none, 0⟩,
    ⟨some 15, .call k_spec_l01Is [(.tmp 14)], none, 0⟩,
    ⟨some 16, .un .not (.tmp 15), none, 0⟩,
    ⟨some 17, .mv (.tmp 16), none, 0⟩,
    ⟨some 18, .load true 2 (.tmp 4), some (17, false), 0⟩,
    ⟨some 19, .call k_spec_l01Is [(.tmp 18)], some (17, false), 0⟩,
    ⟨some 20, .un .not (.tmp 19), some (17, false), 0⟩,
    ⟨some 21, .pick (.tmp 17) (.const (.bool true)) (.tmp 20), none, 0⟩]) <|
  .cond (.tmp 21)
    (.seq (.ops [
      ⟨some 6, .mv (.const (.bool false)), none, 0⟩,
      ⟨some 7, .mv (.const (.int .i64 1)), none, 0⟩]) <|
    .keep [6, 7] <|
    .ret)
    (.skip)) <|
  .seq (.seq (.ops [
    ⟨some 22, .mv (.tmp 2), none, 0⟩,
    ⟨some 23, .len (.tmp 22), none, 0⟩,
    ⟨some 24, .fld 0 (.tmp 3), none, 0⟩,
    ⟨some 25, .load false 1 (.tmp 24), none, 0⟩,
    ⟨some 26, .bin .neq (.tmp 23) (.tmp 25), none, 0⟩]) <|
  .cond (.tmp 26)
    (.seq (.ops [
      ⟨some 6, .mv (.const (.bool false)), none, 0⟩,
      ⟨some 7, .mv (.const (.int .i64 2)), none, 0⟩]) <|
    .keep [6, 7] <|
    .ret)
    (.skip)) <|
  .seq (.seq (.ops [
    ⟨some 8, .mv (.const (.int .i64 0)), none, 0⟩]) <|
  .block 0 <|
  .loop [2, 3, 4, 8] i_spec_IsCover_B1) <|
  .seq (.seq (.ops [
    ⟨some 9, .mv (.const (.int .i64 0)), none, 0⟩]) <|
  .block 2 <|
  .loop [2, 3, 4, 9] i_spec_IsCover_B3) <|
  .seq (.ops [
    ⟨some 6, .mv (.const (.bool true)), none, 0⟩,
    ⟨some 7, .mv (.const (.int .i64 0)), none, 0⟩]) <|
  .keep [6, 7] <|
  .ret⟩

theorem e_spec_IsCover : EntOK Try.prog (compD Try.prog) k_spec_IsCover i_spec_IsCover.vf :=
  ⟨Try.f25, Try.f25.body.getD .skip, Try.func25, by kernel_rfl, by kernel_rfl, by kernel_rfl, by kernel_rfl, by kernel_rfl⟩

/-- loop.example/g01331/laws.toInt64S -/
def i_laws_toInt64S_B1 : FC :=
  .seq (.seq (.ops [
    ⟨some 8, .mv (.tmp 4), none, 0⟩,
    ⟨some 9, .mv (.tmp 0), none, 0⟩,
    ⟨some 10, .len (.tmp 9), none, 0⟩,
    ⟨some 11, .bin .lss (.tmp 8) (.tmp 10), none, 0⟩]) <|
  .cond (.tmp 11)
    (.skip)
    (.keep [3] <|
    .exit 0)) <|
  .seq (.block 1 <|
  .ops [
    ⟨some 14, .mv (.tmp 3), none, 0⟩,
    ⟨some 15, .mv (.tmp 4), none, 0⟩,
    ⟨some 16, .mv (.tmp 0), none, 0⟩,
    ⟨some 17, .mv (.tmp 4), none, 0⟩,
    ⟨some 18, .idx 1 (.tmp 16) (.tmp 17), none, 0⟩,
    ⟨some 19, .load false 1 (.tmp 18), none, 0⟩,
    ⟨some 20, .idx 1 (.tmp 14) (.tmp 15), none, 0⟩,
    ⟨none, .store 1 (.tmp 20) (.tmp 19), none, 0⟩]) <|
  .ops [
    ⟨some 12, .mv (.tmp 4), none, 0⟩,
    ⟨some 13, .bin .add (.tmp 12) (.const (.int .i64 1)), none, 0⟩,
    ⟨some 4, .mv (.tmp 13), none, 0⟩]
def i_laws_toInt64S : FF := ⟨22, [.tmp 2],
  .seq (.ops [
    ⟨some 2, .mv (.const (.slice none 0 0)), none, 0⟩]) <|
  .seq (.ops [
    ⟨some 5, .mv (.tmp 0), none, 0⟩,
    ⟨some 6, .len (.tmp 5), none, 0⟩,
    ⟨some 7, .mkSl 1 [.int .i64 0] 8 (.tmp 6) (.tmp 6), none, 0⟩,
    ⟨some 3, .mv (.tmp 7), none, 0⟩]) <|
  .seq (.seq (.ops [
    ⟨some 4, .mv (.const (.int .i64 0)), none, 0⟩]) <|
  .block 0 <|
  .loop [0, 3, 4] i_laws_toInt64S_B1) <|
  .seq (.ops [
    ⟨some 21, .mv (.tmp 3), none, 0⟩,
    ⟨some 2, .mv (.tmp 21), none, 0⟩]) <|
  .keep [2] <|
  .ret⟩

theorem e_laws_toInt64S : EntOK Try.prog (compD Try.prog) k_laws_toInt64S i_laws_toInt64S.vf :=
  ⟨Try.f26, Try.f26.body.getD .skip, Try.func26, by kernel_rfl, by kernel_rfl, by kernel_rfl, by kernel_rfl, by kernel_rfl⟩

/-- loop.example/g01331/impl.IsCover -/
def i_impl_IsCover_B1 : FC :=
  .seq (.ops [
    ⟨some 35, .bin .lss (.tmp 34) (.tmp 33), none, 0⟩]) <|
  .seq (.cond (.tmp 35)
    (.skip)
    (.keep [2, 3, 4, 8, 9, 28, 29] <|
    .exit 2)) <|
  .seq (.block 3 <|
  .seq (.ops [
    ⟨some 36, .mv (.tmp 34), none, 0⟩,
    ⟨some 10, .mv (.tmp 36), none, 0⟩]) <|
  .seq (.ops [
    ⟨some 37, .load true 2 (.tmp 3), none, 0⟩,
    ⟨some 38, .mv (.tmp 8), none, 0⟩,
    ⟨some 39, .mv (.tmp 10), none, 0⟩,
    ⟨some 40, .call k_impl_Graph_has [(.tmp 37), (.tmp 38), (.tmp 39)], none, 0⟩]) <|
  .cond (.tmp 40)
    (.ops [
      ⟨some 41, .mv (.tmp 9), none, 0⟩,
      ⟨some 42, .mv (.tmp 2), none, 0⟩,
      ⟨some 43, .mv (.tmp 10), none, 0⟩,
      ⟨some 44, .idx 1 (.tmp 42) (.tmp 43), none, 0⟩,
      ⟨some 45, .load false 1 (.tmp 44), none, 0⟩,
      ⟨some 46, .bin .shl (.const (.int .i64 1)) (.tmp 45), none, 0⟩,
      ⟨some 47, .bin .or (.tmp 41) (.tmp 46), none, 0⟩,
      ⟨some 9, .mv (.tmp 47), none, 0⟩])
    (.skip)) <|
  .ops [
    ⟨some 48, .bin .add (.tmp 34) (.const (.int .i64 1)), none, 0⟩,
    ⟨some 34, .mv (.tmp 48), none, 0⟩]
def i_impl_IsCover_B2 : FC :=
  .seq (.ops [
    ⟨some 30, .bin .lss (.tmp 29) (.tmp 28), none, 0⟩]) <|
  .seq (.cond (.tmp 30)
    (.skip)
    (.keep [] <|
    .exit 0)) <|
  .seq (.block 1 <|
  .seq (.ops [
    ⟨some 31, .mv (.tmp 29), none, 0⟩,
    ⟨some 8, .mv (.tmp 31), none, 0⟩]) <|
  .seq (.ops [
    ⟨some 9, .mv (.const (.int .i64 0)), none, 0⟩]) <|
  .seq (.seq (.ops [
    ⟨some 32, .fld 0 (.tmp 3), none, 0⟩,
    ⟨some 33, .load false 1 (.tmp 32), none, 0⟩,
    ⟨some 34, .mv (.const (.int .i64 0)), none, 0⟩]) <|
  .block 2 <|
  .loop [2, 3, 4, 8, 9, 28, 29, 33, 34] i_impl_IsCover_B1) <|
  .seq (.dops [
    ⟨some 49, .mv (.tmp 9), none, 0⟩,
    ⟨some 50, .fld 1 (.tmp 4), none, 0⟩,
    ⟨some 51, .load false 1 (.tmp 50), none, 0⟩,
    ⟨some 52, .mv (.tmp 2), none, 0⟩,
    ⟨some 53, .mv (.tmp 8), none, 0⟩,
    ⟨some 54, .idx 1 (.tmp 52) (.tmp 53), none, 0⟩,
    ⟨some 55, .load false 1 (.tmp 54), none, 0⟩,
    ⟨some 56, .idx 1 (.tmp 51) (.tmp 55), none, 0⟩,
    ⟨some 57, .load false 1 (.tmp 56), none, 0⟩,
    ⟨some 58, .bin .neq (.tmp 49) (.tmp 57), none, 0⟩,
    ⟨some 59, .mv (.tmp 58), none, 0⟩,
    ⟨some 60, .mv (.tmp 9), some (59, false), 0⟩,
    ⟨some 61, .call k_impl_size [(.tmp 60)], some (59, false), 0⟩,
    ⟨some 62, .load true 2 (.tmp 3), some (59, false), 1⟩,
    ⟨some 63, .mv (.tmp 8), some (59, false), 1⟩,
    ⟨some 64, .call k_impl_Graph_degree [(.tmp 62), (.tmp 63)], some (59, false), 0⟩,
    ⟨some 65, .bin .neq (.tmp 61) (.tmp 64), some (59, false), 0⟩,
    ⟨some 66, .pick (.tmp 59) (.const (.bool true)) (.tmp 65), none, 0⟩]) <|
  .cond (.tmp 66)
    (.seq (.ops [
      ⟨some 6, .mv (.const (.bool false)), none, 0⟩,
      ⟨some 7, .mv (.const (.int .i64 0)), none, 0⟩]) <|
    .keep [6, 7] <|
    .ret)
    (.skip)) <|
  .ops [
    ⟨some 67, .bin .add (.tmp 29) (.const (.int .i64 1)), none, 0⟩,
    ⟨some 29, .mv (.tmp 67), none, 0⟩]
def i_impl_IsCover : FF := ⟨68, [.tmp 6, .tmp 7],
  .seq (.ops [
    ⟨some 3, .box 2 (.tmp 0), none, 0⟩,
    ⟨some 4, .box 2 (.tmp 1), none, 0⟩,
    ⟨some 6, .mv (.const (.bool false)), none, 0⟩,
    ⟨some 7, .mv (.const (.int .i64 0)), none, 0⟩]) <|
  .seq (.seq (.ops [
    ⟨some 11, .load true 2 (.tmp 3), none, 0⟩,
    ⟨some 12, .load true 2 (.tmp 4), none, 0⟩,
    ⟨some 13, .buildSl 2 [.int .i64 0, .slice none 0 0, .int .i64 0, .slice none 0 0] [(0, 2, (.tmp 11)), (2, 2, (.tmp 12))] 2, none, 0⟩,
    ⟨some 14, .call k_impl_areGraphs [(.tmp 13)], none, 0⟩,
    ⟨some 15, .un .not (.tmp 14), none, 0⟩]) <|
  .cond (.tmp 15)
    (.seq (.ops [
      ⟨some 6, .mv (.const (.bool false)), none, 0⟩,
      ⟨some 7, .mv (.const (.int .i64 1)), none, 0⟩]) <|
    .keep [6, 7] <|
    .ret)
    (.skip)) <|
  .seq (.seq (.ops [
    ⟨some 16, .mv (.tmp 2), none, 0⟩,
    ⟨some 17, .len (.tmp 16), none, 0⟩,
    ⟨some 18, .fld 0 (.tmp 3), none, 0⟩,
    ⟨some 19, .load false 1 (.tmp 18), none, 0⟩,
    ⟨some 20, .bin .neq (.tmp 17) (.tmp 19), none, 0⟩,
    ⟨some 21, .mv (.tmp 20), none, 0⟩,
    ⟨some 22, .load true 2 (.tmp 4), some (21, false), 0⟩,
    ⟨some 23, .mv (.tmp 2), some (21, false), 0⟩,
    ⟨some 24, .call k_impl_graphCode [(.tmp 22), (.tmp 23)], some (21, false), 0⟩,
    ⟨some 25, .bin .neq (.tmp 24) (.const (.int .i64 0)), some (21, false), 0⟩,
    ⟨some 26, .pick (.tmp 21) (.const (.bool true)) (.tmp 25), none, 0⟩]) <|
  .cond (.tmp 26)
    (.seq (.ops [
      ⟨some 6, .mv (.const (.bool false)), none, 0⟩,
      ⟨some 7, .mv (.const (.int .i64 2)), none, 0⟩]) <|
    .keep [6, 7] <|
    .ret)
    (.skip)) <|
  .seq (.seq (.ops [
    ⟨some 27, .fld 0 (.tmp 3), none, 0⟩,
    ⟨some 28, .load false 1 (.tmp 27), none, 0⟩,
    ⟨some 29, .mv (.const (.int .i64 0)), none, 0⟩]) <|
  .block 0 <|
  .loop [2, 3, 4, 28, 29] i_impl_IsCover_B2) <|
  .seq (.ops [
    ⟨some 6, .mv (.const (.bool true)), none, 0⟩,
    ⟨some 7, .mv (.const (.int .i64 0)), none, 0⟩]) <|
  .keep [6, 7] <|
  .ret⟩

theorem e_impl_IsCover : EntOK Try.prog (compD Try.prog) k_impl_IsCover i_impl_IsCover.vf :=
  ⟨Try.f27, Try.f27.body.getD .skip, Try.func27, by kernel_rfl, by kernel_rfl, by kernel_rfl, by kernel_rfl, by kernel_rfl⟩

/-- loop.example/g01331/laws.eqInt64S -/
def i_laws_eqInt64S_B1 : FC :=
  .seq (.seq (.ops [
    ⟨some 11, .mv (.tmp 5), none, 0⟩,
    ⟨some 12, .mv (.tmp 0), none, 0⟩,
    ⟨some 13, .len (.tmp 12), none, 0⟩,
    ⟨some 14, .bin .lss (.tmp 11) (.tmp 13), none, 0⟩]) <|
  .cond (.tmp 14)
    (.skip)
    (.keep [] <|
    .exit 0)) <|
  .seq (.block 1 <|
  .seq (.dops [
    ⟨some 17, .mv (.tmp 0), none, 0⟩,
    ⟨some 18, .mv (.tmp 5), none, 0⟩,
    ⟨some 19, .idx 1 (.tmp 17) (.tmp 18), none, 0⟩,
    ⟨some 20, .load false 1 (.tmp 19), none, 0⟩,
    ⟨some 21, .mv (.tmp 1), none, 0⟩,
    ⟨some 22, .mv (.tmp 5), none, 0⟩,
    ⟨some 23, .idx 1 (.tmp 21) (.tmp 22), none, 0⟩,
    ⟨some 24, .load false 1 (.tmp 23), none, 0⟩,
    ⟨some 25, .bin .neq (.tmp 20) (.tmp 24), none, 0⟩]) <|
  .cond (.tmp 25)
    (.seq (.ops [
      ⟨some 4, .mv (.const (.bool false)), none, 0⟩]) <|
    .keep [4] <|
    .ret)
    (.skip)) <|
  .ops [
    ⟨some 15, .mv (.tmp 5), none, 0⟩,
    ⟨some 16, .bin .add (.tmp 15) (.const (.int .i64 1)), none, 0⟩,
    ⟨some 5, .mv (.tmp 16), none, 0⟩]
def i_laws_eqInt64S : FF := ⟨26, [.tmp 4],
  .seq (.ops [
    ⟨some 4, .mv (.const (.bool false)), none, 0⟩]) <|
  .seq (.seq (.ops [
    ⟨some 6, .mv (.tmp 0), none, 0⟩,
    ⟨some 7, .len (.tmp 6), none, 0⟩,
    ⟨some 8, .mv (.tmp 1), none, 0⟩,
    ⟨some 9, .len (.tmp 8), none, 0⟩,
    ⟨some 10, .bin .neq (.tmp 7) (.tmp 9), none, 0⟩]) <|
  .cond (.tmp 10)
    (.seq (.ops [
      ⟨some 4, .mv (.const (.bool false)), none, 0⟩]) <|
    .keep [4] <|
    .ret)
    (.skip)) <|
  .seq (.seq (.ops [
    ⟨some 5, .mv (.const (.int .i64 0)), none, 0⟩]) <|
  .block 0 <|
  .loop [0, 1, 5] i_laws_eqInt64S_B1) <|
  .seq (.ops [
    ⟨some 4, .mv (.const (.bool true)), none, 0⟩]) <|
  .keep [4] <|
  .ret⟩

theorem e_laws_eqInt64S : EntOK Try.prog (compD Try.prog) k_laws_eqInt64S i_laws_eqInt64S.vf :=
  ⟨Try.f28, Try.f28.body.getD .skip, Try.func28, by kernel_rfl, by kernel_rfl, by kernel_rfl, by kernel_rfl, by kernel_rfl⟩

/-- loop.example/g01331/spec.PartOn -/
def i_spec_PartOn_B1 : FC :=
  .seq (.seq (.ops [
    ⟨some 19, .mv (.tmp 7), none, 0⟩,
    ⟨some 20, .mv (.tmp 1), none, 0⟩,
    ⟨some 21, .len (.tmp 20), none, 0⟩,
    ⟨some 22, .bin .lss (.tmp 19) (.tmp 21), none, 0⟩]) <|
  .cond (.tmp 22)
    (.skip)
    (.keep [1, 2, 4] <|
    .exit 0)) <|
  .seq (.block 1 <|
  .seq (.dops [
    ⟨some 25, .mv (.tmp 1), none, 0⟩,
    ⟨some 26, .mv (.tmp 7), none, 0⟩,
    ⟨some 27, .idx 1 (.tmp 25) (.tmp 26), none, 0⟩,
    ⟨some 28, .load false 1 (.tmp 27), none, 0⟩,
    ⟨some 29, .mv (.tmp 1), none, 0⟩,
    ⟨some 30, .mv (.tmp 7), none, 0⟩,
    ⟨some 31, .bin .sub (.tmp 30) (.const (.int .i64 1)), none, 0⟩,
    ⟨some 32, .idx 1 (.tmp 29) (.tmp 31), none, 0⟩,
    ⟨some 33, .load false 1 (.tmp 32), none, 0⟩,
    ⟨some 34, .bin .leq (.tmp 28) (.tmp 33), none, 0⟩]) <|
  .cond (.tmp 34)
    (.seq (.ops [
      ⟨some 35, .build [.int .i64 0, .slice none 0 0] [], none, 0⟩,
      ⟨none, .store 2 (.tmp 4) (.tmp 35), none, 0⟩,
      ⟨some 5, .mv (.const (.int .i64 2)), none, 0⟩]) <|
    .keep [4, 5] <|
    .ret)
    (.skip)) <|
  .ops [
    ⟨some 23, .mv (.tmp 7), none, 0⟩,
    ⟨some 24, .bin .add (.tmp 23) (.const (.int .i64 1)), none, 0⟩,
    ⟨some 7, .mv (.tmp 24), none, 0⟩]
def i_spec_PartOn : FF := ⟨39, [.cell 4 true 2, .tmp 5],
  .seq (.ops [
    ⟨some 2, .box 2 (.tmp 0), none, 0⟩,
    ⟨some 4, .alloc [.int .i64 0, .slice none 0 0], none, 0⟩,
    ⟨some 5, .mv (.const (.int .i64 0)), none, 0⟩]) <|
  .seq (.seq (.ops [
    ⟨some 8, .load true 2 (.tmp 2), none, 0⟩,
    ⟨some 9, .mv (.tmp 1), none, 0⟩,
    ⟨some 10, .call k_spec_l01Vertices [(.tmp 8), (.tmp 9)], none, 0⟩,
    ⟨some 6, .mv (.tmp 10), none, 0⟩]) <|
  .seq (.ops [
    ⟨some 11, .mv (.tmp 6), none, 0⟩,
    ⟨some 12, .bin .neq (.tmp 11) (.const (.int .i64 0)), none, 0⟩]) <|
  .cond (.tmp 12)
    (.seq (.ops [
      ⟨some 13, .build [.int .i64 0, .slice none 0 0] [], none, 0⟩,
      ⟨some 14, .mv (.tmp 6), none, 0⟩,
      ⟨none, .store 2 (.tmp 4) (.tmp 13), none, 0⟩,
      ⟨some 5, .mv (.tmp 14), none, 0⟩]) <|
    .keep [4, 5] <|
    .ret)
    (.skip)) <|
  .seq (.seq (.ops [
    ⟨some 15, .mv (.tmp 1), none, 0⟩,
    ⟨some 16, .len (.tmp 15), none, 0⟩,
    ⟨some 17, .bin .eql (.tmp 16) (.const (.int .i64 0)), none, 0⟩]) <|
  .cond (.tmp 17)
    (.seq (.ops [
      ⟨some 18, .build [.int .i64 0, .slice none 0 0] [], none, 0⟩,
      ⟨none, .store 2 (.tmp 4) (.tmp 18), none, 0⟩,
      ⟨some 5, .mv (.const (.int .i64 2)), none, 0⟩]) <|
    .keep [4, 5] <|
    .ret)
    (.skip)) <|
  .seq (.seq (.ops [
    ⟨some 7, .mv (.const (.int .i64 1)), none, 0⟩]) <|
  .block 0 <|
  .loop [1, 2, 4, 7] i_spec_PartOn_B1) <|
  .seq (.ops [
    ⟨some 36, .load true 2 (.tmp 2), none, 0⟩,
    ⟨some 37, .mv (.tmp 1), none, 0⟩,
    ⟨some 38, .call k_spec_l01On [(.tmp 36), (.tmp 37)], none, 0⟩,
    ⟨none, .store 2 (.tmp 4) (.tmp 38), none, 0⟩,
    ⟨some 5, .mv (.const (.int .i64 0)), none, 0⟩]) <|
  .keep [4, 5] <|
  .ret⟩

theorem e_spec_PartOn : EntOK Try.prog (compD Try.prog) k_spec_PartOn i_spec_PartOn.vf :=
  ⟨Try.f29, Try.f29.body.getD .skip, Try.func29, by kernel_rfl, by kernel_rfl, by kernel_rfl, by kernel_rfl, by kernel_rfl⟩

/-- loop.example/g01331/impl.PartOn -/
def i_impl_PartOn_B1 : FC :=
  .seq (.seq (.ops [
    ⟨some 15, .mv (.tmp 7), none, 0⟩,
    ⟨some 16, .mv (.tmp 1), none, 0⟩,
    ⟨some 17, .len (.tmp 16), none, 0⟩,
    ⟨some 18, .bin .lss (.tmp 15) (.tmp 17), none, 0⟩]) <|
  .cond (.tmp 18)
    (.skip)
    (.keep [1, 2, 4] <|
    .exit 0)) <|
  .seq (.block 1 <|
  .seq (.dops [
    ⟨some 21, .mv (.tmp 1), none, 0⟩,
    ⟨some 22, .mv (.tmp 7), none, 0⟩,
    ⟨some 23, .idx 1 (.tmp 21) (.tmp 22), none, 0⟩,
    ⟨some 24, .load false 1 (.tmp 23), none, 0⟩,
    ⟨some 25, .mv (.tmp 1), none, 0⟩,
    ⟨some 26, .mv (.tmp 7), none, 0⟩,
    ⟨some 27, .bin .sub (.tmp 26) (.const (.int .i64 1)), none, 0⟩,
    ⟨some 28, .idx 1 (.tmp 25) (.tmp 27), none, 0⟩,
    ⟨some 29, .load false 1 (.tmp 28), none, 0⟩,
    ⟨some 30, .bin .leq (.tmp 24) (.tmp 29), none, 0⟩]) <|
  .cond (.tmp 30)
    (.seq (.ops [
      ⟨some 31, .build [.int .i64 0, .slice none 0 0] [], none, 0⟩,
      ⟨none, .store 2 (.tmp 4) (.tmp 31), none, 0⟩,
      ⟨some 5, .mv (.const (.int .i64 2)), none, 0⟩]) <|
    .keep [4, 5] <|
    .ret)
    (.skip)) <|
  .ops [
    ⟨some 19, .mv (.tmp 7), none, 0⟩,
    ⟨some 20, .bin .add (.tmp 19) (.const (.int .i64 1)), none, 0⟩,
    ⟨some 7, .mv (.tmp 20), none, 0⟩]
def i_impl_PartOn : FF := ⟨39, [.cell 4 true 2, .tmp 5],
  .seq (.ops [
    ⟨some 2, .box 2 (.tmp 0), none, 0⟩,
    ⟨some 4, .alloc [.int .i64 0, .slice none 0 0], none, 0⟩,
    ⟨some 5, .mv (.const (.int .i64 0)), none, 0⟩]) <|
  .seq (.seq (.ops [
    ⟨some 8, .load true 2 (.tmp 2), none, 0⟩,
    ⟨some 9, .mv (.tmp 1), none, 0⟩,
    ⟨some 10, .call k_impl_graphCode [(.tmp 8), (.tmp 9)], none, 0⟩,
    ⟨some 6, .mv (.tmp 10), none, 0⟩]) <|
  .seq (.ops [
    ⟨some 11, .mv (.tmp 6), none, 0⟩,
    ⟨some 12, .bin .neq (.tmp 11) (.const (.int .i64 0)), none, 0⟩]) <|
  .cond (.tmp 12)
    (.seq (.ops [
      ⟨some 13, .build [.int .i64 0, .slice none 0 0] [], none, 0⟩,
      ⟨some 14, .mv (.tmp 6), none, 0⟩,
      ⟨none, .store 2 (.tmp 4) (.tmp 13), none, 0⟩,
      ⟨some 5, .mv (.tmp 14), none, 0⟩]) <|
    .keep [4, 5] <|
    .ret)
    (.skip)) <|
  .seq (.seq (.ops [
    ⟨some 7, .mv (.const (.int .i64 1)), none, 0⟩]) <|
  .block 0 <|
  .loop [1, 2, 4, 7] i_impl_PartOn_B1) <|
  .seq (.seq (.ops [
    ⟨some 32, .mv (.tmp 1), none, 0⟩,
    ⟨some 33, .len (.tmp 32), none, 0⟩,
    ⟨some 34, .bin .eql (.tmp 33) (.const (.int .i64 0)), none, 0⟩]) <|
  .cond (.tmp 34)
    (.seq (.ops [
      ⟨some 35, .build [.int .i64 0, .slice none 0 0] [], none, 0⟩,
      ⟨none, .store 2 (.tmp 4) (.tmp 35), none, 0⟩,
      ⟨some 5, .mv (.const (.int .i64 2)), none, 0⟩]) <|
    .keep [4, 5] <|
    .ret)
    (.skip)) <|
  .seq (.ops [
    ⟨some 36, .load true 2 (.tmp 2), none, 0⟩,
    ⟨some 37, .mv (.tmp 1), none, 0⟩,
    ⟨some 38, .call k_impl_Graph_partOn [(.tmp 36), (.tmp 37)], none, 0⟩,
    ⟨none, .store 2 (.tmp 4) (.tmp 38), none, 0⟩,
    ⟨some 5, .mv (.const (.int .i64 0)), none, 0⟩]) <|
  .keep [4, 5] <|
  .ret⟩

theorem e_impl_PartOn : EntOK Try.prog (compD Try.prog) k_impl_PartOn i_impl_PartOn.vf :=
  ⟨Try.f30, Try.f30.body.getD .skip, Try.func30, by kernel_rfl, by kernel_rfl, by kernel_rfl, by kernel_rfl, by kernel_rfl⟩

/-- loop.example/g01331/laws.markInt64S -/
def i_laws_markInt64S_B1 : FC :=
  .seq (.seq (.ops [
    ⟨some 6, .mv (.tmp 5), none, 0⟩,
    ⟨some 7, .mv (.tmp 0), none, 0⟩,
    ⟨some 8, .len (.tmp 7), none, 0⟩,
    ⟨some 9, .bin .lss (.tmp 6) (.tmp 8), none, 0⟩]) <|
  .cond (.tmp 9)
    (.skip)
    (.keep [1] <|
    .exit 0)) <|
  .seq (.block 1 <|
  .seq (.ops [
    ⟨some 12, .mv (.tmp 0), none, 0⟩,
    ⟨some 13, .mv (.tmp 5), none, 0⟩,
    ⟨some 14, .mv (.tmp 1), none, 0⟩,
    ⟨some 15, .idx 1 (.tmp 12) (.tmp 13), none, 0⟩,
    ⟨none, .store 1 (.tmp 15) (.tmp 14), none, 0⟩]) <|
  .ops [
    ⟨some 16, .mv (.tmp 1), none, 0⟩,
    ⟨some 17, .bin .add (.tmp 16) (.const (.int .i64 1)), none, 0⟩,
    ⟨some 1, .mv (.tmp 17), none, 0⟩]) <|
  .ops [
    ⟨some 10, .mv (.tmp 5), none, 0⟩,
    ⟨some 11, .bin .add (.tmp 10) (.const (.int .i64 1)), none, 0⟩,
    ⟨some 5, .mv (.tmp 11), none, 0⟩]
def i_laws_markInt64S : FF := ⟨19, [.tmp 4],
  .seq (.ops [
    ⟨some 4, .mv (.const (.int .i64 0)), none, 0⟩]) <|
  .seq (.seq (.ops [
    ⟨some 5, .mv (.const (.int .i64 0)), none, 0⟩]) <|
  .block 0 <|
  .loop [0, 1, 5] i_laws_markInt64S_B1) <|
  .seq (.ops [
    ⟨some 18, .mv (.tmp 1), none, 0⟩,
    ⟨some 4, .mv (.tmp 18), none, 0⟩]) <|
  .keep [4] <|
  .ret⟩

theorem e_laws_markInt64S : EntOK Try.prog (compD Try.prog) k_laws_markInt64S i_laws_markInt64S.vf :=
  ⟨Try.f31, Try.f31.body.getD .skip, Try.func31, by kernel_rfl, by kernel_rfl, by kernel_rfl, by kernel_rfl, by kernel_rfl⟩

/-- loop.example/g01331/spec.PutEdge -/
def i_spec_PutEdge : FF := ⟨29, [.cell 6 true 2, .tmp 7],
  .seq (.ops [
    ⟨some 3, .box 2 (.tmp 0), none, 0⟩,
    ⟨some 6, .alloc [.int .i64 0, .slice none 0 0], none, 0⟩,
    ⟨some 7, .mv (.const (.int .i64 0)), none, 0⟩]) <|
  .seq (.ops [
    ⟨some 9, .load true 2 (.tmp 3), none, 0⟩,
    ⟨some 10, .mv (.tmp 1), none, 0⟩,
    ⟨some 11, .mv (.tmp 2), none, 0⟩,
    ⟨some 12, .call k_spec_l01Two [(.tmp 9), (.tmp 10), (.tmp 11)], none, 0⟩,
    ⟨some 8, .mv (.tmp 12), none, 0⟩]) <|
  .seq (.seq (.ops [
    ⟨some 13, .mv (.tmp 8), none, 0⟩,
    ⟨some 14, .bin .eql (.tmp 13) (.const (.int .i64 0)), none, 0⟩,
    ⟨some 15, .mv (.tmp 14), none, 0⟩,
    ⟨some 16, .load true 2 (.tmp 3), some (15, true), 0⟩,
    ⟨some 17, .mv (.tmp 1), some (15, true), 0⟩,
    ⟨some 18, .mv (.tmp 2), some (15, true), 0⟩,
    ⟨some 19, .call k_spec_l01Has [(.tmp 16), (.tmp 17), (.tmp 18)], some (15, true), 0⟩,
    ⟨some 20, .pick (.tmp 15) (.tmp 19) (.const (.bool false)), none, 0⟩]) <|
  .cond (.tmp 20)
    (.ops [
      ⟨some 8, .mv (.const (.int .i64 5)), none, 0⟩])
    (.skip)) <|
  .seq (.seq (.ops [
    ⟨some 21, .mv (.tmp 8), none, 0⟩,
    ⟨some 22, .bin .neq (.tmp 21) (.const (.int .i64 0)), none, 0⟩]) <|
  .cond (.tmp 22)
    (.seq (.ops [
      ⟨some 23, .build [.int .i64 0, .slice none 0 0] [], none, 0⟩,
      ⟨some 24, .mv (.tmp 8), none, 0⟩,
      ⟨none, .store 2 (.tmp 6) (.tmp 23), none, 0⟩,
      ⟨some 7, .mv (.tmp 24), none, 0⟩]) <|
    .keep [6, 7] <|
    .ret)
    (.skip)) <|
  .seq (.ops [
    ⟨some 25, .load true 2 (.tmp 3), none, 0⟩,
    ⟨some 26, .mv (.tmp 1), none, 0⟩,
    ⟨some 27, .mv (.tmp 2), none, 0⟩,
    ⟨some 28, .call k_spec_l01Join [(.tmp 25), (.tmp 26), (.tmp 27)], none, 0⟩,
    ⟨none, .store 2 (.tmp 6) (.tmp 28), none, 0⟩,
    ⟨some 7, .mv (.const (.int .i64 0)), none, 0⟩]) <|
  .keep [6, 7] <|
  .ret⟩

theorem e_spec_PutEdge : EntOK Try.prog (compD Try.prog) k_spec_PutEdge i_spec_PutEdge.vf :=
  ⟨Try.f32, Try.f32.body.getD .skip, Try.func32, by kernel_rfl, by kernel_rfl, by kernel_rfl, by kernel_rfl, by kernel_rfl⟩

/-- loop.example/g01331/impl.PutEdge -/
def i_impl_PutEdge : FF := ⟨30, [.cell 6 true 2, .tmp 7],
  .seq (.ops [
    ⟨some 3, .box 2 (.tmp 0), none, 0⟩,
    ⟨some 6, .alloc [.int .i64 0, .slice none 0 0], none, 0⟩,
    ⟨some 7, .mv (.const (.int .i64 0)), none, 0⟩]) <|
  .seq (.seq (.ops [
    ⟨some 10, .load true 2 (.tmp 3), none, 0⟩,
    ⟨some 11, .mv (.tmp 1), none, 0⟩,
    ⟨some 12, .mv (.tmp 2), none, 0⟩,
    ⟨some 13, .call k_impl_pairCode [(.tmp 10), (.tmp 11), (.tmp 12)], none, 0⟩,
    ⟨some 8, .mv (.tmp 13), none, 0⟩]) <|
  .seq (.ops [
    ⟨some 14, .mv (.tmp 8), none, 0⟩,
    ⟨some 15, .bin .neq (.tmp 14) (.const (.int .i64 0)), none, 0⟩]) <|
  .cond (.tmp 15)
    (.seq (.ops [
      ⟨some 16, .build [.int .i64 0, .slice none 0 0] [], none, 0⟩,
      ⟨some 17, .mv (.tmp 8), none, 0⟩,
      ⟨none, .store 2 (.tmp 6) (.tmp 16), none, 0⟩,
      ⟨some 7, .mv (.tmp 17), none, 0⟩]) <|
    .keep [6, 7] <|
    .ret)
    (.skip)) <|
  .seq (.seq (.ops [
    ⟨some 18, .load true 2 (.tmp 3), none, 0⟩,
    ⟨some 19, .mv (.tmp 1), none, 0⟩,
    ⟨some 20, .mv (.tmp 2), none, 0⟩,
    ⟨some 21, .call k_impl_Graph_has [(.tmp 18), (.tmp 19), (.tmp 20)], none, 0⟩]) <|
  .cond (.tmp 21)
    (.seq (.ops [
      ⟨some 22, .build [.int .i64 0, .slice none 0 0] [], none, 0⟩,
      ⟨none, .store 2 (.tmp 6) (.tmp 22), none, 0⟩,
      ⟨some 7, .mv (.const (.int .i64 5)), none, 0⟩]) <|
    .keep [6, 7] <|
    .ret)
    (.skip)) <|
  .seq (.ops [
    ⟨some 23, .load true 2 (.tmp 3), none, 0⟩,
    ⟨some 24, .call k_impl_own [(.tmp 23)], none, 0⟩,
    ⟨some 9, .alloc [.int .i64 0, .slice none 0 0], none, 0⟩,
    ⟨none, .store 2 (.tmp 9) (.tmp 24), none, 0⟩]) <|
  .seq (.ops [
    ⟨some 25, .load true 2 (.tmp 9), none, 0⟩,
    ⟨some 26, .mv (.tmp 1), none, 0⟩,
    ⟨some 27, .mv (.tmp 2), none, 0⟩,
    ⟨some 28, .call k_impl_Graph_put [(.tmp 25), (.tmp 26), (.tmp 27)], none, 0⟩]) <|
  .seq (.ops [
    ⟨some 29, .load true 2 (.tmp 9), none, 0⟩,
    ⟨none, .store 2 (.tmp 6) (.tmp 29), none, 0⟩,
    ⟨some 7, .mv (.const (.int .i64 0)), none, 0⟩]) <|
  .keep [6, 7] <|
  .ret⟩

theorem e_impl_PutEdge : EntOK Try.prog (compD Try.prog) k_impl_PutEdge i_impl_PutEdge.vf :=
  ⟨Try.f33, Try.f33.body.getD .skip, Try.func33, by kernel_rfl, by kernel_rfl, by kernel_rfl, by kernel_rfl, by kernel_rfl⟩

/-- loop.example/g01331/spec.TakeEdge -/
def i_spec_TakeEdge : FF := ⟨30, [.cell 6 true 2, .tmp 7],
  .seq (.ops [
    ⟨some 3, .box 2 (.tmp 0), none, 0⟩,
    ⟨some 6, .alloc [.int .i64 0, .slice none 0 0], none, 0⟩,
    ⟨some 7, .mv (.const (.int .i64 0)), none, 0⟩]) <|
  .seq (.ops [
    ⟨some 9, .load true 2 (.tmp 3), none, 0⟩,
    ⟨some 10, .mv (.tmp 1), none, 0⟩,
    ⟨some 11, .mv (.tmp 2), none, 0⟩,
    ⟨some 12, .call k_spec_l01Two [(.tmp 9), (.tmp 10), (.tmp 11)], none, 0⟩,
    ⟨some 8, .mv (.tmp 12), none, 0⟩]) <|
  .seq (.seq (.ops [
    ⟨some 13, .mv (.tmp 8), none, 0⟩,
    ⟨some 14, .bin .eql (.tmp 13) (.const (.int .i64 0)), none, 0⟩,
    ⟨some 15, .mv (.tmp 14), none, 0⟩,
    ⟨some 16, .load true 2 (.tmp 3), some (15, true), 0⟩,
    ⟨some 17, .mv (.tmp 1), some (15, true), 0⟩,
    ⟨some 18, .mv (.tmp 2), some (15, true), 0⟩,
    ⟨some 19, .call k_spec_l01Has [(.tmp 16), (.tmp 17), (.tmp 18)], some (15, true), 0⟩,
    ⟨some 20, .un .not (.tmp 19), some (15, true), 0⟩,
    ⟨some 21, .pick (.tmp 15) (.tmp 20) (.const (.bool false)), none, 0⟩]) <|
  .cond (.tmp 21)
    (.ops [
      ⟨some 8, .mv (.const (.int .i64 5)), none, 0⟩])
    (.skip)) <|
  .seq (.seq (.ops [
    ⟨some 22, .mv (.tmp 8), none, 0⟩,
    ⟨some 23, .bin .neq (.tmp 22) (.const (.int .i64 0)), none, 0⟩]) <|
  .cond (.tmp 23)
    (.seq (.ops [
      ⟨some 24, .build [.int .i64 0, .slice none 0 0] [], none, 0⟩,
      ⟨some 25, .mv (.tmp 8), none, 0⟩,
      ⟨none, .store 2 (.tmp 6) (.tmp 24), none, 0⟩,
      ⟨some 7, .mv (.tmp 25), none, 0⟩]) <|
    .keep [6, 7] <|
    .ret)
    (.skip)) <|
  .seq (.ops [
    ⟨some 26, .load true 2 (.tmp 3), none, 0⟩,
    ⟨some 27, .mv (.tmp 1), none, 0⟩,
    ⟨some 28, .mv (.tmp 2), none, 0⟩,
    ⟨some 29, .call k_spec_l01Cut [(.tmp 26), (.tmp 27), (.tmp 28)], none, 0⟩,
    ⟨none, .store 2 (.tmp 6) (.tmp 29), none, 0⟩,
    ⟨some 7, .mv (.const (.int .i64 0)), none, 0⟩]) <|
  .keep [6, 7] <|
  .ret⟩

theorem e_spec_TakeEdge : EntOK Try.prog (compD Try.prog) k_spec_TakeEdge i_spec_TakeEdge.vf :=
  ⟨Try.f34, Try.f34.body.getD .skip, Try.func34, by kernel_rfl, by kernel_rfl, by kernel_rfl, by kernel_rfl, by kernel_rfl⟩

/-- loop.example/g01331/impl.TakeEdge -/
def i_impl_TakeEdge : FF := ⟨31, [.cell 6 true 2, .tmp 7],
  .seq (.ops [
    ⟨some 3, .box 2 (.tmp 0), none, 0⟩,
    ⟨some 6, .alloc [.int .i64 0, .slice none 0 0], none, 0⟩,
    ⟨some 7, .mv (.const (.int .i64 0)), none, 0⟩]) <|
  .seq (.seq (.ops [
    ⟨some 10, .load true 2 (.tmp 3), none, 0⟩,
    ⟨some 11, .mv (.tmp 1), none, 0⟩,
    ⟨some 12, .mv (.tmp 2), none, 0⟩,
    ⟨some 13, .call k_impl_pairCode [(.tmp 10), (.tmp 11), (.tmp 12)], none, 0⟩,
    ⟨some 8, .mv (.tmp 13), none, 0⟩]) <|
  .seq (.ops [
    ⟨some 14, .mv (.tmp 8), none, 0⟩,
    ⟨some 15, .bin .neq (.tmp 14) (.const (.int .i64 0)), none, 0⟩]) <|
  .cond (.tmp 15)
    (.seq (.ops [
      ⟨some 16, .build [.int .i64 0, .slice none 0 0] [], none, 0⟩,
      ⟨some 17, .mv (.tmp 8), none, 0⟩,
      ⟨none, .store 2 (.tmp 6) (.tmp 16), none, 0⟩,
      ⟨some 7, .mv (.tmp 17), none, 0⟩]) <|
    .keep [6, 7] <|
    .ret)
    (.skip)) <|
  .seq (.seq (.ops [
    ⟨some 18, .load true 2 (.tmp 3), none, 0⟩,
    ⟨some 19, .mv (.tmp 1), none, 0⟩,
    ⟨some 20, .mv (.tmp 2), none, 0⟩,
    ⟨some 21, .call k_impl_Graph_has [(.tmp 18), (.tmp 19), (.tmp 20)], none, 0⟩,
    ⟨some 22, .un .not (.tmp 21), none, 0⟩]) <|
  .cond (.tmp 22)
    (.seq (.ops [
      ⟨some 23, .build [.int .i64 0, .slice none 0 0] [], none, 0⟩,
      ⟨none, .store 2 (.tmp 6) (.tmp 23), none, 0⟩,
      ⟨some 7, .mv (.const (.int .i64 5)), none, 0⟩]) <|
    .keep [6, 7] <|
    .ret)
    (.skip)) <|
  .seq (.ops [
    ⟨some 24, .load true 2 (.tmp 3), none, 0⟩,
    ⟨some 25, .call k_impl_own [(.tmp 24)], none, 0⟩,
    ⟨some 9, .alloc [.int .i64 0, .slice none 0 0], none, 0⟩,
    ⟨none, .store 2 (.tmp 9) (.tmp 25), none, 0⟩]) <|
  .seq (.ops [
    ⟨some 26, .load true 2 (.tmp 9), none, 0⟩,
    ⟨some 27, .mv (.tmp 1), none, 0⟩,
    ⟨some 28, .mv (.tmp 2), none, 0⟩,
    ⟨some 29, .call k_impl_Graph_take [(.tmp 26), (.tmp 27), (.tmp 28)], none, 0⟩]) <|
  .seq (.ops [
    ⟨some 30, .load true 2 (.tmp 9), none, 0⟩,
    ⟨none, .store 2 (.tmp 6) (.tmp 30), none, 0⟩,
    ⟨some 7, .mv (.const (.int .i64 0)), none, 0⟩]) <|
  .keep [6, 7] <|
  .ret⟩

theorem e_impl_TakeEdge : EntOK Try.prog (compD Try.prog) k_impl_TakeEdge i_impl_TakeEdge.vf :=
  ⟨Try.f35, Try.f35.body.getD .skip, Try.func35, by kernel_rfl, by kernel_rfl, by kernel_rfl, by kernel_rfl, by kernel_rfl⟩

/-- loop.example/g01331/spec.DirectProduct -/
def i_spec_DirectProduct : FF := ⟨29, [.cell 4 true 2, .tmp 5],
  .seq (.ops [
    ⟨some 2, .box 2 (.tmp 0), none, 0⟩,
    ⟨some 3, .box 2 (.tmp 1), none, 0⟩,
    ⟨some 4, .alloc [.int .i64 0, .slice none 0 0], none, 0⟩,
    ⟨some 5, .mv (.const (.int .i64 0)), none, 0⟩]) <|
  .seq (.seq (.ops [
    ⟨some 8, .load true 2 (.tmp 2), none, 0⟩,
    ⟨some 9, .load true 2 (.tmp 3), none, 0⟩,
    ⟨some 10, .buildSl 2 [.int .i64 0, .slice none 0 0, .int .i64 0, .slice none 0 0] [(0, 2, (.tmp 8)), (2, 2, (.tmp 9))] 2, none, 0⟩,
    ⟨some 11, .call k_spec_l09Code [(.tmp 10)], none, 0⟩,
    ⟨some 6, .mv (.tmp 11), none, 0⟩]) <|
  .seq (.ops [
    ⟨some 12, .mv (.tmp 6), none, 0⟩,
    ⟨some 13, .bin .neq (.tmp 12) (.const (.int .i64 0)), none, 0⟩]) <|
  .cond (.tmp 13)
    (.seq (.ops [
      ⟨some 14, .build [.int .i64 0, .slice none 0 0] [], none, 0⟩,
      ⟨some 15, .mv (.tmp 6), none, 0⟩,
      ⟨none, .store 2 (.tmp 4) (.tmp 14), none, 0⟩,
      ⟨some 5, .mv (.tmp 15), none, 0⟩]) <|
    .keep [4, 5] <|
    .ret)
    (.skip)) <|
  .seq (.seq (.ops [
    ⟨some 16, .fld 0 (.tmp 2), none, 0⟩,
    ⟨some 17, .load false 1 (.tmp 16), none, 0⟩,
    ⟨some 18, .fld 0 (.tmp 3), none, 0⟩,
    ⟨some 19, .load false 1 (.tmp 18), none, 0⟩,
    ⟨some 20, .bin .mul (.tmp 17) (.tmp 19), none, 0⟩,
    ⟨some 21, .call k_spec_l09Told [(.tmp 20)], none, 0⟩,
    ⟨some 7, .mv (.tmp 21), none, 0⟩]) <|
  .seq (.ops [
    ⟨some 22, .mv (.tmp 7), none, 0⟩,
    ⟨some 23, .bin .neq (.tmp 22) (.const (.int .i64 0)), none, 0⟩]) <|
  .cond (.tmp 23)
    (.seq (.ops [
      ⟨some 24, .build [.int .i64 0, .slice none 0 0] [], none, 0⟩,
      ⟨some 25, .mv (.tmp 7), none, 0⟩,
      ⟨none, .store 2 (.tmp 4) (.tmp 24), none, 0⟩,
      ⟨some 5, .mv (.tmp 25), none, 0⟩]) <|
    .keep [4, 5] <|
    .ret)
    (.skip)) <|
  .seq (.ops [
    ⟨some 26, .load true 2 (.tmp 2), none, 0⟩,
    ⟨some 27, .load true 2 (.tmp 3), none, 0⟩,
    ⟨some 28, .call k_spec_l09Direct [(.tmp 26), (.tmp 27)], none, 0⟩,
    ⟨none, .store 2 (.tmp 4) (.tmp 28), none, 0⟩,
    ⟨some 5, .mv (.const (.int .i64 0)), none, 0⟩]) <|
  .keep [4, 5] <|
  .ret⟩

theorem e_spec_DirectProduct : EntOK Try.prog (compD Try.prog) k_spec_DirectProduct i_spec_DirectProduct.vf :=
  ⟨Try.f36, Try.f36.body.getD .skip, Try.func36, by kernel_rfl, by kernel_rfl, by kernel_rfl, by kernel_rfl, by kernel_rfl⟩

/-- loop.example/g01331/impl.DirectProduct -/
def i_impl_DirectProduct : FF := ⟨12, [.cell 4 true 2, .tmp 5],
  .seq (.ops [
    ⟨some 2, .box 2 (.tmp 0), none, 0⟩,
    ⟨some 3, .box 2 (.tmp 1), none, 0⟩,
    ⟨some 4, .alloc [.int .i64 0, .slice none 0 0], none, 0⟩,
    ⟨some 5, .mv (.const (.int .i64 0)), none, 0⟩]) <|
  .seq (.ops [
    ⟨some 6, .load true 2 (.tmp 2), none, 0⟩,
    ⟨some 7, .load true 2 (.tmp 3), none, 0⟩,
    ⟨some 8, .mkfn k_impl_DirectProduct_1 [] [(.tmp 2), (.tmp 3)], none, 0⟩,
    ⟨some 9, .call k_impl_product [(.tmp 6), (.tmp 7), (.tmp 8)], none, 0⟩,
    ⟨some 10, .ext (.tmp 9) 0, none, 0⟩,
    ⟨some 11, .ext (.tmp 9) 1, none, 0⟩,
    ⟨none, .store 2 (.tmp 4) (.tmp 10), none, 0⟩,
    ⟨some 5, .mv (.tmp 11), none, 0⟩]) <|
  .keep [4, 5] <|
  .ret⟩

theorem e_impl_DirectProduct : EntOK Try.prog (compD Try.prog) k_impl_DirectProduct i_impl_DirectProduct.vf :=
  ⟨Try.f37, Try.f37.body.getD .skip, Try.func37, by kernel_rfl, by kernel_rfl, by kernel_rfl, by kernel_rfl, by kernel_rfl⟩

/-- loop.example/g01331/spec.ProductOf -/
def i_spec_ProductOf : FF := ⟨29, [.cell 4 true 2, .tmp 5],
  .seq (.ops [
    ⟨some 2, .box 2 (.tmp 0), none, 0⟩,
    ⟨some 3, .box 2 (.tmp 1), none, 0⟩,
    ⟨some 4, .alloc [.int .i64 0, .slice none 0 0], none, 0⟩,
    ⟨some 5, .mv (.const (.int .i64 0)), none, 0⟩]) <|
  .seq (.seq (.ops [
    ⟨some 8, .load true 2 (.tmp 2), none, 0⟩,
    ⟨some 9, .load true 2 (.tmp 3), none, 0⟩,
    ⟨some 10, .buildSl 2 [.int .i64 0, .slice none 0 0, .int .i64 0, .slice none 0 0] [(0, 2, (.tmp 8)), (2, 2, (.tmp 9))] 2, none, 0⟩,
    ⟨some 11, .call k_spec_l09Code [(.tmp 10)], none, 0⟩,
    ⟨some 6, .mv (.tmp 11), none, 0⟩]) <|
  .seq (.ops [
    ⟨some 12, .mv (.tmp 6), none, 0⟩,
    ⟨some 13, .bin .neq (.tmp 12) (.const (.int .i64 0)), none, 0⟩]) <|
  .cond (.tmp 13)
    (.seq (.ops [
      ⟨some 14, .build [.int .i64 0, .slice none 0 0] [], none, 0⟩,
      ⟨some 15, .mv (.tmp 6), none, 0⟩,
      ⟨none, .store 2 (.tmp 4) (.tmp 14), none, 0⟩,
      ⟨some 5, .mv (.tmp 15), none, 0⟩]) <|
    .keep [4, 5] <|
    .ret)
    (.skip)) <|
  .seq (.seq (.ops [
    ⟨some 16, .fld 0 (.tmp 2), none, 0⟩,
    ⟨some 17, .load false 1 (.tmp 16), none, 0⟩,
    ⟨some 18, .fld 0 (.tmp 3), none, 0⟩,
    ⟨some 19, .load false 1 (.tmp 18), none, 0⟩,
    ⟨some 20, .bin .mul (.tmp 17) (.tmp 19), none, 0⟩,
    ⟨some 21, .call k_spec_l09Told [(.tmp 20)], none, 0⟩,
    ⟨some 7, .mv (.tmp 21), none, 0⟩]) <|
  .seq (.ops [
    ⟨some 22, .mv (.tmp 7), none, 0⟩,
    ⟨some 23, .bin .neq (.tmp 22) (.const (.int .i64 0)), none, 0⟩]) <|
  .cond (.tmp 23)
    (.seq (.ops [
      ⟨some 24, .build [.int .i64 0, .slice none 0 0] [], none, 0⟩,
      ⟨some 25, .mv (.tmp 7), none, 0⟩,
      ⟨none, .store 2 (.tmp 4) (.tmp 24), none, 0⟩,
      ⟨some 5, .mv (.tmp 25), none, 0⟩]) <|
    .keep [4, 5] <|
    .ret)
    (.skip)) <|
  .seq (.ops [
    ⟨some 26, .load true 2 (.tmp 2), none, 0⟩,
    ⟨some 27, .load true 2 (.tmp 3), none, 0⟩,
    ⟨some 28, .call k_spec_l09Product [(.tmp 26), (.tmp 27)], none, 0⟩,
    ⟨none, .store 2 (.tmp 4) (.tmp 28), none, 0⟩,
    ⟨some 5, .mv (.const (.int .i64 0)), none, 0⟩]) <|
  .keep [4, 5] <|
  .ret⟩

theorem e_spec_ProductOf : EntOK Try.prog (compD Try.prog) k_spec_ProductOf i_spec_ProductOf.vf :=
  ⟨Try.f38, Try.f38.body.getD .skip, Try.func38, by kernel_rfl, by kernel_rfl, by kernel_rfl, by kernel_rfl, by kernel_rfl⟩

/-- loop.example/g01331/impl.ProductOf -/
def i_impl_ProductOf : FF := ⟨12, [.cell 4 true 2, .tmp 5],
  .seq (.ops [
    ⟨some 2, .box 2 (.tmp 0), none, 0⟩,
    ⟨some 3, .box 2 (.tmp 1), none, 0⟩,
    ⟨some 4, .alloc [.int .i64 0, .slice none 0 0], none, 0⟩,
    ⟨some 5, .mv (.const (.int .i64 0)), none, 0⟩]) <|
  .seq (.ops [
    ⟨some 6, .load true 2 (.tmp 2), none, 0⟩,
    ⟨some 7, .load true 2 (.tmp 3), none, 0⟩,
    ⟨some 8, .mkfn k_impl_ProductOf_1 [] [(.tmp 3), (.tmp 2)], none, 0⟩,
    ⟨some 9, .call k_impl_product [(.tmp 6), (.tmp 7), (.tmp 8)], none, 0⟩,
    ⟨some 10, .ext (.tmp 9) 0, none, 0⟩,
    ⟨some 11, .ext (.tmp 9) 1, none, 0⟩,
    ⟨none, .store 2 (.tmp 4) (.tmp 10), none, 0⟩,
    ⟨some 5, .mv (.tmp 11), none, 0⟩]) <|
  .keep [4, 5] <|
  .ret⟩

theorem e_impl_ProductOf : EntOK Try.prog (compD Try.prog) k_impl_ProductOf i_impl_ProductOf.vf :=
  ⟨Try.f39, Try.f39.body.getD .skip, Try.func39, by kernel_rfl, by kernel_rfl, by kernel_rfl, by kernel_rfl, by kernel_rfl⟩

/-- loop.example/g01331/spec.TakeVertex -/
def i_spec_TakeVertex : FF := ⟨27, [.cell 4 true 2, .tmp 5],
  .seq (.ops [
    ⟨some 2, .box 2 (.tmp 0), none, 0⟩,
    ⟨some 4, .alloc [.int .i64 0, .slice none 0 0], none, 0⟩,
    ⟨some 5, .mv (.const (.int .i64 0)), none, 0⟩]) <|
  .seq (.seq (.ops [
    ⟨some 8, .load true 2 (.tmp 2), none, 0⟩,
    ⟨some 9, .mv (.tmp 1), none, 0⟩,
    ⟨some 10, .buildSl 1 [.int .i64 0] [(0, 1, (.tmp 9))] 1, none, 0⟩,
    ⟨some 11, .call k_spec_l01Vertices [(.tmp 8), (.tmp 10)], none, 0⟩,
    ⟨some 6, .mv (.tmp 11), none, 0⟩]) <|
  .seq (.ops [
    ⟨some 12, .mv (.tmp 6), none, 0⟩,
    ⟨some 13, .bin .neq (.tmp 12) (.const (.int .i64 0)), none, 0⟩]) <|
  .cond (.tmp 13)
    (.seq (.ops [
      ⟨some 14, .build [.int .i64 0, .slice none 0 0] [], none, 0⟩,
      ⟨some 15, .mv (.tmp 6), none, 0⟩,
      ⟨none, .store 2 (.tmp 4) (.tmp 14), none, 0⟩,
      ⟨some 5, .mv (.tmp 15), none, 0⟩]) <|
    .keep [4, 5] <|
    .ret)
    (.skip)) <|
  .seq (.seq (.ops [
    ⟨some 16, .fld 0 (.tmp 2), none, 0⟩,
    ⟨some 17, .load false 1 (.tmp 16), none, 0⟩,
    ⟨some 18, .bin .sub (.tmp 17) (.const (.int .i64 1)), none, 0⟩,
    ⟨some 19, .call k_spec_l09Told [(.tmp 18)], none, 0⟩,
    ⟨some 7, .mv (.tmp 19), none, 0⟩]) <|
  .seq (.ops [
    ⟨some 20, .mv (.tmp 7), none, 0⟩,
    ⟨some 21, .bin .neq (.tmp 20) (.const (.int .i64 0)), none, 0⟩]) <|
  .cond (.tmp 21)
    (.seq (.ops [
      ⟨some 22, .build [.int .i64 0, .slice none 0 0] [], none, 0⟩,
      ⟨some 23, .mv (.tmp 7), none, 0⟩,
      ⟨none, .store 2 (.tmp 4) (.tmp 22), none, 0⟩,
      ⟨some 5, .mv (.tmp 23), none, 0⟩]) <|
    .keep [4, 5] <|
    .ret)
    (.skip)) <|
  .seq (.ops [
    ⟨some 24, .load true 2 (.tmp 2), none, 0⟩,
    ⟨some 25, .mv (.tmp 1), none, 0⟩,
    ⟨some 26, .call k_spec_l09Without [(.tmp 24), (.tmp 25)], none, 0⟩,
    ⟨none, .store 2 (.tmp 4) (.tmp 26), none, 0⟩,
    ⟨some 5, .mv (.const (.int .i64 0)), none, 0⟩]) <|
  .keep [4, 5] <|
  .ret⟩

theorem e_spec_TakeVertex : EntOK Try.prog (compD Try.prog) k_spec_TakeVertex i_spec_TakeVertex.vf :=
  ⟨Try.f40, Try.f40.body.getD .skip, Try.func40, by kernel_rfl, by kernel_rfl, by kernel_rfl, by kernel_rfl, by kernel_rfl⟩

/-- loop.example/g01331/impl.TakeVertex -/
def i_impl_TakeVertex : FF := ⟨22, [.cell 4 true 2, .tmp 5],
  .seq (.ops [
    ⟨some 2, .box 2 (.tmp 0), none, 0⟩,
    ⟨some 4, .alloc [.int .i64 0, .slice none 0 0], none, 0⟩,
    ⟨some 5, .mv (.const (.int .i64 0)), none, 0⟩]) <|
  .seq (.seq (.ops [
    ⟨some 7, .load true 2 (.tmp 2), none, 0⟩,
    ⟨some 8, .mv (.tmp 1), none, 0⟩,
    ⟨some 9, .buildSl 1 [.int .i64 0] [(0, 1, (.tmp 8))] 1, none, 0⟩,
    ⟨some 10, .call k_impl_graphCode [(.tmp 7), (.tmp 9)], none, 0⟩,
    ⟨some 6, .mv (.tmp 10), none, 0⟩]) <|
  .seq (.ops [
    ⟨some 11, .mv (.tmp 6), none, 0⟩,
    ⟨some 12, .bin .neq (.tmp 11) (.const (.int .i64 0)), none, 0⟩]) <|
  .cond (.tmp 12)
    (.seq (.ops [
      ⟨some 13, .build [.int .i64 0, .slice none 0 0] [], none, 0⟩,
      ⟨some 14, .mv (.tmp 6), none, 0⟩,
      ⟨none, .store 2 (.tmp 4) (.tmp 13), none, 0⟩,
      ⟨some 5, .mv (.tmp 14), none, 0⟩]) <|
    .keep [4, 5] <|
    .ret)
    (.skip)) <|
  .seq (.seq (.ops [
    ⟨some 15, .fld 0 (.tmp 2), none, 0⟩,
    ⟨some 16, .load false 1 (.tmp 15), none, 0⟩,
    ⟨some 17, .bin .eql (.tmp 16) (.const (.int .i64 1)), none, 0⟩]) <|
  .cond (.tmp 17)
    (.seq (.ops [
      ⟨some 18, .build [.int .i64 0, .slice none 0 0] [], none, 0⟩,
      ⟨none, .store 2 (.tmp 4) (.tmp 18), none, 0⟩,
      ⟨some 5, .mv (.const (.int .i64 3)), none, 0⟩]) <|
    .keep [4, 5] <|
    .ret)
    (.skip)) <|
  .seq (.ops [
    ⟨some 19, .load true 2 (.tmp 2), none, 0⟩,
    ⟨some 20, .mv (.tmp 1), none, 0⟩,
    ⟨some 21, .call k_impl_Graph_without [(.tmp 19), (.tmp 20)], none, 0⟩,
    ⟨none, .store 2 (.tmp 4) (.tmp 21), none, 0⟩,
    ⟨some 5, .mv (.const (.int .i64 0)), none, 0⟩]) <|
  .keep [4, 5] <|
  .ret⟩

theorem e_impl_TakeVertex : EntOK Try.prog (compD Try.prog) k_impl_TakeVertex i_impl_TakeVertex.vf :=
  ⟨Try.f41, Try.f41.body.getD .skip, Try.func41, by kernel_rfl, by kernel_rfl, by kernel_rfl, by kernel_rfl, by kernel_rfl⟩

/-- loop.example/g01331/spec.NewDesk -/
def i_spec_NewDesk : FF := ⟨2, [.cell 0 true 4],
  .seq (.ops [
    ⟨some 0, .alloc [.int .i64 0, .slice none 0 0, .int .i64 0, .slice none 0 0], none, 0⟩]) <|
  .seq (.ops [
    ⟨some 1, .call k_spec_l11New [], none, 0⟩,
    ⟨none, .store 4 (.tmp 0) (.tmp 1), none, 0⟩]) <|
  .keep [0] <|
  .ret⟩

theorem e_spec_NewDesk : EntOK Try.prog (compD Try.prog) k_spec_NewDesk i_spec_NewDesk.vf :=
  ⟨Try.f42, Try.f42.body.getD .skip, Try.func42, by kernel_rfl, by kernel_rfl, by kernel_rfl, by kernel_rfl, by kernel_rfl⟩

/-- loop.example/g01331/impl.NewDesk -/
def i_impl_NewDesk : FF := ⟨4, [.cell 0 true 4],
  .seq (.ops [
    ⟨some 0, .alloc [.int .i64 0, .slice none 0 0, .int .i64 0, .slice none 0 0], none, 0⟩]) <|
  .seq (.ops [
    ⟨some 1, .call k_impl_ringGraph [(.const (.int .i64 5)), (.const (.int .i64 2))], none, 0⟩,
    ⟨some 2, .call k_impl_kautz [(.const (.int .i64 2)), (.const (.int .i64 2))], none, 0⟩,
    ⟨some 3, .build [.int .i64 0, .slice none 0 0, .int .i64 0, .slice none 0 0] [(0, 2, (.tmp 1)), (2, 2, (.tmp 2))], none, 0⟩,
    ⟨none, .store 4 (.tmp 0) (.tmp 3), none, 0⟩]) <|
  .keep [0] <|
  .ret⟩

theorem e_impl_NewDesk : EntOK Try.prog (compD Try.prog) k_impl_NewDesk i_impl_NewDesk.vf :=
  ⟨Try.f43, Try.f43.body.getD .skip, Try.func43, by kernel_rfl, by kernel_rfl, by kernel_rfl, by kernel_rfl, by kernel_rfl⟩

/-- loop.example/g01331/laws.markDesk -/
def i_laws_markDesk : FF := ⟨14, [.tmp 4],
  .seq (.ops [
    ⟨some 2, .box 4 (.tmp 0), none, 0⟩,
    ⟨some 4, .mv (.const (.int .i64 0)), none, 0⟩]) <|
  .seq (.ops [
    ⟨some 5, .fld 0 (.tmp 2), none, 0⟩,
    ⟨some 6, .load true 2 (.tmp 5), none, 0⟩,
    ⟨some 7, .mv (.tmp 1), none, 0⟩,
    ⟨some 8, .call k_laws_markGraph [(.tmp 6), (.tmp 7)], none, 0⟩,
    ⟨some 1, .mv (.tmp 8), none, 0⟩]) <|
  .seq (.ops [
    ⟨some 9, .fld 2 (.tmp 2), none, 0⟩,
    ⟨some 10, .load true 2 (.tmp 9), none, 0⟩,
    ⟨some 11, .mv (.tmp 1), none, 0⟩,
    ⟨some 12, .call k_laws_markDigraph [(.tmp 10), (.tmp 11)], none, 0⟩,
    ⟨some 1, .mv (.tmp 12), none, 0⟩]) <|
  .seq (.ops [
    ⟨some 13, .mv (.tmp 1), none, 0⟩,
    ⟨some 4, .mv (.tmp 13), none, 0⟩]) <|
  .keep [4] <|
  .ret⟩

theorem e_laws_markDesk : EntOK Try.prog (compD Try.prog) k_laws_markDesk i_laws_markDesk.vf :=
  ⟨Try.f44, Try.f44.body.getD .skip, Try.func44, by kernel_rfl, by kernel_rfl, by kernel_rfl, by kernel_rfl, by kernel_rfl⟩

/-- loop.example/g01331/laws.heldDesk -/
def i_laws_heldDesk : FF := ⟨18, [.tmp 4],
  .seq (.ops [
    ⟨some 2, .box 4 (.tmp 0), none, 0⟩,
    ⟨some 4, .mv (.const (.int .i64 0)), none, 0⟩]) <|
  .seq (.ops [
    ⟨some 5, .fld 0 (.tmp 2), none, 0⟩,
    ⟨some 6, .load true 2 (.tmp 5), none, 0⟩,
    ⟨some 7, .mv (.tmp 1), none, 0⟩,
    ⟨some 8, .call k_laws_heldGraph [(.tmp 6), (.tmp 7)], none, 0⟩,
    ⟨some 1, .mv (.tmp 8), none, 0⟩]) <|
  .seq (.seq (.ops [
    ⟨some 9, .mv (.tmp 1), none, 0⟩,
    ⟨some 10, .bin .lss (.tmp 9) (.const (.int .i64 0)), none, 0⟩]) <|
  .cond (.tmp 10)
    (.seq (.ops [
      ⟨some 4, .mv (.const (.int .i64 (-1))), none, 0⟩]) <|
    .keep [4] <|
    .ret)
    (.skip)) <|
  .seq (.ops [
    ⟨some 11, .fld 2 (.tmp 2), none, 0⟩,
    ⟨some 12, .load true 2 (.tmp 11), none, 0⟩,
    ⟨some 13, .mv (.tmp 1), none, 0⟩,
    ⟨some 14, .call k_laws_heldDigraph [(.tmp 12), (.tmp 13)], none, 0⟩,
    ⟨some 1, .mv (.tmp 14), none, 0⟩]) <|
  .seq (.seq (.ops [
    ⟨some 15, .mv (.tmp 1), none, 0⟩,
    ⟨some 16, .bin .lss (.tmp 15) (.const (.int .i64 0)), none, 0⟩]) <|
  .cond (.tmp 16)
    (.seq (.ops [
      ⟨some 4, .mv (.const (.int .i64 (-1))), none, 0⟩]) <|
    .keep [4] <|
    .ret)
    (.skip)) <|
  .seq (.ops [
    ⟨some 17, .mv (.tmp 1), none, 0⟩,
    ⟨some 4, .mv (.tmp 17), none, 0⟩]) <|
  .keep [4] <|
  .ret⟩

theorem e_laws_heldDesk : EntOK Try.prog (compD Try.prog) k_laws_heldDesk i_laws_heldDesk.vf :=
  ⟨Try.f45, Try.f45.body.getD .skip, Try.func45, by kernel_rfl, by kernel_rfl, by kernel_rfl, by kernel_rfl, by kernel_rfl⟩

/-- loop.example/g01331/laws.szInt64S -/
def i_laws_szInt64S : FF := ⟨12, [.tmp 4],
  .seq (.ops [
    ⟨some 4, .mv (.const (.int .i64 0)), none, 0⟩]) <|
  .seq (.ops [
    ⟨some 5, .mv (.tmp 1), none, 0⟩,
    ⟨some 6, .mv (.tmp 0), none, 0⟩,
    ⟨some 7, .len (.tmp 6), none, 0⟩,
    ⟨some 8, .bin .sub (.tmp 5) (.tmp 7), none, 0⟩,
    ⟨some 1, .mv (.tmp 8), none, 0⟩]) <|
  .seq (.seq (.ops [
    ⟨some 9, .mv (.tmp 1), none, 0⟩,
    ⟨some 10, .bin .lss (.tmp 9) (.const (.int .i64 0)), none, 0⟩]) <|
  .cond (.tmp 10)
    (.seq (.ops [
      ⟨some 4, .mv (.const (.int .i64 (-1))), none, 0⟩]) <|
    .keep [4] <|
    .ret)
    (.skip)) <|
  .seq (.ops [
    ⟨some 11, .mv (.tmp 1), none, 0⟩,
    ⟨some 4, .mv (.tmp 11), none, 0⟩]) <|
  .keep [4] <|
  .ret⟩

theorem e_laws_szInt64S : EntOK Try.prog (compD Try.prog) k_laws_szInt64S i_laws_szInt64S.vf :=
  ⟨Try.f46, Try.f46.body.getD .skip, Try.func46, by kernel_rfl, by kernel_rfl, by kernel_rfl, by kernel_rfl, by kernel_rfl⟩

/-- loop.example/g01331/spec.l01Is -/
def i_spec_l01Is_B1 : FC :=
  .seq (.seq (.ops [
    ⟨some 18, .mv (.tmp 3), none, 0⟩,
    ⟨some 19, .fld 0 (.tmp 1), none, 0⟩,
    ⟨some 20, .load false 1 (.tmp 19), none, 0⟩,
    ⟨some 21, .bin .lss (.tmp 18) (.tmp 20), none, 0⟩]) <|
  .cond (.tmp 21)
    (.skip)
    (.keep [1] <|
    .exit 0)) <|
  .seq (.block 1 <|
  .seq (.dops [
    ⟨some 24, .fld 1 (.tmp 1), none, 0⟩,
    ⟨some 25, .load false 1 (.tmp 24), none, 0⟩,
    ⟨some 26, .mv (.tmp 3), none, 0⟩,
    ⟨some 27, .idx 1 (.tmp 25) (.tmp 26), none, 0⟩,
    ⟨some 28, .load false 1 (.tmp 27), none, 0⟩,
    ⟨some 29, .fld 0 (.tmp 1), none, 0⟩,
    ⟨some 30, .load false 1 (.tmp 29), none, 0⟩,
    ⟨some 31, .conv .u64 (.tmp 30), none, 0⟩,
    ⟨some 32, .bin .shl (.const (.int .i64 1)) (.tmp 31), none, 0⟩,
    ⟨some 33, .bin .sub (.tmp 32) (.const (.int .i64 1)), none, 0⟩,
    ⟨some 34, .call k_spec_l01In [(.tmp 28), (.const (.int .i64 0)), (.tmp 33)], none, 0⟩,
    ⟨some 35, .un .not (.tmp 34), none, 0⟩,
    ⟨some 36, .mv (.tmp 35), none, 0⟩,
    ⟨some 37, .load true 2 (.tmp 1), some (36, false), 0⟩,
    ⟨some 38, .mv (.tmp 3), some (36, false), 0⟩,
    ⟨some 39, .mv (.tmp 3), some (36, false), 0⟩,
    ⟨some 40, .call k_spec_l01Has [(.tmp 37), (.tmp 38), (.tmp 39)], some (36, false), 0⟩,
    ⟨some 41, .pick (.tmp 36) (.const (.bool true)) (.tmp 40), none, 0⟩]) <|
  .cond (.tmp 41)
    (.seq (.ops [
      ⟨some 2, .mv (.const (.bool false)), none, 0⟩]) <|
    .keep [2] <|
    .ret)
    (.skip)) <|
  .ops [
    ⟨some 22, .mv (.tmp 3), none, 0⟩,
    ⟨some 23, .bin .add (.tmp 22) (.const (.int .i64 1)), none, 0⟩,
    ⟨some 3, .mv (.tmp 23), none, 0⟩]
def i_spec_l01Is_B2 : FC :=
  .seq (.seq (.ops [
    ⟨some 48, .mv (.tmp 5), none, 0⟩,
    ⟨some 49, .mv (.tmp 4), none, 0⟩,
    ⟨some 50, .bin .lss (.tmp 48) (.tmp 49), none, 0⟩]) <|
  .cond (.tmp 50)
    (.skip)
    (.keep [1, 4] <|
    .exit 4)) <|
  .seq (.block 5 <|
  .seq (.dops [
    ⟨some 53, .load true 2 (.tmp 1), none, 0⟩,
    ⟨some 54, .mv (.tmp 4), none, 0⟩,
    ⟨some 55, .mv (.tmp 5), none, 0⟩,
    ⟨some 56, .call k_spec_l01Has [(.tmp 53), (.tmp 54), (.tmp 55)], none, 0⟩,
    ⟨some 57, .load true 2 (.tmp 1), none, 1⟩,
    ⟨some 58, .mv (.tmp 5), none, 1⟩,
    ⟨some 59, .mv (.tmp 4), none, 1⟩,
    ⟨some 60, .call k_spec_l01Has [(.tmp 57), (.tmp 58), (.tmp 59)], none, 0⟩,
    ⟨some 61, .beq true (.tmp 56) (.tmp 60), none, 0⟩]) <|
  .cond (.tmp 61)
    (.seq (.ops [
      ⟨some 2, .mv (.const (.bool false)), none, 0⟩]) <|
    .keep [2] <|
    .ret)
    (.skip)) <|
  .ops [
    ⟨some 51, .mv (.tmp 5), none, 0⟩,
    ⟨some 52, .bin .add (.tmp 51) (.const (.int .i64 1)), none, 0⟩,
    ⟨some 5, .mv (.tmp 52), none, 0⟩]
def i_spec_l01Is_B3 : FC :=
  .seq (.seq (.ops [
    ⟨some 42, .mv (.tmp 4), none, 0⟩,
    ⟨some 43, .fld 0 (.tmp 1), none, 0⟩,
    ⟨some 44, .load false 1 (.tmp 43), none, 0⟩,
    ⟨some 45, .bin .lss (.tmp 42) (.tmp 44), none, 0⟩]) <|
  .cond (.tmp 45)
    (.skip)
    (.keep [] <|
    .exit 2)) <|
  .seq (.block 3 <|
  .seq (.ops [
    ⟨some 5, .mv (.const (.int .i64 0)), none, 0⟩]) <|
  .block 4 <|
  .loop [1, 4, 5] i_spec_l01Is_B2) <|
  .ops [
    ⟨some 46, .mv (.tmp 4), none, 0⟩,
    ⟨some 47, .bin .add (.tmp 46) (.const (.int .i64 1)), none, 0⟩,
    ⟨some 4, .mv (.tmp 47), none, 0⟩]
def i_spec_l01Is : FF := ⟨62, [.tmp 2],
  .seq (.ops [
    ⟨some 1, .box 2 (.tmp 0), none, 0⟩,
    ⟨some 2, .mv (.const (.bool false)), none, 0⟩]) <|
  .seq (.seq (.ops [
    ⟨some 6, .fld 0 (.tmp 1), none, 0⟩,
    ⟨some 7, .load false 1 (.tmp 6), none, 0⟩,
    ⟨some 8, .call k_spec_l01In [(.tmp 7), (.const (.int .i64 1)), (.const (.int .i64 62))], none, 0⟩,
    ⟨some 9, .un .not (.tmp 8), none, 0⟩,
    ⟨some 10, .mv (.tmp 9), none, 0⟩,
    ⟨some 11, .fld 1 (.tmp 1), some (10, false), 0⟩,
    ⟨some 12, .load false 1 (.tmp 11), some (10, false), 0⟩,
    ⟨some 13, .len (.tmp 12), some (10, false), 0⟩,
    ⟨some 14, .fld 0 (.tmp 1), some (10, false), 0⟩,
    ⟨some 15, .load false 1 (.tmp 14), some (10, false), 0⟩,
    ⟨some 16, .bin .neq (.tmp 13) (.tmp 15), some (10, false), 0⟩,
    ⟨some 17, .pick (.tmp 10) (.const (.bool true)) (.tmp 16), none, 0⟩]) <|
  .cond (.tmp 17)
    (.seq (.ops [
      ⟨some 2, .mv (.const (.bool false)), none, 0⟩]) <|
    .keep [2] <|
    .ret)
    (.skip)) <|
  .seq (.seq (.ops [
    ⟨some 3, .mv (.const (.int .i64 0)), none, 0⟩]) <|
  .block 0 <|
  .loop [1, 3] i_spec_l01Is_B1) <|
  .seq (.seq (.ops [
    ⟨some 4, .mv (.const (.int .i64 0)), none, 0⟩]) <|
  .block 2 <|
  .loop [1, 4] i_spec_l01Is_B3) <|
  .seq (.ops [
    ⟨some 2, .mv (.const (.bool true)), none, 0⟩]) <|
  .keep [2] <|
  .ret⟩

theorem e_spec_l01Is : EntOK Try.prog (compD Try.prog) k_spec_l01Is i_spec_l01Is.vf :=
  ⟨Try.f47, Try.f47.body.getD .skip, Try.func47, by kernel_rfl, by kernel_rfl, by kernel_rfl, by kernel_rfl, by kernel_rfl⟩

/-- loop.example/g01331/spec.l01Empty -/
def i_spec_l01Empty : FF := ⟨7, [.cell 2 true 2],
  .seq (.ops [
    ⟨some 2, .alloc [.int .i64 0, .slice none 0 0], none, 0⟩]) <|
  .seq (.ops [
    ⟨some 3, .mv (.tmp 0), none, 0⟩,
    ⟨some 4, .mv (.tmp 0), none, 0⟩,
    ⟨some 5, .mkSl 1 [.int .i64 0] 8 (.tmp 4) (.tmp 4), none, 0⟩,
    ⟨some 6, .build [.int .i64 0, .slice none 0 0] [(0, 1, (.tmp 3)), (1, 1, (.tmp 5))], none, 0⟩,
    ⟨none, .store 2 (.tmp 2) (.tmp 6), none, 0⟩]) <|
  .keep [2] <|
  .ret⟩

theorem e_spec_l01Empty : EntOK Try.prog (compD Try.prog) k_spec_l01Empty i_spec_l01Empty.vf :=
  ⟨Try.f48, Try.f48.body.getD .skip, Try.func48, by kernel_rfl, by kernel_rfl, by kernel_rfl, by kernel_rfl, by kernel_rfl⟩

/-- loop.example/g01331/spec.l04With -/
def i_spec_l04With : FF := ⟨34, [.cell 6 true 2],
  .seq (.ops [
    ⟨some 3, .box 2 (.tmp 0), none, 0⟩,
    ⟨some 6, .alloc [.int .i64 0, .slice none 0 0], none, 0⟩]) <|
  .seq (.dops [
    ⟨some 7, .fld 1 (.tmp 3), none, 0⟩,
    ⟨some 8, .load false 1 (.tmp 7), none, 0⟩,
    ⟨some 9, .mv (.tmp 1), none, 0⟩,
    ⟨some 10, .fld 1 (.tmp 3), none, 0⟩,
    ⟨some 11, .load false 1 (.tmp 10), none, 0⟩,
    ⟨some 12, .mv (.tmp 1), none, 0⟩,
    ⟨some 13, .idx 1 (.tmp 11) (.tmp 12), none, 0⟩,
    ⟨some 14, .load false 1 (.tmp 13), none, 0⟩,
    ⟨some 15, .mv (.tmp 2), none, 0⟩,
    ⟨some 16, .conv .u64 (.tmp 15), none, 0⟩,
    ⟨some 17, .bin .shl (.const (.int .i64 1)) (.tmp 16), none, 0⟩,
    ⟨some 18, .bin .or (.tmp 14) (.tmp 17), none, 0⟩,
    ⟨some 19, .idx 1 (.tmp 8) (.tmp 9), none, 0⟩,
    ⟨none, .store 1 (.tmp 19) (.tmp 18), none, 0⟩]) <|
  .seq (.dops [
    ⟨some 20, .fld 1 (.tmp 3), none, 0⟩,
    ⟨some 21, .load false 1 (.tmp 20), none, 0⟩,
    ⟨some 22, .mv (.tmp 2), none, 0⟩,
    ⟨some 23, .fld 1 (.tmp 3), none, 0⟩,
    ⟨some 24, .load false 1 (.tmp 23), none, 0⟩,
    ⟨some 25, .mv (.tmp 2), none, 0⟩,
    ⟨some 26, .idx 1 (.tmp 24) (.tmp 25), none, 0⟩,
    ⟨some 27, .load false 1 (.tmp 26), none, 0⟩,
    ⟨some 28, .mv (.tmp 1), none, 0⟩,
    ⟨some 29, .conv .u64 (.tmp 28), none, 0⟩,
    ⟨some 30, .bin .shl (.const (.int .i64 1)) (.tmp 29), none, 0⟩,
    ⟨some 31, .bin .or (.tmp 27) (.tmp 30), none, 0⟩,
    ⟨some 32, .idx 1 (.tmp 21) (.tmp 22), none, 0⟩,
    ⟨none, .store 1 (.tmp 32) (.tmp 31), none, 0⟩]) <|
  .seq (.ops [
    ⟨some 33, .load true 2 (.tmp 3), none, 0⟩,
    ⟨none, .store 2 (.tmp 6) (.tmp 33), none, 0⟩]) <|
  .keep [6] <|
  .ret⟩

theorem e_spec_l04With : EntOK Try.prog (compD Try.prog) k_spec_l04With i_spec_l04With.vf :=
  ⟨Try.f49, Try.f49.body.getD .skip, Try.func49, by kernel_rfl, by kernel_rfl, by kernel_rfl, by kernel_rfl, by kernel_rfl⟩

/-- loop.example/g01331/impl.IsGraph -/
def i_impl_IsGraph_B1 : FC :=
  .seq (.ops [
    ⟨some 47, .bin .lss (.tmp 46) (.tmp 45), none, 0⟩]) <|
  .seq (.cond (.tmp 47)
    (.skip)
    (.keep [1, 3, 23, 24, 25] <|
    .exit 2)) <|
  .seq (.block 3 <|
  .seq (.ops [
    ⟨some 48, .mv (.tmp 46), none, 0⟩,
    ⟨some 6, .mv (.tmp 48), none, 0⟩]) <|
  .seq (.dops [
    ⟨some 49, .mv (.tmp 5), none, 0⟩,
    ⟨some 50, .mv (.tmp 6), none, 0⟩,
    ⟨some 51, .bin .shr (.tmp 49) (.tmp 50), none, 0⟩,
    ⟨some 52, .bin .and (.tmp 51) (.const (.int .i64 1)), none, 0⟩,
    ⟨some 53, .fld 1 (.tmp 1), none, 0⟩,
    ⟨some 54, .load false 1 (.tmp 53), none, 0⟩,
    ⟨some 55, .mv (.tmp 6), none, 0⟩,
    ⟨some 56, .idx 1 (.tmp 54) (.tmp 55), none, 0⟩,
    ⟨some 57, .load false 1 (.tmp 56), none, 0⟩,
    ⟨some 58, .mv (.tmp 4), none, 0⟩,
    ⟨some 59, .bin .shr (.tmp 57) (.tmp 58), none, 0⟩,
    ⟨some 60, .bin .and (.tmp 59) (.const (.int .i64 1)), none, 0⟩,
    ⟨some 61, .bin .neq (.tmp 52) (.tmp 60), none, 0⟩]) <|
  .cond (.tmp 61)
    (.seq (.ops [
      ⟨some 2, .mv (.const (.bool false)), none, 0⟩]) <|
    .keep [2] <|
    .ret)
    (.skip)) <|
  .ops [
    ⟨some 62, .bin .add (.tmp 46) (.const (.int .i64 1)), none, 0⟩,
    ⟨some 46, .mv (.tmp 62), none, 0⟩]
def i_impl_IsGraph_B2 : FC :=
  .seq (.ops [
    ⟨some 26, .bin .lss (.tmp 25) (.tmp 24), none, 0⟩]) <|
  .seq (.cond (.tmp 26)
    (.skip)
    (.keep [] <|
    .exit 0)) <|
  .seq (.block 1 <|
  .seq (.ops [
    ⟨some 27, .mv (.tmp 25), none, 0⟩,
    ⟨some 28, .idx 1 (.tmp 23) (.tmp 25), none, 0⟩,
    ⟨some 29, .load false 1 (.tmp 28), none, 0⟩,
    ⟨some 4, .mv (.tmp 27), none, 0⟩,
    ⟨some 5, .mv (.tmp 29), none, 0⟩]) <|
  .seq (.seq (.ops [
    ⟨some 30, .mv (.tmp 5), none, 0⟩,
    ⟨some 31, .bin .lss (.tmp 30) (.const (.int .i64 0)), none, 0⟩,
    ⟨some 32, .mv (.tmp 31), none, 0⟩,
    ⟨some 33, .mv (.tmp 5), some (32, false), 0⟩,
    ⟨some 34, .mv (.tmp 3), some (32, false), 0⟩,
    ⟨some 35, .bin .shl (.const (.int .i64 1)) (.tmp 34), some (32, false), 0⟩,
    ⟨some 36, .bin .geq (.tmp 33) (.tmp 35), some (32, false), 0⟩,
    ⟨some 37, .pick (.tmp 32) (.const (.bool true)) (.tmp 36), none, 0⟩,
    ⟨some 38, .mv (.tmp 37), none, 0⟩,
    ⟨some 39, .mv (.tmp 5), some (38, false), 0⟩,
    ⟨some 40, .mv (.tmp 4), some (38, false), 0⟩,
    ⟨some 41, .bin .shr (.tmp 39) (.tmp 40), some (38, false), 0⟩,
    ⟨some 42, .bin .and (.tmp 41) (.const (.int .i64 1)), some (38, false), 0⟩,
    ⟨some 43, .bin .eql (.tmp 42) (.const (.int .i64 1)), some (38, false), 0⟩,
    ⟨some 44, .pick (.tmp 38) (.const (.bool true)) (.tmp 43), none, 0⟩]) <|
  .cond (.tmp 44)
    (.seq (.ops [
      ⟨some 2, .mv (.const (.bool false)), none, 0⟩]) <|
    .keep [2] <|
    .ret)
    (.skip)) <|
  .seq (.ops [
    ⟨some 45, .mv (.tmp 3), none, 0⟩,
    ⟨some 46, .mv (.const (.int .i64 0)), none, 0⟩]) <|
  .block 2 <|
  .loop [1, 3, 4, 5, 23, 24, 25, 45, 46] i_impl_IsGraph_B1) <|
  .ops [
    ⟨some 63, .bin .add (.tmp 25) (.const (.int .i64 1)), none, 0⟩,
    ⟨some 25, .mv (.tmp 63), none, 0⟩]
def i_impl_IsGraph : FF := ⟨64, [.tmp 2],
  .seq (.ops [
    ⟨some 1, .box 2 (.tmp 0), none, 0⟩,
    ⟨some 2, .mv (.const (.bool false)), none, 0⟩]) <|
  .seq (.ops [
    ⟨some 7, .fld 0 (.tmp 1), none, 0⟩,
    ⟨some 8, .load false 1 (.tmp 7), none, 0⟩,
    ⟨some 3, .mv (.tmp 8), none, 0⟩]) <|
  .seq (.seq (.ops [
    ⟨some 9, .mv (.tmp 3), none, 0⟩,
    ⟨some 10, .bin .lss (.tmp 9) (.const (.int .i64 1)), none, 0⟩,
    ⟨some 11, .mv (.tmp 10), none, 0⟩,
    ⟨some 12, .mv (.tmp 3), some (11, false), 0⟩,
    ⟨some 13, .bin .gtr (.tmp 12) (.const (.int .i64 62)), some (11, false), 0⟩,
    ⟨some 14, .pick (.tmp 11) (.const (.bool true)) (.tmp 13), none, 0⟩,
    ⟨some 15, .mv (.tmp 14), none, 0⟩,
    ⟨some 16, .fld 1 (.tmp 1), some (15, false), 0⟩,
    ⟨some 17, .load false 1 (.tmp 16), some (15, false), 0⟩,
    ⟨some 18, .len (.tmp 17), some (15, false), 0⟩,
    ⟨some 19, .mv (.tmp 3), some (15, false), 0⟩,
    ⟨some 20, .bin .neq (.tmp 18) (.tmp 19), some (15, false), 0⟩,
    ⟨some 21, .pick (.tmp 15) (.const (.bool true)) (.tmp 20), none, 0⟩]) <|
  .cond (.tmp 21)
    (.seq (.ops [
      ⟨some 2, .mv (.const (.bool false)), none, 0⟩]) <|
    .keep [2] <|
    .ret)
    (.skip)) <|
  .seq (.seq (.ops [
    ⟨some 22, .fld 1 (.tmp 1), none, 0⟩,
    ⟨some 23, .load false 1 (.tmp 22), none, 0⟩,
    ⟨some 24, .len (.tmp 23), none, 0⟩,
    ⟨some 25, .mv (.const (.int .i64 0)), none, 0⟩]) <|
  .block 0 <|
  .loop [1, 3, 23, 24, 25] i_impl_IsGraph_B2) <|
  .seq (.ops [
    ⟨some 2, .mv (.const (.bool true)), none, 0⟩]) <|
  .keep [2] <|
  .ret⟩

theorem e_impl_IsGraph : EntOK Try.prog (compD Try.prog) k_impl_IsGraph i_impl_IsGraph.vf :=
  ⟨Try.f50, Try.f50.body.getD .skip, Try.func50, by kernel_rfl, by kernel_rfl, by kernel_rfl, by kernel_rfl, by kernel_rfl⟩

/-- loop.example/g01331/impl.made -/
def i_impl_made_B1 : FC :=
  .seq (.seq (.ops [
    ⟨some 16, .mv (.tmp 7), none, 0⟩,
    ⟨some 17, .mv (.tmp 0), none, 0⟩,
    ⟨some 18, .bin .lss (.tmp 16) (.tmp 17), none, 0⟩]) <|
  .cond (.tmp 18)
    (.skip)
    (.keep [0, 1, 4, 5, 10, 11] <|
    .exit 2)) <|
  .seq (.block 3 <|
  .seq (.ops [
    ⟨some 21, .mv (.tmp 1), none, 0⟩,
    ⟨some 22, .mv (.tmp 6), none, 0⟩,
    ⟨some 23, .mv (.tmp 7), none, 0⟩,
    ⟨some 24, .callv (.tmp 21) [(.tmp 22), (.tmp 23)], none, 0⟩]) <|
  .cond (.tmp 24)
    (.ops [
      ⟨some 25, .load true 2 (.tmp 5), none, 0⟩,
      ⟨some 26, .mv (.tmp 6), none, 0⟩,
      ⟨some 27, .mv (.tmp 7), none, 0⟩,
      ⟨some 28, .call k_impl_Graph_put [(.tmp 25), (.tmp 26), (.tmp 27)], none, 0⟩])
    (.skip)) <|
  .ops [
    ⟨some 19, .mv (.tmp 7), none, 0⟩,
    ⟨some 20, .bin .add (.tmp 19) (.const (.int .i64 1)), none, 0⟩,
    ⟨some 7, .mv (.tmp 20), none, 0⟩]
def i_impl_made_B2 : FC :=
  .seq (.ops [
    ⟨some 12, .bin .lss (.tmp 11) (.tmp 10), none, 0⟩]) <|
  .seq (.cond (.tmp 12)
    (.skip)
    (.keep [4, 5] <|
    .exit 0)) <|
  .seq (.block 1 <|
  .seq (.ops [
    ⟨some 13, .mv (.tmp 11), none, 0⟩,
    ⟨some 6, .mv (.tmp 13), none, 0⟩]) <|
  .seq (.ops [
    ⟨some 14, .mv (.tmp 6), none, 0⟩,
    ⟨some 15, .bin .add (.tmp 14) (.const (.int .i64 1)), none, 0⟩,
    ⟨some 7, .mv (.tmp 15), none, 0⟩]) <|
  .block 2 <|
  .loop [0, 1, 4, 5, 6, 7, 10, 11] i_impl_made_B1) <|
  .ops [
    ⟨some 29, .bin .add (.tmp 11) (.const (.int .i64 1)), none, 0⟩,
    ⟨some 11, .mv (.tmp 29), none, 0⟩]
def i_impl_made : FF := ⟨31, [.cell 4 true 2],
  .seq (.ops [
    ⟨some 4, .alloc [.int .i64 0, .slice none 0 0], none, 0⟩]) <|
  .seq (.ops [
    ⟨some 8, .mv (.tmp 0), none, 0⟩,
    ⟨some 9, .call k_impl_empty [(.tmp 8)], none, 0⟩,
    ⟨some 5, .alloc [.int .i64 0, .slice none 0 0], none, 0⟩,
    ⟨none, .store 2 (.tmp 5) (.tmp 9), none, 0⟩]) <|
  .seq (.seq (.ops [
    ⟨some 10, .mv (.tmp 0), none, 0⟩,
    ⟨some 11, .mv (.const (.int .i64 0)), none, 0⟩]) <|
  .block 0 <|
  .loop [0, 1, 4, 5, 10, 11] i_impl_made_B2) <|
  .seq (.ops [
    ⟨some 30, .load true 2 (.tmp 5), none, 0⟩,
    ⟨none, .store 2 (.tmp 4) (.tmp 30), none, 0⟩]) <|
  .keep [4] <|
  .ret⟩

theorem e_impl_made : EntOK Try.prog (compD Try.prog) k_impl_made i_impl_made.vf :=
  ⟨Try.f51, Try.f51.body.getD .skip, Try.func51, by kernel_rfl, by kernel_rfl, by kernel_rfl, by kernel_rfl, by kernel_rfl⟩

/-- loop.example/g01331/impl.DoubleGraph$1 -/
def i_impl_DoubleGraph_1 : FF := ⟨23, [.tmp 6],
  .seq (.ops [
    ⟨some 6, .mv (.const (.bool false)), none, 0⟩]) <|
  .seq (.ops [
    ⟨some 7, .mv (.tmp 0), none, 0⟩,
    ⟨some 8, .load false 1 (.tmp 2), none, 0⟩,
    ⟨some 9, .bin .lss (.tmp 7) (.tmp 8), none, 0⟩,
    ⟨some 10, .mv (.tmp 9), none, 0⟩,
    ⟨some 11, .mv (.tmp 1), some (10, true), 0⟩,
    ⟨some 12, .load false 1 (.tmp 2), some (10, true), 0⟩,
    ⟨some 13, .bin .geq (.tmp 11) (.tmp 12), some (10, true), 0⟩,
    ⟨some 14, .pick (.tmp 10) (.tmp 13) (.const (.bool false)), none, 0⟩,
    ⟨some 15, .mv (.tmp 14), none, 0⟩,
    ⟨some 16, .load true 2 (.tmp 3), some (15, true), 0⟩,
    ⟨some 17, .mv (.tmp 0), some (15, true), 0⟩,
    ⟨some 18, .mv (.tmp 1), some (15, true), 0⟩,
    ⟨some 19, .load false 1 (.tmp 2), some (15, true), 0⟩,
    ⟨some 20, .bin .sub (.tmp 18) (.tmp 19), some (15, true), 0⟩,
    ⟨some 21, .call k_impl_Graph_has [(.tmp 16), (.tmp 17), (.tmp 20)], some (15, true), 0⟩,
    ⟨some 22, .pick (.tmp 15) (.tmp 21) (.const (.bool false)), none, 0⟩,
    ⟨some 6, .mv (.tmp 22), none, 0⟩]) <|
  .keep [6] <|
  .ret⟩

theorem e_impl_DoubleGraph_1 : EntOK Try.prog (compD Try.prog) k_impl_DoubleGraph_1 i_impl_DoubleGraph_1.vf :=
  ⟨Try.f52, Try.f52.body.getD .skip, Try.func52, by kernel_rfl, by kernel_rfl, by kernel_rfl, by kernel_rfl, by kernel_rfl⟩

/-- (loop.example/g01331/impl.Graph).has -/
def i_impl_Graph_has : FF := ⟨16, [.tmp 6],
  .seq (.ops [
    ⟨some 3, .box 2 (.tmp 0), none, 0⟩,
    ⟨some 6, .mv (.const (.bool false)), none, 0⟩]) <|
  .seq (.ops [
    ⟨some 7, .fld 1 (.tmp 3), none, 0⟩,
    ⟨some 8, .load false 1 (.tmp 7), none, 0⟩,
    ⟨some 9, .mv (.tmp 1), none, 0⟩,
    ⟨some 10, .idx 1 (.tmp 8) (.tmp 9), none, 0⟩,
    ⟨some 11, .load false 1 (.tmp 10), none, 0⟩,
    ⟨some 12, .mv (.tmp 2), none, 0⟩,
    ⟨some 13, .bin .shr (.tmp 11) (.tmp 12), none, 0⟩,
    ⟨some 14, .bin .and (.tmp 13) (.const (.int .i64 1)), none, 0⟩,
    ⟨some 15, .bin .eql (.tmp 14) (.const (.int .i64 1)), none, 0⟩,
    ⟨some 6, .mv (.tmp 15), none, 0⟩]) <|
  .keep [6] <|
  .ret⟩

theorem e_impl_Graph_has : EntOK Try.prog (compD Try.prog) k_impl_Graph_has i_impl_Graph_has.vf :=
  ⟨Try.f53, Try.f53.body.getD .skip, Try.func53, by kernel_rfl, by kernel_rfl, by kernel_rfl, by kernel_rfl, by kernel_rfl⟩

/-- loop.example/g01331/laws.heldInt64S -/
def i_laws_heldInt64S_B1 : FC :=
  .seq (.seq (.ops [
    ⟨some 6, .mv (.tmp 5), none, 0⟩,
    ⟨some 7, .mv (.tmp 0), none, 0⟩,
    ⟨some 8, .len (.tmp 7), none, 0⟩,
    ⟨some 9, .bin .lss (.tmp 6) (.tmp 8), none, 0⟩]) <|
  .cond (.tmp 9)
    (.skip)
    (.keep [1] <|
    .exit 0)) <|
  .seq (.block 1 <|
  .seq (.seq (.ops [
    ⟨some 12, .mv (.tmp 0), none, 0⟩,
    ⟨some 13, .mv (.tmp 5), none, 0⟩,
    ⟨some 14, .idx 1 (.tmp 12) (.tmp 13), none, 0⟩,
    ⟨some 15, .load false 1 (.tmp 14), none, 0⟩,
    ⟨some 16, .mv (.tmp 1), none, 0⟩,
    ⟨some 17, .bin .neq (.tmp 15) (.tmp 16), none, 0⟩]) <|
  .cond (.tmp 17)
    (.seq (.ops [
      ⟨some 4, .mv (.const (.int .i64 (-1))), none, 0⟩]) <|
    .keep [4] <|
    .ret)
    (.skip)) <|
  .ops [
    ⟨some 18, .mv (.tmp 1), none, 0⟩,
    ⟨some 19, .bin .add (.tmp 18) (.const (.int .i64 1)), none, 0⟩,
    ⟨some 1, .mv (.tmp 19), none, 0⟩]) <|
  .ops [
    ⟨some 10, .mv (.tmp 5), none, 0⟩,
    ⟨some 11, .bin .add (.tmp 10) (.const (.int .i64 1)), none, 0⟩,
    ⟨some 5, .mv (.tmp 11), none, 0⟩]
def i_laws_heldInt64S : FF := ⟨21, [.tmp 4],
  .seq (.ops [
    ⟨some 4, .mv (.const (.int .i64 0)), none, 0⟩]) <|
  .seq (.seq (.ops [
    ⟨some 5, .mv (.const (.int .i64 0)), none, 0⟩]) <|
  .block 0 <|
  .loop [0, 1, 5] i_laws_heldInt64S_B1) <|
  .seq (.ops [
    ⟨some 20, .mv (.tmp 1), none, 0⟩,
    ⟨some 4, .mv (.tmp 20), none, 0⟩]) <|
  .keep [4] <|
  .ret⟩

theorem e_laws_heldInt64S : EntOK Try.prog (compD Try.prog) k_laws_heldInt64S i_laws_heldInt64S.vf :=
  ⟨Try.f54, Try.f54.body.getD .skip, Try.func54, by kernel_rfl, by kernel_rfl, by kernel_rfl, by kernel_rfl, by kernel_rfl⟩

/-- loop.example/g01331/laws.szDigraph -/
def i_laws_szDigraph : FF := ⟨12, [.tmp 4],
  .seq (.ops [
    ⟨some 2, .box 2 (.tmp 0), none, 0⟩,
    ⟨some 4, .mv (.const (.int .i64 0)), none, 0⟩]) <|
  .seq (.ops [
    ⟨some 5, .fld 1 (.tmp 2), none, 0⟩,
    ⟨some 6, .load false 1 (.tmp 5), none, 0⟩,
    ⟨some 7, .mv (.tmp 1), none, 0⟩,
    ⟨some 8, .call k_laws_szInt64S [(.tmp 6), (.tmp 7)], none, 0⟩,
    ⟨some 1, .mv (.tmp 8), none, 0⟩]) <|
  .seq (.seq (.ops [
    ⟨some 9, .mv (.tmp 1), none, 0⟩,
    ⟨some 10, .bin .lss (.tmp 9) (.const (.int .i64 0)), none, 0⟩]) <|
  .cond (.tmp 10)
    (.seq (.ops [
      ⟨some 4, .mv (.const (.int .i64 (-1))), none, 0⟩]) <|
    .keep [4] <|
    .ret)
    (.skip)) <|
  .seq (.ops [
    ⟨some 11, .mv (.tmp 1), none, 0⟩,
    ⟨some 4, .mv (.tmp 11), none, 0⟩]) <|
  .keep [4] <|
  .ret⟩

theorem e_laws_szDigraph : EntOK Try.prog (compD Try.prog) k_laws_szDigraph i_laws_szDigraph.vf :=
  ⟨Try.f55, Try.f55.body.getD .skip, Try.func55, by kernel_rfl, by kernel_rfl, by kernel_rfl, by kernel_rfl, by kernel_rfl⟩

/-- loop.example/g01331/spec.l08Is -/
def i_spec_l08Is_B1 : FC :=
  .seq (.seq (.ops [
    ⟨some 16, .mv (.tmp 3), none, 0⟩,
    ⟨some 17, .fld 1 (.tmp 1), none, 0⟩,
    ⟨some 18, .load false 1 (.tmp 17), none, 0⟩,
    ⟨some 19, .len (.tmp 18), none, 0⟩,
    ⟨some 20, .bin .lss (.tmp 16) (.tmp 19), none, 0⟩]) <|
  .cond (.tmp 20)
    (.skip)
    (.keep [] <|
    .exit 0)) <|
  .seq (.block 1 <|
  .seq (.dops [
    ⟨some 23, .fld 1 (.tmp 1), none, 0⟩,
    ⟨some 24, .load false 1 (.tmp 23), none, 0⟩,
    ⟨some 25, .mv (.tmp 3), none, 0⟩,
    ⟨some 26, .idx 1 (.tmp 24) (.tmp 25), none, 0⟩,
    ⟨some 27, .load false 1 (.tmp 26), none, 0⟩,
    ⟨some 28, .fld 0 (.tmp 1), none, 0⟩,
    ⟨some 29, .load false 1 (.tmp 28), none, 0⟩,
    ⟨some 30, .conv .u64 (.tmp 29), none, 0⟩,
    ⟨some 31, .bin .shl (.const (.int .i64 1)) (.tmp 30), none, 0⟩,
    ⟨some 32, .bin .sub (.tmp 31) (.const (.int .i64 1)), none, 0⟩,
    ⟨some 33, .call k_spec_l01In [(.tmp 27), (.const (.int .i64 0)), (.tmp 32)], none, 0⟩,
    ⟨some 34, .un .not (.tmp 33), none, 0⟩]) <|
  .cond (.tmp 34)
    (.seq (.ops [
      ⟨some 2, .mv (.const (.bool false)), none, 0⟩]) <|
    .keep [2] <|
    .ret)
    (.skip)) <|
  .ops [
    ⟨some 21, .mv (.tmp 3), none, 0⟩,
    ⟨some 22, .bin .add (.tmp 21) (.const (.int .i64 1)), none, 0⟩,
    ⟨some 3, .mv (.tmp 22), none, 0⟩]
def i_spec_l08Is : FF := ⟨35, [.tmp 2],
  .seq (.ops [
    ⟨some 1, .box 2 (.tmp 0), none, 0⟩,
    ⟨some 2, .mv (.const (.bool false)), none, 0⟩]) <|
  .seq (.seq (.ops [
    ⟨some 4, .fld 0 (.tmp 1), none, 0⟩,
    ⟨some 5, .load false 1 (.tmp 4), none, 0⟩,
    ⟨some 6, .call k_spec_l01In [(.tmp 5), (.const (.int .i64 1)), (.const (.int .i64 62))], none, 0⟩,
    ⟨some 7, .un .not (.tmp 6), none, 0⟩,
    ⟨some 8, .mv (.tmp 7), none, 0⟩,
    ⟨some 9, .fld 1 (.tmp 1), some (8, false), 0⟩,
    ⟨some 10, .load false 1 (.tmp 9), some (8, false), 0⟩,
    ⟨some 11, .len (.tmp 10), some (8, false), 0⟩,
    ⟨some 12, .fld 0 (.tmp 1), some (8, false), 0⟩,
    ⟨some 13, .load false 1 (.tmp 12), some (8, false), 0⟩,
    ⟨some 14, .bin .neq (.tmp 11) (.tmp 13), some (8, false), 0⟩,
    ⟨some 15, .pick (.tmp 8) (.const (.bool true)) (.tmp 14), none, 0⟩]) <|
  .cond (.tmp 15)
    (.seq (.ops [
      ⟨some 2, .mv (.const (.bool false)), none, 0⟩]) <|
    .keep [2] <|
    .ret)
    (.skip)) <|
  .seq (.seq (.ops [
    ⟨some 3, .mv (.const (.int .i64 0)), none, 0⟩]) <|
  .block 0 <|
  .loop [1, 3] i_spec_l08Is_B1) <|
  .seq (.ops [
    ⟨some 2, .mv (.const (.bool true)), none, 0⟩]) <|
  .keep [2] <|
  .ret⟩

theorem e_spec_l08Is : EntOK Try.prog (compD Try.prog) k_spec_l08Is i_spec_l08Is.vf :=
  ⟨Try.f56, Try.f56.body.getD .skip, Try.func56, by kernel_rfl, by kernel_rfl, by kernel_rfl, by kernel_rfl, by kernel_rfl⟩

/-- loop.example/g01331/laws.toDigraph -/
def i_laws_toDigraph : FF := ⟨12, [.cell 2 true 2],
  .seq (.ops [
    ⟨some 1, .box 2 (.tmp 0), none, 0⟩,
    ⟨some 2, .alloc [.int .i64 0, .slice none 0 0], none, 0⟩]) <|
  .seq (.ops [
    ⟨some 3, .alloc [.int .i64 0, .slice none 0 0], none, 0⟩]) <|
  .seq (.ops [
    ⟨some 4, .fld 0 (.tmp 1), none, 0⟩,
    ⟨some 5, .load false 1 (.tmp 4), none, 0⟩,
    ⟨some 6, .fld 0 (.tmp 3), none, 0⟩,
    ⟨none, .store 1 (.tmp 6) (.tmp 5), none, 0⟩]) <|
  .seq (.ops [
    ⟨some 7, .fld 1 (.tmp 1), none, 0⟩,
    ⟨some 8, .load false 1 (.tmp 7), none, 0⟩,
    ⟨some 9, .call k_laws_toInt64S [(.tmp 8)], none, 0⟩,
    ⟨some 10, .fld 1 (.tmp 3), none, 0⟩,
    ⟨none, .store 1 (.tmp 10) (.tmp 9), none, 0⟩]) <|
  .seq (.ops [
    ⟨some 11, .load true 2 (.tmp 3), none, 0⟩,
    ⟨none, .store 2 (.tmp 2) (.tmp 11), none, 0⟩]) <|
  .keep [2] <|
  .ret⟩

theorem e_laws_toDigraph : EntOK Try.prog (compD Try.prog) k_laws_toDigraph i_laws_toDigraph.vf :=
  ⟨Try.f57, Try.f57.body.getD .skip, Try.func57, by kernel_rfl, by kernel_rfl, by kernel_rfl, by kernel_rfl, by kernel_rfl⟩

/-- loop.example/g01331/impl.IsDigraph -/
def i_impl_IsDigraph : FF := ⟨24, [.tmp 2],
  .seq (.ops [
    ⟨some 1, .box 2 (.tmp 0), none, 0⟩,
    ⟨some 2, .mv (.const (.bool false)), none, 0⟩]) <|
  .seq (.ops [
    ⟨some 4, .fld 0 (.tmp 1), none, 0⟩,
    ⟨some 5, .load false 1 (.tmp 4), none, 0⟩,
    ⟨some 3, .alloc [.int .i64 0], none, 0⟩,
    ⟨none, .store 1 (.tmp 3) (.tmp 5), none, 0⟩]) <|
  .seq (.seq (.ops [
    ⟨some 6, .load false 1 (.tmp 3), none, 0⟩,
    ⟨some 7, .bin .lss (.tmp 6) (.const (.int .i64 1)), none, 0⟩,
    ⟨some 8, .mv (.tmp 7), none, 0⟩,
    ⟨some 9, .load false 1 (.tmp 3), some (8, false), 0⟩,
    ⟨some 10, .bin .gtr (.tmp 9) (.const (.int .i64 62)), some (8, false), 0⟩,
    ⟨some 11, .pick (.tmp 8) (.const (.bool true)) (.tmp 10), none, 0⟩,
    ⟨some 12, .mv (.tmp 11), none, 0⟩,
    ⟨some 13, .fld 1 (.tmp 1), some (12, false), 0⟩,
    ⟨some 14, .load false 1 (.tmp 13), some (12, false), 0⟩,
    ⟨some 15, .len (.tmp 14), some (12, false), 0⟩,
    ⟨some 16, .load false 1 (.tmp 3), some (12, false), 0⟩,
    ⟨some 17, .bin .neq (.tmp 15) (.tmp 16), some (12, false), 0⟩,
    ⟨some 18, .pick (.tmp 12) (.const (.bool true)) (.tmp 17), none, 0⟩]) <|
  .cond (.tmp 18)
    (.seq (.ops [
      ⟨some 2, .mv (.const (.bool false)), none, 0⟩]) <|
    .keep [2] <|
    .ret)
    (.skip)) <|
  .seq (.ops [
    ⟨some 19, .fld 1 (.tmp 1), none, 0⟩,
    ⟨some 20, .load false 1 (.tmp 19), none, 0⟩,
    ⟨some 21, .mkfn k_impl_IsDigraph_1 [] [(.tmp 3)], none, 0⟩,
    ⟨some 22, .call k_slices_ContainsFunc_int64_int64 [(.tmp 20), (.tmp 21)], none, 0⟩,
    ⟨some 23, .un .not (.tmp 22), none, 0⟩,
    ⟨some 2, .mv (.tmp 23), none, 0⟩]) <|
  .keep [2] <|
  .ret⟩

theorem e_impl_IsDigraph : EntOK Try.prog (compD Try.prog) k_impl_IsDigraph i_impl_IsDigraph.vf :=
  ⟨Try.f58, Try.f58.body.getD .skip, Try.func58, by kernel_rfl, by kernel_rfl, by kernel_rfl, by kernel_rfl, by kernel_rfl⟩

/-- loop.example/g01331/laws.eqDigraph -/
def i_laws_eqDigraph : FF := ⟨16, [.tmp 4],
  .seq (.ops [
    ⟨some 2, .box 2 (.tmp 0), none, 0⟩,
    ⟨some 3, .box 2 (.tmp 1), none, 0⟩,
    ⟨some 4, .mv (.const (.bool false)), none, 0⟩]) <|
  .seq (.seq (.ops [
    ⟨some 5, .fld 0 (.tmp 2), none, 0⟩,
    ⟨some 6, .load false 1 (.tmp 5), none, 0⟩,
    ⟨some 7, .fld 0 (.tmp 3), none, 0⟩,
    ⟨some 8, .load false 1 (.tmp 7), none, 0⟩,
    ⟨some 9, .bin .neq (.tmp 6) (.tmp 8), none, 0⟩]) <|
  .cond (.tmp 9)
    (.seq (.ops [
      ⟨some 4, .mv (.const (.bool false)), none, 0⟩]) <|
    .keep [4] <|
    .ret)
    (.skip)) <|
  .seq (.seq (.ops [
    ⟨some 10, .fld 1 (.tmp 2), none, 0⟩,
    ⟨some 11, .load false 1 (.tmp 10), none, 0⟩,
    ⟨some 12, .fld 1 (.tmp 3), none, 0⟩,
    ⟨some 13, .load false 1 (.tmp 12), none, 0⟩,
    ⟨some 14, .call k_laws_eqInt64S [(.tmp 11), (.tmp 13)], none, 0⟩,
    ⟨some 15, .un .not (.tmp 14), none, 0⟩]) <|
  .cond (.tmp 15)
    (.seq (.ops [
      ⟨some 4, .mv (.const (.bool false)), none, 0⟩]) <|
    .keep [4] <|
    .ret)
    (.skip)) <|
  .seq (.ops [
    ⟨some 4, .mv (.const (.bool true)), none, 0⟩]) <|
  .keep [4] <|
  .ret⟩

theorem e_laws_eqDigraph : EntOK Try.prog (compD Try.prog) k_laws_eqDigraph i_laws_eqDigraph.vf :=
  ⟨Try.f59, Try.f59.body.getD .skip, Try.func59, by kernel_rfl, by kernel_rfl, by kernel_rfl, by kernel_rfl, by kernel_rfl⟩

/-- loop.example/g01331/spec.l01In -/
def i_spec_l01In : FF := ⟨15, [.tmp 6],
  .seq (.ops [
    ⟨some 6, .mv (.const (.bool false)), none, 0⟩]) <|
  .seq (.ops [
    ⟨some 7, .mv (.tmp 0), none, 0⟩,
    ⟨some 8, .mv (.tmp 1), none, 0⟩,
    ⟨some 9, .bin .geq (.tmp 7) (.tmp 8), none, 0⟩,
    ⟨some 10, .mv (.tmp 9), none, 0⟩,
    ⟨some 11, .mv (.tmp 0), some (10, true), 0⟩,
    ⟨some 12, .mv (.tmp 2), some (10, true), 0⟩,
    ⟨some 13, .bin .leq (.tmp 11) (.tmp 12), some (10, true), 0⟩,
    ⟨some 14, .pick (.tmp 10) (.tmp 13) (.const (.bool false)), none, 0⟩,
    ⟨some 6, .mv (.tmp 14), none, 0⟩]) <|
  .keep [6] <|
  .ret⟩

theorem e_spec_l01In : EntOK Try.prog (compD Try.prog) k_spec_l01In i_spec_l01In.vf :=
  ⟨Try.f60, Try.f60.body.getD .skip, Try.func60, by kernel_rfl, by kernel_rfl, by kernel_rfl, by kernel_rfl, by kernel_rfl⟩

/-- loop.example/g01331/spec.l01Neighbours -/
def i_spec_l01Neighbours_B1 : FC :=
  .seq (.seq (.ops [
    ⟨some 8, .mv (.tmp 6), none, 0⟩,
    ⟨some 9, .fld 0 (.tmp 2), none, 0⟩,
    ⟨some 10, .load false 1 (.tmp 9), none, 0⟩,
    ⟨some 11, .bin .lss (.tmp 8) (.tmp 10), none, 0⟩]) <|
  .cond (.tmp 11)
    (.skip)
    (.keep [5] <|
    .exit 0)) <|
  .seq (.block 1 <|
  .seq (.ops [
    ⟨some 14, .load true 2 (.tmp 2), none, 0⟩,
    ⟨some 15, .mv (.tmp 1), none, 0⟩,
    ⟨some 16, .mv (.tmp 6), none, 0⟩,
    ⟨some 17, .call k_spec_l01Has [(.tmp 14), (.tmp 15), (.tmp 16)], none, 0⟩]) <|
  .cond (.tmp 17)
    (.ops [
      ⟨some 18, .mv (.tmp 5), none, 0⟩,
      ⟨some 19, .mv (.tmp 6), none, 0⟩,
      ⟨some 20, .buildSl 1 [.int .i64 0] [(0, 1, (.tmp 19))] 1, none, 0⟩,
      ⟨some 21, .app 1 8 [.int .i64 0] (.tmp 18) (.tmp 20), none, 0⟩,
      ⟨some 5, .mv (.tmp 21), none, 0⟩])
    (.skip)) <|
  .ops [
    ⟨some 12, .mv (.tmp 6), none, 0⟩,
    ⟨some 13, .bin .add (.tmp 12) (.const (.int .i64 1)), none, 0⟩,
    ⟨some 6, .mv (.tmp 13), none, 0⟩]
def i_spec_l01Neighbours : FF := ⟨23, [.tmp 4],
  .seq (.ops [
    ⟨some 2, .box 2 (.tmp 0), none, 0⟩,
    ⟨some 4, .mv (.const (.slice none 0 0)), none, 0⟩]) <|
  .seq (.ops [
    ⟨some 7, .buildSl 1 [] [] 0, none, 0⟩,
    ⟨some 5, .mv (.tmp 7), none, 0⟩]) <|
  .seq (.seq (.ops [
    ⟨some 6, .mv (.const (.int .i64 0)), none, 0⟩]) <|
  .block 0 <|
  .loop [1, 2, 5, 6] i_spec_l01Neighbours_B1) <|
  .seq (.ops [
    ⟨some 22, .mv (.tmp 5), none, 0⟩,
    ⟨some 4, .mv (.tmp 22), none, 0⟩]) <|
  .keep [4] <|
  .ret⟩

theorem e_spec_l01Neighbours : EntOK Try.prog (compD Try.prog) k_spec_l01Neighbours i_spec_l01Neighbours.vf :=
  ⟨Try.f61, Try.f61.body.getD .skip, Try.func61, by kernel_rfl, by kernel_rfl, by kernel_rfl, by kernel_rfl, by kernel_rfl⟩

/-- loop.example/g01331/impl.areGraphs -/
def i_impl_areGraphs_B1 : FC :=
  .seq (.ops [
    ⟨some 8, .bin .lss (.tmp 7) (.tmp 6), none, 0⟩]) <|
  .seq (.cond (.tmp 8)
    (.skip)
    (.keep [] <|
    .exit 0)) <|
  .seq (.block 1 <|
  .seq (.ops [
    ⟨some 9, .idx 2 (.tmp 5) (.tmp 7), none, 0⟩,
    ⟨some 10, .load true 2 (.tmp 9), none, 0⟩,
    ⟨some 4, .alloc [.int .i64 0, .slice none 0 0], none, 0⟩,
    ⟨none, .store 2 (.tmp 4) (.tmp 10), none, 0⟩]) <|
  .seq (.ops [
    ⟨some 11, .load true 2 (.tmp 4), none, 0⟩,
    ⟨some 12, .call k_impl_IsGraph [(.tmp 11)], none, 0⟩,
    ⟨some 13, .un .not (.tmp 12), none, 0⟩]) <|
  .cond (.tmp 13)
    (.seq (.ops [
      ⟨some 2, .mv (.const (.bool false)), none, 0⟩]) <|
    .keep [2] <|
    .ret)
    (.skip)) <|
  .ops [
    ⟨some 14, .bin .add (.tmp 7) (.const (.int .i64 1)), none, 0⟩,
    ⟨some 7, .mv (.tmp 14), none, 0⟩]
def i_impl_areGraphs : FF := ⟨15, [.tmp 2],
  .seq (.ops [
    ⟨some 2, .mv (.const (.bool false)), none, 0⟩]) <|
  .seq (.seq (.ops [
    ⟨some 5, .mv (.tmp 0), none, 0⟩,
    ⟨some 6, .len (.tmp 5), none, 0⟩,
    ⟨some 7, .mv (.const (.int .i64 0)), none, 0⟩]) <|
  .block 0 <|
  .loop [5, 6, 7] i_impl_areGraphs_B1) <|
  .seq (.ops [
    ⟨some 2, .mv (.const (.bool true)), none, 0⟩]) <|
  .keep [2] <|
  .ret⟩

theorem e_impl_areGraphs : EntOK Try.prog (compD Try.prog) k_impl_areGraphs i_impl_areGraphs.vf :=
  ⟨Try.f62, Try.f62.body.getD .skip, Try.func62, by kernel_rfl, by kernel_rfl, by kernel_rfl, by kernel_rfl, by kernel_rfl⟩

/-- loop.example/g01331/impl.graphCode -/
def i_impl_graphCode_B1 : FC :=
  .seq (.ops [
    ⟨some 13, .bin .lss (.tmp 12) (.tmp 11), none, 0⟩]) <|
  .seq (.cond (.tmp 13)
    (.skip)
    (.keep [] <|
    .exit 0)) <|
  .seq (.block 1 <|
  .seq (.ops [
    ⟨some 14, .idx 1 (.tmp 10) (.tmp 12), none, 0⟩,
    ⟨some 15, .load false 1 (.tmp 14), none, 0⟩,
    ⟨some 6, .mv (.tmp 15), none, 0⟩]) <|
  .seq (.ops [
    ⟨some 16, .mv (.tmp 6), none, 0⟩,
    ⟨some 17, .bin .lss (.tmp 16) (.const (.int .i64 0)), none, 0⟩,
    ⟨some 18, .mv (.tmp 17), none, 0⟩,
    ⟨some 19, .mv (.tmp 6), some (18, false), 0⟩,
    ⟨some 20, .fld 0 (.tmp 2), some (18, false), 0⟩,
    ⟨some 21, .load false 1 (.tmp 20), some (18, false), 0⟩,
    ⟨some 22, .bin .geq (.tmp 19) (.tmp 21), some (18, false), 0⟩,
    ⟨some 23, .pick (.tmp 18) (.const (.bool true)) (.tmp 22), none, 0⟩]) <|
  .cond (.tmp 23)
    (.seq (.ops [
      ⟨some 4, .mv (.const (.int .i64 2)), none, 0⟩]) <|
    .keep [4] <|
    .ret)
    (.skip)) <|
  .ops [
    ⟨some 24, .bin .add (.tmp 12) (.const (.int .i64 1)), none, 0⟩,
    ⟨some 12, .mv (.tmp 24), none, 0⟩]
def i_impl_graphCode : FF := ⟨25, [.tmp 4],
  .seq (.ops [
    ⟨some 2, .box 2 (.tmp 0), none, 0⟩,
    ⟨some 4, .mv (.const (.int .i64 0)), none, 0⟩]) <|
  .seq (.seq (.ops [
    ⟨some 7, .load true 2 (.tmp 2), none, 0⟩,
    ⟨some 8, .call k_impl_IsGraph [(.tmp 7)], none, 0⟩,
    ⟨some 9, .un .not (.tmp 8), none, 0⟩]) <|
  .cond (.tmp 9)
    (.seq (.ops [
      ⟨some 4, .mv (.const (.int .i64 1)), none, 0⟩]) <|
    .keep [4] <|
    .ret)
    (.skip)) <|
  .seq (.seq (.ops [
    ⟨some 10, .mv (.tmp 1), none, 0⟩,
    ⟨some 11, .len (.tmp 10), none, 0⟩,
    ⟨some 12, .mv (.const (.int .i64 0)), none, 0⟩]) <|
  .block 0 <|
  .loop [2, 10, 11, 12] i_impl_graphCode_B1) <|
  .seq (.ops [
    ⟨some 4, .mv (.const (.int .i64 0)), none, 0⟩]) <|
  .keep [4] <|
  .ret⟩

theorem e_impl_graphCode : EntOK Try.prog (compD Try.prog) k_impl_graphCode i_impl_graphCode.vf :=
  ⟨Try.f63, Try.f63.body.getD .skip, Try.func63, by kernel_rfl, by kernel_rfl, by kernel_rfl, by kernel_rfl, by kernel_rfl⟩

/-- loop.example/g01331/impl.size -/
def i_impl_size : FF := ⟨6, [.tmp 2],
  .seq (.ops [
    ⟨some 2, .mv (.const (.int .i64 0)), none, 0⟩]) <|
  .seq (.ops [
    ⟨some 3, .mv (.tmp 0), none, 0⟩,
    ⟨some 4, .conv .u64 (.tmp 3), none, 0⟩,
    ⟨some 5, .call k_math_bits_OnesCount64 [(.tmp 4)], none, 0⟩,
    ⟨some 2, .mv (.tmp 5), none, 0⟩]) <|
  .keep [2] <|
  .ret⟩

theorem e_impl_size : EntOK Try.prog (compD Try.prog) k_impl_size i_impl_size.vf :=
  ⟨Try.f64, Try.f64.body.getD .skip, Try.func64, by kernel_rfl, by kernel_rfl, by kernel_rfl, by kernel_rfl, by kernel_rfl⟩

/-- (loop.example/g01331/impl.Graph).degree -/
def i_impl_Graph_degree : FF := ⟨11, [.tmp 4],
  .seq (.ops [
    ⟨some 2, .box 2 (.tmp 0), none, 0⟩,
    ⟨some 4, .mv (.const (.int .i64 0)), none, 0⟩]) <|
  .seq (.ops [
    ⟨some 5, .fld 1 (.tmp 2), none, 0⟩,
    ⟨some 6, .load false 1 (.tmp 5), none, 0⟩,
    ⟨some 7, .mv (.tmp 1), none, 0⟩,
    ⟨some 8, .idx 1 (.tmp 6) (.tmp 7), none, 0⟩,
    ⟨some 9, .load false 1 (.tmp 8), none, 0⟩,
    ⟨some 10, .call k_impl_size [(.tmp 9)], none, 0⟩,
    ⟨some 4, .mv (.tmp 10), none, 0⟩]) <|
  .keep [4] <|
  .ret⟩

theorem e_impl_Graph_degree : EntOK Try.prog (compD Try.prog) k_impl_Graph_degree i_impl_Graph_degree.vf :=
  ⟨Try.f65, Try.f65.body.getD .skip, Try.func65, by kernel_rfl, by kernel_rfl, by kernel_rfl, by kernel_rfl, by kernel_rfl⟩

/-- loop.example/g01331/spec.l01Vertices -/
def i_spec_l01Vertices_B1 : FC :=
  .seq (.seq (.ops [
    ⟨some 9, .mv (.tmp 5), none, 0⟩,
    ⟨some 10, .mv (.tmp 1), none, 0⟩,
    ⟨some 11, .len (.tmp 10), none, 0⟩,
    ⟨some 12, .bin .lss (.tmp 9) (.tmp 11), none, 0⟩]) <|
  .cond (.tmp 12)
    (.skip)
    (.keep [] <|
    .exit 0)) <|
  .seq (.block 1 <|
  .seq (.dops [
    ⟨some 15, .mv (.tmp 1), none, 0⟩,
    ⟨some 16, .mv (.tmp 5), none, 0⟩,
    ⟨some 17, .idx 1 (.tmp 15) (.tmp 16), none, 0⟩,
    ⟨some 18, .load false 1 (.tmp 17), none, 0⟩,
    ⟨some 19, .fld 0 (.tmp 2), none, 0⟩,
    ⟨some 20, .load false 1 (.tmp 19), none, 0⟩,
    ⟨some 21, .bin .sub (.tmp 20) (.const (.int .i64 1)), none, 0⟩,
    ⟨some 22, .call k_spec_l01In [(.tmp 18), (.const (.int .i64 0)), (.tmp 21)], none, 0⟩,
    ⟨some 23, .un .not (.tmp 22), none, 0⟩]) <|
  .cond (.tmp 23)
    (.seq (.ops [
      ⟨some 4, .mv (.const (.int .i64 2)), none, 0⟩]) <|
    .keep [4] <|
    .ret)
    (.skip)) <|
  .ops [
    ⟨some 13, .mv (.tmp 5), none, 0⟩,
    ⟨some 14, .bin .add (.tmp 13) (.const (.int .i64 1)), none, 0⟩,
    ⟨some 5, .mv (.tmp 14), none, 0⟩]
def i_spec_l01Vertices : FF := ⟨24, [.tmp 4],
  .seq (.ops [
    ⟨some 2, .box 2 (.tmp 0), none, 0⟩,
    ⟨some 4, .mv (.const (.int .i64 0)), none, 0⟩]) <|
  .seq (.seq (.ops [
    ⟨some 6, .load true 2 (.tmp 2), none, 0⟩,
    ⟨some 7, .call k_spec_l01Is [(.tmp 6)], none, 0⟩,
    ⟨some 8, .un .not (.tmp 7), none, 0⟩]) <|
  .cond (.tmp 8)
    (.seq (.ops [
      ⟨some 4, .mv (.const (.int .i64 1)), none, 0⟩]) <|
    .keep [4] <|
    .ret)
    (.skip)) <|
  .seq (.seq (.ops [
    ⟨some 5, .mv (.const (.int .i64 0)), none, 0⟩]) <|
  .block 0 <|
  .loop [1, 2, 5] i_spec_l01Vertices_B1) <|
  .seq (.ops [
    ⟨some 4, .mv (.const (.int .i64 0)), none, 0⟩]) <|
  .keep [4] <|
  .ret⟩

theorem e_spec_l01Vertices : EntOK Try.prog (compD Try.prog) k_spec_l01Vertices i_spec_l01Vertices.vf :=
  ⟨Try.f66, Try.f66.body.getD .skip, Try.func66, by kernel_rfl, by kernel_rfl, by kernel_rfl, by kernel_rfl, by kernel_rfl⟩

/-- loop.example/g01331/spec.l01On -/
def i_spec_l01On_B1 : FC :=
  .seq (.seq (.ops [
    ⟨some 17, .mv (.tmp 7), none, 0⟩,
    ⟨some 18, .mv (.tmp 6), none, 0⟩,
    ⟨some 19, .bin .lss (.tmp 17) (.tmp 18), none, 0⟩]) <|
  .cond (.tmp 19)
    (.skip)
    (.keep [1, 2, 4, 5, 6] <|
    .exit 2)) <|
  .seq (.block 3 <|
  .seq (.dops [
    ⟨some 22, .load true 2 (.tmp 2), none, 0⟩,
    ⟨some 23, .mv (.tmp 1), none, 0⟩,
    ⟨some 24, .mv (.tmp 6), none, 0⟩,
    ⟨some 25, .idx 1 (.tmp 23) (.tmp 24), none, 0⟩,
    ⟨some 26, .load false 1 (.tmp 25), none, 0⟩,
    ⟨some 27, .mv (.tmp 1), none, 0⟩,
    ⟨some 28, .mv (.tmp 7), none, 0⟩,
    ⟨some 29, .idx 1 (.tmp 27) (.tmp 28), none, 0⟩,
    ⟨some 30, .load false 1 (.tmp 29), none, 0⟩,
    ⟨some 31, .call k_spec_l01Has [(.tmp 22), (.tmp 26), (.tmp 30)], none, 0⟩]) <|
  .cond (.tmp 31)
    (.ops [
      ⟨some 32, .load true 2 (.tmp 5), none, 0⟩,
      ⟨some 33, .mv (.tmp 6), none, 0⟩,
      ⟨some 34, .mv (.tmp 7), none, 0⟩,
      ⟨some 35, .call k_spec_l01Put [(.tmp 32), (.tmp 33), (.tmp 34)], none, 0⟩])
    (.skip)) <|
  .ops [
    ⟨some 20, .mv (.tmp 7), none, 0⟩,
    ⟨some 21, .bin .add (.tmp 20) (.const (.int .i64 1)), none, 0⟩,
    ⟨some 7, .mv (.tmp 21), none, 0⟩]
def i_spec_l01On_B2 : FC :=
  .seq (.seq (.ops [
    ⟨some 11, .mv (.tmp 6), none, 0⟩,
    ⟨some 12, .mv (.tmp 1), none, 0⟩,
    ⟨some 13, .len (.tmp 12), none, 0⟩,
    ⟨some 14, .bin .lss (.tmp 11) (.tmp 13), none, 0⟩]) <|
  .cond (.tmp 14)
    (.skip)
    (.keep [4, 5] <|
    .exit 0)) <|
  .seq (.block 1 <|
  .seq (.ops [
    ⟨some 7, .mv (.const (.int .i64 0)), none, 0⟩]) <|
  .block 2 <|
  .loop [1, 2, 4, 5, 6, 7] i_spec_l01On_B1) <|
  .ops [
    ⟨some 15, .mv (.tmp 6), none, 0⟩,
    ⟨some 16, .bin .add (.tmp 15) (.const (.int .i64 1)), none, 0⟩,
    ⟨some 6, .mv (.tmp 16), none, 0⟩]
def i_spec_l01On : FF := ⟨37, [.cell 4 true 2],
  .seq (.ops [
    ⟨some 2, .box 2 (.tmp 0), none, 0⟩,
    ⟨some 4, .alloc [.int .i64 0, .slice none 0 0], none, 0⟩]) <|
  .seq (.ops [
    ⟨some 8, .mv (.tmp 1), none, 0⟩,
    ⟨some 9, .len (.tmp 8), none, 0⟩,
    ⟨some 10, .call k_spec_l01Empty [(.tmp 9)], none, 0⟩,
    ⟨some 5, .alloc [.int .i64 0, .slice none 0 0], none, 0⟩,
    ⟨none, .store 2 (.tmp 5) (.tmp 10), none, 0⟩]) <|
  .seq (.seq (.ops [
    ⟨some 6, .mv (.const (.int .i64 0)), none, 0⟩]) <|
  .block 0 <|
  .loop [1, 2, 4, 5, 6] i_spec_l01On_B2) <|
  .seq (.ops [
    ⟨some 36, .load true 2 (.tmp 5), none, 0⟩,
    ⟨none, .store 2 (.tmp 4) (.tmp 36), none, 0⟩]) <|
  .keep [4] <|
  .ret⟩

theorem e_spec_l01On : EntOK Try.prog (compD Try.prog) k_spec_l01On i_spec_l01On.vf :=
  ⟨Try.f67, Try.f67.body.getD .skip, Try.func67, by kernel_rfl, by kernel_rfl, by kernel_rfl, by kernel_rfl, by kernel_rfl⟩

/-- (loop.example/g01331/impl.Graph).partOn -/
def i_impl_Graph_partOn_B1 : FC :=
  .seq (.ops [
    ⟨some 23, .bin .lss (.tmp 22) (.tmp 21), none, 0⟩]) <|
  .seq (.cond (.tmp 23)
    (.skip)
    (.keep [1, 2, 4, 5, 13, 14, 15] <|
    .exit 2)) <|
  .seq (.block 3 <|
  .seq (.ops [
    ⟨some 24, .mv (.tmp 22), none, 0⟩,
    ⟨some 25, .idx 1 (.tmp 20) (.tmp 22), none, 0⟩,
    ⟨some 26, .load false 1 (.tmp 25), none, 0⟩,
    ⟨some 8, .mv (.tmp 24), none, 0⟩,
    ⟨some 9, .mv (.tmp 26), none, 0⟩]) <|
  .seq (.ops [
    ⟨some 27, .load true 2 (.tmp 2), none, 0⟩,
    ⟨some 28, .mv (.tmp 7), none, 0⟩,
    ⟨some 29, .mv (.tmp 9), none, 0⟩,
    ⟨some 30, .call k_impl_Graph_has [(.tmp 27), (.tmp 28), (.tmp 29)], none, 0⟩]) <|
  .cond (.tmp 30)
    (.ops [
      ⟨some 31, .load true 2 (.tmp 5), none, 0⟩,
      ⟨some 32, .mv (.tmp 6), none, 0⟩,
      ⟨some 33, .mv (.tmp 8), none, 0⟩,
      ⟨some 34, .call k_impl_Graph_put [(.tmp 31), (.tmp 32), (.tmp 33)], none, 0⟩])
    (.skip)) <|
  .ops [
    ⟨some 35, .bin .add (.tmp 22) (.const (.int .i64 1)), none, 0⟩,
    ⟨some 22, .mv (.tmp 35), none, 0⟩]
def i_impl_Graph_partOn_B2 : FC :=
  .seq (.ops [
    ⟨some 16, .bin .lss (.tmp 15) (.tmp 14), none, 0⟩]) <|
  .seq (.cond (.tmp 16)
    (.skip)
    (.keep [4, 5] <|
    .exit 0)) <|
  .seq (.block 1 <|
  .seq (.ops [
    ⟨some 17, .mv (.tmp 15), none, 0⟩,
    ⟨some 18, .idx 1 (.tmp 13) (.tmp 15), none, 0⟩,
    ⟨some 19, .load false 1 (.tmp 18), none, 0⟩,
    ⟨some 6, .mv (.tmp 17), none, 0⟩,
    ⟨some 7, .mv (.tmp 19), none, 0⟩]) <|
  .seq (.ops [
    ⟨some 20, .mv (.tmp 1), none, 0⟩,
    ⟨some 21, .len (.tmp 20), none, 0⟩,
    ⟨some 22, .mv (.const (.int .i64 0)), none, 0⟩]) <|
  .block 2 <|
  .loop [1, 2, 4, 5, 6, 7, 13, 14, 15, 20, 21, 22] i_impl_Graph_partOn_B1) <|
  .ops [
    ⟨some 36, .bin .add (.tmp 15) (.const (.int .i64 1)), none, 0⟩,
    ⟨some 15, .mv (.tmp 36), none, 0⟩]
def i_impl_Graph_partOn : FF := ⟨38, [.cell 4 true 2],
  .seq (.ops [
    ⟨some 2, .box 2 (.tmp 0), none, 0⟩,
    ⟨some 4, .alloc [.int .i64 0, .slice none 0 0], none, 0⟩]) <|
  .seq (.ops [
    ⟨some 10, .mv (.tmp 1), none, 0⟩,
    ⟨some 11, .len (.tmp 10), none, 0⟩,
    ⟨some 12, .call k_impl_empty [(.tmp 11)], none, 0⟩,
    ⟨some 5, .alloc [.int .i64 0, .slice none 0 0], none, 0⟩,
    ⟨none, .store 2 (.tmp 5) (.tmp 12), none, 0⟩]) <|
  .seq (.seq (.ops [
    ⟨some 13, .mv (.tmp 1), none, 0⟩,
    ⟨some 14, .len (.tmp 13), none, 0⟩,
    ⟨some 15, .mv (.const (.int .i64 0)), none, 0⟩]) <|
  .block 0 <|
  .loop [1, 2, 4, 5, 13, 14, 15] i_impl_Graph_partOn_B2) <|
  .seq (.ops [
    ⟨some 37, .load true 2 (.tmp 5), none, 0⟩,
    ⟨none, .store 2 (.tmp 4) (.tmp 37), none, 0⟩]) <|
  .keep [4] <|
  .ret⟩

theorem e_impl_Graph_partOn : EntOK Try.prog (compD Try.prog) k_impl_Graph_partOn i_impl_Graph_partOn.vf :=
  ⟨Try.f68, Try.f68.body.getD .skip, Try.func68, by kernel_rfl, by kernel_rfl, by kernel_rfl, by kernel_rfl, by kernel_rfl⟩

/-- loop.example/g01331/spec.l01Two -/
def i_spec_l01Two : FF := ⟨21, [.tmp 6],
  .seq (.ops [
    ⟨some 3, .box 2 (.tmp 0), none, 0⟩,
    ⟨some 6, .mv (.const (.int .i64 0)), none, 0⟩]) <|
  .seq (.ops [
    ⟨some 8, .load true 2 (.tmp 3), none, 0⟩,
    ⟨some 9, .mv (.tmp 1), none, 0⟩,
    ⟨some 10, .mv (.tmp 2), none, 0⟩,
    ⟨some 11, .buildSl 1 [.int .i64 0, .int .i64 0] [(0, 1, (.tmp 9)), (1, 1, (.tmp 10))] 2, none, 0⟩,
    ⟨some 12, .call k_spec_l01Vertices [(.tmp 8), (.tmp 11)], none, 0⟩,
    ⟨some 7, .mv (.tmp 12), none, 0⟩]) <|
  .seq (.seq (.ops [
    ⟨some 13, .mv (.tmp 7), none, 0⟩,
    ⟨some 14, .bin .eql (.tmp 13) (.const (.int .i64 0)), none, 0⟩,
    ⟨some 15, .mv (.tmp 14), none, 0⟩,
    ⟨some 16, .mv (.tmp 1), some (15, true), 0⟩,
    ⟨some 17, .mv (.tmp 2), some (15, true), 0⟩,
    ⟨some 18, .bin .eql (.tmp 16) (.tmp 17), some (15, true), 0⟩,
    ⟨some 19, .pick (.tmp 15) (.tmp 18) (.const (.bool false)), none, 0⟩]) <|
  .cond (.tmp 19)
    (.seq (.ops [
      ⟨some 6, .mv (.const (.int .i64 2)), none, 0⟩]) <|
    .keep [6] <|
    .ret)
    (.skip)) <|
  .seq (.ops [
    ⟨some 20, .mv (.tmp 7), none, 0⟩,
    ⟨some 6, .mv (.tmp 20), none, 0⟩]) <|
  .keep [6] <|
  .ret⟩

theorem e_spec_l01Two : EntOK Try.prog (compD Try.prog) k_spec_l01Two i_spec_l01Two.vf :=
  ⟨Try.f69, Try.f69.body.getD .skip, Try.func69, by kernel_rfl, by kernel_rfl, by kernel_rfl, by kernel_rfl, by kernel_rfl⟩

/-- loop.example/g01331/spec.l01Has -/
def i_spec_l01Has : FF := ⟨17, [.tmp 6],
  .seq (.ops [
    ⟨some 3, .box 2 (.tmp 0), none, 0⟩,
    ⟨some 6, .mv (.const (.bool false)), none, 0⟩]) <|
  .seq (.ops [
    ⟨some 7, .fld 1 (.tmp 3), none, 0⟩,
    ⟨some 8, .load false 1 (.tmp 7), none, 0⟩,
    ⟨some 9, .mv (.tmp 1), none, 0⟩,
    ⟨some 10, .idx 1 (.tmp 8) (.tmp 9), none, 0⟩,
    ⟨some 11, .load false 1 (.tmp 10), none, 0⟩,
    ⟨some 12, .mv (.tmp 2), none, 0⟩,
    ⟨some 13, .conv .u64 (.tmp 12), none, 0⟩,
    ⟨some 14, .bin .shr (.tmp 11) (.tmp 13), none, 0⟩,
    ⟨some 15, .bin .and (.tmp 14) (.const (.int .i64 1)), none, 0⟩,
    ⟨some 16, .bin .eql (.tmp 15) (.const (.int .i64 1)), none, 0⟩,
    ⟨some 6, .mv (.tmp 16), none, 0⟩]) <|
  .keep [6] <|
  .ret⟩

theorem e_spec_l01Has : EntOK Try.prog (compD Try.prog) k_spec_l01Has i_spec_l01Has.vf :=
  ⟨Try.f70, Try.f70.body.getD .skip, Try.func70, by kernel_rfl, by kernel_rfl, by kernel_rfl, by kernel_rfl, by kernel_rfl⟩

/-- loop.example/g01331/spec.l01Join -/
def i_spec_l01Join : FF := ⟨15, [.cell 6 true 2],
  .seq (.ops [
    ⟨some 3, .box 2 (.tmp 0), none, 0⟩,
    ⟨some 6, .alloc [.int .i64 0, .slice none 0 0], none, 0⟩]) <|
  .seq (.ops [
    ⟨some 8, .load true 2 (.tmp 3), none, 0⟩,
    ⟨some 9, .call k_spec_l01Copy [(.tmp 8)], none, 0⟩,
    ⟨some 7, .alloc [.int .i64 0, .slice none 0 0], none, 0⟩,
    ⟨none, .store 2 (.tmp 7) (.tmp 9), none, 0⟩]) <|
  .seq (.ops [
    ⟨some 10, .load true 2 (.tmp 7), none, 0⟩,
    ⟨some 11, .mv (.tmp 1), none, 0⟩,
    ⟨some 12, .mv (.tmp 2), none, 0⟩,
    ⟨some 13, .call k_spec_l01Put [(.tmp 10), (.tmp 11), (.tmp 12)], none, 0⟩]) <|
  .seq (.ops [
    ⟨some 14, .load true 2 (.tmp 7), none, 0⟩,
    ⟨none, .store 2 (.tmp 6) (.tmp 14), none, 0⟩]) <|
  .keep [6] <|
  .ret⟩

theorem e_spec_l01Join : EntOK Try.prog (compD Try.prog) k_spec_l01Join i_spec_l01Join.vf :=
  ⟨Try.f71, Try.f71.body.getD .skip, Try.func71, by kernel_rfl, by kernel_rfl, by kernel_rfl, by kernel_rfl, by kernel_rfl⟩

/-- loop.example/g01331/impl.pairCode -/
def i_impl_pairCode : FF := ⟨19, [.tmp 6],
  .seq (.ops [
    ⟨some 3, .box 2 (.tmp 0), none, 0⟩,
    ⟨some 6, .mv (.const (.int .i64 0)), none, 0⟩]) <|
  .seq (.seq (.ops [
    ⟨some 8, .load true 2 (.tmp 3), none, 0⟩,
    ⟨some 9, .mv (.tmp 1), none, 0⟩,
    ⟨some 10, .mv (.tmp 2), none, 0⟩,
    ⟨some 11, .buildSl 1 [.int .i64 0, .int .i64 0] [(0, 1, (.tmp 9)), (1, 1, (.tmp 10))] 2, none, 0⟩,
    ⟨some 12, .call k_impl_graphCode [(.tmp 8), (.tmp 11)], none, 0⟩,
    ⟨some 7, .mv (.tmp 12), none, 0⟩]) <|
  .seq (.ops [
    ⟨some 13, .mv (.tmp 7), none, 0⟩,
    ⟨some 14, .bin .neq (.tmp 13) (.const (.int .i64 0)), none, 0⟩]) <|
  .cond (.tmp 14)
    (.seq (.ops [
      ⟨some 15, .mv (.tmp 7), none, 0⟩,
      ⟨some 6, .mv (.tmp 15), none, 0⟩]) <|
    .keep [6] <|
    .ret)
    (.skip)) <|
  .seq (.seq (.ops [
    ⟨some 16, .mv (.tmp 1), none, 0⟩,
    ⟨some 17, .mv (.tmp 2), none, 0⟩,
    ⟨some 18, .bin .eql (.tmp 16) (.tmp 17), none, 0⟩]) <|
  .cond (.tmp 18)
    (.seq (.ops [
      ⟨some 6, .mv (.const (.int .i64 2)), none, 0⟩]) <|
    .keep [6] <|
    .ret)
    (.skip)) <|
  .seq (.ops [
    ⟨some 6, .mv (.const (.int .i64 0)), none, 0⟩]) <|
  .keep [6] <|
  .ret⟩

theorem e_impl_pairCode : EntOK Try.prog (compD Try.prog) k_impl_pairCode i_impl_pairCode.vf :=
  ⟨Try.f72, Try.f72.body.getD .skip, Try.func72, by kernel_rfl, by kernel_rfl, by kernel_rfl, by kernel_rfl, by kernel_rfl⟩

/-- loop.example/g01331/impl.own -/
def i_impl_own : FF := ⟨9, [.cell 2 true 2],
  .seq (.ops [
    ⟨some 1, .box 2 (.tmp 0), none, 0⟩,
    ⟨some 2, .alloc [.int .i64 0, .slice none 0 0], none, 0⟩]) <|
  .seq (.dops [
    ⟨some 5, .fld 1 (.tmp 1), none, 0⟩,
    ⟨some 6, .load false 1 (.tmp 5), none, 0⟩,
    ⟨some 7, .call k_slices_Clone_int64_int64 [(.tmp 6)], none, 0⟩,
    ⟨some 3, .fld 0 (.tmp 1), none, 1⟩,
    ⟨some 4, .load false 1 (.tmp 3), none, 1⟩,
    ⟨some 8, .build [.int .i64 0, .slice none 0 0] [(0, 1, (.tmp 4)), (1, 1, (.tmp 7))], none, 0⟩,
    ⟨none, .store 2 (.tmp 2) (.tmp 8), none, 0⟩]) <|
  .keep [2] <|
  .ret⟩

theorem e_impl_own : EntOK Try.prog (compD Try.prog) k_impl_own i_impl_own.vf :=
  ⟨Try.f73, Try.f73.body.getD .skip, Try.func73, by kernel_rfl, by kernel_rfl, by kernel_rfl, by kernel_rfl, by kernel_rfl⟩


end Go.Proofs.Ytcpmodengmffjaa.Zv
