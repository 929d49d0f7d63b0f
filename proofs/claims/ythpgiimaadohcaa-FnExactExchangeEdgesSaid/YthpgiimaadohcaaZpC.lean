/- Part C of the proof: ZwIr. Conditions: none. -/
import Derived.Test.YthpgiimaadohcaaProg
import Derived.Test.YthpgiimaadohcaaZpB
set_option linter.unusedSimpArgs false
set_option linter.unusedVariables false
/- The functions' intermediate form. -/
namespace Go.Proofs.Ythpgiimaadohcaa.Zv
open Go
def k_laws_FnExactExchangeEdges : Nat := 3
def k_laws_szGraph : Nat := 6
def k_spec_ExchangeEdges : Nat := 7
def k_laws_toGraph : Nat := 8
def k_impl_ExchangeEdges : Nat := 9
def k_laws_eqGraph : Nat := 10
def k_laws_markGraph : Nat := 11
def k_laws_heldGraph : Nat := 12
def k_laws_toInt64S : Nat := 14
def k_laws_eqInt64S : Nat := 16
def k_laws_markInt64S : Nat := 19
def k_laws_heldInt64S : Nat := 20
def k_laws_szInt64S : Nat := 21
def k_spec_l01Vertices : Nat := 22
def k_spec_l01Has : Nat := 23
def k_spec_l01Join : Nat := 24
def k_spec_l01Cut : Nat := 25
def k_impl_graphCode : Nat := 26
def k_slices_Sort_int64_int64 : Nat := 27
def k_slices_Compact_int64_int64 : Nat := 28
def k_impl_Graph_has : Nat := 29
def k_impl_own : Nat := 30
def k_impl_Graph_take : Nat := 31
def k_impl_Graph_put : Nat := 32
def k_spec_l01Is : Nat := 40
def k_spec_l01In : Nat := 41
def k_spec_l01Copy : Nat := 42
def k_spec_l01Put : Nat := 43
def k_impl_IsGraph : Nat := 44
def k_slices_pdqsortOrdered_int64 : Nat := 45
def k_math_bits_Len : Nat := 46
def k_slices_Clone_int64_int64 : Nat := 47
def k_spec_l01Own : Nat := 53
def k_slices_insertionSortOrdered_int64 : Nat := 54
def k_slices_heapSortOrdered_int64 : Nat := 55
def k_slices_breakPatternsOrdered_int64 : Nat := 56
def k_slices_choosePivotOrdered_int64 : Nat := 57
def k_slices_reverseRangeOrdered_int64 : Nat := 58
def k_slices_partialInsertionSortOrdered_int64 : Nat := 59
def k_cmp_Less_int64 : Nat := 60
def k_slices_partitionEqualOrdered_int64 : Nat := 61
def k_slices_partitionOrdered_int64 : Nat := 62
def k_math_bits_Len32 : Nat := 63
def k_math_bits_Len64 : Nat := 64
def k_slices_siftDownOrdered_int64 : Nat := 71
def k_slices_nextPowerOfTwo : Nat := 72
def k_slices_xorshift_Next : Nat := 73
def k_slices_medianAdjacentOrdered_int64 : Nat := 74
def k_slices_medianOrdered_int64 : Nat := 75
def k_cmp_isNaN_int64 : Nat := 76
def k_slices_order2Ordered_int64 : Nat := 81
/-- loop.example/g01331/laws.FnExactExchangeEdges -/
def i_laws_FnExactExchangeEdges : FF := ⟨116, [.tmp 10],
  .seq (.ops [
    ⟨some 5, .box 2 (.tmp 0), none, 0⟩,
    ⟨some 10, .mv (.const (.bool false)), none, 0⟩]) <|
  .seq (.ops [
    ⟨some 11, .mv (.const (.int .i64 1048576)), none, 0⟩]) <|
  .seq (.ops [
    ⟨some 22, .load true 2 (.tmp 5), none, 0⟩,
    ⟨some 23, .mv (.tmp 11), none, 0⟩,
    ⟨some 24, .call k_laws_szGraph [(.tmp 22), (.tmp 23)], none, 0⟩,
    ⟨some 11, .mv (.tmp 24), none, 0⟩]) <|
  .seq (.seq (.ops [
    ⟨some 25, .mv (.tmp 11), none, 0⟩,
    ⟨some 26, .bin .lss (.tmp 25) (.const (.int .i64 0)), none, 0⟩]) <|
  .cond (.tmp 26)
    (.seq (.ops [
      ⟨some 10, .mv (.const (.bool true)), none, 0⟩]) <|
    .keep [10] <|
    .ret)
    (.skip)) <|
  .seq (.ops [
    ⟨some 28, .load true 2 (.tmp 5), none, 0⟩,
    ⟨some 29, .call k_laws_toGraph [(.tmp 28)], none, 0⟩,
    ⟨some 30, .mv (.tmp 1), none, 0⟩,
    ⟨some 31, .mv (.tmp 2), none, 0⟩,
    ⟨some 32, .mv (.tmp 3), none, 0⟩,
    ⟨some 33, .mv (.tmp 4), none, 0⟩,
    ⟨some 34, .call k_spec_ExchangeEdges [(.tmp 29), (.tmp 30), (.tmp 31), (.tmp 32), (.tmp 33)], none, 0⟩,
    ⟨some 27, .mv (.tmp 34), none, 0⟩,
    ⟨some 35, .ext (.tmp 27) 0, none, 0⟩,
    ⟨some 36, .ext (.tmp 27) 1, none, 0⟩,
    ⟨some 12, .alloc [.int .i64 0, .slice none 0 0], none, 0⟩,
    ⟨none, .store 2 (.tmp 12) (.tmp 35), none, 0⟩,
    ⟨some 13, .mv (.tmp 36), none, 0⟩]) <|
  .seq (.ops [
    ⟨some 37, .load true 2 (.tmp 5), none, 0⟩,
    ⟨some 38, .call k_laws_toGraph [(.tmp 37)], none, 0⟩,
    ⟨some 14, .alloc [.int .i64 0, .slice none 0 0], none, 0⟩,
    ⟨none, .store 2 (.tmp 14) (.tmp 38), none, 0⟩]) <|
  .seq (.ops [
    ⟨some 40, .load true 2 (.tmp 14), none, 0⟩,
    ⟨some 41, .mv (.tmp 1), none, 0⟩,
    ⟨some 42, .mv (.tmp 2), none, 0⟩,
    ⟨some 43, .mv (.tmp 3), none, 0⟩,
    ⟨some 44, .mv (.tmp 4), none, 0⟩,
    ⟨some 45, .call k_impl_ExchangeEdges [(.tmp 40), (.tmp 41), (.tmp 42), (.tmp 43), (.tmp 44)], none, 0⟩,
    ⟨some 39, .mv (.tmp 45), none, 0⟩,
    ⟨some 46, .ext (.tmp 39) 0, none, 0⟩,
    ⟨some 47, .ext (.tmp 39) 1, none, 0⟩,
    ⟨some 15, .alloc [.int .i64 0, .slice none 0 0], none, 0⟩,
    ⟨none, .store 2 (.tmp 15) (.tmp 46), none, 0⟩,
    ⟨some 16, .mv (.tmp 47), none, 0⟩]) <|
  .seq (.seq (.ops [
    ⟨some 48, .load true 2 (.tmp 15), none, 0⟩,
    ⟨some 49, .load true 2 (.tmp 12), none, 0⟩,
    ⟨some 50, .call k_laws_eqGraph [(.tmp 48), (.tmp 49)], none, 0⟩,
    ⟨some 51, .un .not (.tmp 50), none, 0⟩,
    ⟨some 52, .mv (.tmp 51), none, 0⟩,
    ⟨some 53, .mv (.tmp 16), some (52, false), 0⟩,
    ⟨some 54, .mv (.tmp 13), some (52, false), 0⟩,
    ⟨some 55, .bin .neq (.tmp 53) (.tmp 54), some (52, false), 0⟩,
    ⟨some 56, .pick (.tmp 52) (.const (.bool true)) (.tmp 55), none, 0⟩]) <|
  .cond (.tmp 56)
    (.seq (.ops [
      ⟨some 10, .mv (.const (.bool false)), none, 0⟩]) <|
    .keep [10] <|
    .ret)
    (.skip)) <|
  .seq (.seq (.dops [
    ⟨some 58, .load true 2 (.tmp 5), none, 0⟩,
    ⟨some 59, .call k_laws_toGraph [(.tmp 58)], none, 0⟩,
    ⟨some 57, .load true 2 (.tmp 14), none, 1⟩,
    ⟨some 60, .call k_laws_eqGraph [(.tmp 57), (.tmp 59)], none, 0⟩,
    ⟨some 61, .un .not (.tmp 60), none, 0⟩]) <|
  .cond (.tmp 61)
    (.seq (.ops [
      ⟨some 10, .mv (.const (.bool false)), none, 0⟩]) <|
    .keep [10] <|
    .ret)
    (.skip)) <|
  .seq (.ops [
    ⟨some 17, .mv (.const (.int .i64 1)), none, 0⟩]) <|
  .seq (.ops [
    ⟨some 62, .load true 2 (.tmp 14), none, 0⟩,
    ⟨some 63, .mv (.tmp 17), none, 0⟩,
    ⟨some 64, .call k_laws_markGraph [(.tmp 62), (.tmp 63)], none, 0⟩,
    ⟨some 17, .mv (.tmp 64), none, 0⟩]) <|
  .seq (.seq (.ops [
    ⟨some 65, .mv (.tmp 17), none, 0⟩,
    ⟨some 66, .bin .lss (.tmp 65) (.const (.int .i64 0)), none, 0⟩,
    ⟨some 67, .mv (.tmp 66), none, 0⟩,
    ⟨some 68, .load true 2 (.tmp 15), some (67, false), 0⟩,
    ⟨some 69, .load true 2 (.tmp 12), some (67, false), 0⟩,
    ⟨some 70, .call k_laws_eqGraph [(.tmp 68), (.tmp 69)], some (67, false), 0⟩,
    ⟨some 71, .un .not (.tmp 70), some (67, false), 0⟩,
    ⟨some 72, .pick (.tmp 67) (.const (.bool true)) (.tmp 71), none, 0⟩,
    ⟨some 73, .mv (.tmp 72), none, 0⟩,
    ⟨some 74, .mv (.tmp 16), some (73, false), 0⟩,
    ⟨some 75, .mv (.tmp 13), some (73, false), 0⟩,
    ⟨some 76, .bin .neq (.tmp 74) (.tmp 75), some (73, false), 0⟩,
    ⟨some 77, .pick (.tmp 73) (.const (.bool true)) (.tmp 76), none, 0⟩]) <|
  .cond (.tmp 77)
    (.seq (.ops [
      ⟨some 10, .mv (.const (.bool false)), none, 0⟩]) <|
    .keep [10] <|
    .ret)
    (.skip)) <|
  .seq (.ops [
    ⟨some 18, .mv (.const (.int .i64 1)), none, 0⟩]) <|
  .seq (.ops [
    ⟨some 78, .load true 2 (.tmp 15), none, 0⟩,
    ⟨some 79, .mv (.tmp 18), none, 0⟩,
    ⟨some 80, .call k_laws_markGraph [(.tmp 78), (.tmp 79)], none, 0⟩,
    ⟨some 18, .mv (.tmp 80), none, 0⟩]) <|
  .seq (.ops [
    ⟨some 19, .mv (.const (.int .i64 1)), none, 0⟩]) <|
  .seq (.ops [
    ⟨some 81, .load true 2 (.tmp 15), none, 0⟩,
    ⟨some 82, .mv (.tmp 19), none, 0⟩,
    ⟨some 83, .call k_laws_heldGraph [(.tmp 81), (.tmp 82)], none, 0⟩,
    ⟨some 19, .mv (.tmp 83), none, 0⟩]) <|
  .seq (.seq (.ops [
    ⟨some 84, .mv (.tmp 19), none, 0⟩,
    ⟨some 85, .bin .lss (.tmp 84) (.const (.int .i64 0)), none, 0⟩]) <|
  .cond (.tmp 85)
    (.seq (.ops [
      ⟨some 10, .mv (.const (.bool false)), none, 0⟩]) <|
    .keep [10] <|
    .ret)
    (.skip)) <|
  .seq (.seq (.ops [
    ⟨some 86, .mv (.tmp 19), none, 0⟩,
    ⟨some 87, .mv (.tmp 18), none, 0⟩,
    ⟨some 88, .bin .neq (.tmp 86) (.tmp 87), none, 0⟩]) <|
  .cond (.tmp 88)
    (.seq (.ops [
      ⟨some 10, .mv (.const (.bool false)), none, 0⟩]) <|
    .keep [10] <|
    .ret)
    (.skip)) <|
  .seq (.ops [
    ⟨some 90, .load true 2 (.tmp 5), none, 0⟩,
    ⟨some 91, .call k_laws_toGraph [(.tmp 90)], none, 0⟩,
    ⟨some 92, .mv (.tmp 1), none, 0⟩,
    ⟨some 93, .mv (.tmp 2), none, 0⟩,
    ⟨some 94, .mv (.tmp 3), none, 0⟩,
    ⟨some 95, .mv (.tmp 4), none, 0⟩,
    ⟨some 96, .call k_impl_ExchangeEdges [(.tmp 91), (.tmp 92), (.tmp 93), (.tmp 94), (.tmp 95)], none, 0⟩,
    ⟨some 89, .mv (.tmp 96), none, 0⟩,
    ⟨some 97, .ext (.tmp 89) 0, none, 0⟩,
    ⟨some 98, .ext (.tmp 89) 1, none, 0⟩,
    ⟨some 20, .alloc [.int .i64 0, .slice none 0 0], none, 0⟩,
    ⟨none, .store 2 (.tmp 20) (.tmp 97), none, 0⟩,
    ⟨some 21, .mv (.tmp 98), none, 0⟩]) <|
  .seq (.seq (.ops [
    ⟨some 99, .load true 2 (.tmp 20), none, 0⟩,
    ⟨some 100, .load true 2 (.tmp 12), none, 0⟩,
    ⟨some 101, .call k_laws_eqGraph [(.tmp 99), (.tmp 100)], none, 0⟩,
    ⟨some 102, .un .not (.tmp 101), none, 0⟩,
    ⟨some 103, .mv (.tmp 102), none, 0⟩,
    ⟨some 104, .mv (.tmp 21), some (103, false), 0⟩,
    ⟨some 105, .mv (.tmp 13), some (103, false), 0⟩,
    ⟨some 106, .bin .neq (.tmp 104) (.tmp 105), some (103, false), 0⟩,
    ⟨some 107, .pick (.tmp 103) (.const (.bool true)) (.tmp 106), none, 0⟩]) <|
  .cond (.tmp 107)
    (.seq (.ops [
      ⟨some 10, .mv (.const (.bool false)), none, 0⟩]) <|
    .keep [10] <|
    .ret)
    (.skip)) <|
  .seq (.ops [
    ⟨some 19, .mv (.const (.int .i64 1)), none, 0⟩]) <|
  .seq (.ops [
    ⟨some 108, .load true 2 (.tmp 15), none, 0⟩,
    ⟨some 109, .mv (.tmp 19), none, 0⟩,
    ⟨some 110, .call k_laws_heldGraph [(.tmp 108), (.tmp 109)], none, 0⟩,
    ⟨some 19, .mv (.tmp 110), none, 0⟩]) <|
  .seq (.seq (.ops [
    ⟨some 111, .mv (.tmp 19), none, 0⟩,
    ⟨some 112, .bin .lss (.tmp 111) (.const (.int .i64 0)), none, 0⟩]) <|
  .cond (.tmp 112)
    (.seq (.ops [
      ⟨some 10, .mv (.const (.bool false)), none, 0⟩]) <|
    .keep [10] <|
    .ret)
    (.skip)) <|
  .seq (.seq (.ops [
    ⟨some 113, .mv (.tmp 19), none, 0⟩,
    ⟨some 114, .mv (.tmp 18), none, 0⟩,
    ⟨some 115, .bin .neq (.tmp 113) (.tmp 114), none, 0⟩]) <|
  .cond (.tmp 115)
    (.seq (.ops [
      ⟨some 10, .mv (.const (.bool false)), none, 0⟩]) <|
    .keep [10] <|
    .ret)
    (.skip)) <|
  .seq (.ops [
    ⟨some 10, .mv (.const (.bool true)), none, 0⟩]) <|
  .keep [10] <|
  .ret⟩

theorem e_laws_FnExactExchangeEdges : EntOK Try.prog (compD Try.prog) k_laws_FnExactExchangeEdges i_laws_FnExactExchangeEdges.vf :=
  ⟨Try.f3, Try.f3.body.getD .skip, Try.func3, by kernel_rfl, by kernel_rfl, by kernel_rfl, by kernel_rfl, by kernel_rfl⟩

/-- loop.example/g01331/laws.szGraph -/
def i_laws_szGraph : FF := ⟨12, [.tmp 4],
  .seq (.ops [
    ⟨some 2, .box 2 (.tmp 0), none, 0⟩,
    ⟨some 4, .mv (.const (.int .i64 0)), none, 0⟩]) <|
  .seq (.ops [
    ⟨some 5, .fld 1 (.tmp 2), none, 0⟩,
    ⟨some 6, .load false 1 (.tmp 5), none, 0⟩,
    ⟨some 7, .mv (.tmp 1), none, 0⟩,
    ⟨some 8, .call k_laws_szInt64S [(.tmp 6), (.tmp 7)], none, 0⟩,
    ⟨some 1, .mv (.tmp 8), none, 0⟩]) <|
  .seq (.seq (.ops [
    ⟨some 9, .mv (.tmp 1), none, 0⟩,
    ⟨some 10, .bin .lss (.tmp 9) (.const (.int .i64 0)), none, 0⟩]) <|
  .cond (.tmp 10)
    (.seq (.ops [
      ⟨some 4, .mv (.const (.int .i64 (-1))), none, 0⟩]) <|
    .keep [4] <|
    .ret)
    (.skip)) <|
  .seq (.ops [
    ⟨some 11, .mv (.tmp 1), none, 0⟩,
    ⟨some 4, .mv (.tmp 11), none, 0⟩]) <|
  .keep [4] <|
  .ret⟩

theorem e_laws_szGraph : EntOK Try.prog (compD Try.prog) k_laws_szGraph i_laws_szGraph.vf :=
  ⟨Try.f6, Try.f6.body.getD .skip, Try.func6, by kernel_rfl, by kernel_rfl, by kernel_rfl, by kernel_rfl, by kernel_rfl⟩

/-- loop.example/g01331/spec.ExchangeEdges -/
def i_spec_ExchangeEdges : FF := ⟨97, [.cell 10 true 2, .tmp 11],
  .seq (.ops [
    ⟨some 5, .box 2 (.tmp 0), none, 0⟩,
    ⟨some 10, .alloc [.int .i64 0, .slice none 0 0], none, 0⟩,
    ⟨some 11, .mv (.const (.int .i64 0)), none, 0⟩]) <|
  .seq (.ops [
    ⟨some 13, .load true 2 (.tmp 5), none, 0⟩,
    ⟨some 14, .mv (.tmp 1), none, 0⟩,
    ⟨some 15, .mv (.tmp 2), none, 0⟩,
    ⟨some 16, .mv (.tmp 3), none, 0⟩,
    ⟨some 17, .mv (.tmp 4), none, 0⟩,
    ⟨some 18, .buildSl 1 [.int .i64 0, .int .i64 0, .int .i64 0, .int .i64 0] [(0, 1, (.tmp 14)), (1, 1, (.tmp 15)), (2, 1, (.tmp 16)), (3, 1, (.tmp 17))] 4, none, 0⟩,
    ⟨some 19, .call k_spec_l01Vertices [(.tmp 13), (.tmp 18)], none, 0⟩,
    ⟨some 12, .mv (.tmp 19), none, 0⟩]) <|
  .seq (.seq (.ops [
    ⟨some 20, .mv (.tmp 12), none, 0⟩,
    ⟨some 21, .bin .eql (.tmp 20) (.const (.int .i64 0)), none, 0⟩,
    ⟨some 22, .mv (.tmp 21), none, 0⟩,
    ⟨some 23, .mv (.tmp 1), some (22, true), 0⟩,
    ⟨some 24, .mv (.tmp 2), some (22, true), 0⟩,
    ⟨some 25, .bin .eql (.tmp 23) (.tmp 24), some (22, true), 0⟩,
    ⟨some 26, .mv (.tmp 25), some (22, true), 0⟩,
    ⟨some 27, .mv (.tmp 1), some (26, false), 0⟩,
    ⟨some 28, .mv (.tmp 3), some (26, false), 0⟩,
    ⟨some 29, .bin .eql (.tmp 27) (.tmp 28), some (26, false), 0⟩,
    ⟨some 30, .pick (.tmp 26) (.const (.bool true)) (.tmp 29), some (22, true), 0⟩,
    ⟨some 31, .mv (.tmp 30), some (22, true), 0⟩,
    ⟨some 32, .mv (.tmp 1), some (31, false), 0⟩,
    ⟨some 33, .mv (.tmp 4), some (31, false), 0⟩,
    ⟨some 34, .bin .eql (.tmp 32) (.tmp 33), some (31, false), 0⟩,
    ⟨some 35, .pick (.tmp 31) (.const (.bool true)) (.tmp 34), some (22, true), 0⟩,
    ⟨some 36, .mv (.tmp 35), some (22, true), 0⟩,
    ⟨some 37, .mv (.tmp 2), some (36, false), 0⟩,
    ⟨some 38, .mv (.tmp 3), some (36, false), 0⟩,
    ⟨some 39, .bin .eql (.tmp 37) (.tmp 38), some (36, false), 0⟩,
    ⟨some 40, .pick (.tmp 36) (.const (.bool true)) (.tmp 39), some (22, true), 0⟩,
    ⟨some 41, .mv (.tmp 40), some (22, true), 0⟩,
    ⟨some 42, .mv (.tmp 2), some (41, false), 0⟩,
    ⟨some 43, .mv (.tmp 4), some (41, false), 0⟩,
    ⟨some 44, .bin .eql (.tmp 42) (.tmp 43), some (41, false), 0⟩,
    ⟨some 45, .pick (.tmp 41) (.const (.bool true)) (.tmp 44), some (22, true), 0⟩,
    ⟨some 46, .mv (.tmp 45), some (22, true), 0⟩,
    ⟨some 47, .mv (.tmp 3), some (46, false), 0⟩,
    ⟨some 48, .mv (.tmp 4), some (46, false), 0⟩,
    ⟨some 49, .bin .eql (.tmp 47) (.tmp 48), some (46, false), 0⟩,
    ⟨some 50, .pick (.tmp 46) (.const (.bool true)) (.tmp 49), some (22, true), 0⟩,
    ⟨some 51, .pick (.tmp 22) (.tmp 50) (.const (.bool false)), none, 0⟩]) <|
  .cond (.tmp 51)
    (.ops [
      ⟨some 12, .mv (.const (.int .i64 2)), none, 0⟩])
    (.skip)) <|
  .seq (.seq (.ops [
    ⟨some 52, .mv (.tmp 12), none, 0⟩,
    ⟨some 53, .bin .eql (.tmp 52) (.const (.int .i64 0)), none, 0⟩,
    ⟨some 54, .mv (.tmp 53), none, 0⟩,
    ⟨some 55, .load true 2 (.tmp 5), some (54, true), 0⟩,
    ⟨some 56, .mv (.tmp 1), some (54, true), 0⟩,
    ⟨some 57, .mv (.tmp 2), some (54, true), 0⟩,
    ⟨some 58, .call k_spec_l01Has [(.tmp 55), (.tmp 56), (.tmp 57)], some (54, true), 0⟩,
    ⟨some 59, .un .not (.tmp 58), some (54, true), 0⟩,
    ⟨some 60, .mv (.tmp 59), some (54, true), 0⟩,
    ⟨some 61, .load true 2 (.tmp 5), some (60, false), 0⟩,
    ⟨some 62, .mv (.tmp 3), some (60, false), 0⟩,
    ⟨some 63, .mv (.tmp 4), some (60, false), 0⟩,
    ⟨some 64, .call k_spec_l01Has [(.tmp 61), (.tmp 62), (.tmp 63)], some (60, false), 0⟩,
    ⟨some 65, .un .not (.tmp 64), some (60, false), 0⟩,
    ⟨some 66, .pick (.tmp 60) (.const (.bool true)) (.tmp 65), some (54, true), 0⟩,
    ⟨some 67, .mv (.tmp 66), some (54, true), 0⟩,
    ⟨some 68, .load true 2 (.tmp 5), some (67, false), 0⟩,
    ⟨some 69, .mv (.tmp 1), some (67, false), 0⟩,
    ⟨some 70, .mv (.tmp 3), some (67, false), 0⟩,
    ⟨some 71, .call k_spec_l01Has [(.tmp 68), (.tmp 69), (.tmp 70)], some (67, false), 0⟩,
    ⟨some 72, .pick (.tmp 67) (.const (.bool true)) (.tmp 71), some (54, true), 0⟩,
    ⟨some 73, .mv (.tmp 72), some (54, true), 0⟩,
    ⟨some 74, .load true 2 (.tmp 5), some (73, false), 0⟩,
    ⟨some 75, .mv (.tmp 2), some (73, false), 0⟩,
    ⟨some 76, .mv (.tmp 4), some (73, false), 0⟩,
    ⟨some 77, .call k_spec_l01Has [(.tmp 74), (.tmp 75), (.tmp 76)], some (73, false), 0⟩,
    ⟨some 78, .pick (.tmp 73) (.const (.bool true)) (.tmp 77), some (54, true), 0⟩,
    ⟨some 79, .pick (.tmp 54) (.tmp 78) (.const (.bool false)), none, 0⟩]) <|
  .cond (.tmp 79)
    (.ops [
      ⟨some 12, .mv (.const (.int .i64 5)), none, 0⟩])
    (.skip)) <|
  .seq (.seq (.ops [
    ⟨some 80, .mv (.tmp 12), none, 0⟩,
    ⟨some 81, .bin .neq (.tmp 80) (.const (.int .i64 0)), none, 0⟩]) <|
  .cond (.tmp 81)
    (.seq (.ops [
      ⟨some 82, .build [.int .i64 0, .slice none 0 0] [], none, 0⟩,
      ⟨some 83, .mv (.tmp 12), none, 0⟩,
      ⟨none, .store 2 (.tmp 10) (.tmp 82), none, 0⟩,
      ⟨some 11, .mv (.tmp 83), none, 0⟩]) <|
    .keep [10, 11] <|
    .ret)
    (.skip)) <|
  .seq (.ops [
    ⟨some 84, .load true 2 (.tmp 5), none, 0⟩,
    ⟨some 85, .mv (.tmp 1), none, 0⟩,
    ⟨some 86, .mv (.tmp 2), none, 0⟩,
    ⟨some 87, .call k_spec_l01Cut [(.tmp 84), (.tmp 85), (.tmp 86)], none, 0⟩,
    ⟨some 88, .mv (.tmp 3), none, 0⟩,
    ⟨some 89, .mv (.tmp 4), none, 0⟩,
    ⟨some 90, .call k_spec_l01Cut [(.tmp 87), (.tmp 88), (.tmp 89)], none, 0⟩,
    ⟨some 91, .mv (.tmp 1), none, 0⟩,
    ⟨some 92, .mv (.tmp 3), none, 0⟩,
    ⟨some 93, .call k_spec_l01Join [(.tmp 90), (.tmp 91), (.tmp 92)], none, 0⟩,
    ⟨some 94, .mv (.tmp 2), none, 0⟩,
    ⟨some 95, .mv (.tmp 4), none, 0⟩,
    ⟨some 96, .call k_spec_l01Join [(.tmp 93), (.tmp 94), (.tmp 95)], none, 0⟩,
    ⟨none, .store 2 (.tmp 10) (.tmp 96), none, 0⟩,
    ⟨some 11, .mv (.const (.int .i64 0)), none, 0⟩]) <|
  .keep [10, 11] <|
  .ret⟩

theorem e_spec_ExchangeEdges : EntOK Try.prog (compD Try.prog) k_spec_ExchangeEdges i_spec_ExchangeEdges.vf :=
  ⟨Try.f7, Try.f7.body.getD .skip, Try.func7, by kernel_rfl, by kernel_rfl, by kernel_rfl, by kernel_rfl, by kernel_rfl⟩

/-- loop.example/g01331/laws.toGraph -/
def i_laws_toGraph : FF := ⟨12, [.cell 2 true 2],
  .seq (.ops [
    ⟨some 1, .box 2 (.tmp 0), none, 0⟩,
    ⟨some 2, .alloc [.int .i64 0, .slice none 0 0], none, 0⟩]) <|
  .seq (.ops [
    ⟨some 3, .alloc [.int .i64 0, .slice none 0 0], none, 0⟩]) <|
  .seq (.ops [
    ⟨some 4, .fld 0 (.tmp 1), none, 0⟩,
    ⟨some 5, .load false 1 (.tmp 4), none, 0⟩,
    ⟨some 6, .fld 0 (.tmp 3), none, 0⟩,
    ⟨none, .store 1 (.tmp 6) (.tmp 5), none, 0⟩]) <|
  .seq (.ops [
    ⟨some 7, .fld 1 (.tmp 1), none, 0⟩,
    ⟨some 8, .load false 1 (.tmp 7), none, 0⟩,
    ⟨some 9, .call k_laws_toInt64S [(.tmp 8)], none, 0⟩,
    ⟨some 10, .fld 1 (.tmp 3), none, 0⟩,
    ⟨none, .store 1 (.tmp 10) (.tmp 9), none, 0⟩]) <|
  .seq (.ops [
    ⟨some 11, .load true 2 (.tmp 3), none, 0⟩,
    ⟨none, .store 2 (.tmp 2) (.tmp 11), none, 0⟩]) <|
  .keep [2] <|
  .ret⟩

theorem e_laws_toGraph : EntOK Try.prog (compD Try.prog) k_laws_toGraph i_laws_toGraph.vf :=
  ⟨Try.f8, Try.f8.body.getD .skip, Try.func8, by kernel_rfl, by kernel_rfl, by kernel_rfl, by kernel_rfl, by kernel_rfl⟩

/-- loop.example/g01331/impl.ExchangeEdges -/
def i_impl_ExchangeEdges : FF := ⟨84, [.cell 10 true 2, .tmp 11],
  .seq (.ops [
    ⟨some 5, .box 2 (.tmp 0), none, 0⟩,
    ⟨some 10, .alloc [.int .i64 0, .slice none 0 0], none, 0⟩,
    ⟨some 11, .mv (.const (.int .i64 0)), none, 0⟩]) <|
  .seq (.seq (.ops [
    ⟨some 15, .load true 2 (.tmp 5), none, 0⟩,
    ⟨some 16, .mv (.tmp 1), none, 0⟩,
    ⟨some 17, .mv (.tmp 2), none, 0⟩,
    ⟨some 18, .mv (.tmp 3), none, 0⟩,
    ⟨some 19, .mv (.tmp 4), none, 0⟩,
    ⟨some 20, .buildSl 1 [.int .i64 0, .int .i64 0, .int .i64 0, .int .i64 0] [(0, 1, (.tmp 16)), (1, 1, (.tmp 17)), (2, 1, (.tmp 18)), (3, 1, (.tmp 19))] 4, none, 0⟩,
    ⟨some 21, .call k_impl_graphCode [(.tmp 15), (.tmp 20)], none, 0⟩,
    ⟨some 12, .mv (.tmp 21), none, 0⟩]) <|
  .seq (.ops [
    ⟨some 22, .mv (.tmp 12), none, 0⟩,
    ⟨some 23, .bin .neq (.tmp 22) (.const (.int .i64 0)), none, 0⟩]) <|
  .cond (.tmp 23)
    (.seq (.ops [
      ⟨some 24, .build [.int .i64 0, .slice none 0 0] [], none, 0⟩,
      ⟨some 25, .mv (.tmp 12), none, 0⟩,
      ⟨none, .store 2 (.tmp 10) (.tmp 24), none, 0⟩,
      ⟨some 11, .mv (.tmp 25), none, 0⟩]) <|
    .keep [10, 11] <|
    .ret)
    (.skip)) <|
  .seq (.ops [
    ⟨some 26, .mv (.tmp 1), none, 0⟩,
    ⟨some 27, .mv (.tmp 2), none, 0⟩,
    ⟨some 28, .mv (.tmp 3), none, 0⟩,
    ⟨some 29, .mv (.tmp 4), none, 0⟩,
    ⟨some 30, .buildSl 1 [.int .i64 0, .int .i64 0, .int .i64 0, .int .i64 0] [(0, 1, (.tmp 26)), (1, 1, (.tmp 27)), (2, 1, (.tmp 28)), (3, 1, (.tmp 29))] 4, none, 0⟩,
    ⟨some 13, .mv (.tmp 30), none, 0⟩]) <|
  .seq (.ops [
    ⟨some 31, .mv (.tmp 13), none, 0⟩,
    ⟨some 32, .call k_slices_Sort_int64_int64 [(.tmp 31)], none, 0⟩]) <|
  .seq (.block 0 <|
  .seq (.ops [
    ⟨some 34, .mv (.tmp 13), none, 0⟩,
    ⟨some 35, .call k_slices_Compact_int64_int64 [(.tmp 34)], none, 0⟩,
    ⟨some 36, .len (.tmp 35), none, 0⟩,
    ⟨some 37, .bin .lss (.tmp 36) (.const (.int .i64 4)), none, 0⟩,
    ⟨some 33, .mv (.tmp 37), none, 0⟩]) <|
  .cond (.tmp 33)
    (.seq (.ops [
      ⟨some 38, .build [.int .i64 0, .slice none 0 0] [], none, 0⟩,
      ⟨none, .store 2 (.tmp 10) (.tmp 38), none, 0⟩,
      ⟨some 11, .mv (.const (.int .i64 2)), none, 0⟩]) <|
    .keep [10, 11] <|
    .ret)
    (.seq (.ops [
      ⟨some 40, .load true 2 (.tmp 5), none, 0⟩,
      ⟨some 41, .mv (.tmp 1), none, 0⟩,
      ⟨some 42, .mv (.tmp 2), none, 0⟩,
      ⟨some 43, .call k_impl_Graph_has [(.tmp 40), (.tmp 41), (.tmp 42)], none, 0⟩,
      ⟨some 44, .un .not (.tmp 43), none, 0⟩,
      ⟨some 45, .mv (.tmp 44), none, 0⟩,
      ⟨some 46, .load true 2 (.tmp 5), some (45, false), 0⟩,
      ⟨some 47, .mv (.tmp 3), some (45, false), 0⟩,
      ⟨some 48, .mv (.tmp 4), some (45, false), 0⟩,
      ⟨some 49, .call k_impl_Graph_has [(.tmp 46), (.tmp 47), (.tmp 48)], some (45, false), 0⟩,
      ⟨some 50, .un .not (.tmp 49), some (45, false), 0⟩,
      ⟨some 51, .pick (.tmp 45) (.const (.bool true)) (.tmp 50), none, 0⟩,
      ⟨some 52, .mv (.tmp 51), none, 0⟩,
      ⟨some 53, .load true 2 (.tmp 5), some (52, false), 0⟩,
      ⟨some 54, .mv (.tmp 1), some (52, false), 0⟩,
      ⟨some 55, .mv (.tmp 3), some (52, false), 0⟩,
      ⟨some 56, .call k_impl_Graph_has [(.tmp 53), (.tmp 54), (.tmp 55)], some (52, false), 0⟩,
      ⟨some 57, .pick (.tmp 52) (.const (.bool true)) (.tmp 56), none, 0⟩,
      ⟨some 58, .mv (.tmp 57), none, 0⟩,
      ⟨some 59, .load true 2 (.tmp 5), some (58, false), 0⟩,
      ⟨some 60, .mv (.tmp 2), some (58, false), 0⟩,
      ⟨some 61, .mv (.tmp 4), some (58, false), 0⟩,
      ⟨some 62, .call k_impl_Graph_has [(.tmp 59), (.tmp 60), (.tmp 61)], some (58, false), 0⟩,
      ⟨some 63, .pick (.tmp 58) (.const (.bool true)) (.tmp 62), none, 0⟩,
      ⟨some 39, .mv (.tmp 63), none, 0⟩]) <|
    .cond (.tmp 39)
      (.seq (.ops [
        ⟨some 64, .build [.int .i64 0, .slice none 0 0] [], none, 0⟩,
        ⟨none, .store 2 (.tmp 10) (.tmp 64), none, 0⟩,
        ⟨some 11, .mv (.const (.int .i64 5)), none, 0⟩]) <|
      .keep [10, 11] <|
      .ret)
      (.skip))) <|
  .seq (.ops [
    ⟨some 65, .load true 2 (.tmp 5), none, 0⟩,
    ⟨some 66, .call k_impl_own [(.tmp 65)], none, 0⟩,
    ⟨some 14, .alloc [.int .i64 0, .slice none 0 0], none, 0⟩,
    ⟨none, .store 2 (.tmp 14) (.tmp 66), none, 0⟩]) <|
  .seq (.ops [
    ⟨some 67, .load true 2 (.tmp 14), none, 0⟩,
    ⟨some 68, .mv (.tmp 1), none, 0⟩,
    ⟨some 69, .mv (.tmp 2), none, 0⟩,
    ⟨some 70, .call k_impl_Graph_take [(.tmp 67), (.tmp 68), (.tmp 69)], none, 0⟩]) <|
  .seq (.ops [
    ⟨some 71, .load true 2 (.tmp 14), none, 0⟩,
    ⟨some 72, .mv (.tmp 3), none, 0⟩,
    ⟨some 73, .mv (.tmp 4), none, 0⟩,
    ⟨some 74, .call k_impl_Graph_take [(.tmp 71), (.tmp 72), (.tmp 73)], none, 0⟩]) <|
  .seq (.ops [
    ⟨some 75, .load true 2 (.tmp 14), none, 0⟩,
    ⟨some 76, .mv (.tmp 1), none, 0⟩,
    ⟨some 77, .mv (.tmp 3), none, 0⟩,
    ⟨some 78, .call k_impl_Graph_put [(.tmp 75), (.tmp 76), (.tmp 77)], none, 0⟩]) <|
  .seq (.ops [
    ⟨some 79, .load true 2 (.tmp 14), none, 0⟩,
    ⟨some 80, .mv (.tmp 2), none, 0⟩,
    ⟨some 81, .mv (.tmp 4), none, 0⟩,
    ⟨some 82, .call k_impl_Graph_put [(.tmp 79), (.tmp 80), (.tmp 81)], none, 0⟩]) <|
  .seq (.ops [
    ⟨some 83, .load true 2 (.tmp 14), none, 0⟩,
    ⟨none, .store 2 (.tmp 10) (.tmp 83), none, 0⟩,
    ⟨some 11, .mv (.const (.int .i64 0)), none, 0⟩]) <|
  .keep [10, 11] <|
  .ret⟩

theorem e_impl_ExchangeEdges : EntOK Try.prog (compD Try.prog) k_impl_ExchangeEdges i_impl_ExchangeEdges.vf :=
  ⟨Try.f9, Try.f9.body.getD .skip, Try.func9, by kernel_rfl, by kernel_rfl, by kernel_rfl, by kernel_rfl, by kernel_rfl⟩

/-- loop.example/g01331/laws.eqGraph -/
def i_laws_eqGraph : FF := ⟨16, [.tmp 4],
  .seq (.ops [
    ⟨some 2, .box 2 (.tmp 0), none, 0⟩,
    ⟨some 3, .box 2 (.tmp 1), none, 0⟩,
    ⟨some 4, .mv (.const (.bool false)), none, 0⟩]) <|
  .seq (.seq (.ops [
    ⟨some 5, .fld 0 (.tmp 2), none, 0⟩,
    ⟨some 6, .load false 1 (.tmp 5), none, 0⟩,
    ⟨some 7, .fld 0 (.tmp 3), none, 0⟩,
    ⟨some 8, .load false 1 (.tmp 7), none, 0⟩,
    ⟨some 9, .bin .neq (.tmp 6) (.tmp 8), none, 0⟩]) <|
  .cond (.tmp 9)
    (.seq (.ops [
      ⟨some 4, .mv (.const (.bool false)), none, 0⟩]) <|
    .keep [4] <|
    .ret)
    (.skip)) <|
  .seq (.seq (.ops [
    ⟨some 10, .fld 1 (.tmp 2), none, 0⟩,
    ⟨some 11, .load false 1 (.tmp 10), none, 0⟩,
    ⟨some 12, .fld 1 (.tmp 3), none, 0⟩,
    ⟨some 13, .load false 1 (.tmp 12), none, 0⟩,
    ⟨some 14, .call k_laws_eqInt64S [(.tmp 11), (.tmp 13)], none, 0⟩,
    ⟨some 15, .un .not (.tmp 14), none, 0⟩]) <|
  .cond (.tmp 15)
    (.seq (.ops [
      ⟨some 4, .mv (.const (.bool false)), none, 0⟩]) <|
    .keep [4] <|
    .ret)
    (.skip)) <|
  .seq (.ops [
    ⟨some 4, .mv (.const (.bool true)), none, 0⟩]) <|
  .keep [4] <|
  .ret⟩

theorem e_laws_eqGraph : EntOK Try.prog (compD Try.prog) k_laws_eqGraph i_laws_eqGraph.vf :=
  ⟨Try.f10, Try.f10.body.getD .skip, Try.func10, by kernel_rfl, by kernel_rfl, by kernel_rfl, by kernel_rfl, by kernel_rfl⟩

/-- loop.example/g01331/laws.markGraph -/
def i_laws_markGraph : FF := ⟨10, [.tmp 4],
  .seq (.ops [
    ⟨some 2, .box 2 (.tmp 0), none, 0⟩,
    ⟨some 4, .mv (.const (.int .i64 0)), none, 0⟩]) <|
  .seq (.ops [
    ⟨some 5, .fld 1 (.tmp 2), none, 0⟩,
    ⟨some 6, .load false 1 (.tmp 5), none, 0⟩,
    ⟨some 7, .mv (.tmp 1), none, 0⟩,
    ⟨some 8, .call k_laws_markInt64S [(.tmp 6), (.tmp 7)], none, 0⟩,
    ⟨some 1, .mv (.tmp 8), none, 0⟩]) <|
  .seq (.ops [
    ⟨some 9, .mv (.tmp 1), none, 0⟩,
    ⟨some 4, .mv (.tmp 9), none, 0⟩]) <|
  .keep [4] <|
  .ret⟩

theorem e_laws_markGraph : EntOK Try.prog (compD Try.prog) k_laws_markGraph i_laws_markGraph.vf :=
  ⟨Try.f11, Try.f11.body.getD .skip, Try.func11, by kernel_rfl, by kernel_rfl, by kernel_rfl, by kernel_rfl, by kernel_rfl⟩

/-- loop.example/g01331/laws.heldGraph -/
def i_laws_heldGraph : FF := ⟨12, [.tmp 4],
  .seq (.ops [
    ⟨some 2, .box 2 (.tmp 0), none, 0⟩,
    ⟨some 4, .mv (.const (.int .i64 0)), none, 0⟩]) <|
  .seq (.ops [
    ⟨some 5, .fld 1 (.tmp 2), none, 0⟩,
    ⟨some 6, .load false 1 (.tmp 5), none, 0⟩,
    ⟨some 7, .mv (.tmp 1), none, 0⟩,
    ⟨some 8, .call k_laws_heldInt64S [(.tmp 6), (.tmp 7)], none, 0⟩,
    ⟨some 1, .mv (.tmp 8), none, 0⟩]) <|
  .seq (.seq (.ops [
    ⟨some 9, .mv (.tmp 1), none, 0⟩,
    ⟨some 10, .bin .lss (.tmp 9) (.const (.int .i64 0)), none, 0⟩]) <|
  .cond (.tmp 10)
    (.seq (.ops [
      ⟨some 4, .mv (.const (.int .i64 (-1))), none, 0⟩]) <|
    .keep [4] <|
    .ret)
    (.skip)) <|
  .seq (.ops [
    ⟨some 11, .mv (.tmp 1), none, 0⟩,
    ⟨some 4, .mv (.tmp 11), none, 0⟩]) <|
  .keep [4] <|
  .ret⟩

theorem e_laws_heldGraph : EntOK Try.prog (compD Try.prog) k_laws_heldGraph i_laws_heldGraph.vf :=
  ⟨Try.f12, Try.f12.body.getD .skip, Try.func12, by kernel_rfl, by kernel_rfl, by kernel_rfl, by kernel_rfl, by kernel_rfl⟩

/-- loop.example/g01331/laws.toInt64S -/
def i_laws_toInt64S_B1 : FC :=
  .seq (.seq (.ops [
    ⟨some 8, .mv (.tmp 4), none, 0⟩,
    ⟨some 9, .mv (.tmp 0), none, 0⟩,
    ⟨some 10, .len (.tmp 9), none, 0⟩,
    ⟨some 11, .bin .lss (.tmp 8) (.tmp 10), none, 0⟩]) <|
  .cond (.tmp 11)
    (.skip)
    (.keep [3] <|
    .exit 0)) <|
  .seq (.block 1 <|
  .ops [
    ⟨some 14, .mv (.tmp 3), none, 0⟩,
    ⟨some 15, .mv (.tmp 4), none, 0⟩,
    ⟨some 16, .mv (.tmp 0), none, 0⟩,
    ⟨some 17, .mv (.tmp 4), none, 0⟩,
    ⟨some 18, .idx 1 (.tmp 16) (.tmp 17), none, 0⟩,
    ⟨some 19, .load false 1 (.tmp 18), none, 0⟩,
    ⟨some 20, .idx 1 (.tmp 14) (.tmp 15), none, 0⟩,
    ⟨none, .store 1 (.tmp 20) (.tmp 19), none, 0⟩]) <|
  .ops [
    ⟨some 12, .mv (.tmp 4), none, 0⟩,
    ⟨some 13, .bin .add (.tmp 12) (.const (.int .i64 1)), none, 0⟩,
    ⟨some 4, .mv (.tmp 13), none, 0⟩]
def i_laws_toInt64S : FF := ⟨22, [.tmp 2],
  .seq (.ops [
    ⟨some 2, .mv (.const (.slice none 0 0)), none, 0⟩]) <|
  .seq (.ops [
    ⟨some 5, .mv (.tmp 0), none, 0⟩,
    ⟨some 6, .len (.tmp 5), none, 0⟩,
    ⟨some 7, .mkSl 1 [.int .i64 0] 8 (.tmp 6) (.tmp 6), none, 0⟩,
    ⟨some 3, .mv (.tmp 7), none, 0⟩]) <|
  .seq (.seq (.ops [
    ⟨some 4, .mv (.const (.int .i64 0)), none, 0⟩]) <|
  .block 0 <|
  .loop [0, 3, 4] i_laws_toInt64S_B1) <|
  .seq (.ops [
    ⟨some 21, .mv (.tmp 3), none, 0⟩,
    ⟨some 2, .mv (.tmp 21), none, 0⟩]) <|
  .keep [2] <|
  .ret⟩

theorem e_laws_toInt64S : EntOK Try.prog (compD Try.prog) k_laws_toInt64S i_laws_toInt64S.vf :=
  ⟨Try.f14, Try.f14.body.getD .skip, Try.func14, by kernel_rfl, by kernel_rfl, by kernel_rfl, by kernel_rfl, by kernel_rfl⟩

/-- loop.example/g01331/laws.eqInt64S -/
def i_laws_eqInt64S_B1 : FC :=
  .seq (.seq (.ops [
    ⟨some 11, .mv (.tmp 5), none, 0⟩,
    ⟨some 12, .mv (.tmp 0), none, 0⟩,
    ⟨some 13, .len (.tmp 12), none, 0⟩,
    ⟨some 14, .bin .lss (.tmp 11) (.tmp 13), none, 0⟩]) <|
  .cond (.tmp 14)
    (.skip)
    (.keep [] <|
    .exit 0)) <|
  .seq (.block 1 <|
  .seq (.dops [
    ⟨some 17, .mv (.tmp 0), none, 0⟩,
    ⟨some 18, .mv (.tmp 5), none, 0⟩,
    ⟨some 19, .idx 1 (.tmp 17) (.tmp 18), none, 0⟩,
    ⟨some 20, .load false 1 (.tmp 19), none, 0⟩,
    ⟨some 21, .mv (.tmp 1), none, 0⟩,
    ⟨some 22, .mv (.tmp 5), none, 0⟩,
    ⟨some 23, .idx 1 (.tmp 21) (.tmp 22), none, 0⟩,
    ⟨some 24, .load false 1 (.tmp 23), none, 0⟩,
    ⟨some 25, .bin .neq (.tmp 20) (.tmp 24), none, 0⟩]) <|
  .cond (.tmp 25)
    (.seq (.ops [
      ⟨some 4, .mv (.const (.bool false)), none, 0⟩]) <|
    .keep [4] <|
    .ret)
    (.skip)) <|
  .ops [
    ⟨some 15, .mv (.tmp 5), none, 0⟩,
    ⟨some 16, .bin .add (.tmp 15) (.const (.int .i64 1)), none, 0⟩,
    ⟨some 5, .mv (.tmp 16), none, 0⟩]
def i_laws_eqInt64S : FF := ⟨26, [.tmp 4],
  .seq (.ops [
    ⟨some 4, .mv (.const (.bool false)), none, 0⟩]) <|
  .seq (.seq (.ops [
    ⟨some 6, .mv (.tmp 0), none, 0⟩,
    ⟨some 7, .len (.tmp 6), none, 0⟩,
    ⟨some 8, .mv (.tmp 1), none, 0⟩,
    ⟨some 9, .len (.tmp 8), none, 0⟩,
    ⟨some 10, .bin .neq (.tmp 7) (.tmp 9), none, 0⟩]) <|
  .cond (.tmp 10)
    (.seq (.ops [
      ⟨some 4, .mv (.const (.bool false)), none, 0⟩]) <|
    .keep [4] <|
    .ret)
    (.skip)) <|
  .seq (.seq (.ops [
    ⟨some 5, .mv (.const (.int .i64 0)), none, 0⟩]) <|
  .block 0 <|
  .loop [0, 1, 5] i_laws_eqInt64S_B1) <|
  .seq (.ops [
    ⟨some 4, .mv (.const (.bool true)), none, 0⟩]) <|
  .keep [4] <|
  .ret⟩

theorem e_laws_eqInt64S : EntOK Try.prog (compD Try.prog) k_laws_eqInt64S i_laws_eqInt64S.vf :=
  ⟨Try.f16, Try.f16.body.getD .skip, Try.func16, by kernel_rfl, by kernel_rfl, by kernel_rfl, by kernel_rfl, by kernel_rfl⟩

/-- loop.example/g01331/laws.markInt64S -/
def i_laws_markInt64S_B1 : FC :=
  .seq (.seq (.ops [
    ⟨some 6, .mv (.tmp 5), none, 0⟩,
    ⟨some 7, .mv (.tmp 0), none, 0⟩,
    ⟨some 8, .len (.tmp 7), none, 0⟩,
    ⟨some 9, .bin .lss (.tmp 6) (.tmp 8), none, 0⟩]) <|
  .cond (.tmp 9)
    (.skip)
    (.keep [1] <|
    .exit 0)) <|
  .seq (.block 1 <|
  .seq (.ops [
    ⟨some 12, .mv (.tmp 0), none, 0⟩,
    ⟨some 13, .mv (.tmp 5), none, 0⟩,
    ⟨some 14, .mv (.tmp 1), none, 0⟩,
    ⟨some 15, .idx 1 (.tmp 12) (.tmp 13), none, 0⟩,
    ⟨none, .store 1 (.tmp 15) (.tmp 14), none, 0⟩]) <|
  .ops [
    ⟨some 16, .mv (.tmp 1), none, 0⟩,
    ⟨some 17, .bin .add (.tmp 16) (.const (.int .i64 1)), none, 0⟩,
    ⟨some 1, .mv (.tmp 17), none, 0⟩]) <|
  .ops [
    ⟨some 10, .mv (.tmp 5), none, 0⟩,
    ⟨some 11, .bin .add (.tmp 10) (.const (.int .i64 1)), none, 0⟩,
    ⟨some 5, .mv (.tmp 11), none, 0⟩]
def i_laws_markInt64S : FF := ⟨19, [.tmp 4],
  .seq (.ops [
    ⟨some 4, .mv (.const (.int .i64 0)), none, 0⟩]) <|
  .seq (.seq (.ops [
    ⟨some 5, .mv (.const (.int .i64 0)), none, 0⟩]) <|
  .block 0 <|
  .loop [0, 1, 5] i_laws_markInt64S_B1) <|
  .seq (.ops [
    ⟨some 18, .mv (.tmp 1), none, 0⟩,
    ⟨some 4, .mv (.tmp 18), none, 0⟩]) <|
  .keep [4] <|
  .ret⟩

theorem e_laws_markInt64S : EntOK Try.prog (compD Try.prog) k_laws_markInt64S i_laws_markInt64S.vf :=
  ⟨Try.f19, Try.f19.body.getD .skip, Try.func19, by kernel_rfl, by kernel_rfl, by kernel_rfl, by kernel_rfl, by kernel_rfl⟩

/-- loop.example/g01331/laws.heldInt64S -/
def i_laws_heldInt64S_B1 : FC :=
  .seq (.seq (.ops [
    ⟨some 6, .mv (.tmp 5), none, 0⟩,
    ⟨some 7, .mv (.tmp 0), none, 0⟩,
    ⟨some 8, .len (.tmp 7), none, 0⟩,
    ⟨some 9, .bin .lss (.tmp 6) (.tmp 8), none, 0⟩]) <|
  .cond (.tmp 9)
    (.skip)
    (.keep [1] <|
    .exit 0)) <|
  .seq (.block 1 <|
  .seq (.seq (.ops [
    ⟨some 12, .mv (.tmp 0), none, 0⟩,
    ⟨some 13, .mv (.tmp 5), none, 0⟩,
    ⟨some 14, .idx 1 (.tmp 12) (.tmp 13), none, 0⟩,
    ⟨some 15, .load false 1 (.tmp 14), none, 0⟩,
    ⟨some 16, .mv (.tmp 1), none, 0⟩,
    ⟨some 17, .bin .neq (.tmp 15) (.tmp 16), none, 0⟩]) <|
  .cond (.tmp 17)
    (.seq (.ops [
      ⟨some 4, .mv (.const (.int .i64 (-1))), none, 0⟩]) <|
    .keep [4] <|
    .ret)
    (.skip)) <|
  .ops [
    ⟨some 18, .mv (.tmp 1), none, 0⟩,
    ⟨some 19, .bin .add (.tmp 18) (.const (.int .i64 1)), none, 0⟩,
    ⟨some 1, .mv (.tmp 19), none, 0⟩]) <|
  .ops [
    ⟨some 10, .mv (.tmp 5), none, 0⟩,
    ⟨some 11, .bin .add (.tmp 10) (.const (.int .i64 1)), none, 0⟩,
    ⟨some 5, .mv (.tmp 11), none, 0⟩]
def i_laws_heldInt64S : FF := ⟨21, [.tmp 4],
  .seq (.ops [
    ⟨some 4, .mv (.const (.int .i64 0)), none, 0⟩]) <|
  .seq (.seq (.ops [
    ⟨some 5, .mv (.const (.int .i64 0)), none, 0⟩]) <|
  .block 0 <|
  .loop [0, 1, 5] i_laws_heldInt64S_B1) <|
  .seq (.ops [
    ⟨some 20, .mv (.tmp 1), none, 0⟩,
    ⟨some 4, .mv (.tmp 20), none, 0⟩]) <|
  .keep [4] <|
  .ret⟩

theorem e_laws_heldInt64S : EntOK Try.prog (compD Try.prog) k_laws_heldInt64S i_laws_heldInt64S.vf :=
  ⟨Try.f20, Try.f20.body.getD .skip, Try.func20, by kernel_rfl, by kernel_rfl, by kernel_rfl, by kernel_rfl, by kernel_rfl⟩

/-- loop.example/g01331/laws.szInt64S -/
def i_laws_szInt64S : FF := ⟨12, [.tmp 4],
  .seq (.ops [
    ⟨some 4, .mv (.const (.int .i64 0)), none, 0⟩]) <|
  .seq (.ops [
    ⟨some 5, .mv (.tmp 1), none, 0⟩,
    ⟨some 6, .mv (.tmp 0), none, 0⟩,
    ⟨some 7, .len (.tmp 6), none, 0⟩,
    ⟨some 8, .bin .sub (.tmp 5) (.tmp 7), none, 0⟩,
    ⟨some 1, .mv (.tmp 8), none, 0⟩]) <|
  .seq (.seq (.ops [
    ⟨some 9, .mv (.tmp 1), none, 0⟩,
    ⟨some 10, .bin .lss (.tmp 9) (.const (.int .i64 0)), none, 0⟩]) <|
  .cond (.tmp 10)
    (.seq (.ops [
      ⟨some 4, .mv (.const (.int .i64 (-1))), none, 0⟩]) <|
    .keep [4] <|
    .ret)
    (.skip)) <|
  .seq (.ops [
    ⟨some 11, .mv (.tmp 1), none, 0⟩,
    ⟨some 4, .mv (.tmp 11), none, 0⟩]) <|
  .keep [4] <|
  .ret⟩

theorem e_laws_szInt64S : EntOK Try.prog (compD Try.prog) k_laws_szInt64S i_laws_szInt64S.vf :=
  ⟨Try.f21, Try.f21.body.getD .skip, Try.func21, by kernel_rfl, by kernel_rfl, by kernel_rfl, by kernel_rfl, by kernel_rfl⟩

/-- loop.example/g01331/spec.l01Vertices -/
def i_spec_l01Vertices_B1 : FC :=
  .seq (.seq (.ops [
    ⟨some 9, .mv (.tmp 5), none, 0⟩,
    ⟨some 10, .mv (.tmp 1), none, 0⟩,
    ⟨some 11, .len (.tmp 10), none, 0⟩,
    ⟨some 12, .bin .lss (.tmp 9) (.tmp 11), none, 0⟩]) <|
  .cond (.tmp 12)
    (.skip)
    (.keep [] <|
    .exit 0)) <|
  .seq (.block 1 <|
  .seq (.dops [
    ⟨some 15, .mv (.tmp 1), none, 0⟩,
    ⟨some 16, .mv (.tmp 5), none, 0⟩,
    ⟨some 17, .idx 1 (.tmp 15) (.tmp 16), none, 0⟩,
    ⟨some 18, .load false 1 (.tmp 17), none, 0⟩,
    ⟨some 19, .fld 0 (.tmp 2), none, 0⟩,
    ⟨some 20, .load false 1 (.tmp 19), none, 0⟩,
    ⟨some 21, .bin .sub (.tmp 20) (.const (.int .i64 1)), none, 0⟩,
    ⟨some 22, .call k_spec_l01In [(.tmp 18), (.const (.int .i64 0)), (.tmp 21)], none, 0⟩,
    ⟨some 23, .un .not (.tmp 22), none, 0⟩]) <|
  .cond (.tmp 23)
    (.seq (.ops [
      ⟨some 4, .mv (.const (.int .i64 2)), none, 0⟩]) <|
    .keep [4] <|
    .ret)
    (.skip)) <|
  .ops [
    ⟨some 13, .mv (.tmp 5), none, 0⟩,
    ⟨some 14, .bin .add (.tmp 13) (.const (.int .i64 1)), none, 0⟩,
    ⟨some 5, .mv (.tmp 14), none, 0⟩]
def i_spec_l01Vertices : FF := ⟨24, [.tmp 4],
  .seq (.ops [
    ⟨some 2, .box 2 (.tmp 0), none, 0⟩,
    ⟨some 4, .mv (.const (.int .i64 0)), none, 0⟩]) <|
  .seq (.seq (.ops [
    ⟨some 6, .load true 2 (.tmp 2), none, 0⟩,
    ⟨some 7, .call k_spec_l01Is [(.tmp 6)], none, 0⟩,
    ⟨some 8, .un .not (.tmp 7), none, 0⟩]) <|
  .cond (.tmp 8)
    (.seq (.ops [
      ⟨some 4, .mv (.const (.int .i64 1)), none, 0⟩]) <|
    .keep [4] <|
    .ret)
    (.skip)) <|
  .seq (.seq (.ops [
    ⟨some 5, .mv (.const (.int .i64 0)), none, 0⟩]) <|
  .block 0 <|
  .loop [1, 2, 5] i_spec_l01Vertices_B1) <|
  .seq (.ops [
    ⟨some 4, .mv (.const (.int .i64 0)), none, 0⟩]) <|
  .keep [4] <|
  .ret⟩

theorem e_spec_l01Vertices : EntOK Try.prog (compD Try.prog) k_spec_l01Vertices i_spec_l01Vertices.vf :=
  ⟨Try.f22, Try.f22.body.getD .skip, Try.func22, by kernel_rfl, by kernel_rfl, by kernel_rfl, by kernel_rfl, by kernel_rfl⟩

/-- loop.example/g01331/spec.l01Has -/
def i_spec_l01Has : FF := ⟨17, [.tmp 6],
  .seq (.ops [
    ⟨some 3, .box 2 (.tmp 0), none, 0⟩,
    ⟨some 6, .mv (.const (.bool false)), none, 0⟩]) <|
  .seq (.ops [
    ⟨some 7, .fld 1 (.tmp 3), none, 0⟩,
    ⟨some 8, .load false 1 (.tmp 7), none, 0⟩,
    ⟨some 9, .mv (.tmp 1), none, 0⟩,
    ⟨some 10, .idx 1 (.tmp 8) (.tmp 9), none, 0⟩,
    ⟨some 11, .load false 1 (.tmp 10), none, 0⟩,
    ⟨some 12, .mv (.tmp 2), none, 0⟩,
    ⟨some 13, .conv .u64 (.tmp 12), none, 0⟩,
    ⟨some 14, .bin .shr (.tmp 11) (.tmp 13), none, 0⟩,
    ⟨some 15, .bin .and (.tmp 14) (.const (.int .i64 1)), none, 0⟩,
    ⟨some 16, .bin .eql (.tmp 15) (.const (.int .i64 1)), none, 0⟩,
    ⟨some 6, .mv (.tmp 16), none, 0⟩]) <|
  .keep [6] <|
  .ret⟩

theorem e_spec_l01Has : EntOK Try.prog (compD Try.prog) k_spec_l01Has i_spec_l01Has.vf :=
  ⟨Try.f23, Try.f23.body.getD .skip, Try.func23, by kernel_rfl, by kernel_rfl, by kernel_rfl, by kernel_rfl, by kernel_rfl⟩

/-- loop.example/g01331/spec.l01Join -/
def i_spec_l01Join : FF := ⟨15, [.cell 6 true 2],
  .seq (.ops [
    ⟨some 3, .box 2 (.tmp 0), none, 0⟩,
    ⟨some 6, .alloc [.int .i64 0, .slice none 0 0], none, 0⟩]) <|
  .seq (.ops [
    ⟨some 8, .load true 2 (.tmp 3), none, 0⟩,
    ⟨some 9, .call k_spec_l01Copy [(.tmp 8)], none, 0⟩,
    ⟨some 7, .alloc [.int .i64 0, .slice none 0 0], none, 0⟩,
    ⟨none, .store 2 (.tmp 7) (.tmp 9), none, 0⟩]) <|
  .seq (.ops [
    ⟨some 10, .load true 2 (.tmp 7), none, 0⟩,
    ⟨some 11, .mv (.tmp 1), none, 0⟩,
    ⟨some 12, .mv (.tmp 2), none, 0⟩,
    ⟨some 13, .call k_spec_l01Put [(.tmp 10), (.tmp 11), (.tmp 12)], none, 0⟩]) <|
  .seq (.ops [
    ⟨some 14, .load true 2 (.tmp 7), none, 0⟩,
    ⟨none, .store 2 (.tmp 6) (.tmp 14), none, 0⟩]) <|
  .keep [6] <|
  .ret⟩

theorem e_spec_l01Join : EntOK Try.prog (compD Try.prog) k_spec_l01Join i_spec_l01Join.vf :=
  ⟨Try.f24, Try.f24.body.getD .skip, Try.func24, by kernel_rfl, by kernel_rfl, by kernel_rfl, by kernel_rfl, by kernel_rfl⟩

/-- loop.example/g01331/spec.l01Cut -/
def i_spec_l01Cut : FF := ⟨39, [.cell 6 true 2],
  .seq (.ops [
    ⟨some 3, .box 2 (.tmp 0), none, 0⟩,
    ⟨some 6, .alloc [.int .i64 0, .slice none 0 0], none, 0⟩]) <|
  .seq (.ops [
    ⟨some 8, .load true 2 (.tmp 3), none, 0⟩,
    ⟨some 9, .mv (.tmp 1), none, 0⟩,
    ⟨some 10, .mv (.tmp 2), none, 0⟩,
    ⟨some 11, .call k_spec_l01Join [(.tmp 8), (.tmp 9), (.tmp 10)], none, 0⟩,
    ⟨some 7, .alloc [.int .i64 0, .slice none 0 0], none, 0⟩,
    ⟨none, .store 2 (.tmp 7) (.tmp 11), none, 0⟩]) <|
  .seq (.dops [
    ⟨some 12, .fld 1 (.tmp 7), none, 0⟩,
    ⟨some 13, .load false 1 (.tmp 12), none, 0⟩,
    ⟨some 14, .mv (.tmp 1), none, 0⟩,
    ⟨some 15, .fld 1 (.tmp 7), none, 0⟩,
    ⟨some 16, .load false 1 (.tmp 15), none, 0⟩,
    ⟨some 17, .mv (.tmp 1), none, 0⟩,
    ⟨some 18, .idx 1 (.tmp 16) (.tmp 17), none, 0⟩,
    ⟨some 19, .load false 1 (.tmp 18), none, 0⟩,
    ⟨some 20, .mv (.tmp 2), none, 0⟩,
    ⟨some 21, .conv .u64 (.tmp 20), none, 0⟩,
    ⟨some 22, .bin .shl (.const (.int .i64 1)) (.tmp 21), none, 0⟩,
    ⟨some 23, .bin .sub (.tmp 19) (.tmp 22), none, 0⟩,
    ⟨some 24, .idx 1 (.tmp 13) (.tmp 14), none, 0⟩,
    ⟨none, .store 1 (.tmp 24) (.tmp 23), none, 0⟩]) <|
  .seq (.dops [
    ⟨some 25, .fld 1 (.tmp 7), none, 0⟩,
    ⟨some 26, .load false 1 (.tmp 25), none, 0⟩,
    ⟨some 27, .mv (.tmp 2), none, 0⟩,
    ⟨some 28, .fld 1 (.tmp 7), none, 0⟩,
    ⟨some 29, .load false 1 (.tmp 28), none, 0⟩,
    ⟨some 30, .mv (.tmp 2), none, 0⟩,
    ⟨some 31, .idx 1 (.tmp 29) (.tmp 30), none, 0⟩,
    ⟨some 32, .load false 1 (.tmp 31), none, 0⟩,
    ⟨some 33, .mv (.tmp 1), none, 0⟩,
    ⟨some 34, .conv .u64 (.tmp 33), none, 0⟩,
    ⟨some 35, .bin .shl (.const (.int .i64 1)) (.tmp 34), none, 0⟩,
    ⟨some 36, .bin .sub (.tmp 32) (.tmp 35), none, 0⟩,
    ⟨some 37, .idx 1 (.tmp 26) (.tmp 27), none, 0⟩,
    ⟨none, .store 1 (.tmp 37) (.tmp 36), none, 0⟩]) <|
  .seq (.ops [
    ⟨some 38, .load true 2 (.tmp 7), none, 0⟩,
    ⟨none, .store 2 (.tmp 6) (.tmp 38), none, 0⟩]) <|
  .keep [6] <|
  .ret⟩

theorem e_spec_l01Cut : EntOK Try.prog (compD Try.prog) k_spec_l01Cut i_spec_l01Cut.vf :=
  ⟨Try.f25, Try.f25.body.getD .skip, Try.func25, by kernel_rfl, by kernel_rfl, by kernel_rfl, by kernel_rfl, by kernel_rfl⟩

/-- loop.example/g01331/impl.graphCode -/
def i_impl_graphCode_B1 : FC :=
  .seq (.ops [
    ⟨some 13, .bin .lss (.tmp 12) (.tmp 11), none, 0⟩]) <|
  .seq (.cond (.tmp 13)
    (.skip)
    (.keep [] <|
    .exit 0)) <|
  .seq (.block 1 <|
  .seq (.ops [
    ⟨some 14, .idx 1 (.tmp 10) (.tmp 12), none, 0⟩,
    ⟨some 15, .load false 1 (.tmp 14), none, 0⟩,
    ⟨some 6, .mv (.tmp 15), none, 0⟩]) <|
  .seq (.ops [
    ⟨some 16, .mv (.tmp 6), none, 0⟩,
    ⟨some 17, .bin .lss (.tmp 16) (.const (.int .i64 0)), none, 0⟩,
    ⟨some 18, .mv (.tmp 17), none, 0⟩,
    ⟨some 19, .mv (.tmp 6), some (18, false), 0⟩,
    ⟨some 20, .fld 0 (.tmp 2), some (18, false), 0⟩,
    ⟨some 21, .load false 1 (.tmp 20), some (18, false), 0⟩,
    ⟨some 22, .bin .geq (.tmp 19) (.tmp 21), some (18, false), 0⟩,
    ⟨some 23, .pick (.tmp 18) (.const (.bool true)) (.tmp 22), none, 0⟩]) <|
  .cond (.tmp 23)
    (.seq (.ops [
      ⟨some 4, .mv (.const (.int .i64 2)), none, 0⟩]) <|
    .keep [4] <|
    .ret)
    (.skip)) <|
  .ops [
    ⟨some 24, .bin .add (.tmp 12) (.const (.int .i64 1)), none, 0⟩,
    ⟨some 12, .mv (.tmp 24), none, 0⟩]
def i_impl_graphCode : FF := ⟨25, [.tmp 4],
  .seq (.ops [
    ⟨some 2, .box 2 (.tmp 0), none, 0⟩,
    ⟨some 4, .mv (.const (.int .i64 0)), none, 0⟩]) <|
  .seq (.seq (.ops [
    ⟨some 7, .load true 2 (.tmp 2), none, 0⟩,
    ⟨some 8, .call k_impl_IsGraph [(.tmp 7)], none, 0⟩,
    ⟨some 9, .un .not (.tmp 8), none, 0⟩]) <|
  .cond (.tmp 9)
    (.seq (.ops [
      ⟨some 4, .mv (.const (.int .i64 1)), none, 0⟩]) <|
    .keep [4] <|
    .ret)
    (.skip)) <|
  .seq (.seq (.ops [
    ⟨some 10, .mv (.tmp 1), none, 0⟩,
    ⟨some 11, .len (.tmp 10), none, 0⟩,
    ⟨some 12, .mv (.const (.int .i64 0)), none, 0⟩]) <|
  .block 0 <|
  .loop [2, 10, 11, 12] i_impl_graphCode_B1) <|
  .seq (.ops [
    ⟨some 4, .mv (.const (.int .i64 0)), none, 0⟩]) <|
  .keep [4] <|
  .ret⟩

theorem e_impl_graphCode : EntOK Try.prog (compD Try.prog) k_impl_graphCode i_impl_graphCode.vf :=
  ⟨Try.f26, Try.f26.body.getD .skip, Try.func26, by kernel_rfl, by kernel_rfl, by kernel_rfl, by kernel_rfl, by kernel_rfl⟩

/-- slices.Sort[[]int64,int64] -/
def i_slices_Sort_int64_int64 : FF := ⟨11, [],
  .seq (.ops [
    ⟨some 3, .mv (.tmp 0), none, 0⟩,
    ⟨some 4, .len (.tmp 3), none, 0⟩,
    ⟨some 2, .mv (.tmp 4), none, 0⟩]) <|
  .ops [
    ⟨some 5, .mv (.tmp 0), none, 0⟩,
    ⟨some 6, .mv (.tmp 2), none, 0⟩,
    ⟨some 7, .mv (.tmp 2), none, 0⟩,
    ⟨some 8, .conv .u64 (.tmp 7), none, 0⟩,
    ⟨some 9, .call k_math_bits_Len [(.tmp 8)], none, 0⟩,
    ⟨some 10, .call k_slices_pdqsortOrdered_int64 [(.tmp 5), (.const (.int .i64 0)), (.tmp 6), (.tmp 9)], none, 0⟩]⟩

theorem e_slices_Sort_int64_int64 : EntOK Try.prog (compD Try.prog) k_slices_Sort_int64_int64 i_slices_Sort_int64_int64.vf :=
  ⟨Try.f27, Try.f27.body.getD .skip, Try.func27, by kernel_rfl, by kernel_rfl, by kernel_rfl, by kernel_rfl, by kernel_rfl⟩

/-- slices.Compact[[]int64,int64] -/
def i_slices_Compact_int64_int64_B1 : FC :=
  .seq (.seq (.ops [
    ⟨some 29, .mv (.tmp 5), none, 0⟩,
    ⟨some 30, .mv (.tmp 4), none, 0⟩,
    ⟨some 31, .len (.tmp 30), none, 0⟩,
    ⟨some 32, .bin .lss (.tmp 29) (.tmp 31), none, 0⟩]) <|
  .cond (.tmp 32)
    (.skip)
    (.keep [0, 3] <|
    .exit 2)) <|
  .seq (.block 3 <|
  .seq (.dops [
    ⟨some 35, .mv (.tmp 4), none, 0⟩,
    ⟨some 36, .mv (.tmp 5), none, 0⟩,
    ⟨some 37, .idx 1 (.tmp 35) (.tmp 36), none, 0⟩,
    ⟨some 38, .load false 1 (.tmp 37), none, 0⟩,
    ⟨some 39, .mv (.tmp 4), none, 0⟩,
    ⟨some 40, .mv (.tmp 5), none, 0⟩,
    ⟨some 41, .bin .sub (.tmp 40) (.const (.int .i64 1)), none, 0⟩,
    ⟨some 42, .idx 1 (.tmp 39) (.tmp 41), none, 0⟩,
    ⟨some 43, .load false 1 (.tmp 42), none, 0⟩,
    ⟨some 44, .bin .neq (.tmp 38) (.tmp 43), none, 0⟩]) <|
  .cond (.tmp 44)
    (.seq (.ops [
      ⟨some 45, .mv (.tmp 0), none, 0⟩,
      ⟨some 46, .mv (.tmp 3), none, 0⟩,
      ⟨some 47, .mv (.tmp 4), none, 0⟩,
      ⟨some 48, .mv (.tmp 5), none, 0⟩,
      ⟨some 49, .idx 1 (.tmp 47) (.tmp 48), none, 0⟩,
      ⟨some 50, .load false 1 (.tmp 49), none, 0⟩,
      ⟨some 51, .idx 1 (.tmp 45) (.tmp 46), none, 0⟩,
      ⟨none, .store 1 (.tmp 51) (.tmp 50), none, 0⟩]) <|
    .ops [
      ⟨some 52, .mv (.tmp 3), none, 0⟩,
      ⟨some 53, .bin .add (.tmp 52) (.const (.int .i64 1)), none, 0⟩,
      ⟨some 3, .mv (.tmp 53), none, 0⟩])
    (.skip)) <|
  .ops [
    ⟨some 33, .mv (.tmp 5), none, 0⟩,
    ⟨some 34, .bin .add (.tmp 33) (.const (.int .i64 1)), none, 0⟩,
    ⟨some 5, .mv (.tmp 34), none, 0⟩]
def i_slices_Compact_int64_int64_B2 : FC :=
  .seq (.seq (.ops [
    ⟨some 10, .mv (.tmp 3), none, 0⟩,
    ⟨some 11, .mv (.tmp 0), none, 0⟩,
    ⟨some 12, .len (.tmp 11), none, 0⟩,
    ⟨some 13, .bin .lss (.tmp 10) (.tmp 12), none, 0⟩]) <|
  .cond (.tmp 13)
    (.skip)
    (.keep [0] <|
    .exit 0)) <|
  .seq (.block 1 <|
  .seq (.dops [
    ⟨some 16, .mv (.tmp 0), none, 0⟩,
    ⟨some 17, .mv (.tmp 3), none, 0⟩,
    ⟨some 18, .idx 1 (.tmp 16) (.tmp 17), none, 0⟩,
    ⟨some 19, .load false 1 (.tmp 18), none, 0⟩,
    ⟨some 20, .mv (.tmp 0), none, 0⟩,
    ⟨some 21, .mv (.tmp 3), none, 0⟩,
    ⟨some 22, .bin .sub (.tmp 21) (.const (.int .i64 1)), none, 0⟩,
    ⟨some 23, .idx 1 (.tmp 20) (.tmp 22), none, 0⟩,
    ⟨some 24, .load false 1 (.tmp 23), none, 0⟩,
    ⟨some 25, .bin .eql (.tmp 19) (.tmp 24), none, 0⟩]) <|
  .cond (.tmp 25)
    (.seq (.ops [
      ⟨some 26, .mv (.tmp 0), none, 0⟩,
      ⟨some 27, .mv (.tmp 3), none, 0⟩,
      ⟨some 28, .slc 1 (.tmp 26) (some (.tmp 27)) none, none, 0⟩,
      ⟨some 4, .mv (.tmp 28), none, 0⟩]) <|
    .seq (.seq (.ops [
      ⟨some 5, .mv (.const (.int .i64 1)), none, 0⟩]) <|
    .block 2 <|
    .loop [0, 3, 4, 5] i_slices_Compact_int64_int64_B1) <|
    .seq (.ops [
      ⟨some 54, .mv (.tmp 0), none, 0⟩,
      ⟨some 55, .mv (.tmp 3), none, 0⟩,
      ⟨some 56, .slc 1 (.tmp 54) (some (.tmp 55)) none, none, 0⟩,
      ⟨none, .clr 1 [.int .i64 0] (.tmp 56), none, 0⟩]) <|
    .seq (.ops [
      ⟨some 57, .mv (.tmp 0), none, 0⟩,
      ⟨some 58, .mv (.tmp 3), none, 0⟩,
      ⟨some 59, .slc 1 (.tmp 57) none (some (.tmp 58)), none, 0⟩,
      ⟨some 2, .mv (.tmp 59), none, 0⟩]) <|
    .keep [2] <|
    .ret)
    (.skip)) <|
  .ops [
    ⟨some 14, .mv (.tmp 3), none, 0⟩,
    ⟨some 15, .bin .add (.tmp 14) (.const (.int .i64 1)), none, 0⟩,
    ⟨some 3, .mv (.tmp 15), none, 0⟩]
def i_slices_Compact_int64_int64 : FF := ⟨61, [.tmp 2],
  .seq (.ops [
    ⟨some 2, .mv (.const (.slice none 0 0)), none, 0⟩]) <|
  .seq (.seq (.ops [
    ⟨some 6, .mv (.tmp 0), none, 0⟩,
    ⟨some 7, .len (.tmp 6), none, 0⟩,
    ⟨some 8, .bin .lss (.tmp 7) (.const (.int .i64 2)), none, 0⟩]) <|
  .cond (.tmp 8)
    (.seq (.ops [
      ⟨some 9, .mv (.tmp 0), none, 0⟩,
      ⟨some 2, .mv (.tmp 9), none, 0⟩]) <|
    .keep [2] <|
    .ret)
    (.skip)) <|
  .seq (.seq (.ops [
    ⟨some 3, .mv (.const (.int .i64 1)), none, 0⟩]) <|
  .block 0 <|
  .loop [0, 3] i_slices_Compact_int64_int64_B2) <|
  .seq (.ops [
    ⟨some 60, .mv (.tmp 0), none, 0⟩,
    ⟨some 2, .mv (.tmp 60), none, 0⟩]) <|
  .keep [2] <|
  .ret⟩

theorem e_slices_Compact_int64_int64 : EntOK Try.prog (compD Try.prog) k_slices_Compact_int64_int64 i_slices_Compact_int64_int64.vf :=
  ⟨Try.f28, Try.f28.body.getD .skip, Try.func28, by kernel_rfl, by kernel_rfl, by kernel_rfl, by kernel_rfl, by kernel_rfl⟩

/-- (loop.example/g01331/impl.Graph).has -/
def i_impl_Graph_has : FF := ⟨16, [.tmp 6],
  .seq (.ops [
    ⟨some 3, .box 2 (.tmp 0), none, 0⟩,
    ⟨some 6, .mv (.const (.bool false)), none, 0⟩]) <|
  .seq (.ops [
    ⟨some 7, .fld 1 (.tmp 3), none, 0⟩,
    ⟨some 8, .load false 1 (.tmp 7), none, 0⟩,
    ⟨some 9, .mv (.tmp 1), none, 0⟩,
    ⟨some 10, .idx 1 (.tmp 8) (.tmp 9), none, 0⟩,
    ⟨some 11, .load false 1 (.tmp 10), none, 0⟩,
    ⟨some 12, .mv (.tmp 2), none, 0⟩,
    ⟨some 13, .bin .shr (.tmp 11) (.tmp 12), none, 0⟩,
    ⟨some 14, .bin .and (.tmp 13) (.const (.int .i64 1)), none, 0⟩,
    ⟨some 15, .bin .eql (.tmp 14) (.const (.int .i64 1)), none, 0⟩,
    ⟨some 6, .mv (.tmp 15), none, 0⟩]) <|
  .keep [6] <|
  .ret⟩

theorem e_impl_Graph_has : EntOK Try.prog (compD Try.prog) k_impl_Graph_has i_impl_Graph_has.vf :=
  ⟨Try.f29, Try.f29.body.getD .skip, Try.func29, by kernel_rfl, by kernel_rfl, by kernel_rfl, by kernel_rfl, by kernel_rfl⟩

/-- loop.example/g01331/impl.own -/
def i_impl_own : FF := ⟨9, [.cell 2 true 2],
  .seq (.ops [
    ⟨some 1, .box 2 (.tmp 0), none, 0⟩,
    ⟨some 2, .alloc [.int .i64 0, .slice none 0 0], none, 0⟩]) <|
  .seq (.dops [
    ⟨some 5, .fld 1 (.tmp 1), none, 0⟩,
    ⟨some 6, .load false 1 (.tmp 5), none, 0⟩,
    ⟨some 7, .call k_slices_Clone_int64_int64 [(.tmp 6)], none, 0⟩,
    ⟨some 3, .fld 0 (.tmp 1), none, 1⟩,
    ⟨some 4, .load false 1 (.tmp 3), none, 1⟩,
    ⟨some 8, .build [.int .i64 0, .slice none 0 0] [(0, 1, (.tmp 4)), (1, 1, (.tmp 7))], none, 0⟩,
    ⟨none, .store 2 (.tmp 2) (.tmp 8), none, 0⟩]) <|
  .keep [2] <|
  .ret⟩

theorem e_impl_own : EntOK Try.prog (compD Try.prog) k_impl_own i_impl_own.vf :=
  ⟨Try.f30, Try.f30.body.getD .skip, Try.func30, by kernel_rfl, by kernel_rfl, by kernel_rfl, by kernel_rfl, by kernel_rfl⟩

/-- (loop.example/g01331/impl.Graph).take -/
def i_impl_Graph_take : FF := ⟨24, [],
  .seq (.ops [
    ⟨some 3, .box 2 (.tmp 0), none, 0⟩]) <|
  .seq (.dops [
    ⟨some 6, .fld 1 (.tmp 3), none, 0⟩,
    ⟨some 7, .load false 1 (.tmp 6), none, 0⟩,
    ⟨some 8, .mv (.tmp 1), none, 0⟩,
    ⟨some 9, .idx 1 (.tmp 7) (.tmp 8), none, 0⟩,
    ⟨some 10, .load false 1 (.tmp 9), none, 0⟩,
    ⟨some 11, .mv (.tmp 2), none, 0⟩,
    ⟨some 12, .bin .shl (.const (.int .i64 1)) (.tmp 11), none, 0⟩,
    ⟨some 13, .bin .andNot (.tmp 10) (.tmp 12), none, 0⟩,
    ⟨some 14, .idx 1 (.tmp 7) (.tmp 8), none, 0⟩,
    ⟨none, .store 1 (.tmp 14) (.tmp 13), none, 0⟩]) <|
  .dops [
    ⟨some 15, .fld 1 (.tmp 3), none, 0⟩,
    ⟨some 16, .load false 1 (.tmp 15), none, 0⟩,
    ⟨some 17, .mv (.tmp 2), none, 0⟩,
    ⟨some 18, .idx 1 (.tmp 16) (.tmp 17), none, 0⟩,
    ⟨some 19, .load false 1 (.tmp 18), none, 0⟩,
    ⟨some 20, .mv (.tmp 1), none, 0⟩,
    ⟨some 21, .bin .shl (.const (.int .i64 1)) (.tmp 20), none, 0⟩,
    ⟨some 22, .bin .andNot (.tmp 19) (.tmp 21), none, 0⟩,
    ⟨some 23, .idx 1 (.tmp 16) (.tmp 17), none, 0⟩,
    ⟨none, .store 1 (.tmp 23) (.tmp 22), none, 0⟩]⟩

theorem e_impl_Graph_take : EntOK Try.prog (compD Try.prog) k_impl_Graph_take i_impl_Graph_take.vf :=
  ⟨Try.f31, Try.f31.body.getD .skip, Try.func31, by kernel_rfl, by kernel_rfl, by kernel_rfl, by kernel_rfl, by kernel_rfl⟩

/-- (loop.example/g01331/impl.Graph).put -/
def i_impl_Graph_put : FF := ⟨27, [],
  .seq (.ops [
    ⟨some 3, .box 2 (.tmp 0), none, 0⟩]) <|
  .seq (.ops [
    ⟨some 6, .mv (.tmp 1), none, 0⟩,
    ⟨some 7, .mv (.tmp 2), none, 0⟩,
    ⟨some 8, .bin .neq (.tmp 6) (.tmp 7), none, 0⟩]) <|
  .cond (.tmp 8)
    (.seq (.dops [
      ⟨some 9, .fld 1 (.tmp 3), none, 0⟩,
      ⟨some 10, .load false 1 (.tmp 9), none, 0⟩,
      ⟨some 11, .mv (.tmp 1), none, 0⟩,
      ⟨some 12, .idx 1 (.tmp 10) (.tmp 11), none, 0⟩,
      ⟨some 13, .load false 1 (.tmp 12), none, 0⟩,
      ⟨some 14, .mv (.tmp 2), none, 0⟩,
      ⟨some 15, .bin .shl (.const (.int .i64 1)) (.tmp 14), none, 0⟩,
      ⟨some 16, .bin .or (.tmp 13) (.tmp 15), none, 0⟩,
      ⟨some 17, .idx 1 (.tmp 10) (.tmp 11), none, 0⟩,
      ⟨none, .store 1 (.tmp 17) (.tmp 16), none, 0⟩]) <|
    .dops [
      ⟨some 18, .fld 1 (.tmp 3), none, 0⟩,
      ⟨some 19, .load false 1 (.tmp 18), none, 0⟩,
      ⟨some 20, .mv (.tmp 2), none, 0⟩,
      ⟨some 21, .idx 1 (.tmp 19) (.tmp 20), none, 0⟩,
      ⟨some 22, .load false 1 (.tmp 21), none, 0⟩,
      ⟨some 23, .mv (.tmp 1), none, 0⟩,
      ⟨some 24, .bin .shl (.const (.int .i64 1)) (.tmp 23), none, 0⟩,
      ⟨some 25, .bin .or (.tmp 22) (.tmp 24), none, 0⟩,
      ⟨some 26, .idx 1 (.tmp 19) (.tmp 20), none, 0⟩,
      ⟨none, .store 1 (.tmp 26) (.tmp 25), none, 0⟩])
    (.skip)⟩

theorem e_impl_Graph_put : EntOK Try.prog (compD Try.prog) k_impl_Graph_put i_impl_Graph_put.vf :=
  ⟨Try.f32, Try.f32.body.getD .skip, Try.func32, by kernel_rfl, by kernel_rfl, by kernel_rfl, by kernel_rfl, by kernel_rfl⟩

/-- loop.example/g01331/spec.l01Is -/
def i_spec_l01Is_B1 : FC :=
  .seq (.seq (.ops [
    ⟨some 18, .mv (.tmp 3), none, 0⟩,
    ⟨some 19, .fld 0 (.tmp 1), none, 0⟩,
    ⟨some 20, .load false 1 (.tmp 19), none, 0⟩,
    ⟨some 21, .bin .lss (.tmp 18) (.tmp 20), none, 0⟩]) <|
  .cond (.tmp 21)
    (.skip)
    (.keep [1] <|
    .exit 0)) <|
  .seq (.block 1 <|
  .seq (.dops [
    ⟨some 24, .fld 1 (.tmp 1), none, 0⟩,
    ⟨some 25, .load false 1 (.tmp 24), none, 0⟩,
    ⟨some 26, .mv (.tmp 3), none, 0⟩,
    ⟨some 27, .idx 1 (.tmp 25) (.tmp 26), none, 0⟩,
    ⟨some 28, .load false 1 (.tmp 27), none, 0⟩,
    ⟨some 29, .fld 0 (.tmp 1), none, 0⟩,
    ⟨some 30, .load false 1 (.tmp 29), none, 0⟩,
    ⟨some 31, .conv .u64 (.tmp 30), none, 0⟩,
    ⟨some 32, .bin .shl (.const (.int .i64 1)) (.tmp 31), none, 0⟩,
    ⟨some 33, .bin .sub (.tmp 32) (.const (.int .i64 1)), none, 0⟩,
    ⟨some 34, .call k_spec_l01In [(.tmp 28), (.const (.int .i64 0)), (.tmp 33)], none, 0⟩,
    ⟨some 35, .un .not (.tmp 34), none, 0⟩,
    ⟨some 36, .mv (.tmp 35), none, 0⟩,
    ⟨some 37, .load true 2 (.tmp 1), some (36, false), 0⟩,
    ⟨some 38, .mv (.tmp 3), some (36, false), 0⟩,
    ⟨some 39, .mv (.tmp 3), some (36, false), 0⟩,
    ⟨some 40, .call k_spec_l01Has [(.tmp 37), (.tmp 38), (.tmp 39)], some (36, false), 0⟩,
    ⟨some 41, .pick (.tmp 36) (.const (.bool true)) (.tmp 40), none, 0⟩]) <|
  .cond (.tmp 41)
    (.seq (.ops [
      ⟨some 2, .mv (.const (.bool false)), none, 0⟩]) <|
    .keep [2] <|
    .ret)
    (.skip)) <|
  .ops [
    ⟨some 22, .mv (.tmp 3), none, 0⟩,
    ⟨some 23, .bin .add (.tmp 22) (.const (.int .i64 1)), none, 0⟩,
    ⟨some 3, .mv (.tmp 23), none, 0⟩]
def i_spec_l01Is_B2 : FC :=
  .seq (.seq (.ops [
    ⟨some 48, .mv (.tmp 5), none, 0⟩,
    ⟨some 49, .mv (.tmp 4), none, 0⟩,
    ⟨some 50, .bin .lss (.tmp 48) (.tmp 49), none, 0⟩]) <|
  .cond (.tmp 50)
    (.skip)
    (.keep [1, 4] <|
    .exit 4)) <|
  .seq (.block 5 <|
  .seq (.dops [
    ⟨some 53, .load true 2 (.tmp 1), none, 0⟩,
    ⟨some 54, .mv (.tmp 4), none, 0⟩,
    ⟨some 55, .mv (.tmp 5), none, 0⟩,
    ⟨some 56, .call k_spec_l01Has [(.tmp 53), (.tmp 54), (.tmp 55)], none, 0⟩,
    ⟨some 57, .load true 2 (.tmp 1), none, 1⟩,
    ⟨some 58, .mv (.tmp 5), none, 1⟩,
    ⟨some 59, .mv (.tmp 4), none, 1⟩,
    ⟨some 60, .call k_spec_l01Has [(.tmp 57), (.tmp 58), (.tmp 59)], none, 0⟩,
    ⟨some 61, .beq true (.tmp 56) (.tmp 60), none, 0⟩]) <|
  .cond (.tmp 61)
    (.seq (.ops [
      ⟨some 2, .mv (.const (.bool false)), none, 0⟩]) <|
    .keep [2] <|
    .ret)
    (.skip)) <|
  .ops [
    ⟨some 51, .mv (.tmp 5), none, 0⟩,
    ⟨some 52, .bin .add (.tmp 51) (.const (.int .i64 1)), none, 0⟩,
    ⟨some 5, .mv (.tmp 52), none, 0⟩]
def i_spec_l01Is_B3 : FC :=
  .seq (.seq (.ops [
    ⟨some 42, .mv (.tmp 4), none, 0⟩,
    ⟨some 43, .fld 0 (.tmp 1), none, 0⟩,
    ⟨some 44, .load false 1 (.tmp 43), none, 0⟩,
    ⟨some 45, .bin .lss (.tmp 42) (.tmp 44), none, 0⟩]) <|
  .cond (.tmp 45)
    (.skip)
    (.keep [] <|
    .exit 2)) <|
  .seq (.block 3 <|
  .seq (.ops [
    ⟨some 5, .mv (.const (.int .i64 0)), none, 0⟩]) <|
  .block 4 <|
  .loop [1, 4, 5] i_spec_l01Is_B2) <|
  .ops [
    ⟨some 46, .mv (.tmp 4), none, 0⟩,
    ⟨some 47, .bin .add (.tmp 46) (.const (.int .i64 1)), none, 0⟩,
    ⟨some 4, .mv (.tmp 47), none, 0⟩]
def i_spec_l01Is : FF := ⟨62, [.tmp 2],
  .seq (.ops [
    ⟨some 1, .box 2 (.tmp 0), none, 0⟩,
    ⟨some 2, .mv (.const (.bool false)), none, 0⟩]) <|
  .seq (.seq (.ops [
    ⟨some 6, .fld 0 (.tmp 1), none, 0⟩,
    ⟨some 7, .load false 1 (.tmp 6), none, 0⟩,
    ⟨some 8, .call k_spec_l01In [(.tmp 7), (.const (.int .i64 1)), (.const (.int .i64 62))], none, 0⟩,
    ⟨some 9, .un .not (.tmp 8), none, 0⟩,
    ⟨some 10, .mv (.tmp 9), none, 0⟩,
    ⟨some 11, .fld 1 (.tmp 1), some (10, false), 0⟩,
    ⟨some 12, .load false 1 (.tmp 11), some (10, false), 0⟩,
    ⟨some 13, .len (.tmp 12), some (10, false), 0⟩,
    ⟨some 14, .fld 0 (.tmp 1), some (10, false), 0⟩,
    ⟨some 15, .load false 1 (.tmp 14), some (10, false), 0⟩,
    ⟨some 16, .bin .neq (.tmp 13) (.tmp 15), some (10, false), 0⟩,
    ⟨some 17, .pick (.tmp 10) (.const (.bool true)) (.tmp 16), none, 0⟩]) <|
  .cond (.tmp 17)
    (.seq (.ops [
      ⟨some 2, .mv (.const (.bool false)), none, 0⟩]) <|
    .keep [2] <|
    .ret)
    (.skip)) <|
  .seq (.seq (.ops [
    ⟨some 3, .mv (.const (.int .i64 0)), none, 0⟩]) <|
  .block 0 <|
  .loop [1, 3] i_spec_l01Is_B1) <|
  .seq (.seq (.ops [
    ⟨some 4, .mv (.const (.int .i64 0)), none, 0⟩]) <|
  .block 2 <|
  .loop [1, 4] i_spec_l01Is_B3) <|
  .seq (.ops [
    ⟨some 2, .mv (.const (.bool true)), none, 0⟩]) <|
  .keep [2] <|
  .ret⟩

theorem e_spec_l01Is : EntOK Try.prog (compD Try.prog) k_spec_l01Is i_spec_l01Is.vf :=
  ⟨Try.f40, Try.f40.body.getD .skip, Try.func40, by kernel_rfl, by kernel_rfl, by kernel_rfl, by kernel_rfl, by kernel_rfl⟩

/-- loop.example/g01331/spec.l01In -/
def i_spec_l01In : FF := ⟨15, [.tmp 6],
  .seq (.ops [
    ⟨some 6, .mv (.const (.bool false)), none, 0⟩]) <|
  .seq (.ops [
    ⟨some 7, .mv (.tmp 0), none, 0⟩,
    ⟨some 8, .mv (.tmp 1), none, 0⟩,
    ⟨some 9, .bin .geq (.tmp 7) (.tmp 8), none, 0⟩,
    ⟨some 10, .mv (.tmp 9), none, 0⟩,
    ⟨some 11, .mv (.tmp 0), some (10, true), 0⟩,
    ⟨some 12, .mv (.tmp 2), some (10, true), 0⟩,
    ⟨some 13, .bin .leq (.tmp 11) (.tmp 12), some (10, true), 0⟩,
    ⟨some 14, .pick (.tmp 10) (.tmp 13) (.const (.bool false)), none, 0⟩,
    ⟨some 6, .mv (.tmp 14), none, 0⟩]) <|
  .keep [6] <|
  .ret⟩

theorem e_spec_l01In : EntOK Try.prog (compD Try.prog) k_spec_l01In i_spec_l01In.vf :=
  ⟨Try.f41, Try.f41.body.getD .skip, Try.func41, by kernel_rfl, by kernel_rfl, by kernel_rfl, by kernel_rfl, by kernel_rfl⟩

/-- loop.example/g01331/spec.l01Copy -/
def i_spec_l01Copy : FF := ⟨9, [.cell 2 true 2],
  .seq (.ops [
    ⟨some 1, .box 2 (.tmp 0), none, 0⟩,
    ⟨some 2, .alloc [.int .i64 0, .slice none 0 0], none, 0⟩]) <|
  .seq (.dops [
    ⟨some 5, .fld 1 (.tmp 1), none, 0⟩,
    ⟨some 6, .load false 1 (.tmp 5), none, 0⟩,
    ⟨some 7, .call k_spec_l01Own [(.tmp 6)], none, 0⟩,
    ⟨some 3, .fld 0 (.tmp 1), none, 1⟩,
    ⟨some 4, .load false 1 (.tmp 3), none, 1⟩,
    ⟨some 8, .build [.int .i64 0, .slice none 0 0] [(0, 1, (.tmp 4)), (1, 1, (.tmp 7))], none, 0⟩,
    ⟨none, .store 2 (.tmp 2) (.tmp 8), none, 0⟩]) <|
  .keep [2] <|
  .ret⟩

theorem e_spec_l01Copy : EntOK Try.prog (compD Try.prog) k_spec_l01Copy i_spec_l01Copy.vf :=
  ⟨Try.f42, Try.f42.body.getD .skip, Try.func42, by kernel_rfl, by kernel_rfl, by kernel_rfl, by kernel_rfl, by kernel_rfl⟩

/-- loop.example/g01331/spec.l01Put -/
def i_spec_l01Put : FF := ⟨32, [],
  .seq (.ops [
    ⟨some 3, .box 2 (.tmp 0), none, 0⟩]) <|
  .seq (.dops [
    ⟨some 6, .fld 1 (.tmp 3), none, 0⟩,
    ⟨some 7, .load false 1 (.tmp 6), none, 0⟩,
    ⟨some 8, .mv (.tmp 1), none, 0⟩,
    ⟨some 9, .fld 1 (.tmp 3), none, 0⟩,
    ⟨some 10, .load false 1 (.tmp 9), none, 0⟩,
    ⟨some 11, .mv (.tmp 1), none, 0⟩,
    ⟨some 12, .idx 1 (.tmp 10) (.tmp 11), none, 0⟩,
    ⟨some 13, .load false 1 (.tmp 12), none, 0⟩,
    ⟨some 14, .mv (.tmp 2), none, 0⟩,
    ⟨some 15, .conv .u64 (.tmp 14), none, 0⟩,
    ⟨some 16, .bin .shl (.const (.int .i64 1)) (.tmp 15), none, 0⟩,
    ⟨some 17, .bin .or (.tmp 13) (.tmp 16), none, 0⟩,
    ⟨some 18, .idx 1 (.tmp 7) (.tmp 8), none, 0⟩,
    ⟨none, .store 1 (.tmp 18) (.tmp 17), none, 0⟩]) <|
  .dops [
    ⟨some 19, .fld 1 (.tmp 3), none, 0⟩,
    ⟨some 20, .load false 1 (.tmp 19), none, 0⟩,
    ⟨some 21, .mv (.tmp 2), none, 0⟩,
    ⟨some 22, .fld 1 (.tmp 3), none, 0⟩,
    ⟨some 23, .load false 1 (.tmp 22), none, 0⟩,
    ⟨some 24, .mv (.tmp 2), none, 0⟩,
    ⟨some 25, .idx 1 (.tmp 23) (.tmp 24), none, 0⟩,
    ⟨some 26, .load false 1 (.tmp 25), none, 0⟩,
    ⟨some 27, .mv (.tmp 1), none, 0⟩,
    ⟨some 28, .conv .u64 (.tmp 27), none, 0⟩,
    ⟨some 29, .bin .shl (.const (.int .i64 1)) (.tmp 28), none, 0⟩,
    ⟨some 30, .bin .or (.tmp 26) (.tmp 29), none, 0⟩,
    ⟨some 31, .idx 1 (.tmp 20) (.tmp 21), none, 0⟩,
    ⟨none, .store 1 (.tmp 31) (.tmp 30), none, 0⟩]⟩

theorem e_spec_l01Put : EntOK Try.prog (compD Try.prog) k_spec_l01Put i_spec_l01Put.vf :=
  ⟨Try.f43, Try.f43.body.getD .skip, Try.func43, by kernel_rfl, by kernel_rfl, by kernel_rfl, by kernel_rfl, by kernel_rfl⟩

/-- loop.example/g01331/impl.IsGraph -/
def i_impl_IsGraph_B1 : FC :=
  .seq (.ops [
    ⟨some 47, .bin .lss (.tmp 46) (.tmp 45), none, 0⟩]) <|
  .seq (.cond (.tmp 47)
    (.skip)
    (.keep [1, 3, 23, 24, 25] <|
    .exit 2)) <|
  .seq (.block 3 <|
  .seq (.ops [
    ⟨some 48, .mv (.tmp 46), none, 0⟩,
    ⟨some 6, .mv (.tmp 48), none, 0⟩]) <|
  .seq (.dops [
    ⟨some 49, .mv (.tmp 5), none, 0⟩,
    ⟨some 50, .mv (.tmp 6), none, 0⟩,
    ⟨some 51, .bin .shr (.tmp 49) (.tmp 50), none, 0⟩,
    ⟨some 52, .bin .and (.tmp 51) (.const (.int .i64 1)), none, 0⟩,
    ⟨some 53, .fld 1 (.tmp 1), none, 0⟩,
    ⟨some 54, .load false 1 (.tmp 53), none, 0⟩,
    ⟨some 55, .mv (.tmp 6), none, 0⟩,
    ⟨some 56, .idx 1 (.tmp 54) (.tmp 55), none, 0⟩,
    ⟨some 57, .load false 1 (.tmp 56), none, 0⟩,
    ⟨some 58, .mv (.tmp 4), none, 0⟩,
    ⟨some 59, .bin .shr (.tmp 57) (.tmp 58), none, 0⟩,
    ⟨some 60, .bin .and (.tmp 59) (.const (.int .i64 1)), none, 0⟩,
    ⟨some 61, .bin .neq (.tmp 52) (.tmp 60), none, 0⟩]) <|
  .cond (.tmp 61)
    (.seq (.ops [
      ⟨some 2, .mv (.const (.bool false)), none, 0⟩]) <|
    .keep [2] <|
    .ret)
    (.skip)) <|
  .ops [
    ⟨some 62, .bin .add (.tmp 46) (.const (.int .i64 1)), none, 0⟩,
    ⟨some 46, .mv (.tmp 62), none, 0⟩]
def i_impl_IsGraph_B2 : FC :=
  .seq (.ops [
    ⟨some 26, .bin .lss (.tmp 25) (.tmp 24), none, 0⟩]) <|
  .seq (.cond (.tmp 26)
    (.skip)
    (.keep [] <|
    .exit 0)) <|
  .seq (.block 1 <|
  .seq (.ops [
    ⟨some 27, .mv (.tmp 25), none, 0⟩,
    ⟨some 28, .idx 1 (.tmp 23) (.tmp 25), none, 0⟩,
    ⟨some 29, .load false 1 (.tmp 28), none, 0⟩,
    ⟨some 4, .mv (.tmp 27), none, 0⟩,
    ⟨some 5, .mv (.tmp 29), none, 0⟩]) <|
  .seq (.seq (.ops [
    ⟨some 30, .mv (.tmp 5), none, 0⟩,
    ⟨some 31, .bin .lss (.tmp 30) (.const (.int .i64 0)), none, 0⟩,
    ⟨some 32, .mv (.tmp 31), none, 0⟩,
    ⟨some 33, .mv (.tmp 5), some (32, false), 0⟩,
    ⟨some 34, .mv (.tmp 3), some (32, false), 0⟩,
    ⟨some 35, .bin .shl (.const (.int .i64 1)) (.tmp 34), some (32, false), 0⟩,
    ⟨some 36, .bin .geq (.tmp 33) (.tmp 35), some (32, false), 0⟩,
    ⟨some 37, .pick (.tmp 32) (.const (.bool true)) (.tmp 36), none, 0⟩,
    ⟨some 38, .mv (.tmp 37), none, 0⟩,
    ⟨some 39, .mv (.tmp 5), some (38, false), 0⟩,
    ⟨some 40, .mv (.tmp 4), some (38, false), 0⟩,
    ⟨some 41, .bin .shr (.tmp 39) (.tmp 40), some (38, false), 0⟩,
    ⟨some 42, .bin .and (.tmp 41) (.const (.int .i64 1)), some (38, false), 0⟩,
    ⟨some 43, .bin .eql (.tmp 42) (.const (.int .i64 1)), some (38, false), 0⟩,
    ⟨some 44, .pick (.tmp 38) (.const (.bool true)) (.tmp 43), none, 0⟩]) <|
  .cond (.tmp 44)
    (.seq (.ops [
      ⟨some 2, .mv (.const (.bool false)), none, 0⟩]) <|
    .keep [2] <|
    .ret)
    (.skip)) <|
  .seq (.ops [
    ⟨some 45, .mv (.tmp 3), none, 0⟩,
    ⟨some 46, .mv (.const (.int .i64 0)), none, 0⟩]) <|
  .block 2 <|
  .loop [1, 3, 4, 5, 23, 24, 25, 45, 46] i_impl_IsGraph_B1) <|
  .ops [
    ⟨some 63, .bin .add (.tmp 25) (.const (.int .i64 1)), none, 0⟩,
    ⟨some 25, .mv (.tmp 63), none, 0⟩]
def i_impl_IsGraph : FF := ⟨64, [.tmp 2],
  .seq (.ops [
    ⟨some 1, .box 2 (.tmp 0), none, 0⟩,
    ⟨some 2, .mv (.const (.bool false)), none, 0⟩]) <|
  .seq (.ops [
    ⟨some 7, .fld 0 (.tmp 1), none, 0⟩,
    ⟨some 8, .load false 1 (.tmp 7), none, 0⟩,
    ⟨some 3, .mv (.tmp 8), none, 0⟩]) <|
  .seq (.seq (.ops [
    ⟨some 9, .mv (.tmp 3), none, 0⟩,
    ⟨some 10, .bin .lss (.tmp 9) (.const (.int .i64 1)), none, 0⟩,
    ⟨some 11, .mv (.tmp 10), none, 0⟩,
    ⟨some 12, .mv (.tmp 3), some (11, false), 0⟩,
    ⟨some 13, .bin .gtr (.tmp 12) (.const (.int .i64 62)), some (11, false), 0⟩,
    ⟨some 14, .pick (.tmp 11) (.const (.bool true)) (.tmp 13), none, 0⟩,
    ⟨some 15, .mv (.tmp 14), none, 0⟩,
    ⟨some 16, .fld 1 (.tmp 1), some (15, false), 0⟩,
    ⟨some 17, .load false 1 (.tmp 16), some (15, false), 0⟩,
    ⟨some 18, .len (.tmp 17), some (15, false), 0⟩,
    ⟨some 19, .mv (.tmp 3), some (15, false), 0⟩,
    ⟨some 20, .bin .neq (.tmp 18) (.tmp 19), some (15, false), 0⟩,
    ⟨some 21, .pick (.tmp 15) (.const (.bool true)) (.tmp 20), none, 0⟩]) <|
  .cond (.tmp 21)
    (.seq (.ops [
      ⟨some 2, .mv (.const (.bool false)), none, 0⟩]) <|
    .keep [2] <|
    .ret)
    (.skip)) <|
  .seq (.seq (.ops [
    ⟨some 22, .fld 1 (.tmp 1), none, 0⟩,
    ⟨some 23, .load false 1 (.tmp 22), none, 0⟩,
    ⟨some 24, .len (.tmp 23), none, 0⟩,
    ⟨some 25, .mv (.const (.int .i64 0)), none, 0⟩]) <|
  .block 0 <|
  .loop [1, 3, 23, 24, 25] i_impl_IsGraph_B2) <|
  .seq (.ops [
    ⟨some 2, .mv (.const (.bool true)), none, 0⟩]) <|
  .keep [2] <|
  .ret⟩

theorem e_impl_IsGraph : EntOK Try.prog (compD Try.prog) k_impl_IsGraph i_impl_IsGraph.vf :=
  ⟨Try.f44, Try.f44.body.getD .skip, Try.func44, by kernel_rfl, by kernel_rfl, by kernel_rfl, by kernel_rfl, by kernel_rfl⟩

/-- slices.pdqsortOrdered[int64] -/
def i_slices_pdqsortOrdered_int64_B1 : FC :=
  .block 1 <|
  .seq (.ops [
    ⟨some 19, .mv (.tmp 2), none, 0⟩,
    ⟨some 20, .mv (.tmp 1), none, 0⟩,
    ⟨some 21, .bin .sub (.tmp 19) (.tmp 20), none, 0⟩,
    ⟨some 10, .mv (.tmp 21), none, 0⟩]) <|
  .seq (.seq (.ops [
    ⟨some 22, .mv (.tmp 10), none, 0⟩,
    ⟨some 23, .bin .leq (.tmp 22) (.const (.int .i64 12)), none, 0⟩]) <|
  .cond (.tmp 23)
    (.seq (.ops [
      ⟨some 24, .mv (.tmp 0), none, 0⟩,
      ⟨some 25, .mv (.tmp 1), none, 0⟩,
      ⟨some 26, .mv (.tmp 2), none, 0⟩,
      ⟨some 27, .call k_slices_insertionSortOrdered_int64 [(.tmp 24), (.tmp 25), (.tmp 26)], none, 0⟩]) <|
    .keep [] <|
    .ret)
    (.skip)) <|
  .seq (.seq (.ops [
    ⟨some 28, .mv (.tmp 3), none, 0⟩,
    ⟨some 29, .bin .eql (.tmp 28) (.const (.int .i64 0)), none, 0⟩]) <|
  .cond (.tmp 29)
    (.seq (.ops [
      ⟨some 30, .mv (.tmp 0), none, 0⟩,
      ⟨some 31, .mv (.tmp 1), none, 0⟩,
      ⟨some 32, .mv (.tmp 2), none, 0⟩,
      ⟨some 33, .call k_slices_heapSortOrdered_int64 [(.tmp 30), (.tmp 31), (.tmp 32)], none, 0⟩]) <|
    .keep [] <|
    .ret)
    (.skip)) <|
  .seq (.seq (.ops [
    ⟨some 34, .mv (.tmp 8), none, 0⟩,
    ⟨some 35, .un .not (.tmp 34), none, 0⟩]) <|
  .cond (.tmp 35)
    (.seq (.ops [
      ⟨some 36, .mv (.tmp 0), none, 0⟩,
      ⟨some 37, .mv (.tmp 1), none, 0⟩,
      ⟨some 38, .mv (.tmp 2), none, 0⟩,
      ⟨some 39, .call k_slices_breakPatternsOrdered_int64 [(.tmp 36), (.tmp 37), (.tmp 38)], none, 0⟩]) <|
    .ops [
      ⟨some 40, .mv (.tmp 3), none, 0⟩,
      ⟨some 41, .bin .sub (.tmp 40) (.const (.int .i64 1)), none, 0⟩,
      ⟨some 3, .mv (.tmp 41), none, 0⟩])
    (.skip)) <|
  .seq (.ops [
    ⟨some 43, .mv (.tmp 0), none, 0⟩,
    ⟨some 44, .mv (.tmp 1), none, 0⟩,
    ⟨some 45, .mv (.tmp 2), none, 0⟩,
    ⟨some 46, .call k_slices_choosePivotOrdered_int64 [(.tmp 43), (.tmp 44), (.tmp 45)], none, 0⟩,
    ⟨some 42, .mv (.tmp 46), none, 0⟩,
    ⟨some 47, .ext (.tmp 42) 0, none, 0⟩,
    ⟨some 48, .ext (.tmp 42) 1, none, 0⟩,
    ⟨some 11, .mv (.tmp 47), none, 0⟩,
    ⟨some 12, .mv (.tmp 48), none, 0⟩]) <|
  .seq (.seq (.ops [
    ⟨some 49, .mv (.tmp 12), none, 0⟩,
    ⟨some 50, .bin .eql (.tmp 49) (.const (.int .i64 2)), none, 0⟩]) <|
  .cond (.tmp 50)
    (.seq (.ops [
      ⟨some 51, .mv (.tmp 0), none, 0⟩,
      ⟨some 52, .mv (.tmp 1), none, 0⟩,
      ⟨some 53, .mv (.tmp 2), none, 0⟩,
      ⟨some 54, .call k_slices_reverseRangeOrdered_int64 [(.tmp 51), (.tmp 52), (.tmp 53)], none, 0⟩]) <|
    .seq (.ops [
      ⟨some 55, .mv (.tmp 2), none, 0⟩,
      ⟨some 56, .bin .sub (.tmp 55) (.const (.int .i64 1)), none, 0⟩,
      ⟨some 57, .mv (.tmp 11), none, 0⟩,
      ⟨some 58, .mv (.tmp 1), none, 0⟩,
      ⟨some 59, .bin .sub (.tmp 57) (.tmp 58), none, 0⟩,
      ⟨some 60, .bin .sub (.tmp 56) (.tmp 59), none, 0⟩,
      ⟨some 11, .mv (.tmp 60), none, 0⟩]) <|
    .ops [
      ⟨some 12, .mv (.const (.int .i64 1)), none, 0⟩])
    (.skip)) <|
  .seq (.seq (.ops [
    ⟨some 61, .mv (.tmp 8), none, 0⟩,
    ⟨some 62, .mv (.tmp 61), none, 0⟩,
    ⟨some 63, .mv (.tmp 9), some (62, true), 0⟩,
    ⟨some 64, .pick (.tmp 62) (.tmp 63) (.const (.bool false)), none, 0⟩,
    ⟨some 65, .mv (.tmp 64), none, 0⟩,
    ⟨some 66, .mv (.tmp 12), some (65, true), 0⟩,
    ⟨some 67, .bin .eql (.tmp 66) (.const (.int .i64 1)), some (65, true), 0⟩,
    ⟨some 68, .pick (.tmp 65) (.tmp 67) (.const (.bool false)), none, 0⟩]) <|
  .cond (.tmp 68)
    (.seq (.ops [
      ⟨some 69, .mv (.tmp 0), none, 0⟩,
      ⟨some 70, .mv (.tmp 1), none, 0⟩,
      ⟨some 71, .mv (.tmp 2), none, 0⟩,
      ⟨some 72, .call k_slices_partialInsertionSortOrdered_int64 [(.tmp 69), (.tmp 70), (.tmp 71)], none, 0⟩]) <|
    .cond (.tmp 72)
      (.keep [] <|
      .ret)
      (.skip))
    (.skip)) <|
  .seq (.seq (.dops [
    ⟨some 73, .mv (.tmp 1), none, 0⟩,
    ⟨some 74, .bin .gtr (.tmp 73) (.const (.int .i64 0)), none, 0⟩,
    ⟨some 75, .mv (.tmp 74), none, 0⟩,
    ⟨some 76, .mv (.tmp 0), some (75, true), 0⟩,
    ⟨some 77, .mv (.tmp 1), some (75, true), 0⟩,
    ⟨some 78, .bin .sub (.tmp 77) (.const (.int .i64 1)), some (75, true), 0⟩,
    ⟨some 79, .idx 1 (.tmp 76) (.tmp 78), some (75, true), 0⟩,
    ⟨some 80, .load false 1 (.tmp 79), some (75, true), 0⟩,
    ⟨some 81, .mv (.tmp 0), some (75, true), 0⟩,
    ⟨some 82, .mv (.tmp 11), some (75, true), 0⟩,
    ⟨some 83, .idx 1 (.tmp 81) (.tmp 82), some (75, true), 0⟩,
    ⟨some 84, .load false 1 (.tmp 83), some (75, true), 0⟩,
    ⟨some 85, .call k_cmp_Less_int64 [(.tmp 80), (.tmp 84)], some (75, true), 0⟩,
    ⟨some 86, .un .not (.tmp 85), some (75, true), 0⟩,
    ⟨some 87, .pick (.tmp 75) (.tmp 86) (.const (.bool false)), none, 0⟩]) <|
  .cond (.tmp 87)
    (.seq (.ops [
      ⟨some 88, .mv (.tmp 0), none, 0⟩,
      ⟨some 89, .mv (.tmp 1), none, 0⟩,
      ⟨some 90, .mv (.tmp 2), none, 0⟩,
      ⟨some 91, .mv (.tmp 11), none, 0⟩,
      ⟨some 92, .call k_slices_partitionEqualOrdered_int64 [(.tmp 88), (.tmp 89), (.tmp 90), (.tmp 91)], none, 0⟩,
      ⟨some 13, .mv (.tmp 92), none, 0⟩]) <|
    .seq (.ops [
      ⟨some 93, .mv (.tmp 13), none, 0⟩,
      ⟨some 1, .mv (.tmp 93), none, 0⟩]) <|
    .keep [0, 1, 2, 3, 8, 9] <|
    .exit 1)
    (.skip)) <|
  .seq (.ops [
    ⟨some 95, .mv (.tmp 0), none, 0⟩,
    ⟨some 96, .mv (.tmp 1), none, 0⟩,
    ⟨some 97, .mv (.tmp 2), none, 0⟩,
    ⟨some 98, .mv (.tmp 11), none, 0⟩,
    ⟨some 99, .call k_slices_partitionOrdered_int64 [(.tmp 95), (.tmp 96), (.tmp 97), (.tmp 98)], none, 0⟩,
    ⟨some 94, .mv (.tmp 99), none, 0⟩,
    ⟨some 100, .ext (.tmp 94) 0, none, 0⟩,
    ⟨some 101, .ext (.tmp 94) 1, none, 0⟩,
    ⟨some 14, .mv (.tmp 100), none, 0⟩,
    ⟨some 15, .mv (.tmp 101), none, 0⟩]) <|
  .seq (.ops [
    ⟨some 102, .mv (.tmp 15), none, 0⟩,
    ⟨some 9, .mv (.tmp 102), none, 0⟩]) <|
  .seq (.ops [
    ⟨some 103, .mv (.tmp 14), none, 0⟩,
    ⟨some 104, .mv (.tmp 1), none, 0⟩,
    ⟨some 105, .bin .sub (.tmp 103) (.tmp 104), none, 0⟩,
    ⟨some 106, .mv (.tmp 2), none, 0⟩,
    ⟨some 107, .mv (.tmp 14), none, 0⟩,
    ⟨some 108, .bin .sub (.tmp 106) (.tmp 107), none, 0⟩,
    ⟨some 16, .mv (.tmp 105), none, 0⟩,
    ⟨some 17, .mv (.tmp 108), none, 0⟩]) <|
  .seq (.ops [
    ⟨some 109, .mv (.tmp 10), none, 0⟩,
    ⟨some 110, .bin .quo (.tmp 109) (.const (.int .i64 8)), none, 0⟩,
    ⟨some 18, .mv (.tmp 110), none, 0⟩]) <|
  .seq (.ops [
    ⟨some 111, .mv (.tmp 16), none, 0⟩,
    ⟨some 112, .mv (.tmp 17), none, 0⟩,
    ⟨some 113, .bin .lss (.tmp 111) (.tmp 112), none, 0⟩]) <|
  .cond (.tmp 113)
    (.seq (.ops [
      ⟨some 114, .mv (.tmp 16), none, 0⟩,
      ⟨some 115, .mv (.tmp 18), none, 0⟩,
      ⟨some 116, .bin .geq (.tmp 114) (.tmp 115), none, 0⟩,
      ⟨some 8, .mv (.tmp 116), none, 0⟩]) <|
    .seq (.ops [
      ⟨some 117, .mv (.tmp 0), none, 0⟩,
      ⟨some 118, .mv (.tmp 1), none, 0⟩,
      ⟨some 119, .mv (.tmp 14), none, 0⟩,
      ⟨some 120, .mv (.tmp 3), none, 0⟩,
      ⟨some 121, .call k_slices_pdqsortOrdered_int64 [(.tmp 117), (.tmp 118), (.tmp 119), (.tmp 120)], none, 0⟩]) <|
    .ops [
      ⟨some 122, .mv (.tmp 14), none, 0⟩,
      ⟨some 123, .bin .add (.tmp 122) (.const (.int .i64 1)), none, 0⟩,
      ⟨some 1, .mv (.tmp 123), none, 0⟩])
    (.seq (.ops [
      ⟨some 124, .mv (.tmp 17), none, 0⟩,
      ⟨some 125, .mv (.tmp 18), none, 0⟩,
      ⟨some 126, .bin .geq (.tmp 124) (.tmp 125), none, 0⟩,
      ⟨some 8, .mv (.tmp 126), none, 0⟩]) <|
    .seq (.ops [
      ⟨some 127, .mv (.tmp 0), none, 0⟩,
      ⟨some 128, .mv (.tmp 14), none, 0⟩,
      ⟨some 129, .bin .add (.tmp 128) (.const (.int .i64 1)), none, 0⟩,
      ⟨some 130, .mv (.tmp 2), none, 0⟩,
      ⟨some 131, .mv (.tmp 3), none, 0⟩,
      ⟨some 132, .call k_slices_pdqsortOrdered_int64 [(.tmp 127), (.tmp 129), (.tmp 130), (.tmp 131)], none, 0⟩]) <|
    .ops [
      ⟨some 133, .mv (.tmp 14), none, 0⟩,
      ⟨some 2, .mv (.tmp 133), none, 0⟩])
def i_slices_pdqsortOrdered_int64 : FF := ⟨134, [],
  .seq (.ops [
    ⟨some 8, .mv (.const (.bool true)), none, 0⟩]) <|
  .seq (.ops [
    ⟨some 9, .mv (.const (.bool true)), none, 0⟩]) <|
  .block 0 <|
  .loop [0, 1, 2, 3, 8, 9] i_slices_pdqsortOrdered_int64_B1⟩

theorem e_slices_pdqsortOrdered_int64 : EntOK Try.prog (compD Try.prog) k_slices_pdqsortOrdered_int64 i_slices_pdqsortOrdered_int64.vf :=
  ⟨Try.f45, Try.f45.body.getD .skip, Try.func45, by kernel_rfl, by kernel_rfl, by kernel_rfl, by kernel_rfl, by kernel_rfl⟩

/-- math/bits.Len -/
def i_math_bits_Len : FF := ⟨8, [.tmp 2],
  .seq (.ops [
    ⟨some 2, .mv (.const (.int .i64 0)), none, 0⟩]) <|
  .seq (.cond (.const (.bool false))
    (.seq (.ops [
      ⟨some 3, .mv (.tmp 0), none, 0⟩,
      ⟨some 4, .conv .u32 (.tmp 3), none, 0⟩,
      ⟨some 5, .call k_math_bits_Len32 [(.tmp 4)], none, 0⟩,
      ⟨some 2, .mv (.tmp 5), none, 0⟩]) <|
    .keep [2] <|
    .ret)
    (.skip)) <|
  .seq (.ops [
    ⟨some 6, .mv (.tmp 0), none, 0⟩,
    ⟨some 7, .call k_math_bits_Len64 [(.tmp 6)], none, 0⟩,
    ⟨some 2, .mv (.tmp 7), none, 0⟩]) <|
  .keep [2] <|
  .ret⟩

theorem e_math_bits_Len : EntOK Try.prog (compD Try.prog) k_math_bits_Len i_math_bits_Len.vf :=
  ⟨Try.f46, Try.f46.body.getD .skip, Try.func46, by kernel_rfl, by kernel_rfl, by kernel_rfl, by kernel_rfl, by kernel_rfl⟩

/-- slices.Clone[[]int64,int64] -/
def i_slices_Clone_int64_int64 : FF := ⟨8, [.tmp 2],
  .seq (.ops [
    ⟨some 2, .mv (.const (.slice none 0 0)), none, 0⟩]) <|
  .seq (.seq (.ops [
    ⟨some 3, .mv (.tmp 0), none, 0⟩,
    ⟨some 4, .eqnilS false (.tmp 3), none, 0⟩]) <|
  .cond (.tmp 4)
    (.seq (.ops [
      ⟨some 2, .mv (.const (.slice none 0 0)), none, 0⟩]) <|
    .keep [2] <|
    .ret)
    (.skip)) <|
  .seq (.ops [
    ⟨some 5, .buildSl 1 [] [] 0, none, 0⟩,
    ⟨some 6, .mv (.tmp 0), none, 0⟩,
    ⟨some 7, .app 1 8 [.int .i64 0] (.tmp 5) (.tmp 6), none, 0⟩,
    ⟨some 2, .mv (.tmp 7), none, 0⟩]) <|
  .keep [2] <|
  .ret⟩

theorem e_slices_Clone_int64_int64 : EntOK Try.prog (compD Try.prog) k_slices_Clone_int64_int64 i_slices_Clone_int64_int64.vf :=
  ⟨Try.f47, Try.f47.body.getD .skip, Try.func47, by kernel_rfl, by kernel_rfl, by kernel_rfl, by kernel_rfl, by kernel_rfl⟩

/-- loop.example/g01331/spec.l01Own -/
def i_spec_l01Own : FF := ⟨6, [.tmp 2],
  .seq (.ops [
    ⟨some 2, .mv (.const (.slice none 0 0)), none, 0⟩]) <|
  .seq (.ops [
    ⟨some 3, .buildSl 1 [] [] 0, none, 0⟩,
    ⟨some 4, .mv (.tmp 0), none, 0⟩,
    ⟨some 5, .app 1 8 [.int .i64 0] (.tmp 3) (.tmp 4), none, 0⟩,
    ⟨some 2, .mv (.tmp 5), none, 0⟩]) <|
  .keep [2] <|
  .ret⟩

theorem e_spec_l01Own : EntOK Try.prog (compD Try.prog) k_spec_l01Own i_spec_l01Own.vf :=
  ⟨Try.f53, Try.f53.body.getD .skip, Try.func53, by kernel_rfl, by kernel_rfl, by kernel_rfl, by kernel_rfl, by kernel_rfl⟩

/-- slices.insertionSortOrdered[int64] -/
def i_slices_insertionSortOrdered_int64_B1 : FC :=
  .seq (.seq (.dops [
    ⟨some 16, .mv (.tmp 7), none, 0⟩,
    ⟨some 17, .mv (.tmp 1), none, 0⟩,
    ⟨some 18, .bin .gtr (.tmp 16) (.tmp 17), none, 0⟩,
    ⟨some 19, .mv (.tmp 18), none, 0⟩,
    ⟨some 20, .mv (.tmp 0), some (19, true), 0⟩,
    ⟨some 21, .mv (.tmp 7), some (19, true), 0⟩,
    ⟨some 22, .idx 1 (.tmp 20) (.tmp 21), some (19, true), 0⟩,
    ⟨some 23, .load false 1 (.tmp 22), some (19, true), 0⟩,
    ⟨some 24, .mv (.tmp 0), some (19, true), 0⟩,
    ⟨some 25, .mv (.tmp 7), some (19, true), 0⟩,
    ⟨some 26, .bin .sub (.tmp 25) (.const (.int .i64 1)), some (19, true), 0⟩,
    ⟨some 27, .idx 1 (.tmp 24) (.tmp 26), some (19, true), 0⟩,
    ⟨some 28, .load false 1 (.tmp 27), some (19, true), 0⟩,
    ⟨some 29, .call k_cmp_Less_int64 [(.tmp 23), (.tmp 28)], some (19, true), 0⟩,
    ⟨some 30, .pick (.tmp 19) (.tmp 29) (.const (.bool false)), none, 0⟩]) <|
  .cond (.tmp 30)
    (.skip)
    (.keep [0, 1, 2, 6] <|
    .exit 2)) <|
  .seq (.block 3 <|
  .dops [
    ⟨some 33, .mv (.tmp 0), none, 0⟩,
    ⟨some 34, .mv (.tmp 7), none, 0⟩,
    ⟨some 38, .mv (.tmp 0), none, 0⟩,
    ⟨some 39, .mv (.tmp 7), none, 0⟩,
    ⟨some 40, .bin .sub (.tmp 39) (.const (.int .i64 1)), none, 0⟩,
    ⟨some 41, .idx 1 (.tmp 38) (.tmp 40), none, 0⟩,
    ⟨some 42, .load false 1 (.tmp 41), none, 0⟩,
    ⟨some 43, .mv (.tmp 0), none, 0⟩,
    ⟨some 44, .mv (.tmp 7), none, 0⟩,
    ⟨some 45, .idx 1 (.tmp 43) (.tmp 44), none, 0⟩,
    ⟨some 46, .load false 1 (.tmp 45), none, 0⟩,
    ⟨some 47, .idx 1 (.tmp 33) (.tmp 34), none, 0⟩,
    ⟨none, .store 1 (.tmp 47) (.tmp 42), none, 0⟩,
    ⟨some 35, .mv (.tmp 0), none, 1⟩,
    ⟨some 36, .mv (.tmp 7), none, 1⟩,
    ⟨some 37, .bin .sub (.tmp 36) (.const (.int .i64 1)), none, 1⟩,
    ⟨some 48, .idx 1 (.tmp 35) (.tmp 37), none, 0⟩,
    ⟨none, .store 1 (.tmp 48) (.tmp 46), none, 0⟩]) <|
  .ops [
    ⟨some 31, .mv (.tmp 7), none, 0⟩,
    ⟨some 32, .bin .sub (.tmp 31) (.const (.int .i64 1)), none, 0⟩,
    ⟨some 7, .mv (.tmp 32), none, 0⟩]
def i_slices_insertionSortOrdered_int64_B2 : FC :=
  .seq (.seq (.ops [
    ⟨some 10, .mv (.tmp 6), none, 0⟩,
    ⟨some 11, .mv (.tmp 2), none, 0⟩,
    ⟨some 12, .bin .lss (.tmp 10) (.tmp 11), none, 0⟩]) <|
  .cond (.tmp 12)
    (.skip)
    (.keep [] <|
    .exit 0)) <|
  .seq (.block 1 <|
  .seq (.ops [
    ⟨some 15, .mv (.tmp 6), none, 0⟩,
    ⟨some 7, .mv (.tmp 15), none, 0⟩]) <|
  .block 2 <|
  .loop [0, 1, 2, 6, 7] i_slices_insertionSortOrdered_int64_B1) <|
  .ops [
    ⟨some 13, .mv (.tmp 6), none, 0⟩,
    ⟨some 14, .bin .add (.tmp 13) (.const (.int .i64 1)), none, 0⟩,
    ⟨some 6, .mv (.tmp 14), none, 0⟩]
def i_slices_insertionSortOrdered_int64 : FF := ⟨49, [],
  .seq (.ops [
    ⟨some 8, .mv (.tmp 1), none, 0⟩,
    ⟨some 9, .bin .add (.tmp 8) (.const (.int .i64 1)), none, 0⟩,
    ⟨some 6, .mv (.tmp 9), none, 0⟩]) <|
  .block 0 <|
  .loop [0, 1, 2, 6] i_slices_insertionSortOrdered_int64_B2⟩

theorem e_slices_insertionSortOrdered_int64 : EntOK Try.prog (compD Try.prog) k_slices_insertionSortOrdered_int64 i_slices_insertionSortOrdered_int64.vf :=
  ⟨Try.f54, Try.f54.body.getD .skip, Try.func54, by kernel_rfl, by kernel_rfl, by kernel_rfl, by kernel_rfl, by kernel_rfl⟩

/-- slices.heapSortOrdered[int64] -/
def i_slices_heapSortOrdered_int64_B1 : FC :=
  .seq (.seq (.ops [
    ⟨some 18, .mv (.tmp 9), none, 0⟩,
    ⟨some 19, .bin .geq (.tmp 18) (.const (.int .i64 0)), none, 0⟩]) <|
  .cond (.tmp 19)
    (.skip)
    (.keep [0, 6, 7, 8] <|
    .exit 0)) <|
  .seq (.block 1 <|
  .ops [
    ⟨some 22, .mv (.tmp 0), none, 0⟩,
    ⟨some 23, .mv (.tmp 9), none, 0⟩,
    ⟨some 24, .mv (.tmp 8), none, 0⟩,
    ⟨some 25, .mv (.tmp 6), none, 0⟩,
    ⟨some 26, .call k_slices_siftDownOrdered_int64 [(.tmp 22), (.tmp 23), (.tmp 24), (.tmp 25)], none, 0⟩]) <|
  .ops [
    ⟨some 20, .mv (.tmp 9), none, 0⟩,
    ⟨some 21, .bin .sub (.tmp 20) (.const (.int .i64 1)), none, 0⟩,
    ⟨some 9, .mv (.tmp 21), none, 0⟩]
def i_slices_heapSortOrdered_int64_B2 : FC :=
  .seq (.seq (.ops [
    ⟨some 29, .mv (.tmp 10), none, 0⟩,
    ⟨some 30, .bin .geq (.tmp 29) (.const (.int .i64 0)), none, 0⟩]) <|
  .cond (.tmp 30)
    (.skip)
    (.keep [] <|
    .exit 2)) <|
  .seq (.block 3 <|
  .seq (.dops [
    ⟨some 33, .mv (.tmp 0), none, 0⟩,
    ⟨some 34, .mv (.tmp 6), none, 0⟩,
    ⟨some 39, .mv (.tmp 0), none, 0⟩,
    ⟨some 40, .mv (.tmp 6), none, 0⟩,
    ⟨some 41, .mv (.tmp 10), none, 0⟩,
    ⟨some 42, .bin .add (.tmp 40) (.tmp 41), none, 0⟩,
    ⟨some 43, .idx 1 (.tmp 39) (.tmp 42), none, 0⟩,
    ⟨some 44, .load false 1 (.tmp 43), none, 0⟩,
    ⟨some 45, .mv (.tmp 0), none, 0⟩,
    ⟨some 46, .mv (.tmp 6), none, 0⟩,
    ⟨some 47, .idx 1 (.tmp 45) (.tmp 46), none, 0⟩,
    ⟨some 48, .load false 1 (.tmp 47), none, 0⟩,
    ⟨some 49, .idx 1 (.tmp 33) (.tmp 34), none, 0⟩,
    ⟨none, .store 1 (.tmp 49) (.tmp 44), none, 0⟩,
    ⟨some 35, .mv (.tmp 0), none, 1⟩,
    ⟨some 36, .mv (.tmp 6), none, 1⟩,
    ⟨some 37, .mv (.tmp 10), none, 1⟩,
    ⟨some 38, .bin .add (.tmp 36) (.tmp 37), none, 1⟩,
    ⟨some 50, .idx 1 (.tmp 35) (.tmp 38), none, 0⟩,
    ⟨none, .store 1 (.tmp 50) (.tmp 48), none, 0⟩]) <|
  .ops [
    ⟨some 51, .mv (.tmp 0), none, 0⟩,
    ⟨some 52, .mv (.tmp 7), none, 0⟩,
    ⟨some 53, .mv (.tmp 10), none, 0⟩,
    ⟨some 54, .mv (.tmp 6), none, 0⟩,
    ⟨some 55, .call k_slices_siftDownOrdered_int64 [(.tmp 51), (.tmp 52), (.tmp 53), (.tmp 54)], none, 0⟩]) <|
  .ops [
    ⟨some 31, .mv (.tmp 10), none, 0⟩,
    ⟨some 32, .bin .sub (.tmp 31) (.const (.int .i64 1)), none, 0⟩,
    ⟨some 10, .mv (.tmp 32), none, 0⟩]
def i_slices_heapSortOrdered_int64 : FF := ⟨56, [],
  .seq (.ops [
    ⟨some 11, .mv (.tmp 1), none, 0⟩,
    ⟨some 6, .mv (.tmp 11), none, 0⟩]) <|
  .seq (.ops [
    ⟨some 7, .mv (.const (.int .i64 0)), none, 0⟩]) <|
  .seq (.ops [
    ⟨some 12, .mv (.tmp 2), none, 0⟩,
    ⟨some 13, .mv (.tmp 1), none, 0⟩,
    ⟨some 14, .bin .sub (.tmp 12) (.tmp 13), none, 0⟩,
    ⟨some 8, .mv (.tmp 14), none, 0⟩]) <|
  .seq (.seq (.ops [
    ⟨some 15, .mv (.tmp 8), none, 0⟩,
    ⟨some 16, .bin .sub (.tmp 15) (.const (.int .i64 1)), none, 0⟩,
    ⟨some 17, .bin .quo (.tmp 16) (.const (.int .i64 2)), none, 0⟩,
    ⟨some 9, .mv (.tmp 17), none, 0⟩]) <|
  .block 0 <|
  .loop [0, 6, 7, 8, 9] i_slices_heapSortOrdered_int64_B1) <|
  .seq (.ops [
    ⟨some 27, .mv (.tmp 8), none, 0⟩,
    ⟨some 28, .bin .sub (.tmp 27) (.const (.int .i64 1)), none, 0⟩,
    ⟨some 10, .mv (.tmp 28), none, 0⟩]) <|
  .block 2 <|
  .loop [0, 6, 7, 10] i_slices_heapSortOrdered_int64_B2⟩

theorem e_slices_heapSortOrdered_int64 : EntOK Try.prog (compD Try.prog) k_slices_heapSortOrdered_int64 i_slices_heapSortOrdered_int64.vf :=
  ⟨Try.f55, Try.f55.body.getD .skip, Try.func55, by kernel_rfl, by kernel_rfl, by kernel_rfl, by kernel_rfl, by kernel_rfl⟩

/-- slices.breakPatternsOrdered[int64] -/
def i_slices_breakPatternsOrdered_int64_B1 : FC :=
  .seq (.seq (.ops [
    ⟨some 26, .mv (.tmp 9), none, 0⟩,
    ⟨some 27, .mv (.tmp 1), none, 0⟩,
    ⟨some 28, .mv (.tmp 6), none, 0⟩,
    ⟨some 29, .bin .quo (.tmp 28) (.const (.int .i64 4)), none, 0⟩,
    ⟨some 30, .bin .mul (.tmp 29) (.const (.int .i64 2)), none, 0⟩,
    ⟨some 31, .bin .add (.tmp 27) (.tmp 30), none, 0⟩,
    ⟨some 32, .bin .add (.tmp 31) (.const (.int .i64 1)), none, 0⟩,
    ⟨some 33, .bin .leq (.tmp 26) (.tmp 32), none, 0⟩]) <|
  .cond (.tmp 33)
    (.skip)
    (.keep [] <|
    .exit 0)) <|
  .seq (.block 1 <|
  .seq (.ops [
    ⟨some 36, .call k_slices_xorshift_Next [(.tmp 7)], none, 0⟩,
    ⟨some 37, .mv (.tmp 8), none, 0⟩,
    ⟨some 38, .bin .sub (.tmp 37) (.const (.int .u64 1)), none, 0⟩,
    ⟨some 39, .bin .and (.tmp 36) (.tmp 38), none, 0⟩,
    ⟨some 40, .conv .i64 (.tmp 39), none, 0⟩,
    ⟨some 10, .mv (.tmp 40), none, 0⟩]) <|
  .seq (.seq (.ops [
    ⟨some 41, .mv (.tmp 10), none, 0⟩,
    ⟨some 42, .mv (.tmp 6), none, 0⟩,
    ⟨some 43, .bin .geq (.tmp 41) (.tmp 42), none, 0⟩]) <|
  .cond (.tmp 43)
    (.ops [
      ⟨some 44, .mv (.tmp 10), none, 0⟩,
      ⟨some 45, .mv (.tmp 6), none, 0⟩,
      ⟨some 46, .bin .sub (.tmp 44) (.tmp 45), none, 0⟩,
      ⟨some 10, .mv (.tmp 46), none, 0⟩])
    (.skip)) <|
  .dops [
    ⟨some 47, .mv (.tmp 0), none, 0⟩,
    ⟨some 48, .mv (.tmp 9), none, 0⟩,
    ⟨some 53, .mv (.tmp 0), none, 0⟩,
    ⟨some 54, .mv (.tmp 1), none, 0⟩,
    ⟨some 55, .mv (.tmp 10), none, 0⟩,
    ⟨some 56, .bin .add (.tmp 54) (.tmp 55), none, 0⟩,
    ⟨some 57, .idx 1 (.tmp 53) (.tmp 56), none, 0⟩,
    ⟨some 58, .load false 1 (.tmp 57), none, 0⟩,
    ⟨some 59, .mv (.tmp 0), none, 0⟩,
    ⟨some 60, .mv (.tmp 9), none, 0⟩,
    ⟨some 61, .idx 1 (.tmp 59) (.tmp 60), none, 0⟩,
    ⟨some 62, .load false 1 (.tmp 61), none, 0⟩,
    ⟨some 63, .idx 1 (.tmp 47) (.tmp 48), none, 0⟩,
    ⟨none, .store 1 (.tmp 63) (.tmp 58), none, 0⟩,
    ⟨some 49, .mv (.tmp 0), none, 1⟩,
    ⟨some 50, .mv (.tmp 1), none, 1⟩,
    ⟨some 51, .mv (.tmp 10), none, 1⟩,
    ⟨some 52, .bin .add (.tmp 50) (.tmp 51), none, 1⟩,
    ⟨some 64, .idx 1 (.tmp 49) (.tmp 52), none, 0⟩,
    ⟨none, .store 1 (.tmp 64) (.tmp 62), none, 0⟩]) <|
  .ops [
    ⟨some 34, .mv (.tmp 9), none, 0⟩,
    ⟨some 35, .bin .add (.tmp 34) (.const (.int .i64 1)), none, 0⟩,
    ⟨some 9, .mv (.tmp 35), none, 0⟩]
def i_slices_breakPatternsOrdered_int64 : FF := ⟨65, [],
  .seq (.ops [
    ⟨some 11, .mv (.tmp 2), none, 0⟩,
    ⟨some 12, .mv (.tmp 1), none, 0⟩,
    ⟨some 13, .bin .sub (.tmp 11) (.tmp 12), none, 0⟩,
    ⟨some 6, .mv (.tmp 13), none, 0⟩]) <|
  .seq (.ops [
    ⟨some 14, .mv (.tmp 6), none, 0⟩,
    ⟨some 15, .bin .geq (.tmp 14) (.const (.int .i64 8)), none, 0⟩]) <|
  .cond (.tmp 15)
    (.seq (.ops [
      ⟨some 16, .mv (.tmp 6), none, 0⟩,
      ⟨some 17, .conv .u64 (.tmp 16), none, 0⟩,
      ⟨some 7, .alloc [.int .u64 0], none, 0⟩,
      ⟨none, .store 1 (.tmp 7) (.tmp 17), none, 0⟩]) <|
    .seq (.ops [
      ⟨some 18, .mv (.tmp 6), none, 0⟩,
      ⟨some 19, .call k_slices_nextPowerOfTwo [(.tmp 18)], none, 0⟩,
      ⟨some 8, .mv (.tmp 19), none, 0⟩]) <|
    .seq (.ops [
      ⟨some 20, .mv (.tmp 1), none, 0⟩,
      ⟨some 21, .mv (.tmp 6), none, 0⟩,
      ⟨some 22, .bin .quo (.tmp 21) (.const (.int .i64 4)), none, 0⟩,
      ⟨some 23, .bin .mul (.tmp 22) (.const (.int .i64 2)), none, 0⟩,
      ⟨some 24, .bin .add (.tmp 20) (.tmp 23), none, 0⟩,
      ⟨some 25, .bin .sub (.tmp 24) (.const (.int .i64 1)), none, 0⟩,
      ⟨some 9, .mv (.tmp 25), none, 0⟩]) <|
    .block 0 <|
    .loop [0, 1, 6, 7, 8, 9] i_slices_breakPatternsOrdered_int64_B1)
    (.skip)⟩

theorem e_slices_breakPatternsOrdered_int64 : EntOK Try.prog (compD Try.prog) k_slices_breakPatternsOrdered_int64 i_slices_breakPatternsOrdered_int64.vf :=
  ⟨Try.f56, Try.f56.body.getD .skip, Try.func56, by kernel_rfl, by kernel_rfl, by kernel_rfl, by kernel_rfl, by kernel_rfl⟩

/-- slices.choosePivotOrdered[int64] -/
def i_slices_choosePivotOrdered_int64 : FF := ⟨57, [.tmp 6, .tmp 7],
  .seq (.ops [
    ⟨some 6, .mv (.const (.int .i64 0)), none, 0⟩,
    ⟨some 7, .mv (.const (.int .i64 0)), none, 0⟩]) <|
  .seq (.ops [
    ⟨some 13, .mv (.tmp 2), none, 0⟩,
    ⟨some 14, .mv (.tmp 1), none, 0⟩,
    ⟨some 15, .bin .sub (.tmp 13) (.tmp 14), none, 0⟩,
    ⟨some 8, .mv (.tmp 15), none, 0⟩]) <|
  .seq (.ops [
    ⟨some 9, .alloc [.int .i64 0], none, 0⟩]) <|
  .seq (.ops [
    ⟨some 16, .mv (.tmp 1), none, 0⟩,
    ⟨some 17, .mv (.tmp 8), none, 0⟩,
    ⟨some 18, .bin .quo (.tmp 17) (.const (.int .i64 4)), none, 0⟩,
    ⟨some 19, .bin .mul (.tmp 18) (.const (.int .i64 1)), none, 0⟩,
    ⟨some 20, .bin .add (.tmp 16) (.tmp 19), none, 0⟩,
    ⟨some 10, .mv (.tmp 20), none, 0⟩]) <|
  .seq (.ops [
    ⟨some 21, .mv (.tmp 1), none, 0⟩,
    ⟨some 22, .mv (.tmp 8), none, 0⟩,
    ⟨some 23, .bin .quo (.tmp 22) (.const (.int .i64 4)), none, 0⟩,
    ⟨some 24, .bin .mul (.tmp 23) (.const (.int .i64 2)), none, 0⟩,
    ⟨some 25, .bin .add (.tmp 21) (.tmp 24), none, 0⟩,
    ⟨some 11, .mv (.tmp 25), none, 0⟩]) <|
  .seq (.ops [
    ⟨some 26, .mv (.tmp 1), none, 0⟩,
    ⟨some 27, .mv (.tmp 8), none, 0⟩,
    ⟨some 28, .bin .quo (.tmp 27) (.const (.int .i64 4)), none, 0⟩,
    ⟨some 29, .bin .mul (.tmp 28) (.const (.int .i64 3)), none, 0⟩,
    ⟨some 30, .bin .add (.tmp 26) (.tmp 29), none, 0⟩,
    ⟨some 12, .mv (.tmp 30), none, 0⟩]) <|
  .seq (.seq (.ops [
    ⟨some 31, .mv (.tmp 8), none, 0⟩,
    ⟨some 32, .bin .geq (.tmp 31) (.const (.int .i64 8)), none, 0⟩]) <|
  .cond (.tmp 32)
    (.seq (.seq (.ops [
      ⟨some 33, .mv (.tmp 8), none, 0⟩,
      ⟨some 34, .bin .geq (.tmp 33) (.const (.int .i64 50)), none, 0⟩]) <|
    .cond (.tmp 34)
      (.seq (.ops [
        ⟨some 35, .mv (.tmp 0), none, 0⟩,
        ⟨some 36, .mv (.tmp 10), none, 0⟩,
        ⟨some 37, .call k_slices_medianAdjacentOrdered_int64 [(.tmp 35), (.tmp 36), (.tmp 9)], none, 0⟩,
        ⟨some 10, .mv (.tmp 37), none, 0⟩]) <|
      .seq (.ops [
        ⟨some 38, .mv (.tmp 0), none, 0⟩,
        ⟨some 39, .mv (.tmp 11), none, 0⟩,
        ⟨some 40, .call k_slices_medianAdjacentOrdered_int64 [(.tmp 38), (.tmp 39), (.tmp 9)], none, 0⟩,
        ⟨some 11, .mv (.tmp 40), none, 0⟩]) <|
      .ops [
        ⟨some 41, .mv (.tmp 0), none, 0⟩,
        ⟨some 42, .mv (.tmp 12), none, 0⟩,
        ⟨some 43, .call k_slices_medianAdjacentOrdered_int64 [(.tmp 41), (.tmp 42), (.tmp 9)], none, 0⟩,
        ⟨some 12, .mv (.tmp 43), none, 0⟩])
      (.skip)) <|
    .ops [
      ⟨some 44, .mv (.tmp 0), none, 0⟩,
      ⟨some 45, .mv (.tmp 10), none, 0⟩,
      ⟨some 46, .mv (.tmp 11), none, 0⟩,
      ⟨some 47, .mv (.tmp 12), none, 0⟩,
      ⟨some 48, .call k_slices_medianOrdered_int64 [(.tmp 44), (.tmp 45), (.tmp 46), (.tmp 47), (.tmp 9)], none, 0⟩,
      ⟨some 11, .mv (.tmp 48), none, 0⟩])
    (.skip)) <|
  .seq (.ops [
    ⟨some 49, .load false 1 (.tmp 9), none, 0⟩]) <|
  .block 0 <|
  .seq (.ops [
    ⟨some 52, .bin .eql (.tmp 49) (.const (.int .i64 0)), none, 0⟩,
    ⟨some 51, .mv (.tmp 52), none, 0⟩]) <|
  .cond (.tmp 51)
    (.seq (.ops [
      ⟨some 53, .mv (.tmp 11), none, 0⟩,
      ⟨some 6, .mv (.tmp 53), none, 0⟩,
      ⟨some 7, .mv (.const (.int .i64 1)), none, 0⟩]) <|
    .keep [6, 7] <|
    .ret)
    (.seq (.ops [
      ⟨some 55, .bin .eql (.tmp 49) (.const (.int .i64 12)), none, 0⟩,
      ⟨some 54, .mv (.tmp 55), none, 0⟩]) <|
    .cond (.tmp 54)
      (.seq (.ops [
        ⟨some 56, .mv (.tmp 11), none, 0⟩,
        ⟨some 6, .mv (.tmp 56), none, 0⟩,
        ⟨some 7, .mv (.const (.int .i64 2)), none, 0⟩]) <|
      .keep [6, 7] <|
      .ret)
      (.seq (.ops [
        ⟨some 50, .mv (.tmp 11), none, 0⟩,
        ⟨some 6, .mv (.tmp 50), none, 0⟩,
        ⟨some 7, .mv (.const (.int .i64 0)), none, 0⟩]) <|
      .keep [6, 7] <|
      .ret))⟩

theorem e_slices_choosePivotOrdered_int64 : EntOK Try.prog (compD Try.prog) k_slices_choosePivotOrdered_int64 i_slices_choosePivotOrdered_int64.vf :=
  ⟨Try.f57, Try.f57.body.getD .skip, Try.func57, by kernel_rfl, by kernel_rfl, by kernel_rfl, by kernel_rfl, by kernel_rfl⟩

/-- slices.reverseRangeOrdered[int64] -/
def i_slices_reverseRangeOrdered_int64_B1 : FC :=
  .seq (.seq (.ops [
    ⟨some 11, .mv (.tmp 6), none, 0⟩,
    ⟨some 12, .mv (.tmp 7), none, 0⟩,
    ⟨some 13, .bin .lss (.tmp 11) (.tmp 12), none, 0⟩]) <|
  .cond (.tmp 13)
    (.skip)
    (.keep [] <|
    .exit 0)) <|
  .block 1 <|
  .seq (.dops [
    ⟨some 14, .mv (.tmp 0), none, 0⟩,
    ⟨some 15, .mv (.tmp 6), none, 0⟩,
    ⟨some 18, .mv (.tmp 0), none, 0⟩,
    ⟨some 19, .mv (.tmp 7), none, 0⟩,
    ⟨some 20, .idx 1 (.tmp 18) (.tmp 19), none, 0⟩,
    ⟨some 21, .load false 1 (.tmp 20), none, 0⟩,
    ⟨some 22, .mv (.tmp 0), none, 0⟩,
    ⟨some 23, .mv (.tmp 6), none, 0⟩,
    ⟨some 24, .idx 1 (.tmp 22) (.tmp 23), none, 0⟩,
    ⟨some 25, .load false 1 (.tmp 24), none, 0⟩,
    ⟨some 26, .idx 1 (.tmp 14) (.tmp 15), none, 0⟩,
    ⟨none, .store 1 (.tmp 26) (.tmp 21), none, 0⟩,
    ⟨some 16, .mv (.tmp 0), none, 1⟩,
    ⟨some 17, .mv (.tmp 7), none, 1⟩,
    ⟨some 27, .idx 1 (.tmp 16) (.tmp 17), none, 0⟩,
    ⟨none, .store 1 (.tmp 27) (.tmp 25), none, 0⟩]) <|
  .seq (.ops [
    ⟨some 28, .mv (.tmp 6), none, 0⟩,
    ⟨some 29, .bin .add (.tmp 28) (.const (.int .i64 1)), none, 0⟩,
    ⟨some 6, .mv (.tmp 29), none, 0⟩]) <|
  .ops [
    ⟨some 30, .mv (.tmp 7), none, 0⟩,
    ⟨some 31, .bin .sub (.tmp 30) (.const (.int .i64 1)), none, 0⟩,
    ⟨some 7, .mv (.tmp 31), none, 0⟩]
def i_slices_reverseRangeOrdered_int64 : FF := ⟨32, [],
  .seq (.ops [
    ⟨some 8, .mv (.tmp 1), none, 0⟩,
    ⟨some 6, .mv (.tmp 8), none, 0⟩]) <|
  .seq (.ops [
    ⟨some 9, .mv (.tmp 2), none, 0⟩,
    ⟨some 10, .bin .sub (.tmp 9) (.const (.int .i64 1)), none, 0⟩,
    ⟨some 7, .mv (.tmp 10), none, 0⟩]) <|
  .block 0 <|
  .loop [0, 6, 7] i_slices_reverseRangeOrdered_int64_B1⟩

theorem e_slices_reverseRangeOrdered_int64 : EntOK Try.prog (compD Try.prog) k_slices_reverseRangeOrdered_int64 i_slices_reverseRangeOrdered_int64.vf :=
  ⟨Try.f58, Try.f58.body.getD .skip, Try.func58, by kernel_rfl, by kernel_rfl, by kernel_rfl, by kernel_rfl, by kernel_rfl⟩

/-- slices.partialInsertionSortOrdered[int64] -/
def i_slices_partialInsertionSortOrdered_int64_B1 : FC :=
  .seq (.seq (.dops [
    ⟨some 17, .mv (.tmp 7), none, 0⟩,
    ⟨some 18, .mv (.tmp 2), none, 0⟩,
    ⟨some 19, .bin .lss (.tmp 17) (.tmp 18), none, 0⟩,
    ⟨some 20, .mv (.tmp 19), none, 0⟩,
    ⟨some 21, .mv (.tmp 0), some (20, true), 0⟩,
    ⟨some 22, .mv (.tmp 7), some (20, true), 0⟩,
    ⟨some 23, .idx 1 (.tmp 21) (.tmp 22), some (20, true), 0⟩,
    ⟨some 24, .load false 1 (.tmp 23), some (20, true), 0⟩,
    ⟨some 25, .mv (.tmp 0), some (20, true), 0⟩,
    ⟨some 26, .mv (.tmp 7), some (20, true), 0⟩,
    ⟨some 27, .bin .sub (.tmp 26) (.const (.int .i64 1)), some (20, true), 0⟩,
    ⟨some 28, .idx 1 (.tmp 25) (.tmp 27), some (20, true), 0⟩,
    ⟨some 29, .load false 1 (.tmp 28), some (20, true), 0⟩,
    ⟨some 30, .call k_cmp_Less_int64 [(.tmp 24), (.tmp 29)], some (20, true), 0⟩,
    ⟨some 31, .un .not (.tmp 30), some (20, true), 0⟩,
    ⟨some 32, .pick (.tmp 20) (.tmp 31) (.const (.bool false)), none, 0⟩]) <|
  .cond (.tmp 32)
    (.skip)
    (.keep [0, 1, 2, 7, 8] <|
    .exit 2)) <|
  .block 3 <|
  .ops [
    ⟨some 33, .mv (.tmp 7), none, 0⟩,
    ⟨some 34, .bin .add (.tmp 33) (.const (.int .i64 1)), none, 0⟩,
    ⟨some 7, .mv (.tmp 34), none, 0⟩]
def i_slices_partialInsertionSortOrdered_int64_B2 : FC :=
  .seq (.seq (.ops [
    ⟨some 64, .mv (.tmp 9), none, 0⟩,
    ⟨some 65, .bin .geq (.tmp 64) (.const (.int .i64 1)), none, 0⟩]) <|
  .cond (.tmp 65)
    (.skip)
    (.keep [0, 1, 2, 7, 8] <|
    .exit 4)) <|
  .seq (.block 5 <|
  .seq (.seq (.dops [
    ⟨some 68, .mv (.tmp 0), none, 0⟩,
    ⟨some 69, .mv (.tmp 9), none, 0⟩,
    ⟨some 70, .idx 1 (.tmp 68) (.tmp 69), none, 0⟩,
    ⟨some 71, .load false 1 (.tmp 70), none, 0⟩,
    ⟨some 72, .mv (.tmp 0), none, 0⟩,
    ⟨some 73, .mv (.tmp 9), none, 0⟩,
    ⟨some 74, .bin .sub (.tmp 73) (.const (.int .i64 1)), none, 0⟩,
    ⟨some 75, .idx 1 (.tmp 72) (.tmp 74), none, 0⟩,
    ⟨some 76, .load false 1 (.tmp 75), none, 0⟩,
    ⟨some 77, .call k_cmp_Less_int64 [(.tmp 71), (.tmp 76)], none, 0⟩,
    ⟨some 78, .un .not (.tmp 77), none, 0⟩]) <|
  .cond (.tmp 78)
    (.keep [0, 1, 2, 7, 8] <|
    .exit 4)
    (.skip)) <|
  .dops [
    ⟨some 79, .mv (.tmp 0), none, 0⟩,
    ⟨some 80, .mv (.tmp 9), none, 0⟩,
    ⟨some 84, .mv (.tmp 0), none, 0⟩,
    ⟨some 85, .mv (.tmp 9), none, 0⟩,
    ⟨some 86, .bin .sub (.tmp 85) (.const (.int .i64 1)), none, 0⟩,
    ⟨some 87, .idx 1 (.tmp 84) (.tmp 86), none, 0⟩,
    ⟨some 88, .load false 1 (.tmp 87), none, 0⟩,
    ⟨some 89, .mv (.tmp 0), none, 0⟩,
    ⟨some 90, .mv (.tmp 9), none, 0⟩,
    ⟨some 91, .idx 1 (.tmp 89) (.tmp 90), none, 0⟩,
    ⟨some 92, .load false 1 (.tmp 91), none, 0⟩,
    ⟨some 93, .idx 1 (.tmp 79) (.tmp 80), none, 0⟩,
    ⟨none, .store 1 (.tmp 93) (.tmp 88), none, 0⟩,
    ⟨some 81, .mv (.tmp 0), none, 1⟩,
    ⟨some 82, .mv (.tmp 9), none, 1⟩,
    ⟨some 83, .bin .sub (.tmp 82) (.const (.int .i64 1)), none, 1⟩,
    ⟨some 94, .idx 1 (.tmp 81) (.tmp 83), none, 0⟩,
    ⟨none, .store 1 (.tmp 94) (.tmp 92), none, 0⟩]) <|
  .ops [
    ⟨some 66, .mv (.tmp 9), none, 0⟩,
    ⟨some 67, .bin .sub (.tmp 66) (.const (.int .i64 1)), none, 0⟩,
    ⟨some 9, .mv (.tmp 67), none, 0⟩]
def i_slices_partialInsertionSortOrdered_int64_B3 : FC :=
  .seq (.seq (.ops [
    ⟨some 101, .mv (.tmp 10), none, 0⟩,
    ⟨some 102, .mv (.tmp 2), none, 0⟩,
    ⟨some 103, .bin .lss (.tmp 101) (.tmp 102), none, 0⟩]) <|
  .cond (.tmp 103)
    (.skip)
    (.keep [0, 1, 2, 7, 8] <|
    .exit 6)) <|
  .seq (.block 7 <|
  .seq (.seq (.dops [
    ⟨some 106, .mv (.tmp 0), none, 0⟩,
    ⟨some 107, .mv (.tmp 10), none, 0⟩,
    ⟨some 108, .idx 1 (.tmp 106) (.tmp 107), none, 0⟩,
    ⟨some 109, .load false 1 (.tmp 108), none, 0⟩,
    ⟨some 110, .mv (.tmp 0), none, 0⟩,
    ⟨some 111, .mv (.tmp 10), none, 0⟩,
    ⟨some 112, .bin .sub (.tmp 111) (.const (.int .i64 1)), none, 0⟩,
    ⟨some 113, .idx 1 (.tmp 110) (.tmp 112), none, 0⟩,
    ⟨some 114, .load false 1 (.tmp 113), none, 0⟩,
    ⟨some 115, .call k_cmp_Less_int64 [(.tmp 109), (.tmp 114)], none, 0⟩,
    ⟨some 116, .un .not (.tmp 115), none, 0⟩]) <|
  .cond (.tmp 116)
    (.keep [0, 1, 2, 7, 8] <|
    .exit 6)
    (.skip)) <|
  .dops [
    ⟨some 117, .mv (.tmp 0), none, 0⟩,
    ⟨some 118, .mv (.tmp 10), none, 0⟩,
    ⟨some 122, .mv (.tmp 0), none, 0⟩,
    ⟨some 123, .mv (.tmp 10), none, 0⟩,
    ⟨some 124, .bin .sub (.tmp 123) (.const (.int .i64 1)), none, 0⟩,
    ⟨some 125, .idx 1 (.tmp 122) (.tmp 124), none, 0⟩,
    ⟨some 126, .load false 1 (.tmp 125), none, 0⟩,
    ⟨some 127, .mv (.tmp 0), none, 0⟩,
    ⟨some 128, .mv (.tmp 10), none, 0⟩,
    ⟨some 129, .idx 1 (.tmp 127) (.tmp 128), none, 0⟩,
    ⟨some 130, .load false 1 (.tmp 129), none, 0⟩,
    ⟨some 131, .idx 1 (.tmp 117) (.tmp 118), none, 0⟩,
    ⟨none, .store 1 (.tmp 131) (.tmp 126), none, 0⟩,
    ⟨some 119, .mv (.tmp 0), none, 1⟩,
    ⟨some 120, .mv (.tmp 10), none, 1⟩,
    ⟨some 121, .bin .sub (.tmp 120) (.const (.int .i64 1)), none, 1⟩,
    ⟨some 132, .idx 1 (.tmp 119) (.tmp 121), none, 0⟩,
    ⟨none, .store 1 (.tmp 132) (.tmp 130), none, 0⟩]) <|
  .ops [
    ⟨some 104, .mv (.tmp 10), none, 0⟩,
    ⟨some 105, .bin .add (.tmp 104) (.const (.int .i64 1)), none, 0⟩,
    ⟨some 10, .mv (.tmp 105), none, 0⟩]
def i_slices_partialInsertionSortOrdered_int64_B4 : FC :=
  .seq (.seq (.ops [
    ⟨some 13, .mv (.tmp 8), none, 0⟩,
    ⟨some 14, .bin .lss (.tmp 13) (.const (.int .i64 5)), none, 0⟩]) <|
  .cond (.tmp 14)
    (.skip)
    (.keep [] <|
    .exit 0)) <|
  .seq (.block 1 <|
  .seq (.block 2 <|
  .loop [0, 1, 2, 7, 8] i_slices_partialInsertionSortOrdered_int64_B1) <|
  .seq (.seq (.ops [
    ⟨some 35, .mv (.tmp 7), none, 0⟩,
    ⟨some 36, .mv (.tmp 2), none, 0⟩,
    ⟨some 37, .bin .eql (.tmp 35) (.tmp 36), none, 0⟩]) <|
  .cond (.tmp 37)
    (.seq (.ops [
      ⟨some 6, .mv (.const (.bool true)), none, 0⟩]) <|
    .keep [6] <|
    .ret)
    (.skip)) <|
  .seq (.seq (.ops [
    ⟨some 38, .mv (.tmp 2), none, 0⟩,
    ⟨some 39, .mv (.tmp 1), none, 0⟩,
    ⟨some 40, .bin .sub (.tmp 38) (.tmp 39), none, 0⟩,
    ⟨some 41, .bin .lss (.tmp 40) (.const (.int .i64 50)), none, 0⟩]) <|
  .cond (.tmp 41)
    (.seq (.ops [
      ⟨some 6, .mv (.const (.bool false)), none, 0⟩]) <|
    .keep [6] <|
    .ret)
    (.skip)) <|
  .seq (.dops [
    ⟨some 42, .mv (.tmp 0), none, 0⟩,
    ⟨some 43, .mv (.tmp 7), none, 0⟩,
    ⟨some 47, .mv (.tmp 0), none, 0⟩,
    ⟨some 48, .mv (.tmp 7), none, 0⟩,
    ⟨some 49, .bin .sub (.tmp 48) (.const (.int .i64 1)), none, 0⟩,
    ⟨some 50, .idx 1 (.tmp 47) (.tmp 49), none, 0⟩,
    ⟨some 51, .load false 1 (.tmp 50), none, 0⟩,
    ⟨some 52, .mv (.tmp 0), none, 0⟩,
    ⟨some 53, .mv (.tmp 7), none, 0⟩,
    ⟨some 54, .idx 1 (.tmp 52) (.tmp 53), none, 0⟩,
    ⟨some 55, .load false 1 (.tmp 54), none, 0⟩,
    ⟨some 56, .idx 1 (.tmp 42) (.tmp 43), none, 0⟩,
    ⟨none, .store 1 (.tmp 56) (.tmp 51), none, 0⟩,
    ⟨some 44, .mv (.tmp 0), none, 1⟩,
    ⟨some 45, .mv (.tmp 7), none, 1⟩,
    ⟨some 46, .bin .sub (.tmp 45) (.const (.int .i64 1)), none, 1⟩,
    ⟨some 57, .idx 1 (.tmp 44) (.tmp 46), none, 0⟩,
    ⟨none, .store 1 (.tmp 57) (.tmp 55), none, 0⟩]) <|
  .seq (.seq (.ops [
    ⟨some 58, .mv (.tmp 7), none, 0⟩,
    ⟨some 59, .mv (.tmp 1), none, 0⟩,
    ⟨some 60, .bin .sub (.tmp 58) (.tmp 59), none, 0⟩,
    ⟨some 61, .bin .geq (.tmp 60) (.const (.int .i64 2)), none, 0⟩]) <|
  .cond (.tmp 61)
    (.seq (.ops [
      ⟨some 62, .mv (.tmp 7), none, 0⟩,
      ⟨some 63, .bin .sub (.tmp 62) (.const (.int .i64 1)), none, 0⟩,
      ⟨some 9, .mv (.tmp 63), none, 0⟩]) <|
    .block 4 <|
    .loop [0, 1, 2, 7, 8, 9] i_slices_partialInsertionSortOrdered_int64_B2)
    (.skip)) <|
  .seq (.ops [
    ⟨some 95, .mv (.tmp 2), none, 0⟩,
    ⟨some 96, .mv (.tmp 7), none, 0⟩,
    ⟨some 97, .bin .sub (.tmp 95) (.tmp 96), none, 0⟩,
    ⟨some 98, .bin .geq (.tmp 97) (.const (.int .i64 2)), none, 0⟩]) <|
  .cond (.tmp 98)
    (.seq (.ops [
      ⟨some 99, .mv (.tmp 7), none, 0⟩,
      ⟨some 100, .bin .add (.tmp 99) (.const (.int .i64 1)), none, 0⟩,
      ⟨some 10, .mv (.tmp 100), none, 0⟩]) <|
    .block 6 <|
    .loop [0, 1, 2, 7, 8, 10] i_slices_partialInsertionSortOrdered_int64_B3)
    (.skip)) <|
  .ops [
    ⟨some 15, .mv (.tmp 8), none, 0⟩,
    ⟨some 16, .bin .add (.tmp 15) (.const (.int .i64 1)), none, 0⟩,
    ⟨some 8, .mv (.tmp 16), none, 0⟩]
def i_slices_partialInsertionSortOrdered_int64 : FF := ⟨133, [.tmp 6],
  .seq (.ops [
    ⟨some 6, .mv (.const (.bool false)), none, 0⟩]) <|
  .seq (.ops [
    ⟨some 11, .mv (.tmp 1), none, 0⟩,
    ⟨some 12, .bin .add (.tmp 11) (.const (.int .i64 1)), none, 0⟩,
    ⟨some 7, .mv (.tmp 12), none, 0⟩]) <|
  .seq (.seq (.ops [
    ⟨some 8, .mv (.const (.int .i64 0)), none, 0⟩]) <|
  .block 0 <|
  .loop [0, 1, 2, 7, 8] i_slices_partialInsertionSortOrdered_int64_B4) <|
  .seq (.ops [
    ⟨some 6, .mv (.const (.bool false)), none, 0⟩]) <|
  .keep [6] <|
  .ret⟩

theorem e_slices_partialInsertionSortOrdered_int64 : EntOK Try.prog (compD Try.prog) k_slices_partialInsertionSortOrdered_int64 i_slices_partialInsertionSortOrdered_int64.vf :=
  ⟨Try.f59, Try.f59.body.getD .skip, Try.func59, by kernel_rfl, by kernel_rfl, by kernel_rfl, by kernel_rfl, by kernel_rfl⟩

/-- cmp.Less[int64] -/
def i_cmp_Less_int64 : FF := ⟨17, [.tmp 4],
  .seq (.ops [
    ⟨some 4, .mv (.const (.bool false)), none, 0⟩]) <|
  .seq (.ops [
    ⟨some 5, .mv (.tmp 0), none, 0⟩,
    ⟨some 6, .call k_cmp_isNaN_int64 [(.tmp 5)], none, 0⟩,
    ⟨some 7, .mv (.tmp 6), none, 0⟩,
    ⟨some 8, .mv (.tmp 1), some (7, true), 0⟩,
    ⟨some 9, .call k_cmp_isNaN_int64 [(.tmp 8)], some (7, true), 0⟩,
    ⟨some 10, .un .not (.tmp 9), some (7, true), 0⟩,
    ⟨some 11, .pick (.tmp 7) (.tmp 10) (.const (.bool false)), none, 0⟩,
    ⟨some 12, .mv (.tmp 11), none, 0⟩,
    ⟨some 13, .mv (.tmp 0), some (12, false), 0⟩,
    ⟨some 14, .mv (.tmp 1), some (12, false), 0⟩,
    ⟨some 15, .bin .lss (.tmp 13) (.tmp 14), some (12, false), 0⟩,
    ⟨some 16, .pick (.tmp 12) (.const (.bool true)) (.tmp 15), none, 0⟩,
    ⟨some 4, .mv (.tmp 16), none, 0⟩]) <|
  .keep [4] <|
  .ret⟩

theorem e_cmp_Less_int64 : EntOK Try.prog (compD Try.prog) k_cmp_Less_int64 i_cmp_Less_int64.vf :=
  ⟨Try.f60, Try.f60.body.getD .skip, Try.func60, by kernel_rfl, by kernel_rfl, by kernel_rfl, by kernel_rfl, by kernel_rfl⟩

/-- slices.partitionEqualOrdered[int64] -/
def i_slices_partitionEqualOrdered_int64_B1 : FC :=
  .seq (.seq (.dops [
    ⟨some 29, .mv (.tmp 9), none, 0⟩,
    ⟨some 30, .mv (.tmp 10), none, 0⟩,
    ⟨some 31, .bin .leq (.tmp 29) (.tmp 30), none, 0⟩,
    ⟨some 32, .mv (.tmp 31), none, 0⟩,
    ⟨some 33, .mv (.tmp 0), some (32, true), 0⟩,
    ⟨some 34, .mv (.tmp 1), some (32, true), 0⟩,
    ⟨some 35, .idx 1 (.tmp 33) (.tmp 34), some (32, true), 0⟩,
    ⟨some 36, .load false 1 (.tmp 35), some (32, true), 0⟩,
    ⟨some 37, .mv (.tmp 0), some (32, true), 0⟩,
    ⟨some 38, .mv (.tmp 9), some (32, true), 0⟩,
    ⟨some 39, .idx 1 (.tmp 37) (.tmp 38), some (32, true), 0⟩,
    ⟨some 40, .load false 1 (.tmp 39), some (32, true), 0⟩,
    ⟨some 41, .call k_cmp_Less_int64 [(.tmp 36), (.tmp 40)], some (32, true), 0⟩,
    ⟨some 42, .un .not (.tmp 41), some (32, true), 0⟩,
    ⟨some 43, .pick (.tmp 32) (.tmp 42) (.const (.bool false)), none, 0⟩]) <|
  .cond (.tmp 43)
    (.skip)
    (.keep [0, 1, 9, 10] <|
    .exit 2)) <|
  .block 3 <|
  .ops [
    ⟨some 44, .mv (.tmp 9), none, 0⟩,
    ⟨some 45, .bin .add (.tmp 44) (.const (.int .i64 1)), none, 0⟩,
    ⟨some 9, .mv (.tmp 45), none, 0⟩]
def i_slices_partitionEqualOrdered_int64_B2 : FC :=
  .seq (.seq (.dops [
    ⟨some 46, .mv (.tmp 9), none, 0⟩,
    ⟨some 47, .mv (.tmp 10), none, 0⟩,
    ⟨some 48, .bin .leq (.tmp 46) (.tmp 47), none, 0⟩,
    ⟨some 49, .mv (.tmp 48), none, 0⟩,
    ⟨some 50, .mv (.tmp 0), some (49, true), 0⟩,
    ⟨some 51, .mv (.tmp 1), some (49, true), 0⟩,
    ⟨some 52, .idx 1 (.tmp 50) (.tmp 51), some (49, true), 0⟩,
    ⟨some 53, .load false 1 (.tmp 52), some (49, true), 0⟩,
    ⟨some 54, .mv (.tmp 0), some (49, true), 0⟩,
    ⟨some 55, .mv (.tmp 10), some (49, true), 0⟩,
    ⟨some 56, .idx 1 (.tmp 54) (.tmp 55), some (49, true), 0⟩,
    ⟨some 57, .load false 1 (.tmp 56), some (49, true), 0⟩,
    ⟨some 58, .call k_cmp_Less_int64 [(.tmp 53), (.tmp 57)], some (49, true), 0⟩,
    ⟨some 59, .pick (.tmp 49) (.tmp 58) (.const (.bool false)), none, 0⟩]) <|
  .cond (.tmp 59)
    (.skip)
    (.keep [0, 1, 9, 10] <|
    .exit 4)) <|
  .block 5 <|
  .ops [
    ⟨some 60, .mv (.tmp 10), none, 0⟩,
    ⟨some 61, .bin .sub (.tmp 60) (.const (.int .i64 1)), none, 0⟩,
    ⟨some 10, .mv (.tmp 61), none, 0⟩]
def i_slices_partitionEqualOrdered_int64_B3 : FC :=
  .block 1 <|
  .seq (.block 2 <|
  .loop [0, 1, 9, 10] i_slices_partitionEqualOrdered_int64_B1) <|
  .seq (.block 4 <|
  .loop [0, 1, 9, 10] i_slices_partitionEqualOrdered_int64_B2) <|
  .seq (.seq (.ops [
    ⟨some 62, .mv (.tmp 9), none, 0⟩,
    ⟨some 63, .mv (.tmp 10), none, 0⟩,
    ⟨some 64, .bin .gtr (.tmp 62) (.tmp 63), none, 0⟩]) <|
  .cond (.tmp 64)
    (.keep [9] <|
    .exit 0)
    (.skip)) <|
  .seq (.dops [
    ⟨some 65, .mv (.tmp 0), none, 0⟩,
    ⟨some 66, .mv (.tmp 9), none, 0⟩,
    ⟨some 69, .mv (.tmp 0), none, 0⟩,
    ⟨some 70, .mv (.tmp 10), none, 0⟩,
    ⟨some 71, .idx 1 (.tmp 69) (.tmp 70), none, 0⟩,
    ⟨some 72, .load false 1 (.tmp 71), none, 0⟩,
    ⟨some 73, .mv (.tmp 0), none, 0⟩,
    ⟨some 74, .mv (.tmp 9), none, 0⟩,
    ⟨some 75, .idx 1 (.tmp 73) (.tmp 74), none, 0⟩,
    ⟨some 76, .load false 1 (.tmp 75), none, 0⟩,
    ⟨some 77, .idx 1 (.tmp 65) (.tmp 66), none, 0⟩,
    ⟨none, .store 1 (.tmp 77) (.tmp 72), none, 0⟩,
    ⟨some 67, .mv (.tmp 0), none, 1⟩,
    ⟨some 68, .mv (.tmp 10), none, 1⟩,
    ⟨some 78, .idx 1 (.tmp 67) (.tmp 68), none, 0⟩,
    ⟨none, .store 1 (.tmp 78) (.tmp 76), none, 0⟩]) <|
  .seq (.ops [
    ⟨some 79, .mv (.tmp 9), none, 0⟩,
    ⟨some 80, .bin .add (.tmp 79) (.const (.int .i64 1)), none, 0⟩,
    ⟨some 9, .mv (.tmp 80), none, 0⟩]) <|
  .ops [
    ⟨some 81, .mv (.tmp 10), none, 0⟩,
    ⟨some 82, .bin .sub (.tmp 81) (.const (.int .i64 1)), none, 0⟩,
    ⟨some 10, .mv (.tmp 82), none, 0⟩]
def i_slices_partitionEqualOrdered_int64 : FF := ⟨84, [.tmp 8],
  .seq (.ops [
    ⟨some 8, .mv (.const (.int .i64 0)), none, 0⟩]) <|
  .seq (.dops [
    ⟨some 11, .mv (.tmp 0), none, 0⟩,
    ⟨some 12, .mv (.tmp 1), none, 0⟩,
    ⟨some 15, .mv (.tmp 0), none, 0⟩,
    ⟨some 16, .mv (.tmp 3), none, 0⟩,
    ⟨some 17, .idx 1 (.tmp 15) (.tmp 16), none, 0⟩,
    ⟨some 18, .load false 1 (.tmp 17), none, 0⟩,
    ⟨some 19, .mv (.tmp 0), none, 0⟩,
    ⟨some 20, .mv (.tmp 1), none, 0⟩,
    ⟨some 21, .idx 1 (.tmp 19) (.tmp 20), none, 0⟩,
    ⟨some 22, .load false 1 (.tmp 21), none, 0⟩,
    ⟨some 23, .idx 1 (.tmp 11) (.tmp 12), none, 0⟩,
    ⟨none, .store 1 (.tmp 23) (.tmp 18), none, 0⟩,
    ⟨some 13, .mv (.tmp 0), none, 1⟩,
    ⟨some 14, .mv (.tmp 3), none, 1⟩,
    ⟨some 24, .idx 1 (.tmp 13) (.tmp 14), none, 0⟩,
    ⟨none, .store 1 (.tmp 24) (.tmp 22), none, 0⟩]) <|
  .seq (.ops [
    ⟨some 25, .mv (.tmp 1), none, 0⟩,
    ⟨some 26, .bin .add (.tmp 25) (.const (.int .i64 1)), none, 0⟩,
    ⟨some 27, .mv (.tmp 2), none, 0⟩,
    ⟨some 28, .bin .sub (.tmp 27) (.const (.int .i64 1)), none, 0⟩,
    ⟨some 9, .mv (.tmp 26), none, 0⟩,
    ⟨some 10, .mv (.tmp 28), none, 0⟩]) <|
  .seq (.block 0 <|
  .loop [0, 1, 9, 10] i_slices_partitionEqualOrdered_int64_B3) <|
  .seq (.ops [
    ⟨some 83, .mv (.tmp 9), none, 0⟩,
    ⟨some 8, .mv (.tmp 83), none, 0⟩]) <|
  .keep [8] <|
  .ret⟩

theorem e_slices_partitionEqualOrdered_int64 : EntOK Try.prog (compD Try.prog) k_slices_partitionEqualOrdered_int64 i_slices_partitionEqualOrdered_int64.vf :=
  ⟨Try.f61, Try.f61.body.getD .skip, Try.func61, by kernel_rfl, by kernel_rfl, by kernel_rfl, by kernel_rfl, by kernel_rfl⟩

/-- slices.partitionOrdered[int64] -/
def i_slices_partitionOrdered_int64_B1 : FC :=
  .seq (.seq (.dops [
    ⟨some 30, .mv (.tmp 10), none, 0⟩,
    ⟨some 31, .mv (.tmp 11), none, 0⟩,
    ⟨some 32, .bin .leq (.tmp 30) (.tmp 31), none, 0⟩,
    ⟨some 33, .mv (.tmp 32), none, 0⟩,
    ⟨some 34, .mv (.tmp 0), some (33, true), 0⟩,
    ⟨some 35, .mv (.tmp 10), some (33, true), 0⟩,
    ⟨some 36, .idx 1 (.tmp 34) (.tmp 35), some (33, true), 0⟩,
    ⟨some 37, .load false 1 (.tmp 36), some (33, true), 0⟩,
    ⟨some 38, .mv (.tmp 0), some (33, true), 0⟩,
    ⟨some 39, .mv (.tmp 1), some (33, true), 0⟩,
    ⟨some 40, .idx 1 (.tmp 38) (.tmp 39), some (33, true), 0⟩,
    ⟨some 41, .load false 1 (.tmp 40), some (33, true), 0⟩,
    ⟨some 42, .call k_cmp_Less_int64 [(.tmp 37), (.tmp 41)], some (33, true), 0⟩,
    ⟨some 43, .pick (.tmp 33) (.tmp 42) (.const (.bool false)), none, 0⟩]) <|
  .cond (.tmp 43)
    (.skip)
    (.keep [0, 1, 10, 11] <|
    .exit 0)) <|
  .block 1 <|
  .ops [
    ⟨some 44, .mv (.tmp 10), none, 0⟩,
    ⟨some 45, .bin .add (.tmp 44) (.const (.int .i64 1)), none, 0⟩,
    ⟨some 10, .mv (.tmp 45), none, 0⟩]
def i_slices_partitionOrdered_int64_B2 : FC :=
  .seq (.seq (.dops [
    ⟨some 46, .mv (.tmp 10), none, 0⟩,
    ⟨some 47, .mv (.tmp 11), none, 0⟩,
    ⟨some 48, .bin .leq (.tmp 46) (.tmp 47), none, 0⟩,
    ⟨some 49, .mv (.tmp 48), none, 0⟩,
    ⟨some 50, .mv (.tmp 0), some (49, true), 0⟩,
    ⟨some 51, .mv (.tmp 11), some (49, true), 0⟩,
    ⟨some 52, .idx 1 (.tmp 50) (.tmp 51), some (49, true), 0⟩,
    ⟨some 53, .load false 1 (.tmp 52), some (49, true), 0⟩,
    ⟨some 54, .mv (.tmp 0), some (49, true), 0⟩,
    ⟨some 55, .mv (.tmp 1), some (49, true), 0⟩,
    ⟨some 56, .idx 1 (.tmp 54) (.tmp 55), some (49, true), 0⟩,
    ⟨some 57, .load false 1 (.tmp 56), some (49, true), 0⟩,
    ⟨some 58, .call k_cmp_Less_int64 [(.tmp 53), (.tmp 57)], some (49, true), 0⟩,
    ⟨some 59, .un .not (.tmp 58), some (49, true), 0⟩,
    ⟨some 60, .pick (.tmp 49) (.tmp 59) (.const (.bool false)), none, 0⟩]) <|
  .cond (.tmp 60)
    (.skip)
    (.keep [0, 1, 10, 11] <|
    .exit 2)) <|
  .block 3 <|
  .ops [
    ⟨some 61, .mv (.tmp 11), none, 0⟩,
    ⟨some 62, .bin .sub (.tmp 61) (.const (.int .i64 1)), none, 0⟩,
    ⟨some 11, .mv (.tmp 62), none, 0⟩]
def i_slices_partitionOrdered_int64_B3 : FC :=
  .seq (.seq (.dops [
    ⟨some 99, .mv (.tmp 10), none, 0⟩,
    ⟨some 100, .mv (.tmp 11), none, 0⟩,
    ⟨some 101, .bin .leq (.tmp 99) (.tmp 100), none, 0⟩,
    ⟨some 102, .mv (.tmp 101), none, 0⟩,
    ⟨some 103, .mv (.tmp 0), some (102, true), 0⟩,
    ⟨some 104, .mv (.tmp 10), some (102, true), 0⟩,
    ⟨some 105, .idx 1 (.tmp 103) (.tmp 104), some (102, true), 0⟩,
    ⟨some 106, .load false 1 (.tmp 105), some (102, true), 0⟩,
    ⟨some 107, .mv (.tmp 0), some (102, true), 0⟩,
    ⟨some 108, .mv (.tmp 1), some (102, true), 0⟩,
    ⟨some 109, .idx 1 (.tmp 107) (.tmp 108), some (102, true), 0⟩,
    ⟨some 110, .load false 1 (.tmp 109), some (102, true), 0⟩,
    ⟨some 111, .call k_cmp_Less_int64 [(.tmp 106), (.tmp 110)], some (102, true), 0⟩,
    ⟨some 112, .pick (.tmp 102) (.tmp 111) (.const (.bool false)), none, 0⟩]) <|
  .cond (.tmp 112)
    (.skip)
    (.keep [0, 1, 10, 11] <|
    .exit 6)) <|
  .block 7 <|
  .ops [
    ⟨some 113, .mv (.tmp 10), none, 0⟩,
    ⟨some 114, .bin .add (.tmp 113) (.const (.int .i64 1)), none, 0⟩,
    ⟨some 10, .mv (.tmp 114), none, 0⟩]
def i_slices_partitionOrdered_int64_B4 : FC :=
  .seq (.seq (.dops [
    ⟨some 115, .mv (.tmp 10), none, 0⟩,
    ⟨some 116, .mv (.tmp 11), none, 0⟩,
    ⟨some 117, .bin .leq (.tmp 115) (.tmp 116), none, 0⟩,
    ⟨some 118, .mv (.tmp 117), none, 0⟩,
    ⟨some 119, .mv (.tmp 0), some (118, true), 0⟩,
    ⟨some 120, .mv (.tmp 11), some (118, true), 0⟩,
    ⟨some 121, .idx 1 (.tmp 119) (.tmp 120), some (118, true), 0⟩,
    ⟨some 122, .load false 1 (.tmp 121), some (118, true), 0⟩,
    ⟨some 123, .mv (.tmp 0), some (118, true), 0⟩,
    ⟨some 124, .mv (.tmp 1), some (118, true), 0⟩,
    ⟨some 125, .idx 1 (.tmp 123) (.tmp 124), some (118, true), 0⟩,
    ⟨some 126, .load false 1 (.tmp 125), some (118, true), 0⟩,
    ⟨some 127, .call k_cmp_Less_int64 [(.tmp 122), (.tmp 126)], some (118, true), 0⟩,
    ⟨some 128, .un .not (.tmp 127), some (118, true), 0⟩,
    ⟨some 129, .pick (.tmp 118) (.tmp 128) (.const (.bool false)), none, 0⟩]) <|
  .cond (.tmp 129)
    (.skip)
    (.keep [0, 1, 10, 11] <|
    .exit 8)) <|
  .block 9 <|
  .ops [
    ⟨some 130, .mv (.tmp 11), none, 0⟩,
    ⟨some 131, .bin .sub (.tmp 130) (.const (.int .i64 1)), none, 0⟩,
    ⟨some 11, .mv (.tmp 131), none, 0⟩]
def i_slices_partitionOrdered_int64_B5 : FC :=
  .block 5 <|
  .seq (.block 6 <|
  .loop [0, 1, 10, 11] i_slices_partitionOrdered_int64_B3) <|
  .seq (.block 8 <|
  .loop [0, 1, 10, 11] i_slices_partitionOrdered_int64_B4) <|
  .seq (.seq (.ops [
    ⟨some 132, .mv (.tmp 10), none, 0⟩,
    ⟨some 133, .mv (.tmp 11), none, 0⟩,
    ⟨some 134, .bin .gtr (.tmp 132) (.tmp 133), none, 0⟩]) <|
  .cond (.tmp 134)
    (.keep [0, 1, 11] <|
    .exit 4)
    (.skip)) <|
  .seq (.dops [
    ⟨some 135, .mv (.tmp 0), none, 0⟩,
    ⟨some 136, .mv (.tmp 10), none, 0⟩,
    ⟨some 139, .mv (.tmp 0), none, 0⟩,
    ⟨some 140, .mv (.tmp 11), none, 0⟩,
    ⟨some 141, .idx 1 (.tmp 139) (.tmp 140), none, 0⟩,
    ⟨some 142, .load false 1 (.tmp 141), none, 0⟩,
    ⟨some 143, .mv (.tmp 0), none, 0⟩,
    ⟨some 144, .mv (.tmp 10), none, 0⟩,
    ⟨some 145, .idx 1 (.tmp 143) (.tmp 144), none, 0⟩,
    ⟨some 146, .load false 1 (.tmp 145), none, 0⟩,
    ⟨some 147, .idx 1 (.tmp 135) (.tmp 136), none, 0⟩,
    ⟨none, .store 1 (.tmp 147) (.tmp 142), none, 0⟩,
    ⟨some 137, .mv (.tmp 0), none, 1⟩,
    ⟨some 138, .mv (.tmp 11), none, 1⟩,
    ⟨some 148, .idx 1 (.tmp 137) (.tmp 138), none, 0⟩,
    ⟨none, .store 1 (.tmp 148) (.tmp 146), none, 0⟩]) <|
  .seq (.ops [
    ⟨some 149, .mv (.tmp 10), none, 0⟩,
    ⟨some 150, .bin .add (.tmp 149) (.const (.int .i64 1)), none, 0⟩,
    ⟨some 10, .mv (.tmp 150), none, 0⟩]) <|
  .ops [
    ⟨some 151, .mv (.tmp 11), none, 0⟩,
    ⟨some 152, .bin .sub (.tmp 151) (.const (.int .i64 1)), none, 0⟩,
    ⟨some 11, .mv (.tmp 152), none, 0⟩]
def i_slices_partitionOrdered_int64 : FF := ⟨168, [.tmp 8, .tmp 9],
  .seq (.ops [
    ⟨some 8, .mv (.const (.int .i64 0)), none, 0⟩,
    ⟨some 9, .mv (.const (.bool false)), none, 0⟩]) <|
  .seq (.dops [
    ⟨some 12, .mv (.tmp 0), none, 0⟩,
    ⟨some 13, .mv (.tmp 1), none, 0⟩,
    ⟨some 16, .mv (.tmp 0), none, 0⟩,
    ⟨some 17, .mv (.tmp 3), none, 0⟩,
    ⟨some 18, .idx 1 (.tmp 16) (.tmp 17), none, 0⟩,
    ⟨some 19, .load false 1 (.tmp 18), none, 0⟩,
    ⟨some 20, .mv (.tmp 0), none, 0⟩,
    ⟨some 21, .mv (.tmp 1), none, 0⟩,
    ⟨some 22, .idx 1 (.tmp 20) (.tmp 21), none, 0⟩,
    ⟨some 23, .load false 1 (.tmp 22), none, 0⟩,
    ⟨some 24, .idx 1 (.tmp 12) (.tmp 13), none, 0⟩,
    ⟨none, .store 1 (.tmp 24) (.tmp 19), none, 0⟩,
    ⟨some 14, .mv (.tmp 0), none, 1⟩,
    ⟨some 15, .mv (.tmp 3), none, 1⟩,
    ⟨some 25, .idx 1 (.tmp 14) (.tmp 15), none, 0⟩,
    ⟨none, .store 1 (.tmp 25) (.tmp 23), none, 0⟩]) <|
  .seq (.ops [
    ⟨some 26, .mv (.tmp 1), none, 0⟩,
    ⟨some 27, .bin .add (.tmp 26) (.const (.int .i64 1)), none, 0⟩,
    ⟨some 28, .mv (.tmp 2), none, 0⟩,
    ⟨some 29, .bin .sub (.tmp 28) (.const (.int .i64 1)), none, 0⟩,
    ⟨some 10, .mv (.tmp 27), none, 0⟩,
    ⟨some 11, .mv (.tmp 29), none, 0⟩]) <|
  .seq (.block 0 <|
  .loop [0, 1, 10, 11] i_slices_partitionOrdered_int64_B1) <|
  .seq (.block 2 <|
  .loop [0, 1, 10, 11] i_slices_partitionOrdered_int64_B2) <|
  .seq (.seq (.ops [
    ⟨some 63, .mv (.tmp 10), none, 0⟩,
    ⟨some 64, .mv (.tmp 11), none, 0⟩,
    ⟨some 65, .bin .gtr (.tmp 63) (.tmp 64), none, 0⟩]) <|
  .cond (.tmp 65)
    (.seq (.dops [
      ⟨some 66, .mv (.tmp 0), none, 0⟩,
      ⟨some 67, .mv (.tmp 11), none, 0⟩,
      ⟨some 70, .mv (.tmp 0), none, 0⟩,
      ⟨some 71, .mv (.tmp 1), none, 0⟩,
      ⟨some 72, .idx 1 (.tmp 70) (.tmp 71), none, 0⟩,
      ⟨some 73, .load false 1 (.tmp 72), none, 0⟩,
      ⟨some 74, .mv (.tmp 0), none, 0⟩,
      ⟨some 75, .mv (.tmp 11), none, 0⟩,
      ⟨some 76, .idx 1 (.tmp 74) (.tmp 75), none, 0⟩,
      ⟨some 77, .load false 1 (.tmp 76), none, 0⟩,
      ⟨some 78, .idx 1 (.tmp 66) (.tmp 67), none, 0⟩,
      ⟨none, .store 1 (.tmp 78) (.tmp 73), none, 0⟩,
      ⟨some 68, .mv (.tmp 0), none, 1⟩,
      ⟨some 69, .mv (.tmp 1), none, 1⟩,
      ⟨some 79, .idx 1 (.tmp 68) (.tmp 69), none, 0⟩,
      ⟨none, .store 1 (.tmp 79) (.tmp 77), none, 0⟩]) <|
    .seq (.ops [
      ⟨some 80, .mv (.tmp 11), none, 0⟩,
      ⟨some 8, .mv (.tmp 80), none, 0⟩,
      ⟨some 9, .mv (.const (.bool true)), none, 0⟩]) <|
    .keep [8, 9] <|
    .ret)
    (.skip)) <|
  .seq (.dops [
    ⟨some 81, .mv (.tmp 0), none, 0⟩,
    ⟨some 82, .mv (.tmp 10), none, 0⟩,
    ⟨some 85, .mv (.tmp 0), none, 0⟩,
    ⟨some 86, .mv (.tmp 11), none, 0⟩,
    ⟨some 87, .idx 1 (.tmp 85) (.tmp 86), none, 0⟩,
    ⟨some 88, .load false 1 (.tmp 87), none, 0⟩,
    ⟨some 89, .mv (.tmp 0), none, 0⟩,
    ⟨some 90, .mv (.tmp 10), none, 0⟩,
    ⟨some 91, .idx 1 (.tmp 89) (.tmp 90), none, 0⟩,
    ⟨some 92, .load false 1 (.tmp 91), none, 0⟩,
    ⟨some 93, .idx 1 (.tmp 81) (.tmp 82), none, 0⟩,
    ⟨none, .store 1 (.tmp 93) (.tmp 88), none, 0⟩,
    ⟨some 83, .mv (.tmp 0), none, 1⟩,
    ⟨some 84, .mv (.tmp 11), none, 1⟩,
    ⟨some 94, .idx 1 (.tmp 83) (.tmp 84), none, 0⟩,
    ⟨none, .store 1 (.tmp 94) (.tmp 92), none, 0⟩]) <|
  .seq (.ops [
    ⟨some 95, .mv (.tmp 10), none, 0⟩,
    ⟨some 96, .bin .add (.tmp 95) (.const (.int .i64 1)), none, 0⟩,
    ⟨some 10, .mv (.tmp 96), none, 0⟩]) <|
  .seq (.ops [
    ⟨some 97, .mv (.tmp 11), none, 0⟩,
    ⟨some 98, .bin .sub (.tmp 97) (.const (.int .i64 1)), none, 0⟩,
    ⟨some 11, .mv (.tmp 98), none, 0⟩]) <|
  .seq (.block 4 <|
  .loop [0, 1, 10, 11] i_slices_partitionOrdered_int64_B5) <|
  .seq (.dops [
    ⟨some 153, .mv (.tmp 0), none, 0⟩,
    ⟨some 154, .mv (.tmp 11), none, 0⟩,
    ⟨some 157, .mv (.tmp 0), none, 0⟩,
    ⟨some 158, .mv (.tmp 1), none, 0⟩,
    ⟨some 159, .idx 1 (.tmp 157) (.tmp 158), none, 0⟩,
    ⟨some 160, .load false 1 (.tmp 159), none, 0⟩,
    ⟨some 161, .mv (.tmp 0), none, 0⟩,
    ⟨some 162, .mv (.tmp 11), none, 0⟩,
    ⟨some 163, .idx 1 (.tmp 161) (.tmp 162), none, 0⟩,
    ⟨some 164, .load false 1 (.tmp 163), none, 0⟩,
    ⟨some 165, .idx 1 (.tmp 153) (.tmp 154), none, 0⟩,
    ⟨none, .store 1 (.tmp 165) (.tmp 160), none, 0⟩,
    ⟨some 155, .mv (.tmp 0), none, 1⟩,
    ⟨some 156, .mv (.tmp 1), none, 1⟩,
    ⟨some 166, .idx 1 (.tmp 155) (.tmp 156), none, 0⟩,
    ⟨none, .store 1 (.tmp 166) (.tmp 164), none, 0⟩]) <|
  .seq (.ops [
    ⟨some 167, .mv (.tmp 11), none, 0⟩,
    ⟨some 8, .mv (.tmp 167), none, 0⟩,
    ⟨some 9, .mv (.const (.bool false)), none, 0⟩]) <|
  .keep [8, 9] <|
  .ret⟩

theorem e_slices_partitionOrdered_int64 : EntOK Try.prog (compD Try.prog) k_slices_partitionOrdered_int64 i_slices_partitionOrdered_int64.vf :=
  ⟨Try.f62, Try.f62.body.getD .skip, Try.func62, by kernel_rfl, by kernel_rfl, by kernel_rfl, by kernel_rfl, by kernel_rfl⟩

/-- math/bits.Len32 -/
def i_math_bits_Len32 : FF := ⟨19, [.tmp 2],
  .seq (.ops [
    ⟨some 2, .mv (.const (.int .i64 0)), none, 0⟩]) <|
  .seq (.seq (.ops [
    ⟨some 3, .mv (.tmp 0), none, 0⟩,
    ⟨some 4, .bin .geq (.tmp 3) (.const (.int .u32 65536)), none, 0⟩]) <|
  .cond (.tmp 4)
    (.seq (.ops [
      ⟨some 5, .mv (.tmp 0), none, 0⟩,
      ⟨some 6, .bin .shr (.tmp 5) (.const (.int .u64 16)), none, 0⟩,
      ⟨some 0, .mv (.tmp 6), none, 0⟩]) <|
    .ops [
      ⟨some 2, .mv (.const (.int .i64 16)), none, 0⟩])
    (.skip)) <|
  .seq (.seq (.ops [
    ⟨some 7, .mv (.tmp 0), none, 0⟩,
    ⟨some 8, .bin .geq (.tmp 7) (.const (.int .u32 256)), none, 0⟩]) <|
  .cond (.tmp 8)
    (.seq (.ops [
      ⟨some 9, .mv (.tmp 0), none, 0⟩,
      ⟨some 10, .bin .shr (.tmp 9) (.const (.int .u64 8)), none, 0⟩,
      ⟨some 0, .mv (.tmp 10), none, 0⟩]) <|
    .ops [
      ⟨some 11, .mv (.tmp 2), none, 0⟩,
      ⟨some 12, .bin .add (.tmp 11) (.const (.int .i64 8)), none, 0⟩,
      ⟨some 2, .mv (.tmp 12), none, 0⟩])
    (.skip)) <|
  .seq (.ops [
    ⟨some 13, .mv (.tmp 2), none, 0⟩,
    ⟨some 14, .mv (.tmp 0), none, 0⟩,
    ⟨some 15, .conv .u8 (.tmp 14), none, 0⟩,
    ⟨some 16, .idxStr (.const (.string ⟨#[0, 1, 2, 2, 3, 3, 3, 3, 4, 4, 4, 4, 4, 4, 4, 4, 5, 5, 5, 5, 5, 5, 5, 5, 5, 5, 5, 5, 5, 5, 5, 5, 6, 6, 6, 6, 6, 6, 6, 6, 6, 6, 6, 6, 6, 6, 6, 6, 6, 6, 6, 6, 6, 6, 6, 6, 6, 6, 6, 6, 6, 6, 6, 6, 7, 7, 7, 7, 7, 7, 7, 7, 7, 7, 7, 7, 7, 7, 7, 7, 7, 7, 7, 7, 7, 7, 7, 7, 7, 7, 7, 7, 7, 7, 7, 7, 7, 7, 7, 7, 7, 7, 7, 7, 7, 7, 7, 7, 7, 7, 7, 7, 7, 7, 7, 7, 7, 7, 7, 7, 7, 7, 7, 7, 7, 7, 7, 7, 8, 8, 8, 8, 8, 8, 8, 8, 8, 8, 8, 8, 8, 8, 8, 8, 8, 8, 8, 8, 8, 8, 8, 8, 8, 8, 8, 8, 8, 8, 8, 8, 8, 8, 8, 8, 8, 8, 8, 8, 8, 8, 8, 8, 8, 8, 8, 8, 8, 8, 8, 8, 8, 8, 8, 8, 8, 8, 8, 8, 8, 8, 8, 8, 8, 8, 8, 8, 8, 8, 8, 8, 8, 8, 8, 8, 8, 8, 8, 8, 8, 8, 8, 8, 8, 8, 8, 8, 8, 8, 8, 8, 8, 8, 8, 8, 8, 8, 8, 8, 8, 8, 8, 8, 8, 8, 8, 8, 8, 8, 8, 8, 8, 8, 8, 8, 8, 8, 8, 8, 8, 8, 8, 8, 8, 8, 8, 8]⟩)) (.tmp 15), none, 0⟩,
    ⟨some 17, .conv .i64 (.tmp 16), none, 0⟩,
    ⟨some 18, .bin .add (.tmp 13) (.tmp 17), none, 0⟩,
    ⟨some 2, .mv (.tmp 18), none, 0⟩]) <|
  .keep [2] <|
  .ret⟩

theorem e_math_bits_Len32 : EntOK Try.prog (compD Try.prog) k_math_bits_Len32 i_math_bits_Len32.vf :=
  ⟨Try.f63, Try.f63.body.getD .skip, Try.func63, by kernel_rfl, by kernel_rfl, by kernel_rfl, by kernel_rfl, by kernel_rfl⟩

/-- math/bits.Len64 -/
def i_math_bits_Len64 : FF := ⟨25, [.tmp 2],
  .seq (.ops [
    ⟨some 2, .mv (.const (.int .i64 0)), none, 0⟩]) <|
  .seq (.seq (.ops [
    ⟨some 3, .mv (.tmp 0), none, 0⟩,
    ⟨some 4, .bin .geq (.tmp 3) (.const (.int .u64 4294967296)), none, 0⟩]) <|
  .cond (.tmp 4)
    (.seq (.ops [
      ⟨some 5, .mv (.tmp 0), none, 0⟩,
      ⟨some 6, .bin .shr (.tmp 5) (.const (.int .u64 32)), none, 0⟩,
      ⟨some 0, .mv (.tmp 6), none, 0⟩]) <|
    .ops [
      ⟨some 2, .mv (.const (.int .i64 32)), none, 0⟩])
    (.skip)) <|
  .seq (.seq (.ops [
    ⟨some 7, .mv (.tmp 0), none, 0⟩,
    ⟨some 8, .bin .geq (.tmp 7) (.const (.int .u64 65536)), none, 0⟩]) <|
  .cond (.tmp 8)
    (.seq (.ops [
      ⟨some 9, .mv (.tmp 0), none, 0⟩,
      ⟨some 10, .bin .shr (.tmp 9) (.const (.int .u64 16)), none, 0⟩,
      ⟨some 0, .mv (.tmp 10), none, 0⟩]) <|
    .ops [
      ⟨some 11, .mv (.tmp 2), none, 0⟩,
      ⟨some 12, .bin .add (.tmp 11) (.const (.int .i64 16)), none, 0⟩,
      ⟨some 2, .mv (.tmp 12), none, 0⟩])
    (.skip)) <|
  .seq (.seq (.ops [
    ⟨some 13, .mv (.tmp 0), none, 0⟩,
    ⟨some 14, .bin .geq (.tmp 13) (.const (.int .u64 256)), none, 0⟩]) <|
  .cond (.tmp 14)
    (.seq (.ops [
      ⟨some 15, .mv (.tmp 0), none, 0⟩,
      ⟨some 16, .bin .shr (.tmp 15) (.const (.int .u64 8)), none, 0⟩,
      ⟨some 0, .mv (.tmp 16), none, 0⟩]) <|
    .ops [
      ⟨some 17, .mv (.tmp 2), none, 0⟩,
      ⟨some 18, .bin .add (.tmp 17) (.const (.int .i64 8)), none, 0⟩,
      ⟨some 2, .mv (.tmp 18), none, 0⟩])
    (.skip)) <|
  .seq (.ops [
    ⟨some 19, .mv (.tmp 2), none, 0⟩,
    ⟨some 20, .mv (.tmp 0), none, 0⟩,
    ⟨some 21, .conv .u8 (.tmp 20), none, 0⟩,
    ⟨some 22, .idxStr (.const (.string ⟨#[0, 1, 2, 2, 3, 3, 3, 3, 4, 4, 4, 4, 4, 4, 4, 4, 5, 5, 5, 5, 5, 5, 5, 5, 5, 5, 5, 5, 5, 5, 5, 5, 6, 6, 6, 6, 6, 6, 6, 6, 6, 6, 6, 6, 6, 6, 6, 6, 6, 6, 6, 6, 6, 6, 6, 6, 6, 6, 6, 6, 6, 6, 6, 6, 7, 7, 7, 7, 7, 7, 7, 7, 7, 7, 7, 7, 7, 7, 7, 7, 7, 7, 7, 7, 7, 7, 7, 7, 7, 7, 7, 7, 7, 7, 7, 7, 7, 7, 7, 7, 7, 7, 7, 7, 7, 7, 7, 7, 7, 7, 7, 7, 7, 7, 7, 7, 7, 7, 7, 7, 7, 7, 7, 7, 7, 7, 7, 7, 8, 8, 8, 8, 8, 8, 8, 8, 8, 8, 8, 8, 8, 8, 8, 8, 8, 8, 8, 8, 8, 8, 8, 8, 8, 8, 8, 8, 8, 8, 8, 8, 8, 8, 8, 8, 8, 8, 8, 8, 8, 8, 8, 8, 8, 8, 8, 8, 8, 8, 8, 8, 8, 8, 8, 8, 8, 8, 8, 8, 8, 8, 8, 8, 8, 8, 8, 8, 8, 8, 8, 8, 8, 8, 8, 8, 8, 8, 8, 8, 8, 8, 8, 8, 8, 8, 8, 8, 8, 8, 8, 8, 8, 8, 8, 8, 8, 8, 8, 8, 8, 8, 8, 8, 8, 8, 8, 8, 8, 8, 8, 8, 8, 8, 8, 8, 8, 8, 8, 8, 8, 8, 8, 8, 8, 8, 8, 8]⟩)) (.tmp 21), none, 0⟩,
    ⟨some 23, .conv .i64 (.tmp 22), none, 0⟩,
    ⟨some 24, .bin .add (.tmp 19) (.tmp 23), none, 0⟩,
    ⟨some 2, .mv (.tmp 24), none, 0⟩]) <|
  .keep [2] <|
  .ret⟩

theorem e_math_bits_Len64 : EntOK Try.prog (compD Try.prog) k_math_bits_Len64 i_math_bits_Len64.vf :=
  ⟨Try.f64, Try.f64.body.getD .skip, Try.func64, by kernel_rfl, by kernel_rfl, by kernel_rfl, by kernel_rfl, by kernel_rfl⟩

/-- slices.siftDownOrdered[int64] -/
def i_slices_siftDownOrdered_int64_B1 : FC :=
  .block 1 <|
  .seq (.ops [
    ⟨some 11, .mv (.tmp 8), none, 0⟩,
    ⟨some 12, .bin .mul (.const (.int .i64 2)) (.tmp 11), none, 0⟩,
    ⟨some 13, .bin .add (.tmp 12) (.const (.int .i64 1)), none, 0⟩,
    ⟨some 9, .mv (.tmp 13), none, 0⟩]) <|
  .seq (.seq (.ops [
    ⟨some 14, .mv (.tmp 9), none, 0⟩,
    ⟨some 15, .mv (.tmp 2), none, 0⟩,
    ⟨some 16, .bin .geq (.tmp 14) (.tmp 15), none, 0⟩]) <|
  .cond (.tmp 16)
    (.keep [] <|
    .exit 0)
    (.skip)) <|
  .seq (.seq (.dops [
    ⟨some 17, .mv (.tmp 9), none, 0⟩,
    ⟨some 18, .bin .add (.tmp 17) (.const (.int .i64 1)), none, 0⟩,
    ⟨some 19, .mv (.tmp 2), none, 0⟩,
    ⟨some 20, .bin .lss (.tmp 18) (.tmp 19), none, 0⟩,
    ⟨some 21, .mv (.tmp 20), none, 0⟩,
    ⟨some 22, .mv (.tmp 0), some (21, true), 0⟩,
    ⟨some 23, .mv (.tmp 3), some (21, true), 0⟩,
    ⟨some 24, .mv (.tmp 9), some (21, true), 0⟩,
    ⟨some 25, .bin .add (.tmp 23) (.tmp 24), some (21, true), 0⟩,
    ⟨some 26, .idx 1 (.tmp 22) (.tmp 25), some (21, true), 0⟩,
    ⟨some 27, .load false 1 (.tmp 26), some (21, true), 0⟩,
    ⟨some 28, .mv (.tmp 0), some (21, true), 0⟩,
    ⟨some 29, .mv (.tmp 3), some (21, true), 0⟩,
    ⟨some 30, .mv (.tmp 9), some (21, true), 0⟩,
    ⟨some 31, .bin .add (.tmp 29) (.tmp 30), some (21, true), 0⟩,
    ⟨some 32, .bin .add (.tmp 31) (.const (.int .i64 1)), some (21, true), 0⟩,
    ⟨some 33, .idx 1 (.tmp 28) (.tmp 32), some (21, true), 0⟩,
    ⟨some 34, .load false 1 (.tmp 33), some (21, true), 0⟩,
    ⟨some 35, .call k_cmp_Less_int64 [(.tmp 27), (.tmp 34)], some (21, true), 0⟩,
    ⟨some 36, .pick (.tmp 21) (.tmp 35) (.const (.bool false)), none, 0⟩]) <|
  .cond (.tmp 36)
    (.ops [
      ⟨some 37, .mv (.tmp 9), none, 0⟩,
      ⟨some 38, .bin .add (.tmp 37) (.const (.int .i64 1)), none, 0⟩,
      ⟨some 9, .mv (.tmp 38), none, 0⟩])
    (.skip)) <|
  .seq (.seq (.dops [
    ⟨some 39, .mv (.tmp 0), none, 0⟩,
    ⟨some 40, .mv (.tmp 3), none, 0⟩,
    ⟨some 41, .mv (.tmp 8), none, 0⟩,
    ⟨some 42, .bin .add (.tmp 40) (.tmp 41), none, 0⟩,
    ⟨some 43, .idx 1 (.tmp 39) (.tmp 42), none, 0⟩,
    ⟨some 44, .load false 1 (.tmp 43), none, 0⟩,
    ⟨some 45, .mv (.tmp 0), none, 0⟩,
    ⟨some 46, .mv (.tmp 3), none, 0⟩,
    ⟨some 47, .mv (.tmp 9), none, 0⟩,
    ⟨some 48, .bin .add (.tmp 46) (.tmp 47), none, 0⟩,
    ⟨some 49, .idx 1 (.tmp 45) (.tmp 48), none, 0⟩,
    ⟨some 50, .load false 1 (.tmp 49), none, 0⟩,
    ⟨some 51, .call k_cmp_Less_int64 [(.tmp 44), (.tmp 50)], none, 0⟩,
    ⟨some 52, .un .not (.tmp 51), none, 0⟩]) <|
  .cond (.tmp 52)
    (.keep [] <|
    .ret)
    (.skip)) <|
  .seq (.dops [
    ⟨some 53, .mv (.tmp 0), none, 0⟩,
    ⟨some 54, .mv (.tmp 3), none, 0⟩,
    ⟨some 55, .mv (.tmp 8), none, 0⟩,
    ⟨some 56, .bin .add (.tmp 54) (.tmp 55), none, 0⟩,
    ⟨some 61, .mv (.tmp 0), none, 0⟩,
    ⟨some 62, .mv (.tmp 3), none, 0⟩,
    ⟨some 63, .mv (.tmp 9), none, 0⟩,
    ⟨some 64, .bin .add (.tmp 62) (.tmp 63), none, 0⟩,
    ⟨some 65, .idx 1 (.tmp 61) (.tmp 64), none, 0⟩,
    ⟨some 66, .load false 1 (.tmp 65), none, 0⟩,
    ⟨some 67, .mv (.tmp 0), none, 0⟩,
    ⟨some 68, .mv (.tmp 3), none, 0⟩,
    ⟨some 69, .mv (.tmp 8), none, 0⟩,
    ⟨some 70, .bin .add (.tmp 68) (.tmp 69), none, 0⟩,
    ⟨some 71, .idx 1 (.tmp 67) (.tmp 70), none, 0⟩,
    ⟨some 72, .load false 1 (.tmp 71), none, 0⟩,
    ⟨some 73, .idx 1 (.tmp 53) (.tmp 56), none, 0⟩,
    ⟨none, .store 1 (.tmp 73) (.tmp 66), none, 0⟩,
    ⟨some 57, .mv (.tmp 0), none, 1⟩,
    ⟨some 58, .mv (.tmp 3), none, 1⟩,
    ⟨some 59, .mv (.tmp 9), none, 1⟩,
    ⟨some 60, .bin .add (.tmp 58) (.tmp 59), none, 1⟩,
    ⟨some 74, .idx 1 (.tmp 57) (.tmp 60), none, 0⟩,
    ⟨none, .store 1 (.tmp 74) (.tmp 72), none, 0⟩]) <|
  .ops [
    ⟨some 75, .mv (.tmp 9), none, 0⟩,
    ⟨some 8, .mv (.tmp 75), none, 0⟩]
def i_slices_siftDownOrdered_int64 : FF := ⟨76, [],
  .seq (.ops [
    ⟨some 10, .mv (.tmp 1), none, 0⟩,
    ⟨some 8, .mv (.tmp 10), none, 0⟩]) <|
  .block 0 <|
  .loop [0, 2, 3, 8] i_slices_siftDownOrdered_int64_B1⟩

theorem e_slices_siftDownOrdered_int64 : EntOK Try.prog (compD Try.prog) k_slices_siftDownOrdered_int64 i_slices_siftDownOrdered_int64.vf :=
  ⟨Try.f71, Try.f71.body.getD .skip, Try.func71, by kernel_rfl, by kernel_rfl, by kernel_rfl, by kernel_rfl, by kernel_rfl⟩

/-- slices.nextPowerOfTwo -/
def i_slices_nextPowerOfTwo : FF := ⟨7, [.tmp 2],
  .seq (.ops [
    ⟨some 2, .mv (.const (.int .u64 0)), none, 0⟩]) <|
  .seq (.ops [
    ⟨some 3, .mv (.tmp 0), none, 0⟩,
    ⟨some 4, .conv .u64 (.tmp 3), none, 0⟩,
    ⟨some 5, .call k_math_bits_Len [(.tmp 4)], none, 0⟩,
    ⟨some 6, .bin .shl (.const (.int .u64 1)) (.tmp 5), none, 0⟩,
    ⟨some 2, .mv (.tmp 6), none, 0⟩]) <|
  .keep [2] <|
  .ret⟩

theorem e_slices_nextPowerOfTwo : EntOK Try.prog (compD Try.prog) k_slices_nextPowerOfTwo i_slices_nextPowerOfTwo.vf :=
  ⟨Try.f72, Try.f72.body.getD .skip, Try.func72, by kernel_rfl, by kernel_rfl, by kernel_rfl, by kernel_rfl, by kernel_rfl⟩

/-- (*slices.xorshift).Next -/
def i_slices_xorshift_Next : FF := ⟨33, [.tmp 2],
  .seq (.ops [
    ⟨some 2, .mv (.const (.int .u64 0)), none, 0⟩]) <|
  .seq (.dops [
    ⟨some 3, .mv (.tmp 0), none, 0⟩,
    ⟨some 4, .nilchk (.tmp 3), none, 0⟩,
    ⟨some 5, .load false 1 (.tmp 4), none, 0⟩,
    ⟨some 6, .mv (.tmp 0), none, 0⟩,
    ⟨some 7, .nilchk (.tmp 6), none, 0⟩,
    ⟨some 8, .load false 1 (.tmp 7), none, 0⟩,
    ⟨some 9, .bin .shl (.tmp 8) (.const (.int .u64 13)), none, 0⟩,
    ⟨some 10, .bin .xor (.tmp 5) (.tmp 9), none, 0⟩,
    ⟨some 11, .nilchk (.tmp 3), none, 0⟩,
    ⟨none, .store 1 (.tmp 11) (.tmp 10), none, 0⟩]) <|
  .seq (.dops [
    ⟨some 12, .mv (.tmp 0), none, 0⟩,
    ⟨some 13, .nilchk (.tmp 12), none, 0⟩,
    ⟨some 14, .load false 1 (.tmp 13), none, 0⟩,
    ⟨some 15, .mv (.tmp 0), none, 0⟩,
    ⟨some 16, .nilchk (.tmp 15), none, 0⟩,
    ⟨some 17, .load false 1 (.tmp 16), none, 0⟩,
    ⟨some 18, .bin .shr (.tmp 17) (.const (.int .u64 7)), none, 0⟩,
    ⟨some 19, .bin .xor (.tmp 14) (.tmp 18), none, 0⟩,
    ⟨some 20, .nilchk (.tmp 12), none, 0⟩,
    ⟨none, .store 1 (.tmp 20) (.tmp 19), none, 0⟩]) <|
  .seq (.dops [
    ⟨some 21, .mv (.tmp 0), none, 0⟩,
    ⟨some 22, .nilchk (.tmp 21), none, 0⟩,
    ⟨some 23, .load false 1 (.tmp 22), none, 0⟩,
    ⟨some 24, .mv (.tmp 0), none, 0⟩,
    ⟨some 25, .nilchk (.tmp 24), none, 0⟩,
    ⟨some 26, .load false 1 (.tmp 25), none, 0⟩,
    ⟨some 27, .bin .shl (.tmp 26) (.const (.int .u64 17)), none, 0⟩,
    ⟨some 28, .bin .xor (.tmp 23) (.tmp 27), none, 0⟩,
    ⟨some 29, .nilchk (.tmp 21), none, 0⟩,
    ⟨none, .store 1 (.tmp 29) (.tmp 28), none, 0⟩]) <|
  .seq (.ops [
    ⟨some 30, .mv (.tmp 0), none, 0⟩,
    ⟨some 31, .nilchk (.tmp 30), none, 0⟩,
    ⟨some 32, .load false 1 (.tmp 31), none, 0⟩,
    ⟨some 2, .mv (.tmp 32), none, 0⟩]) <|
  .keep [2] <|
  .ret⟩

theorem e_slices_xorshift_Next : EntOK Try.prog (compD Try.prog) k_slices_xorshift_Next i_slices_xorshift_Next.vf :=
  ⟨Try.f73, Try.f73.body.getD .skip, Try.func73, by kernel_rfl, by kernel_rfl, by kernel_rfl, by kernel_rfl, by kernel_rfl⟩

/-- slices.medianAdjacentOrdered[int64] -/
def i_slices_medianAdjacentOrdered_int64 : FF := ⟨15, [.tmp 6],
  .seq (.ops [
    ⟨some 6, .mv (.const (.int .i64 0)), none, 0⟩]) <|
  .seq (.ops [
    ⟨some 7, .mv (.tmp 0), none, 0⟩,
    ⟨some 8, .mv (.tmp 1), none, 0⟩,
    ⟨some 9, .bin .sub (.tmp 8) (.const (.int .i64 1)), none, 0⟩,
    ⟨some 10, .mv (.tmp 1), none, 0⟩,
    ⟨some 11, .mv (.tmp 1), none, 0⟩,
    ⟨some 12, .bin .add (.tmp 11) (.const (.int .i64 1)), none, 0⟩,
    ⟨some 13, .mv (.tmp 2), none, 0⟩,
    ⟨some 14, .call k_slices_medianOrdered_int64 [(.tmp 7), (.tmp 9), (.tmp 10), (.tmp 12), (.tmp 13)], none, 0⟩,
    ⟨some 6, .mv (.tmp 14), none, 0⟩]) <|
  .keep [6] <|
  .ret⟩

theorem e_slices_medianAdjacentOrdered_int64 : EntOK Try.prog (compD Try.prog) k_slices_medianAdjacentOrdered_int64 i_slices_medianAdjacentOrdered_int64.vf :=
  ⟨Try.f74, Try.f74.body.getD .skip, Try.func74, by kernel_rfl, by kernel_rfl, by kernel_rfl, by kernel_rfl, by kernel_rfl⟩

/-- slices.medianOrdered[int64] -/
def i_slices_medianOrdered_int64 : FF := ⟨36, [.tmp 10],
  .seq (.ops [
    ⟨some 10, .mv (.const (.int .i64 0)), none, 0⟩]) <|
  .seq (.ops [
    ⟨some 12, .mv (.tmp 0), none, 0⟩,
    ⟨some 13, .mv (.tmp 1), none, 0⟩,
    ⟨some 14, .mv (.tmp 2), none, 0⟩,
    ⟨some 15, .mv (.tmp 4), none, 0⟩,
    ⟨some 16, .call k_slices_order2Ordered_int64 [(.tmp 12), (.tmp 13), (.tmp 14), (.tmp 15)], none, 0⟩,
    ⟨some 11, .mv (.tmp 16), none, 0⟩,
    ⟨some 17, .ext (.tmp 11) 0, none, 0⟩,
    ⟨some 18, .ext (.tmp 11) 1, none, 0⟩,
    ⟨some 1, .mv (.tmp 17), none, 0⟩,
    ⟨some 2, .mv (.tmp 18), none, 0⟩]) <|
  .seq (.ops [
    ⟨some 20, .mv (.tmp 0), none, 0⟩,
    ⟨some 21, .mv (.tmp 2), none, 0⟩,
    ⟨some 22, .mv (.tmp 3), none, 0⟩,
    ⟨some 23, .mv (.tmp 4), none, 0⟩,
    ⟨some 24, .call k_slices_order2Ordered_int64 [(.tmp 20), (.tmp 21), (.tmp 22), (.tmp 23)], none, 0⟩,
    ⟨some 19, .mv (.tmp 24), none, 0⟩,
    ⟨some 25, .ext (.tmp 19) 0, none, 0⟩,
    ⟨some 26, .ext (.tmp 19) 1, none, 0⟩,
    ⟨some 2, .mv (.tmp 25), none, 0⟩,
    ⟨some 3, .mv (.tmp 26), none, 0⟩]) <|
  .seq (.ops [
    ⟨some 28, .mv (.tmp 0), none, 0⟩,
    ⟨some 29, .mv (.tmp 1), none, 0⟩,
    ⟨some 30, .mv (.tmp 2), none, 0⟩,
    ⟨some 31, .mv (.tmp 4), none, 0⟩,
    ⟨some 32, .call k_slices_order2Ordered_int64 [(.tmp 28), (.tmp 29), (.tmp 30), (.tmp 31)], none, 0⟩,
    ⟨some 27, .mv (.tmp 32), none, 0⟩,
    ⟨some 33, .ext (.tmp 27) 0, none, 0⟩,
    ⟨some 34, .ext (.tmp 27) 1, none, 0⟩,
    ⟨some 1, .mv (.tmp 33), none, 0⟩,
    ⟨some 2, .mv (.tmp 34), none, 0⟩]) <|
  .seq (.ops [
    ⟨some 35, .mv (.tmp 2), none, 0⟩,
    ⟨some 10, .mv (.tmp 35), none, 0⟩]) <|
  .keep [10] <|
  .ret⟩

theorem e_slices_medianOrdered_int64 : EntOK Try.prog (compD Try.prog) k_slices_medianOrdered_int64 i_slices_medianOrdered_int64.vf :=
  ⟨Try.f75, Try.f75.body.getD .skip, Try.func75, by kernel_rfl, by kernel_rfl, by kernel_rfl, by kernel_rfl, by kernel_rfl⟩

/-- cmp.isNaN[int64] -/
def i_cmp_isNaN_int64 : FF := ⟨6, [.tmp 2],
  .seq (.ops [
    ⟨some 2, .mv (.const (.bool false)), none, 0⟩]) <|
  .seq (.ops [
    ⟨some 3, .mv (.tmp 0), none, 0⟩,
    ⟨some 4, .mv (.tmp 0), none, 0⟩,
    ⟨some 5, .bin .neq (.tmp 3) (.tmp 4), none, 0⟩,
    ⟨some 2, .mv (.tmp 5), none, 0⟩]) <|
  .keep [2] <|
  .ret⟩

theorem e_cmp_isNaN_int64 : EntOK Try.prog (compD Try.prog) k_cmp_isNaN_int64 i_cmp_isNaN_int64.vf :=
  ⟨Try.f76, Try.f76.body.getD .skip, Try.func76, by kernel_rfl, by kernel_rfl, by kernel_rfl, by kernel_rfl, by kernel_rfl⟩

/-- slices.order2Ordered[int64] -/
def i_slices_order2Ordered_int64 : FF := ⟨28, [.tmp 8, .tmp 9],
  .seq (.ops [
    ⟨some 8, .mv (.const (.int .i64 0)), none, 0⟩,
    ⟨some 9, .mv (.const (.int .i64 0)), none, 0⟩]) <|
  .seq (.seq (.dops [
    ⟨some 10, .mv (.tmp 0), none, 0⟩,
    ⟨some 11, .mv (.tmp 2), none, 0⟩,
    ⟨some 12, .idx 1 (.tmp 10) (.tmp 11), none, 0⟩,
    ⟨some 13, .load false 1 (.tmp 12), none, 0⟩,
    ⟨some 14, .mv (.tmp 0), none, 0⟩,
    ⟨some 15, .mv (.tmp 1), none, 0⟩,
    ⟨some 16, .idx 1 (.tmp 14) (.tmp 15), none, 0⟩,
    ⟨some 17, .load false 1 (.tmp 16), none, 0⟩,
    ⟨some 18, .call k_cmp_Less_int64 [(.tmp 13), (.tmp 17)], none, 0⟩]) <|
  .cond (.tmp 18)
    (.seq (.ops [
      ⟨some 19, .mv (.tmp 3), none, 0⟩,
      ⟨some 20, .nilchk (.tmp 19), none, 0⟩,
      ⟨some 21, .load false 1 (.tmp 20), none, 0⟩,
      ⟨some 22, .bin .add (.tmp 21) (.const (.int .i64 1)), none, 0⟩,
      ⟨some 23, .nilchk (.tmp 19), none, 0⟩,
      ⟨none, .store 1 (.tmp 23) (.tmp 22), none, 0⟩]) <|
    .seq (.ops [
      ⟨some 24, .mv (.tmp 2), none, 0⟩,
      ⟨some 25, .mv (.tmp 1), none, 0⟩,
      ⟨some 8, .mv (.tmp 24), none, 0⟩,
      ⟨some 9, .mv (.tmp 25), none, 0⟩]) <|
    .keep [8, 9] <|
    .ret)
    (.skip)) <|
  .seq (.ops [
    ⟨some 26, .mv (.tmp 1), none, 0⟩,
    ⟨some 27, .mv (.tmp 2), none, 0⟩,
    ⟨some 8, .mv (.tmp 26), none, 0⟩,
    ⟨some 9, .mv (.tmp 27), none, 0⟩]) <|
  .keep [8, 9] <|
  .ret⟩

theorem e_slices_order2Ordered_int64 : EntOK Try.prog (compD Try.prog) k_slices_order2Ordered_int64 i_slices_order2Ordered_int64.vf :=
  ⟨Try.f81, Try.f81.body.getD .skip, Try.func81, by kernel_rfl, by kernel_rfl, by kernel_rfl, by kernel_rfl, by kernel_rfl⟩

def tab : List (Nat × FF) := [(k_laws_FnExactExchangeEdges, i_laws_FnExactExchangeEdges), (k_laws_szGraph, i_laws_szGraph), (k_spec_ExchangeEdges, i_spec_ExchangeEdges), (k_laws_toGraph, i_laws_toGraph), (k_impl_ExchangeEdges, i_impl_ExchangeEdges), (k_laws_eqGraph, i_laws_eqGraph), (k_laws_markGraph, i_laws_markGraph), (k_laws_heldGraph, i_laws_heldGraph), (k_laws_toInt64S, i_laws_toInt64S), (k_laws_eqInt64S, i_laws_eqInt64S), (k_laws_markInt64S, i_laws_markInt64S), (k_laws_heldInt64S, i_laws_heldInt64S), (k_laws_szInt64S, i_laws_szInt64S), (k_spec_l01Vertices, i_spec_l01Vertices), (k_spec_l01Has, i_spec_l01Has), (k_spec_l01Join, i_spec_l01Join), (k_spec_l01Cut, i_spec_l01Cut), (k_impl_graphCode, i_impl_graphCode), (k_slices_Sort_int64_int64, i_slices_Sort_int64_int64), (k_slices_Compact_int64_int64, i_slices_Compact_int64_int64), (k_impl_Graph_has, i_impl_Graph_has), (k_impl_own, i_impl_own), (k_impl_Graph_take, i_impl_Graph_take), (k_impl_Graph_put, i_impl_Graph_put), (k_spec_l01Is, i_spec_l01Is), (k_spec_l01In, i_spec_l01In), (k_spec_l01Copy, i_spec_l01Copy), (k_spec_l01Put, i_spec_l01Put), (k_impl_IsGraph, i_impl_IsGraph), (k_slices_pdqsortOrdered_int64, i_slices_pdqsortOrdered_int64), (k_math_bits_Len, i_math_bits_Len), (k_slices_Clone_int64_int64, i_slices_Clone_int64_int64), (k_spec_l01Own, i_spec_l01Own), (k_slices_insertionSortOrdered_int64, i_slices_insertionSortOrdered_int64), (k_slices_heapSortOrdered_int64, i_slices_heapSortOrdered_int64), (k_slices_breakPatternsOrdered_int64, i_slices_breakPatternsOrdered_int64), (k_slices_choosePivotOrdered_int64, i_slices_choosePivotOrdered_int64), (k_slices_reverseRangeOrdered_int64, i_slices_reverseRangeOrdered_int64), (k_slices_partialInsertionSortOrdered_int64, i_slices_partialInsertionSortOrdered_int64), (k_cmp_Less_int64, i_cmp_Less_int64), (k_slices_partitionEqualOrdered_int64, i_slices_partitionEqualOrdered_int64), (k_slices_partitionOrdered_int64, i_slices_partitionOrdered_int64), (k_math_bits_Len32, i_math_bits_Len32), (k_math_bits_Len64, i_math_bits_Len64), (k_slices_siftDownOrdered_int64, i_slices_siftDownOrdered_int64), (k_slices_nextPowerOfTwo, i_slices_nextPowerOfTwo), (k_slices_xorshift_Next, i_slices_xorshift_Next), (k_slices_medianAdjacentOrdered_int64, i_slices_medianAdjacentOrdered_int64), (k_slices_medianOrdered_int64, i_slices_medianOrdered_int64), (k_cmp_isNaN_int64, i_cmp_isNaN_int64), (k_slices_order2Ordered_int64, i_slices_order2Ordered_int64)]
theorem tabOK : ∀ p ∈ tab, EntOK Try.prog (compD Try.prog) p.1 p.2.vf := by
  intro p hp
  simp only [tab, List.mem_cons, List.not_mem_nil, or_false] at hp
  rcases hp with rfl | rfl | rfl | rfl | rfl | rfl | rfl | rfl | rfl | rfl | rfl | rfl | rfl | rfl | rfl | rfl | rfl | rfl | rfl | rfl | rfl | rfl | rfl | rfl | rfl | rfl | rfl | rfl | rfl | rfl | rfl | rfl | rfl | rfl | rfl | rfl | rfl | rfl | rfl | rfl | rfl | rfl | rfl | rfl | rfl | rfl | rfl | rfl | rfl | rfl | rfl
  · exact e_laws_FnExactExchangeEdges
  · exact e_laws_szGraph
  · exact e_spec_ExchangeEdges
  · exact e_laws_toGraph
  · exact e_impl_ExchangeEdges
  · exact e_laws_eqGraph
  · exact e_laws_markGraph
  · exact e_laws_heldGraph
  · exact e_laws_toInt64S
  · exact e_laws_eqInt64S
  · exact e_laws_markInt64S
  · exact e_laws_heldInt64S
  · exact e_laws_szInt64S
  · exact e_spec_l01Vertices
  · exact e_spec_l01Has
  · exact e_spec_l01Join
  · exact e_spec_l01Cut
  · exact e_impl_graphCode
  · exact e_slices_Sort_int64_int64
  · exact e_slices_Compact_int64_int64
  · exact e_impl_Graph_has
  · exact e_impl_own
  · exact e_impl_Graph_take
  · exact e_impl_Graph_put
  · exact e_spec_l01Is
  · exact e_spec_l01In
  · exact e_spec_l01Copy
  · exact e_spec_l01Put
  · exact e_impl_IsGraph
  · exact e_slices_pdqsortOrdered_int64
  · exact e_math_bits_Len
  · exact e_slices_Clone_int64_int64
  · exact e_spec_l01Own
  · exact e_slices_insertionSortOrdered_int64
  · exact e_slices_heapSortOrdered_int64
  · exact e_slices_breakPatternsOrdered_int64
  · exact e_slices_choosePivotOrdered_int64
  · exact e_slices_reverseRangeOrdered_int64
  · exact e_slices_partialInsertionSortOrdered_int64
  · exact e_cmp_Less_int64
  · exact e_slices_partitionEqualOrdered_int64
  · exact e_slices_partitionOrdered_int64
  · exact e_math_bits_Len32
  · exact e_math_bits_Len64
  · exact e_slices_siftDownOrdered_int64
  · exact e_slices_nextPowerOfTwo
  · exact e_slices_xorshift_Next
  · exact e_slices_medianAdjacentOrdered_int64
  · exact e_slices_medianOrdered_int64
  · exact e_cmp_isNaN_int64
  · exact e_slices_order2Ordered_int64

def F (n : Nat) : Option Ent := (tab.lookup n).map fun f => .ir f.vf
theorem v_laws_FnExactExchangeEdges {nro : Nat} {args : List Value} {h : VH} {r : Value × VH} (ha : args.length ≤ i_laws_FnExactExchangeEdges.ntmps) (hr : fbody (vcall F nro) nro i_laws_FnExactExchangeEdges args h = some r) : vcall F nro k_laws_FnExactExchangeEdges args h = some r := vcall_f (by kernel_rfl) (by kernel_rfl) ha hr
theorem v_laws_szGraph {nro : Nat} {args : List Value} {h : VH} {r : Value × VH} (ha : args.length ≤ i_laws_szGraph.ntmps) (hr : fbody (vcall F nro) nro i_laws_szGraph args h = some r) : vcall F nro k_laws_szGraph args h = some r := vcall_f (by kernel_rfl) (by kernel_rfl) ha hr
theorem v_spec_ExchangeEdges {nro : Nat} {args : List Value} {h : VH} {r : Value × VH} (ha : args.length ≤ i_spec_ExchangeEdges.ntmps) (hr : fbody (vcall F nro) nro i_spec_ExchangeEdges args h = some r) : vcall F nro k_spec_ExchangeEdges args h = some r := vcall_f (by kernel_rfl) (by kernel_rfl) ha hr
theorem v_laws_toGraph {nro : Nat} {args : List Value} {h : VH} {r : Value × VH} (ha : args.length ≤ i_laws_toGraph.ntmps) (hr : fbody (vcall F nro) nro i_laws_toGraph args h = some r) : vcall F nro k_laws_toGraph args h = some r := vcall_f (by kernel_rfl) (by kernel_rfl) ha hr
theorem v_impl_ExchangeEdges {nro : Nat} {args : List Value} {h : VH} {r : Value × VH} (ha : args.length ≤ i_impl_ExchangeEdges.ntmps) (hr : fbody (vcall F nro) nro i_impl_ExchangeEdges args h = some r) : vcall F nro k_impl_ExchangeEdges args h = some r := vcall_f (by kernel_rfl) (by kernel_rfl) ha hr
theorem v_laws_eqGraph {nro : Nat} {args : List Value} {h : VH} {r : Value × VH} (ha : args.length ≤ i_laws_eqGraph.ntmps) (hr : fbody (vcall F nro) nro i_laws_eqGraph args h = some r) : vcall F nro k_laws_eqGraph args h = some r := vcall_f (by kernel_rfl) (by kernel_rfl) ha hr
theorem v_laws_markGraph {nro : Nat} {args : List Value} {h : VH} {r : Value × VH} (ha : args.length ≤ i_laws_markGraph.ntmps) (hr : fbody (vcall F nro) nro i_laws_markGraph args h = some r) : vcall F nro k_laws_markGraph args h = some r := vcall_f (by kernel_rfl) (by kernel_rfl) ha hr
theorem v_laws_heldGraph {nro : Nat} {args : List Value} {h : VH} {r : Value × VH} (ha : args.length ≤ i_laws_heldGraph.ntmps) (hr : fbody (vcall F nro) nro i_laws_heldGraph args h = some r) : vcall F nro k_laws_heldGraph args h = some r := vcall_f (by kernel_rfl) (by kernel_rfl) ha hr
theorem v_laws_toInt64S {nro : Nat} {args : List Value} {h : VH} {r : Value × VH} (ha : args.length ≤ i_laws_toInt64S.ntmps) (hr : fbody (vcall F nro) nro i_laws_toInt64S args h = some r) : vcall F nro k_laws_toInt64S args h = some r := vcall_f (by kernel_rfl) (by kernel_rfl) ha hr
theorem v_laws_eqInt64S {nro : Nat} {args : List Value} {h : VH} {r : Value × VH} (ha : args.length ≤ i_laws_eqInt64S.ntmps) (hr : fbody (vcall F nro) nro i_laws_eqInt64S args h = some r) : vcall F nro k_laws_eqInt64S args h = some r := vcall_f (by kernel_rfl) (by kernel_rfl) ha hr
theorem v_laws_markInt64S {nro : Nat} {args : List Value} {h : VH} {r : Value × VH} (ha : args.length ≤ i_laws_markInt64S.ntmps) (hr : fbody (vcall F nro) nro i_laws_markInt64S args h = some r) : vcall F nro k_laws_markInt64S args h = some r := vcall_f (by kernel_rfl) (by kernel_rfl) ha hr
theorem v_laws_heldInt64S {nro : Nat} {args : List Value} {h : VH} {r : Value × VH} (ha : args.length ≤ i_laws_heldInt64S.ntmps) (hr : fbody (vcall F nro) nro i_laws_heldInt64S args h = some r) : vcall F nro k_laws_heldInt64S args h = some r := vcall_f (by kernel_rfl) (by kernel_rfl) ha hr
theorem v_laws_szInt64S {nro : Nat} {args : List Value} {h : VH} {r : Value × VH} (ha : args.length ≤ i_laws_szInt64S.ntmps) (hr : fbody (vcall F nro) nro i_laws_szInt64S args h = some r) : vcall F nro k_laws_szInt64S args h = some r := vcall_f (by kernel_rfl) (by kernel_rfl) ha hr
theorem v_spec_l01Vertices {nro : Nat} {args : List Value} {h : VH} {r : Value × VH} (ha : args.length ≤ i_spec_l01Vertices.ntmps) (hr : fbody (vcall F nro) nro i_spec_l01Vertices args h = some r) : vcall F nro k_spec_l01Vertices args h = some r := vcall_f (by kernel_rfl) (by kernel_rfl) ha hr
theorem v_spec_l01Has {nro : Nat} {args : List Value} {h : VH} {r : Value × VH} (ha : args.length ≤ i_spec_l01Has.ntmps) (hr : fbody (vcall F nro) nro i_spec_l01Has args h = some r) : vcall F nro k_spec_l01Has args h = some r := vcall_f (by kernel_rfl) (by kernel_rfl) ha hr
theorem v_spec_l01Join {nro : Nat} {args : List Value} {h : VH} {r : Value × VH} (ha : args.length ≤ i_spec_l01Join.ntmps) (hr : fbody (vcall F nro) nro i_spec_l01Join args h = some r) : vcall F nro k_spec_l01Join args h = some r := vcall_f (by kernel_rfl) (by kernel_rfl) ha hr
theorem v_spec_l01Cut {nro : Nat} {args : List Value} {h : VH} {r : Value × VH} (ha : args.length ≤ i_spec_l01Cut.ntmps) (hr : fbody (vcall F nro) nro i_spec_l01Cut args h = some r) : vcall F nro k_spec_l01Cut args h = some r := vcall_f (by kernel_rfl) (by kernel_rfl) ha hr
theorem v_impl_graphCode {nro : Nat} {args : List Value} {h : VH} {r : Value × VH} (ha : args.length ≤ i_impl_graphCode.ntmps) (hr : fbody (vcall F nro) nro i_impl_graphCode args h = some r) : vcall F nro k_impl_graphCode args h = some r := vcall_f (by kernel_rfl) (by kernel_rfl) ha hr
theorem v_slices_Sort_int64_int64 {nro : Nat} {args : List Value} {h : VH} {r : Value × VH} (ha : args.length ≤ i_slices_Sort_int64_int64.ntmps) (hr : fbody (vcall F nro) nro i_slices_Sort_int64_int64 args h = some r) : vcall F nro k_slices_Sort_int64_int64 args h = some r := vcall_f (by kernel_rfl) (by kernel_rfl) ha hr
theorem v_slices_Compact_int64_int64 {nro : Nat} {args : List Value} {h : VH} {r : Value × VH} (ha : args.length ≤ i_slices_Compact_int64_int64.ntmps) (hr : fbody (vcall F nro) nro i_slices_Compact_int64_int64 args h = some r) : vcall F nro k_slices_Compact_int64_int64 args h = some r := vcall_f (by kernel_rfl) (by kernel_rfl) ha hr
theorem v_impl_Graph_has {nro : Nat} {args : List Value} {h : VH} {r : Value × VH} (ha : args.length ≤ i_impl_Graph_has.ntmps) (hr : fbody (vcall F nro) nro i_impl_Graph_has args h = some r) : vcall F nro k_impl_Graph_has args h = some r := vcall_f (by kernel_rfl) (by kernel_rfl) ha hr
theorem v_impl_own {nro : Nat} {args : List Value} {h : VH} {r : Value × VH} (ha : args.length ≤ i_impl_own.ntmps) (hr : fbody (vcall F nro) nro i_impl_own args h = some r) : vcall F nro k_impl_own args h = some r := vcall_f (by kernel_rfl) (by kernel_rfl) ha hr
theorem v_impl_Graph_take {nro : Nat} {args : List Value} {h : VH} {r : Value × VH} (ha : args.length ≤ i_impl_Graph_take.ntmps) (hr : fbody (vcall F nro) nro i_impl_Graph_take args h = some r) : vcall F nro k_impl_Graph_take args h = some r := vcall_f (by kernel_rfl) (by kernel_rfl) ha hr
theorem v_impl_Graph_put {nro : Nat} {args : List Value} {h : VH} {r : Value × VH} (ha : args.length ≤ i_impl_Graph_put.ntmps) (hr : fbody (vcall F nro) nro i_impl_Graph_put args h = some r) : vcall F nro k_impl_Graph_put args h = some r := vcall_f (by kernel_rfl) (by kernel_rfl) ha hr
theorem v_spec_l01Is {nro : Nat} {args : List Value} {h : VH} {r : Value × VH} (ha : args.length ≤ i_spec_l01Is.ntmps) (hr : fbody (vcall F nro) nro i_spec_l01Is args h = some r) : vcall F nro k_spec_l01Is args h = some r := vcall_f (by kernel_rfl) (by kernel_rfl) ha hr
theorem v_spec_l01In {nro : Nat} {args : List Value} {h : VH} {r : Value × VH} (ha : args.length ≤ i_spec_l01In.ntmps) (hr : fbody (vcall F nro) nro i_spec_l01In args h = some r) : vcall F nro k_spec_l01In args h = some r := vcall_f (by kernel_rfl) (by kernel_rfl) ha hr
theorem v_spec_l01Copy {nro : Nat} {args : List Value} {h : VH} {r : Value × VH} (ha : args.length ≤ i_spec_l01Copy.ntmps) (hr : fbody (vcall F nro) nro i_spec_l01Copy args h = some r) : vcall F nro k_spec_l01Copy args h = some r := vcall_f (by kernel_rfl) (by kernel_rfl) ha hr
theorem v_spec_l01Put {nro : Nat} {args : List Value} {h : VH} {r : Value × VH} (ha : args.length ≤ i_spec_l01Put.ntmps) (hr : fbody (vcall F nro) nro i_spec_l01Put args h = some r) : vcall F nro k_spec_l01Put args h = some r := vcall_f (by kernel_rfl) (by kernel_rfl) ha hr
theorem v_impl_IsGraph {nro : Nat} {args : List Value} {h : VH} {r : Value × VH} (ha : args.length ≤ i_impl_IsGraph.ntmps) (hr : fbody (vcall F nro) nro i_impl_IsGraph args h = some r) : vcall F nro k_impl_IsGraph args h = some r := vcall_f (by kernel_rfl) (by kernel_rfl) ha hr
theorem v_slices_pdqsortOrdered_int64 {nro : Nat} {args : List Value} {h : VH} {r : Value × VH} (ha : args.length ≤ i_slices_pdqsortOrdered_int64.ntmps) (hr : fbody (vcall F nro) nro i_slices_pdqsortOrdered_int64 args h = some r) : vcall F nro k_slices_pdqsortOrdered_int64 args h = some r := vcall_f (by kernel_rfl) (by kernel_rfl) ha hr
theorem v_math_bits_Len {nro : Nat} {args : List Value} {h : VH} {r : Value × VH} (ha : args.length ≤ i_math_bits_Len.ntmps) (hr : fbody (vcall F nro) nro i_math_bits_Len args h = some r) : vcall F nro k_math_bits_Len args h = some r := vcall_f (by kernel_rfl) (by kernel_rfl) ha hr
theorem v_slices_Clone_int64_int64 {nro : Nat} {args : List Value} {h : VH} {r : Value × VH} (ha : args.length ≤ i_slices_Clone_int64_int64.ntmps) (hr : fbody (vcall F nro) nro i_slices_Clone_int64_int64 args h = some r) : vcall F nro k_slices_Clone_int64_int64 args h = some r := vcall_f (by kernel_rfl) (by kernel_rfl) ha hr
theorem v_spec_l01Own {nro : Nat} {args : List Value} {h : VH} {r : Value × VH} (ha : args.length ≤ i_spec_l01Own.ntmps) (hr : fbody (vcall F nro) nro i_spec_l01Own args h = some r) : vcall F nro k_spec_l01Own args h = some r := vcall_f (by kernel_rfl) (by kernel_rfl) ha hr
theorem v_slices_insertionSortOrdered_int64 {nro : Nat} {args : List Value} {h : VH} {r : Value × VH} (ha : args.length ≤ i_slices_insertionSortOrdered_int64.ntmps) (hr : fbody (vcall F nro) nro i_slices_insertionSortOrdered_int64 args h = some r) : vcall F nro k_slices_insertionSortOrdered_int64 args h = some r := vcall_f (by kernel_rfl) (by kernel_rfl) ha hr
theorem v_slices_heapSortOrdered_int64 {nro : Nat} {args : List Value} {h : VH} {r : Value × VH} (ha : args.length ≤ i_slices_heapSortOrdered_int64.ntmps) (hr : fbody (vcall F nro) nro i_slices_heapSortOrdered_int64 args h = some r) : vcall F nro k_slices_heapSortOrdered_int64 args h = some r := vcall_f (by kernel_rfl) (by kernel_rfl) ha hr
theorem v_slices_breakPatternsOrdered_int64 {nro : Nat} {args : List Value} {h : VH} {r : Value × VH} (ha : args.length ≤ i_slices_breakPatternsOrdered_int64.ntmps) (hr : fbody (vcall F nro) nro i_slices_breakPatternsOrdered_int64 args h = some r) : vcall F nro k_slices_breakPatternsOrdered_int64 args h = some r := vcall_f (by kernel_rfl) (by kernel_rfl) ha hr
theorem v_slices_choosePivotOrdered_int64 {nro : Nat} {args : List Value} {h : VH} {r : Value × VH} (ha : args.length ≤ i_slices_choosePivotOrdered_int64.ntmps) (hr : fbody (vcall F nro) nro i_slices_choosePivotOrdered_int64 args h = some r) : vcall F nro k_slices_choosePivotOrdered_int64 args h = some r := vcall_f (by kernel_rfl) (by kernel_rfl) ha hr
theorem v_slices_reverseRangeOrdered_int64 {nro : Nat} {args : List Value} {h : VH} {r : Value × VH} (ha : args.length ≤ i_slices_reverseRangeOrdered_int64.ntmps) (hr : fbody (vcall F nro) nro i_slices_reverseRangeOrdered_int64 args h = some r) : vcall F nro k_slices_reverseRangeOrdered_int64 args h = some r := vcall_f (by kernel_rfl) (by kernel_rfl) ha hr
theorem v_slices_partialInsertionSortOrdered_int64 {nro : Nat} {args : List Value} {h : VH} {r : Value × VH} (ha : args.length ≤ i_slices_partialInsertionSortOrdered_int64.ntmps) (hr : fbody (vcall F nro) nro i_slices_partialInsertionSortOrdered_int64 args h = some r) : vcall F nro k_slices_partialInsertionSortOrdered_int64 args h = some r := vcall_f (by kernel_rfl) (by kernel_rfl) ha hr
theorem v_cmp_Less_int64 {nro : Nat} {args : List Value} {h : VH} {r : Value × VH} (ha : args.length ≤ i_cmp_Less_int64.ntmps) (hr : fbody (vcall F nro) nro i_cmp_Less_int64 args h = some r) : vcall F nro k_cmp_Less_int64 args h = some r := vcall_f (by kernel_rfl) (by kernel_rfl) ha hr
theorem v_slices_partitionEqualOrdered_int64 {nro : Nat} {args : List Value} {h : VH} {r : Value × VH} (ha : args.length ≤ i_slices_partitionEqualOrdered_int64.ntmps) (hr : fbody (vcall F nro) nro i_slices_partitionEqualOrdered_int64 args h = some r) : vcall F nro k_slices_partitionEqualOrdered_int64 args h = some r := vcall_f (by kernel_rfl) (by kernel_rfl) ha hr
theorem v_slices_partitionOrdered_int64 {nro : Nat} {args : List Value} {h : VH} {r : Value × VH} (ha : args.length ≤ i_slices_partitionOrdered_int64.ntmps) (hr : fbody (vcall F nro) nro i_slices_partitionOrdered_int64 args h = some r) : vcall F nro k_slices_partitionOrdered_int64 args h = some r := vcall_f (by kernel_rfl) (by kernel_rfl) ha hr
theorem v_math_bits_Len32 {nro : Nat} {args : List Value} {h : VH} {r : Value × VH} (ha : args.length ≤ i_math_bits_Len32.ntmps) (hr : fbody (vcall F nro) nro i_math_bits_Len32 args h = some r) : vcall F nro k_math_bits_Len32 args h = some r := vcall_f (by kernel_rfl) (by kernel_rfl) ha hr
theorem v_math_bits_Len64 {nro : Nat} {args : List Value} {h : VH} {r : Value × VH} (ha : args.length ≤ i_math_bits_Len64.ntmps) (hr : fbody (vcall F nro) nro i_math_bits_Len64 args h = some r) : vcall F nro k_math_bits_Len64 args h = some r := vcall_f (by kernel_rfl) (by kernel_rfl) ha hr
theorem v_slices_siftDownOrdered_int64 {nro : Nat} {args : List Value} {h : VH} {r : Value × VH} (ha : args.length ≤ i_slices_siftDownOrdered_int64.ntmps) (hr : fbody (vcall F nro) nro i_slices_siftDownOrdered_int64 args h = some r) : vcall F nro k_slices_siftDownOrdered_int64 args h = some r := vcall_f (by kernel_rfl) (by kernel_rfl) ha hr
theorem v_slices_nextPowerOfTwo {nro : Nat} {args : List Value} {h : VH} {r : Value × VH} (ha : args.length ≤ i_slices_nextPowerOfTwo.ntmps) (hr : fbody (vcall F nro) nro i_slices_nextPowerOfTwo args h = some r) : vcall F nro k_slices_nextPowerOfTwo args h = some r := vcall_f (by kernel_rfl) (by kernel_rfl) ha hr
theorem v_slices_xorshift_Next {nro : Nat} {args : List Value} {h : VH} {r : Value × VH} (ha : args.length ≤ i_slices_xorshift_Next.ntmps) (hr : fbody (vcall F nro) nro i_slices_xorshift_Next args h = some r) : vcall F nro k_slices_xorshift_Next args h = some r := vcall_f (by kernel_rfl) (by kernel_rfl) ha hr
theorem v_slices_medianAdjacentOrdered_int64 {nro : Nat} {args : List Value} {h : VH} {r : Value × VH} (ha : args.length ≤ i_slices_medianAdjacentOrdered_int64.ntmps) (hr : fbody (vcall F nro) nro i_slices_medianAdjacentOrdered_int64 args h = some r) : vcall F nro k_slices_medianAdjacentOrdered_int64 args h = some r := vcall_f (by kernel_rfl) (by kernel_rfl) ha hr
theorem v_slices_medianOrdered_int64 {nro : Nat} {args : List Value} {h : VH} {r : Value × VH} (ha : args.length ≤ i_slices_medianOrdered_int64.ntmps) (hr : fbody (vcall F nro) nro i_slices_medianOrdered_int64 args h = some r) : vcall F nro k_slices_medianOrdered_int64 args h = some r := vcall_f (by kernel_rfl) (by kernel_rfl) ha hr
theorem v_cmp_isNaN_int64 {nro : Nat} {args : List Value} {h : VH} {r : Value × VH} (ha : args.length ≤ i_cmp_isNaN_int64.ntmps) (hr : fbody (vcall F nro) nro i_cmp_isNaN_int64 args h = some r) : vcall F nro k_cmp_isNaN_int64 args h = some r := vcall_f (by kernel_rfl) (by kernel_rfl) ha hr
theorem v_slices_order2Ordered_int64 {nro : Nat} {args : List Value} {h : VH} {r : Value × VH} (ha : args.length ≤ i_slices_order2Ordered_int64.ntmps) (hr : fbody (vcall F nro) nro i_slices_order2Ordered_int64 args h = some r) : vcall F nro k_slices_order2Ordered_int64 args h = some r := vcall_f (by kernel_rfl) (by kernel_rfl) ha hr

end Go.Proofs.Ythpgiimaadohcaa.Zv

