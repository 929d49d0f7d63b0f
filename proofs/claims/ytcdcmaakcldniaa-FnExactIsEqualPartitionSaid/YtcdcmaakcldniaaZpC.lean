/- Part C of the proof: ZwIr. Conditions: none. -/
import Derived.Test.YtcdcmaakcldniaaProg
import Derived.Test.YtcdcmaakcldniaaZpB
set_option linter.unusedSimpArgs false
set_option linter.unusedVariables false
/- The functions' intermediate form. -/
namespace Go.Proofs.Ytcdcmaakcldniaa.Zv
open Go
def k_laws_FnExactIsEqualPartition : Nat := 3
def k_laws_szGraph : Nat := 5
def k_spec_IsEqualPartition : Nat := 6
def k_laws_toGraph : Nat := 7
def k_laws_toInt64S : Nat := 8
def k_impl_IsEqualPartition : Nat := 9
def k_laws_eqGraph : Nat := 10
def k_laws_eqInt64S : Nat := 11
def k_laws_szInt64S : Nat := 17
def k_spec_l10Code : Nat := 18
def k_spec_l10Same : Nat := 19
def k_spec_l10Step : Nat := 20
def k_impl_partitionCode : Nat := 21
def k_slices_Equal_int64_int64 : Nat := 22
def k_impl_refined : Nat := 23
def k_spec_l01Is : Nat := 25
def k_spec_l10Is : Nat := 26
def k_spec_l10Counts : Nat := 27
def k_impl_IsGraph : Nat := 28
def k_impl_isPartition : Nat := 29
def k_slices_Clone_int64_int64 : Nat := 30
def k_impl_coloured_refine : Nat := 31
def k_impl_byFirst : Nat := 32
def k_spec_l01In : Nat := 33
def k_spec_l01Has : Nat := 34
def k_impl_coloured_many : Nat := 35
def k_impl_size : Nat := 36
def k_slices_SortFunc_impl_told_impl_told : Nat := 37
def k_impl_coloured_refine_1 : Nat := 38
def k_slices_Compare_int64_int64 : Nat := 39
def k_slices_Index_int64_int64 : Nat := 40
def k_slices_Max_int64_int64 : Nat := 41
def k_math_bits_OnesCount64 : Nat := 42
def k_slices_pdqsortCmpFunc_impl_told : Nat := 43
def k_math_bits_Len : Nat := 44
def k_cmp_Compare_int64 : Nat := 45
def k_slices_insertionSortCmpFunc_impl_told : Nat := 46
def k_slices_heapSortCmpFunc_impl_told : Nat := 47
def k_slices_breakPatternsCmpFunc_impl_told : Nat := 48
def k_slices_choosePivotCmpFunc_impl_told : Nat := 49
def k_slices_reverseRangeCmpFunc_impl_told : Nat := 50
def k_slices_partialInsertionSortCmpFunc_impl_told : Nat := 51
def k_slices_partitionEqualCmpFunc_impl_told : Nat := 52
def k_slices_partitionCmpFunc_impl_told : Nat := 53
def k_math_bits_Len32 : Nat := 54
def k_math_bits_Len64 : Nat := 55
def k_cmp_isNaN_int64 : Nat := 56
def k_slices_siftDownCmpFunc_impl_told : Nat := 57
def k_slices_nextPowerOfTwo : Nat := 58
def k_slices_xorshift_Next : Nat := 59
def k_slices_medianAdjacentCmpFunc_impl_told : Nat := 60
def k_slices_medianCmpFunc_impl_told : Nat := 61
def k_slices_order2CmpFunc_impl_told : Nat := 62
/-- loop.example/g01331/laws.FnExactIsEqualPartition -/
def i_laws_FnExactIsEqualPartition : FF := ⟨56, [.tmp 4],
  .seq (.ops [
    ⟨some 2, .box 2 (.tmp 0), none, 0⟩,
    ⟨some 4, .mv (.const (.bool false)), none, 0⟩]) <|
  .seq (.seq (.ops [
    ⟨some 12, .mv (.tmp 1), none, 0⟩,
    ⟨some 13, .len (.tmp 12), none, 0⟩,
    ⟨some 14, .bin .gtr (.tmp 13) (.const (.int .i64 1048576)), none, 0⟩]) <|
  .cond (.tmp 14)
    (.seq (.ops [
      ⟨some 4, .mv (.const (.bool true)), none, 0⟩]) <|
    .keep [4] <|
    .ret)
    (.skip)) <|
  .seq (.ops [
    ⟨some 5, .mv (.const (.int .i64 1048576)), none, 0⟩]) <|
  .seq (.ops [
    ⟨some 15, .load true 2 (.tmp 2), none, 0⟩,
    ⟨some 16, .mv (.tmp 5), none, 0⟩,
    ⟨some 17, .call k_laws_szGraph [(.tmp 15), (.tmp 16)], none, 0⟩,
    ⟨some 5, .mv (.tmp 17), none, 0⟩]) <|
  .seq (.seq (.ops [
    ⟨some 18, .mv (.tmp 5), none, 0⟩,
    ⟨some 19, .bin .lss (.tmp 18) (.const (.int .i64 0)), none, 0⟩]) <|
  .cond (.tmp 19)
    (.seq (.ops [
      ⟨some 4, .mv (.const (.bool true)), none, 0⟩]) <|
    .keep [4] <|
    .ret)
    (.skip)) <|
  .seq (.ops [
    ⟨some 21, .load true 2 (.tmp 2), none, 0⟩,
    ⟨some 22, .call k_laws_toGraph [(.tmp 21)], none, 0⟩,
    ⟨some 23, .mv (.tmp 1), none, 0⟩,
    ⟨some 24, .call k_laws_toInt64S [(.tmp 23)], none, 0⟩,
    ⟨some 25, .call k_spec_IsEqualPartition [(.tmp 22), (.tmp 24)], none, 0⟩,
    ⟨some 20, .mv (.tmp 25), none, 0⟩,
    ⟨some 26, .ext (.tmp 20) 0, none, 0⟩,
    ⟨some 27, .ext (.tmp 20) 1, none, 0⟩,
    ⟨some 6, .mv (.tmp 26), none, 0⟩,
    ⟨some 7, .mv (.tmp 27), none, 0⟩]) <|
  .seq (.ops [
    ⟨some 28, .load true 2 (.tmp 2), none, 0⟩,
    ⟨some 29, .call k_laws_toGraph [(.tmp 28)], none, 0⟩,
    ⟨some 8, .alloc [.int .i64 0, .slice none 0 0], none, 0⟩,
    ⟨none, .store 2 (.tmp 8) (.tmp 29), none, 0⟩]) <|
  .seq (.ops [
    ⟨some 30, .mv (.tmp 1), none, 0⟩,
    ⟨some 31, .call k_laws_toInt64S [(.tmp 30)], none, 0⟩,
    ⟨some 9, .mv (.tmp 31), none, 0⟩]) <|
  .seq (.ops [
    ⟨some 33, .load true 2 (.tmp 8), none, 0⟩,
    ⟨some 34, .mv (.tmp 9), none, 0⟩,
    ⟨some 35, .call k_impl_IsEqualPartition [(.tmp 33), (.tmp 34)], none, 0⟩,
    ⟨some 32, .mv (.tmp 35), none, 0⟩,
    ⟨some 36, .ext (.tmp 32) 0, none, 0⟩,
    ⟨some 37, .ext (.tmp 32) 1, none, 0⟩,
    ⟨some 10, .mv (.tmp 36), none, 0⟩,
    ⟨some 11, .mv (.tmp 37), none, 0⟩]) <|
  .seq (.seq (.ops [
    ⟨some 38, .mv (.tmp 10), none, 0⟩,
    ⟨some 39, .mv (.tmp 6), none, 0⟩,
    ⟨some 40, .beq true (.tmp 38) (.tmp 39), none, 0⟩,
    ⟨some 41, .mv (.tmp 40), none, 0⟩,
    ⟨some 42, .mv (.tmp 11), some (41, false), 0⟩,
    ⟨some 43, .mv (.tmp 7), some (41, false), 0⟩,
    ⟨some 44, .bin .neq (.tmp 42) (.tmp 43), some (41, false), 0⟩,
    ⟨some 45, .pick (.tmp 41) (.const (.bool true)) (.tmp 44), none, 0⟩]) <|
  .cond (.tmp 45)
    (.seq (.ops [
      ⟨some 4, .mv (.const (.bool false)), none, 0⟩]) <|
    .keep [4] <|
    .ret)
    (.skip)) <|
  .seq (.seq (.dops [
    ⟨some 47, .load true 2 (.tmp 2), none, 0⟩,
    ⟨some 48, .call k_laws_toGraph [(.tmp 47)], none, 0⟩,
    ⟨some 46, .load true 2 (.tmp 8), none, 1⟩,
    ⟨some 49, .call k_laws_eqGraph [(.tmp 46), (.tmp 48)], none, 0⟩,
    ⟨some 50, .un .not (.tmp 49), none, 0⟩]) <|
  .cond (.tmp 50)
    (.seq (.ops [
      ⟨some 4, .mv (.const (.bool false)), none, 0⟩]) <|
    .keep [4] <|
    .ret)
    (.skip)) <|
  .seq (.seq (.ops [
    ⟨some 51, .mv (.tmp 9), none, 0⟩,
    ⟨some 52, .mv (.tmp 1), none, 0⟩,
    ⟨some 53, .call k_laws_toInt64S [(.tmp 52)], none, 0⟩,
    ⟨some 54, .call k_laws_eqInt64S [(.tmp 51), (.tmp 53)], none, 0⟩,
    ⟨some 55, .un .not (.tmp 54), none, 0⟩]) <|
  .cond (.tmp 55)
    (.seq (.ops [
      ⟨some 4, .mv (.const (.bool false)), none, 0⟩]) <|
    .keep [4] <|
    .ret)
    (.skip)) <|
  .seq (.ops [
    ⟨some 4, .mv (.const (.bool true)), none, 0⟩]) <|
  .keep [4] <|
  .ret⟩

theorem e_laws_FnExactIsEqualPartition : EntOK Try.prog (compD Try.prog) k_laws_FnExactIsEqualPartition i_laws_FnExactIsEqualPartition.vf :=
  ⟨Try.f3, Try.f3.body.getD .skip, Try.func3, by kernel_rfl, by kernel_rfl, by kernel_rfl, by kernel_rfl, by kernel_rfl⟩

/-- loop.example/g01331/laws.szGraph -/
def i_laws_szGraph : FF := ⟨12, [.tmp 4],
  .seq (.ops [
    ⟨some 2, .box 2 (.tmp 0), none, 0⟩,
    ⟨some 4, .mv (.const (.int .i64 0)), none, 0⟩]) <|
  .seq (.ops [
    ⟨some 5, .fld 1 (.tmp 2), none, 0⟩,
    ⟨some 6, .load false 1 (.tmp 5), none, 0⟩,
    ⟨some 7, .mv (.tmp 1), none, 0⟩,
    ⟨some 8, .call k_laws_szInt64S [(.tmp 6), (.tmp 7)], none, 0⟩,
    ⟨some 1, .mv (.tmp 8), none, 0⟩]) <|
  .seq (.seq (.ops [
    ⟨some 9, .mv (.tmp 1), none, 0⟩,
    ⟨some 10, .bin .lss (.tmp 9) (.const (.int .i64 0)), none, 0⟩]) <|
  .cond (.tmp 10)
    (.seq (.ops [
      ⟨some 4, .mv (.const (.int .i64 (-1))), none, 0⟩]) <|
    .keep [4] <|
    .ret)
    (.skip)) <|
  .seq (.ops [
    ⟨some 11, .mv (.tmp 1), none, 0⟩,
    ⟨some 4, .mv (.tmp 11), none, 0⟩]) <|
  .keep [4] <|
  .ret⟩

theorem e_laws_szGraph : EntOK Try.prog (compD Try.prog) k_laws_szGraph i_laws_szGraph.vf :=
  ⟨Try.f5, Try.f5.body.getD .skip, Try.func5, by kernel_rfl, by kernel_rfl, by kernel_rfl, by kernel_rfl, by kernel_rfl⟩

/-- loop.example/g01331/spec.IsEqualPartition -/
def i_spec_IsEqualPartition : FF := ⟨18, [.tmp 4, .tmp 5],
  .seq (.ops [
    ⟨some 2, .box 2 (.tmp 0), none, 0⟩,
    ⟨some 4, .mv (.const (.bool false)), none, 0⟩,
    ⟨some 5, .mv (.const (.int .i64 0)), none, 0⟩]) <|
  .seq (.seq (.ops [
    ⟨some 7, .load true 2 (.tmp 2), none, 0⟩,
    ⟨some 8, .mv (.tmp 1), none, 0⟩,
    ⟨some 9, .call k_spec_l10Code [(.tmp 7), (.tmp 8)], none, 0⟩,
    ⟨some 6, .mv (.tmp 9), none, 0⟩]) <|
  .seq (.ops [
    ⟨some 10, .mv (.tmp 6), none, 0⟩,
    ⟨some 11, .bin .neq (.tmp 10) (.const (.int .i64 0)), none, 0⟩]) <|
  .cond (.tmp 11)
    (.seq (.ops [
      ⟨some 12, .mv (.tmp 6), none, 0⟩,
      ⟨some 4, .mv (.const (.bool false)), none, 0⟩,
      ⟨some 5, .mv (.tmp 12), none, 0⟩]) <|
    .keep [4, 5] <|
    .ret)
    (.skip)) <|
  .seq (.ops [
    ⟨some 13, .load true 2 (.tmp 2), none, 0⟩,
    ⟨some 14, .mv (.tmp 1), none, 0⟩,
    ⟨some 15, .call k_spec_l10Step [(.tmp 13), (.tmp 14)], none, 0⟩,
    ⟨some 16, .mv (.tmp 1), none, 0⟩,
    ⟨some 17, .call k_spec_l10Same [(.tmp 15), (.tmp 16)], none, 0⟩,
    ⟨some 4, .mv (.tmp 17), none, 0⟩,
    ⟨some 5, .mv (.const (.int .i64 0)), none, 0⟩]) <|
  .keep [4, 5] <|
  .ret⟩

theorem e_spec_IsEqualPartition : EntOK Try.prog (compD Try.prog) k_spec_IsEqualPartition i_spec_IsEqualPartition.vf :=
  ⟨Try.f6, Try.f6.body.getD .skip, Try.func6, by kernel_rfl, by kernel_rfl, by kernel_rfl, by kernel_rfl, by kernel_rfl⟩

/-- loop.example/g01331/laws.toGraph -/
def i_laws_toGraph : FF := ⟨12, [.cell 2 true 2],
  .seq (.ops [
    ⟨some 1, .box 2 (.tmp 0), none, 0⟩,
    ⟨some 2, .alloc [.int .i64 0, .slice none 0 0], none, 0⟩]) <|
  .seq (.ops [
    ⟨some 3, .alloc [.int .i64 0, .slice none 0 0], none, 0⟩]) <|
  .seq (.ops [
    ⟨some 4, .fld 0 (.tmp 1), none, 0⟩,
    ⟨some 5, .load false 1 (.tmp 4), none, 0⟩,
    ⟨some 6, .fld 0 (.tmp 3), none, 0⟩,
    ⟨none, .store 1 (.tmp 6) (.tmp 5), none, 0⟩]) <|
  .seq (.ops [
    ⟨some 7, .fld 1 (.tmp 1), none, 0⟩,
    ⟨some 8, .load false 1 (.tmp 7), none, 0⟩,
    ⟨some 9, .call k_laws_toInt64S [(.tmp 8)], none, 0⟩,
    ⟨some 10, .fld 1 (.tmp 3), none, 0⟩,
    ⟨none, .store 1 (.tmp 10) (.tmp 9), none, 0⟩]) <|
  .seq (.ops [
    ⟨some 11, .load true 2 (.tmp 3), none, 0⟩,
    ⟨none, .store 2 (.tmp 2) (.tmp 11), none, 0⟩]) <|
  .keep [2] <|
  .ret⟩

theorem e_laws_toGraph : EntOK Try.prog (compD Try.prog) k_laws_toGraph i_laws_toGraph.vf :=
  ⟨Try.f7, Try.f7.body.getD .skip, Try.func7, by kernel_rfl, by kernel_rfl, by kernel_rfl, by kernel_rfl, by kernel_rfl⟩

/-- loop.example/g01331/laws.toInt64S -/
def i_laws_toInt64S_B1 : FC :=
  .seq (.seq (.ops [
    ⟨some 8, .mv (.tmp 4), none, 0⟩,
    ⟨some 9, .mv (.tmp 0), none, 0⟩,
    ⟨some 10, .len (.tmp 9), none, 0⟩,
    ⟨some 11, .bin .lss (.tmp 8) (.tmp 10), none, 0⟩]) <|
  .cond (.tmp 11)
    (.skip)
    (.keep [3] <|
    .exit 0)) <|
  .seq (.block 1 <|
  .ops [
    ⟨some 14, .mv (.tmp 3), none, 0⟩,
    ⟨some 15, .mv (.tmp 4), none, 0⟩,
    ⟨some 16, .mv (.tmp 0), none, 0⟩,
    ⟨some 17, .mv (.tmp 4), none, 0⟩,
    ⟨some 18, .idx 1 (.tmp 16) (.tmp 17), none, 0⟩,
    ⟨some 19, .load false 1 (.tmp 18), none, 0⟩,
    ⟨some 20, .idx 1 (.tmp 14) (.tmp 15), none, 0⟩,
    ⟨none, .store 1 (.tmp 20) (.tmp 19), none, 0⟩]) <|
  .ops [
    ⟨some 12, .mv (.tmp 4), none, 0⟩,
    ⟨some 13, .bin .add (.tmp 12) (.const (.int .i64 1)), none, 0⟩,
    ⟨some 4, .mv (.tmp 13), none, 0⟩]
def i_laws_toInt64S : FF := ⟨22, [.tmp 2],
  .seq (.ops [
    ⟨some 2, .mv (.const (.slice none 0 0)), none, 0⟩]) <|
  .seq (.ops [
    ⟨some 5, .mv (.tmp 0), none, 0⟩,
    ⟨some 6, .len (.tmp 5), none, 0⟩,
    ⟨some 7, .mkSl 1 [.int .i64 0] 8 (.tmp 6) (.tmp 6), none, 0⟩,
    ⟨some 3, .mv (.tmp 7), none, 0⟩]) <|
  .seq (.seq (.ops [
    ⟨some 4, .mv (.const (.int .i64 0)), none, 0⟩]) <|
  .block 0 <|
  .loop [0, 3, 4] i_laws_toInt64S_B1) <|
  .seq (.ops [
    ⟨some 21, .mv (.tmp 3), none, 0⟩,
    ⟨some 2, .mv (.tmp 21), none, 0⟩]) <|
  .keep [2] <|
  .ret⟩

theorem e_laws_toInt64S : EntOK Try.prog (compD Try.prog) k_laws_toInt64S i_laws_toInt64S.vf :=
  ⟨Try.f8, Try.f8.body.getD .skip, Try.func8, by kernel_rfl, by kernel_rfl, by kernel_rfl, by kernel_rfl, by kernel_rfl⟩

/-- loop.example/g01331/impl.IsEqualPartition -/
def i_impl_IsEqualPartition : FF := ⟨18, [.tmp 4, .tmp 5],
  .seq (.ops [
    ⟨some 2, .box 2 (.tmp 0), none, 0⟩,
    ⟨some 4, .mv (.const (.bool false)), none, 0⟩,
    ⟨some 5, .mv (.const (.int .i64 0)), none, 0⟩]) <|
  .seq (.seq (.ops [
    ⟨some 7, .load true 2 (.tmp 2), none, 0⟩,
    ⟨some 8, .mv (.tmp 1), none, 0⟩,
    ⟨some 9, .call k_impl_partitionCode [(.tmp 7), (.tmp 8)], none, 0⟩,
    ⟨some 6, .mv (.tmp 9), none, 0⟩]) <|
  .seq (.ops [
    ⟨some 10, .mv (.tmp 6), none, 0⟩,
    ⟨some 11, .bin .neq (.tmp 10) (.const (.int .i64 0)), none, 0⟩]) <|
  .cond (.tmp 11)
    (.seq (.ops [
      ⟨some 12, .mv (.tmp 6), none, 0⟩,
      ⟨some 4, .mv (.const (.bool false)), none, 0⟩,
      ⟨some 5, .mv (.tmp 12), none, 0⟩]) <|
    .keep [4, 5] <|
    .ret)
    (.skip)) <|
  .seq (.ops [
    ⟨some 13, .load true 2 (.tmp 2), none, 0⟩,
    ⟨some 14, .mv (.tmp 1), none, 0⟩,
    ⟨some 15, .call k_impl_refined [(.tmp 13), (.tmp 14)], none, 0⟩,
    ⟨some 16, .mv (.tmp 1), none, 0⟩,
    ⟨some 17, .call k_slices_Equal_int64_int64 [(.tmp 15), (.tmp 16)], none, 0⟩,
    ⟨some 4, .mv (.tmp 17), none, 0⟩,
    ⟨some 5, .mv (.const (.int .i64 0)), none, 0⟩]) <|
  .keep [4, 5] <|
  .ret⟩

theorem e_impl_IsEqualPartition : EntOK Try.prog (compD Try.prog) k_impl_IsEqualPartition i_impl_IsEqualPartition.vf :=
  ⟨Try.f9, Try.f9.body.getD .skip, Try.func9, by kernel_rfl, by kernel_rfl, by kernel_rfl, by kernel_rfl, by kernel_rfl⟩

/-- loop.example/g01331/laws.eqGraph -/
def i_laws_eqGraph : FF := ⟨16, [.tmp 4],
  .seq (.ops [
    ⟨some 2, .box 2 (.tmp 0), none, 0⟩,
    ⟨some 3, .box 2 (.tmp 1), none, 0⟩,
    ⟨some 4, .mv (.const (.bool false)), none, 0⟩]) <|
  .seq (.seq (.ops [
    ⟨some 5, .fld 0 (.tmp 2), none, 0⟩,
    ⟨some 6, .load false 1 (.tmp 5), none, 0⟩,
    ⟨some 7, .fld 0 (.tmp 3), none, 0⟩,
    ⟨some 8, .load false 1 (.tmp 7), none, 0⟩,
    ⟨some 9, .bin .neq (.tmp 6) (.tmp 8), none, 0⟩]) <|
  .cond (.tmp 9)
    (.seq (.ops [
      ⟨some 4, .mv (.const (.bool false)), none, 0⟩]) <|
    .keep [4] <|
    .ret)
    (.skip)) <|
  .seq (.seq (.ops [
    ⟨some 10, .fld 1 (.tmp 2), none, 0⟩,
    ⟨some 11, .load false 1 (.tmp 10), none, 0⟩,
    ⟨some 12, .fld 1 (.tmp 3), none, 0⟩,
    ⟨some 13, .load false 1 (.tmp 12), none, 0⟩,
    ⟨some 14, .call k_laws_eqInt64S [(.tmp 11), (.tmp 13)], none, 0⟩,
    ⟨some 15, .un .not (.tmp 14), none, 0⟩]) <|
  .cond (.tmp 15)
    (.seq (.ops [
      ⟨some 4, .mv (.const (.bool false)), none, 0⟩]) <|
    .keep [4] <|
    .ret)
    (.skip)) <|
  .seq (.ops [
    ⟨some 4, .mv (.const (.bool true)), none, 0⟩]) <|
  .keep [4] <|
  .ret⟩

theorem e_laws_eqGraph : EntOK Try.prog (compD Try.prog) k_laws_eqGraph i_laws_eqGraph.vf :=
  ⟨Try.f10, Try.f10.body.getD .skip, Try.func10, by kernel_rfl, by kernel_rfl, by kernel_rfl, by kernel_rfl, by kernel_rfl⟩

/-- loop.example/g01331/laws.eqInt64S -/
def i_laws_eqInt64S_B1 : FC :=
  .seq (.seq (.ops [
    ⟨some 11, .mv (.tmp 5), none, 0⟩,
    ⟨some 12, .mv (.tmp 0), none, 0⟩,
    ⟨some 13, .len (.tmp 12), none, 0⟩,
    ⟨some 14, .bin .lss (.tmp 11) (.tmp 13), none, 0⟩]) <|
  .cond (.tmp 14)
    (.skip)
    (.keep [] <|
    .exit 0)) <|
  .seq (.block 1 <|
  .seq (.dops [
    ⟨some 17, .mv (.tmp 0), none, 0⟩,
    ⟨some 18, .mv (.tmp 5), none, 0⟩,
    ⟨some 19, .idx 1 (.tmp 17) (.tmp 18), none, 0⟩,
    ⟨some 20, .load false 1 (.tmp 19), none, 0⟩,
    ⟨some 21, .mv (.tmp 1), none, 0⟩,
    ⟨some 22, .mv (.tmp 5), none, 0⟩,
    ⟨some 23, .idx 1 (.tmp 21) (.tmp 22), none, 0⟩,
    ⟨some 24, .load false 1 (.tmp 23), none, 0⟩,
    ⟨some 25, .bin .neq (.tmp 20) (.tmp 24), none, 0⟩]) <|
  .cond (.tmp 25)
    (.seq (.ops [
      ⟨some 4, .mv (.const (.bool false)), none, 0⟩]) <|
    .keep [4] <|
    .ret)
    (.skip)) <|
  .ops [
    ⟨some 15, .mv (.tmp 5), none, 0⟩,
    ⟨some 16, .bin .add (.tmp 15) (.const (.int .i64 1)), none, 0⟩,
    ⟨some 5, .mv (.tmp 16), none, 0⟩]
def i_laws_eqInt64S : FF := ⟨26, [.tmp 4],
  .seq (.ops [
    ⟨some 4, .mv (.const (.bool false)), none, 0⟩]) <|
  .seq (.seq (.ops [
    ⟨some 6, .mv (.tmp 0), none, 0⟩,
    ⟨some 7, .len (.tmp 6), none, 0⟩,
    ⟨some 8, .mv (.tmp 1), none, 0⟩,
    ⟨some 9, .len (.tmp 8), none, 0⟩,
    ⟨some 10, .bin .neq (.tmp 7) (.tmp 9), none, 0⟩]) <|
  .cond (.tmp 10)
    (.seq (.ops [
      ⟨some 4, .mv (.const (.bool false)), none, 0⟩]) <|
    .keep [4] <|
    .ret)
    (.skip)) <|
  .seq (.seq (.ops [
    ⟨some 5, .mv (.const (.int .i64 0)), none, 0⟩]) <|
  .block 0 <|
  .loop [0, 1, 5] i_laws_eqInt64S_B1) <|
  .seq (.ops [
    ⟨some 4, .mv (.const (.bool true)), none, 0⟩]) <|
  .keep [4] <|
  .ret⟩

theorem e_laws_eqInt64S : EntOK Try.prog (compD Try.prog) k_laws_eqInt64S i_laws_eqInt64S.vf :=
  ⟨Try.f11, Try.f11.body.getD .skip, Try.func11, by kernel_rfl, by kernel_rfl, by kernel_rfl, by kernel_rfl, by kernel_rfl⟩

/-- loop.example/g01331/laws.szInt64S -/
def i_laws_szInt64S : FF := ⟨12, [.tmp 4],
  .seq (.ops [
    ⟨some 4, .mv (.const (.int .i64 0)), none, 0⟩]) <|
  .seq (.ops [
    ⟨some 5, .mv (.tmp 1), none, 0⟩,
    ⟨some 6, .mv (.tmp 0), none, 0⟩,
    ⟨some 7, .len (.tmp 6), none, 0⟩,
    ⟨some 8, .bin .sub (.tmp 5) (.tmp 7), none, 0⟩,
    ⟨some 1, .mv (.tmp 8), none, 0⟩]) <|
  .seq (.seq (.ops [
    ⟨some 9, .mv (.tmp 1), none, 0⟩,
    ⟨some 10, .bin .lss (.tmp 9) (.const (.int .i64 0)), none, 0⟩]) <|
  .cond (.tmp 10)
    (.seq (.ops [
      ⟨some 4, .mv (.const (.int .i64 (-1))), none, 0⟩]) <|
    .keep [4] <|
    .ret)
    (.skip)) <|
  .seq (.ops [
    ⟨some 11, .mv (.tmp 1), none, 0⟩,
    ⟨some 4, .mv (.tmp 11), none, 0⟩]) <|
  .keep [4] <|
  .ret⟩

theorem e_laws_szInt64S : EntOK Try.prog (compD Try.prog) k_laws_szInt64S i_laws_szInt64S.vf :=
  ⟨Try.f17, Try.f17.body.getD .skip, Try.func17, by kernel_rfl, by kernel_rfl, by kernel_rfl, by kernel_rfl, by kernel_rfl⟩

/-- loop.example/g01331/spec.l10Code -/
def i_spec_l10Code : FF := ⟨14, [.tmp 4],
  .seq (.ops [
    ⟨some 2, .box 2 (.tmp 0), none, 0⟩,
    ⟨some 4, .mv (.const (.int .i64 0)), none, 0⟩]) <|
  .seq (.block 0 <|
  .seq (.ops [
    ⟨some 6, .load true 2 (.tmp 2), none, 0⟩,
    ⟨some 7, .call k_spec_l01Is [(.tmp 6)], none, 0⟩,
    ⟨some 8, .un .not (.tmp 7), none, 0⟩,
    ⟨some 5, .mv (.tmp 8), none, 0⟩]) <|
  .cond (.tmp 5)
    (.seq (.ops [
      ⟨some 4, .mv (.const (.int .i64 1)), none, 0⟩]) <|
    .keep [4] <|
    .ret)
    (.seq (.ops [
      ⟨some 10, .load true 2 (.tmp 2), none, 0⟩,
      ⟨some 11, .mv (.tmp 1), none, 0⟩,
      ⟨some 12, .call k_spec_l10Is [(.tmp 10), (.tmp 11)], none, 0⟩,
      ⟨some 13, .un .not (.tmp 12), none, 0⟩,
      ⟨some 9, .mv (.tmp 13), none, 0⟩]) <|
    .cond (.tmp 9)
      (.seq (.ops [
        ⟨some 4, .mv (.const (.int .i64 2)), none, 0⟩]) <|
      .keep [4] <|
      .ret)
      (.skip))) <|
  .seq (.ops [
    ⟨some 4, .mv (.const (.int .i64 0)), none, 0⟩]) <|
  .keep [4] <|
  .ret⟩

theorem e_spec_l10Code : EntOK Try.prog (compD Try.prog) k_spec_l10Code i_spec_l10Code.vf :=
  ⟨Try.f18, Try.f18.body.getD .skip, Try.func18, by kernel_rfl, by kernel_rfl, by kernel_rfl, by kernel_rfl, by kernel_rfl⟩

/-- loop.example/g01331/spec.l10Same -/
def i_spec_l10Same_B1 : FC :=
  .seq (.seq (.ops [
    ⟨some 6, .mv (.tmp 5), none, 0⟩,
    ⟨some 7, .mv (.tmp 0), none, 0⟩,
    ⟨some 8, .len (.tmp 7), none, 0⟩,
    ⟨some 9, .bin .lss (.tmp 6) (.tmp 8), none, 0⟩]) <|
  .cond (.tmp 9)
    (.skip)
    (.keep [] <|
    .exit 0)) <|
  .seq (.block 1 <|
  .seq (.dops [
    ⟨some 12, .mv (.tmp 0), none, 0⟩,
    ⟨some 13, .mv (.tmp 5), none, 0⟩,
    ⟨some 14, .idx 1 (.tmp 12) (.tmp 13), none, 0⟩,
    ⟨some 15, .load false 1 (.tmp 14), none, 0⟩,
    ⟨some 16, .mv (.tmp 1), none, 0⟩,
    ⟨some 17, .mv (.tmp 5), none, 0⟩,
    ⟨some 18, .idx 1 (.tmp 16) (.tmp 17), none, 0⟩,
    ⟨some 19, .load false 1 (.tmp 18), none, 0⟩,
    ⟨some 20, .bin .neq (.tmp 15) (.tmp 19), none, 0⟩]) <|
  .cond (.tmp 20)
    (.seq (.ops [
      ⟨some 4, .mv (.const (.bool false)), none, 0⟩]) <|
    .keep [4] <|
    .ret)
    (.skip)) <|
  .ops [
    ⟨some 10, .mv (.tmp 5), none, 0⟩,
    ⟨some 11, .bin .add (.tmp 10) (.const (.int .i64 1)), none, 0⟩,
    ⟨some 5, .mv (.tmp 11), none, 0⟩]
def i_spec_l10Same : FF := ⟨21, [.tmp 4],
  .seq (.ops [
    ⟨some 4, .mv (.const (.bool false)), none, 0⟩]) <|
  .seq (.seq (.ops [
    ⟨some 5, .mv (.const (.int .i64 0)), none, 0⟩]) <|
  .block 0 <|
  .loop [0, 1, 5] i_spec_l10Same_B1) <|
  .seq (.ops [
    ⟨some 4, .mv (.const (.bool true)), none, 0⟩]) <|
  .keep [4] <|
  .ret⟩

theorem e_spec_l10Same : EntOK Try.prog (compD Try.prog) k_spec_l10Same i_spec_l10Same.vf :=
  ⟨Try.f19, Try.f19.body.getD .skip, Try.func19, by kernel_rfl, by kernel_rfl, by kernel_rfl, by kernel_rfl, by kernel_rfl⟩

/-- loop.example/g01331/spec.l10Step -/
def i_spec_l10Step_B1 : FC :=
  .seq (.seq (.ops [
    ⟨some 24, .mv (.tmp 11), none, 0⟩,
    ⟨some 25, .mv (.tmp 8), none, 0⟩,
    ⟨some 26, .bin .lss (.tmp 24) (.tmp 25), none, 0⟩]) <|
  .cond (.tmp 26)
    (.skip)
    (.keep [1, 2, 5, 6, 7, 8, 9, 10] <|
    .exit 2)) <|
  .seq (.block 3 <|
  .seq (.dops [
    ⟨some 29, .mv (.tmp 1), none, 0⟩,
    ⟨some 30, .mv (.tmp 11), none, 0⟩,
    ⟨some 31, .idx 1 (.tmp 29) (.tmp 30), none, 0⟩,
    ⟨some 32, .load false 1 (.tmp 31), none, 0⟩,
    ⟨some 33, .mv (.tmp 1), none, 0⟩,
    ⟨some 34, .mv (.tmp 8), none, 0⟩,
    ⟨some 35, .idx 1 (.tmp 33) (.tmp 34), none, 0⟩,
    ⟨some 36, .load false 1 (.tmp 35), none, 0⟩,
    ⟨some 37, .bin .eql (.tmp 32) (.tmp 36), none, 0⟩,
    ⟨some 38, .mv (.tmp 37), none, 0⟩,
    ⟨some 39, .mv (.tmp 5), some (38, true), 0⟩,
    ⟨some 40, .mv (.tmp 11), some (38, true), 0⟩,
    ⟨some 41, .idx 1 (.tmp 39) (.tmp 40), some (38, true), 0⟩,
    ⟨some 42, .load false 1 (.tmp 41), some (38, true), 0⟩,
    ⟨some 43, .mv (.tmp 9), some (38, true), 0⟩,
    ⟨some 44, .call k_spec_l10Same [(.tmp 42), (.tmp 43)], some (38, true), 0⟩,
    ⟨some 45, .pick (.tmp 38) (.tmp 44) (.const (.bool false)), none, 0⟩]) <|
  .cond (.tmp 45)
    (.seq (.ops [
      ⟨some 46, .mv (.tmp 6), none, 0⟩,
      ⟨some 47, .mv (.tmp 11), none, 0⟩,
      ⟨some 48, .idx 1 (.tmp 46) (.tmp 47), none, 0⟩,
      ⟨some 49, .load false 1 (.tmp 48), none, 0⟩,
      ⟨some 10, .mv (.tmp 49), none, 0⟩]) <|
    .keep [1, 2, 5, 6, 7, 8, 9, 10] <|
    .exit 2)
    (.skip)) <|
  .ops [
    ⟨some 27, .mv (.tmp 11), none, 0⟩,
    ⟨some 28, .bin .add (.tmp 27) (.const (.int .i64 1)), none, 0⟩,
    ⟨some 11, .mv (.tmp 28), none, 0⟩]
def i_spec_l10Step_B2 : FC :=
  .seq (.seq (.ops [
    ⟨some 14, .mv (.tmp 8), none, 0⟩,
    ⟨some 15, .fld 0 (.tmp 2), none, 0⟩,
    ⟨some 16, .load false 1 (.tmp 15), none, 0⟩,
    ⟨some 17, .bin .lss (.tmp 14) (.tmp 16), none, 0⟩]) <|
  .cond (.tmp 17)
    (.skip)
    (.keep [6] <|
    .exit 0)) <|
  .seq (.block 1 <|
  .seq (.ops [
    ⟨some 20, .load true 2 (.tmp 2), none, 0⟩,
    ⟨some 21, .mv (.tmp 1), none, 0⟩,
    ⟨some 22, .mv (.tmp 8), none, 0⟩,
    ⟨some 23, .call k_spec_l10Counts [(.tmp 20), (.tmp 21), (.tmp 22)], none, 0⟩,
    ⟨some 9, .mv (.tmp 23), none, 0⟩,
    ⟨some 10, .mv (.const (.int .i64 (-1))), none, 0⟩]) <|
  .seq (.seq (.ops [
    ⟨some 11, .mv (.const (.int .i64 0)), none, 0⟩]) <|
  .block 2 <|
  .loop [1, 2, 5, 6, 7, 8, 9, 10, 11] i_spec_l10Step_B1) <|
  .seq (.seq (.ops [
    ⟨some 50, .mv (.tmp 10), none, 0⟩,
    ⟨some 51, .bin .lss (.tmp 50) (.const (.int .i64 0)), none, 0⟩]) <|
  .cond (.tmp 51)
    (.seq (.ops [
      ⟨some 52, .mv (.tmp 7), none, 0⟩,
      ⟨some 10, .mv (.tmp 52), none, 0⟩]) <|
    .ops [
      ⟨some 53, .mv (.tmp 7), none, 0⟩,
      ⟨some 54, .bin .add (.tmp 53) (.const (.int .i64 1)), none, 0⟩,
      ⟨some 7, .mv (.tmp 54), none, 0⟩])
    (.skip)) <|
  .seq (.ops [
    ⟨some 55, .mv (.tmp 5), none, 0⟩,
    ⟨some 56, .mv (.tmp 9), none, 0⟩,
    ⟨some 57, .buildSl 1 [.slice none 0 0] [(0, 1, (.tmp 56))] 1, none, 0⟩,
    ⟨some 58, .app 1 24 [.slice none 0 0] (.tmp 55) (.tmp 57), none, 0⟩,
    ⟨some 5, .mv (.tmp 58), none, 0⟩]) <|
  .ops [
    ⟨some 59, .mv (.tmp 6), none, 0⟩,
    ⟨some 60, .mv (.tmp 10), none, 0⟩,
    ⟨some 61, .buildSl 1 [.int .i64 0] [(0, 1, (.tmp 60))] 1, none, 0⟩,
    ⟨some 62, .app 1 8 [.int .i64 0] (.tmp 59) (.tmp 61), none, 0⟩,
    ⟨some 6, .mv (.tmp 62), none, 0⟩]) <|
  .ops [
    ⟨some 18, .mv (.tmp 8), none, 0⟩,
    ⟨some 19, .bin .add (.tmp 18) (.const (.int .i64 1)), none, 0⟩,
    ⟨some 8, .mv (.tmp 19), none, 0⟩]
def i_spec_l10Step : FF := ⟨64, [.tmp 4],
  .seq (.ops [
    ⟨some 2, .box 2 (.tmp 0), none, 0⟩,
    ⟨some 4, .mv (.const (.slice none 0 0)), none, 0⟩]) <|
  .seq (.ops [
    ⟨some 12, .buildSl 1 [] [] 0, none, 0⟩,
    ⟨some 13, .buildSl 1 [] [] 0, none, 0⟩,
    ⟨some 5, .mv (.tmp 12), none, 0⟩,
    ⟨some 6, .mv (.tmp 13), none, 0⟩,
    ⟨some 7, .mv (.const (.int .i64 0)), none, 0⟩]) <|
  .seq (.seq (.ops [
    ⟨some 8, .mv (.const (.int .i64 0)), none, 0⟩]) <|
  .block 0 <|
  .loop [1, 2, 5, 6, 7, 8] i_spec_l10Step_B2) <|
  .seq (.ops [
    ⟨some 63, .mv (.tmp 6), none, 0⟩,
    ⟨some 4, .mv (.tmp 63), none, 0⟩]) <|
  .keep [4] <|
  .ret⟩

theorem e_spec_l10Step : EntOK Try.prog (compD Try.prog) k_spec_l10Step i_spec_l10Step.vf :=
  ⟨Try.f20, Try.f20.body.getD .skip, Try.func20, by kernel_rfl, by kernel_rfl, by kernel_rfl, by kernel_rfl, by kernel_rfl⟩

/-- loop.example/g01331/impl.partitionCode -/
def i_impl_partitionCode : FF := ⟨14, [.tmp 4],
  .seq (.ops [
    ⟨some 2, .box 2 (.tmp 0), none, 0⟩,
    ⟨some 4, .mv (.const (.int .i64 0)), none, 0⟩]) <|
  .seq (.block 0 <|
  .seq (.ops [
    ⟨some 6, .load true 2 (.tmp 2), none, 0⟩,
    ⟨some 7, .call k_impl_IsGraph [(.tmp 6)], none, 0⟩,
    ⟨some 8, .un .not (.tmp 7), none, 0⟩,
    ⟨some 5, .mv (.tmp 8), none, 0⟩]) <|
  .cond (.tmp 5)
    (.seq (.ops [
      ⟨some 4, .mv (.const (.int .i64 1)), none, 0⟩]) <|
    .keep [4] <|
    .ret)
    (.seq (.ops [
      ⟨some 10, .load true 2 (.tmp 2), none, 0⟩,
      ⟨some 11, .mv (.tmp 1), none, 0⟩,
      ⟨some 12, .call k_impl_isPartition [(.tmp 10), (.tmp 11)], none, 0⟩,
      ⟨some 13, .un .not (.tmp 12), none, 0⟩,
      ⟨some 9, .mv (.tmp 13), none, 0⟩]) <|
    .cond (.tmp 9)
      (.seq (.ops [
        ⟨some 4, .mv (.const (.int .i64 2)), none, 0⟩]) <|
      .keep [4] <|
      .ret)
      (.skip))) <|
  .seq (.ops [
    ⟨some 4, .mv (.const (.int .i64 0)), none, 0⟩]) <|
  .keep [4] <|
  .ret⟩

theorem e_impl_partitionCode : EntOK Try.prog (compD Try.prog) k_impl_partitionCode i_impl_partitionCode.vf :=
  ⟨Try.f21, Try.f21.body.getD .skip, Try.func21, by kernel_rfl, by kernel_rfl, by kernel_rfl, by kernel_rfl, by kernel_rfl⟩

/-- slices.Equal[[]int64,int64] -/
def i_slices_Equal_int64_int64_B1 : FC :=
  .seq (.ops [
    ⟨some 14, .bin .lss (.tmp 13) (.tmp 12), none, 0⟩]) <|
  .seq (.cond (.tmp 14)
    (.skip)
    (.keep [] <|
    .exit 0)) <|
  .seq (.block 1 <|
  .seq (.ops [
    ⟨some 15, .mv (.tmp 13), none, 0⟩,
    ⟨some 5, .mv (.tmp 15), none, 0⟩]) <|
  .seq (.dops [
    ⟨some 16, .mv (.tmp 0), none, 0⟩,
    ⟨some 17, .mv (.tmp 5), none, 0⟩,
    ⟨some 18, .idx 1 (.tmp 16) (.tmp 17), none, 0⟩,
    ⟨some 19, .load false 1 (.tmp 18), none, 0⟩,
    ⟨some 20, .mv (.tmp 1), none, 0⟩,
    ⟨some 21, .mv (.tmp 5), none, 0⟩,
    ⟨some 22, .idx 1 (.tmp 20) (.tmp 21), none, 0⟩,
    ⟨some 23, .load false 1 (.tmp 22), none, 0⟩,
    ⟨some 24, .bin .neq (.tmp 19) (.tmp 23), none, 0⟩]) <|
  .cond (.tmp 24)
    (.seq (.ops [
      ⟨some 4, .mv (.const (.bool false)), none, 0⟩]) <|
    .keep [4] <|
    .ret)
    (.skip)) <|
  .ops [
    ⟨some 25, .bin .add (.tmp 13) (.const (.int .i64 1)), none, 0⟩,
    ⟨some 13, .mv (.tmp 25), none, 0⟩]
def i_slices_Equal_int64_int64 : FF := ⟨26, [.tmp 4],
  .seq (.ops [
    ⟨some 4, .mv (.const (.bool false)), none, 0⟩]) <|
  .seq (.seq (.ops [
    ⟨some 6, .mv (.tmp 0), none, 0⟩,
    ⟨some 7, .len (.tmp 6), none, 0⟩,
    ⟨some 8, .mv (.tmp 1), none, 0⟩,
    ⟨some 9, .len (.tmp 8), none, 0⟩,
    ⟨some 10, .bin .neq (.tmp 7) (.tmp 9), none, 0⟩]) <|
  .cond (.tmp 10)
    (.seq (.ops [
      ⟨some 4, .mv (.const (.bool false)), none, 0⟩]) <|
    .keep [4] <|
    .ret)
    (.skip)) <|
  .seq (.seq (.ops [
    ⟨some 11, .mv (.tmp 0), none, 0⟩,
    ⟨some 12, .len (.tmp 11), none, 0⟩,
    ⟨some 13, .mv (.const (.int .i64 0)), none, 0⟩]) <|
  .block 0 <|
  .loop [0, 1, 12, 13] i_slices_Equal_int64_int64_B1) <|
  .seq (.ops [
    ⟨some 4, .mv (.const (.bool true)), none, 0⟩]) <|
  .keep [4] <|
  .ret⟩

theorem e_slices_Equal_int64_int64 : EntOK Try.prog (compD Try.prog) k_slices_Equal_int64_int64 i_slices_Equal_int64_int64.vf :=
  ⟨Try.f22, Try.f22.body.getD .skip, Try.func22, by kernel_rfl, by kernel_rfl, by kernel_rfl, by kernel_rfl, by kernel_rfl⟩

/-- loop.example/g01331/impl.refined -/
def i_impl_refined : FF := ⟨22, [.tmp 4],
  .seq (.ops [
    ⟨some 2, .box 2 (.tmp 0), none, 0⟩,
    ⟨some 4, .mv (.const (.slice none 0 0)), none, 0⟩]) <|
  .seq (.dops [
    ⟨some 8, .mv (.tmp 1), none, 0⟩,
    ⟨some 9, .call k_slices_Clone_int64_int64 [(.tmp 8)], none, 0⟩,
    ⟨some 6, .load true 2 (.tmp 2), none, 1⟩,
    ⟨some 7, .buildSl 2 [.int .i64 0, .slice none 0 0] [(0, 2, (.tmp 6))] 1, none, 1⟩,
    ⟨some 10, .buildSl 1 [.slice none 0 0] [(0, 1, (.tmp 9))] 1, none, 1⟩,
    ⟨some 11, .build [.slice none 0 0, .slice none 0 0] [(0, 1, (.tmp 7)), (1, 1, (.tmp 10))], none, 2⟩,
    ⟨some 12, .box 2 (.tmp 11), none, 2⟩,
    ⟨some 5, .mv (.tmp 12), none, 2⟩]) <|
  .seq (.ops [
    ⟨some 13, .mv (.tmp 5), none, 0⟩,
    ⟨some 14, .call k_impl_coloured_refine [(.tmp 13)], none, 0⟩]) <|
  .seq (.ops [
    ⟨some 15, .mv (.tmp 5), none, 0⟩,
    ⟨some 16, .nilchk (.tmp 15), none, 0⟩,
    ⟨some 17, .fld 1 (.tmp 16), none, 0⟩,
    ⟨some 18, .load false 1 (.tmp 17), none, 0⟩,
    ⟨some 19, .idx 1 (.tmp 18) (.const (.int .i64 0)), none, 0⟩,
    ⟨some 20, .load false 1 (.tmp 19), none, 0⟩,
    ⟨some 21, .call k_impl_byFirst [(.tmp 20)], none, 0⟩,
    ⟨some 4, .mv (.tmp 21), none, 0⟩]) <|
  .keep [4] <|
  .ret⟩

theorem e_impl_refined : EntOK Try.prog (compD Try.prog) k_impl_refined i_impl_refined.vf :=
  ⟨Try.f23, Try.f23.body.getD .skip, Try.func23, by kernel_rfl, by kernel_rfl, by kernel_rfl, by kernel_rfl, by kernel_rfl⟩

/-- loop.example/g01331/spec.l01Is -/
def i_spec_l01Is_B1 : FC :=
  .seq (.seq (.ops [
    ⟨some 18, .mv (.tmp 3), none, 0⟩,
    ⟨some 19, .fld 0 (.tmp 1), none, 0⟩,
    ⟨some 20, .load false 1 (.tmp 19), none, 0⟩,
    ⟨some 21, .bin .lss (.tmp 18) (.tmp 20), none, 0⟩]) <|
  .cond (.tmp 21)
    (.skip)
    (.keep [1] <|
    .exit 0)) <|
  .seq (.block 1 <|
  .seq (.dops [
    ⟨some 24, .fld 1 (.tmp 1), none, 0⟩,
    ⟨some 25, .load false 1 (.tmp 24), none, 0⟩,
    ⟨some 26, .mv (.tmp 3), none, 0⟩,
    ⟨some 27, .idx 1 (.tmp 25) (.tmp 26), none, 0⟩,
    ⟨some 28, .load false 1 (.tmp 27), none, 0⟩,
    ⟨some 29, .fld 0 (.tmp 1), none, 0⟩,
    ⟨some 30, .load false 1 (.tmp 29), none, 0⟩,
    ⟨some 31, .conv .u64 (.tmp 30), none, 0⟩,
    ⟨some 32, .bin .shl (.const (.int .i64 1)) (.tmp 31), none, 0⟩,
    ⟨some 33, .bin .sub (.tmp 32) (.const (.int .i64 1)), none, 0⟩,
    ⟨some 34, .call k_spec_l01In [(.tmp 28), (.const (.int .i64 0)), (.tmp 33)], none, 0⟩,
    ⟨some 35, .un .not (.tmp 34), none, 0⟩,
    ⟨some 36, .mv (.tmp 35), none, 0⟩,
    ⟨some 37, .load true 2 (.tmp 1), some (36, false), 0⟩,
    ⟨some 38, .mv (.tmp 3), some (36, false), 0⟩,
    ⟨some 39, .mv (.tmp 3), some (36, false), 0⟩,
    ⟨some 40, .call k_spec_l01Has [(.tmp 37), (.tmp 38), (.tmp 39)], some (36, false), 0⟩,
    ⟨some 41, .pick (.tmp 36) (.const (.bool true)) (.tmp 40), none, 0⟩]) <|
  .cond (.tmp 41)
    (.seq (.ops [
      ⟨some 2, .mv (.const (.bool false)), none, 0⟩]) <|
    .keep [2] <|
    .ret)
    (.skip)) <|
  .ops [
    ⟨some 22, .mv (.tmp 3), none, 0⟩,
    ⟨some 23, .bin .add (.tmp 22) (.const (.int .i64 1)), none, 0⟩,
    ⟨some 3, .mv (.tmp 23), none, 0⟩]
def i_spec_l01Is_B2 : FC :=
  .seq (.seq (.ops [
    ⟨some 48, .mv (.tmp 5), none, 0⟩,
    ⟨some 49, .mv (.tmp 4), none, 0⟩,
    ⟨some 50, .bin .lss (.tmp 48) (.tmp 49), none, 0⟩]) <|
  .cond (.tmp 50)
    (.skip)
    (.keep [1, 4] <|
    .exit 4)) <|
  .seq (.block 5 <|
  .seq (.dops [
    ⟨some 53, .load true 2 (.tmp 1), none, 0⟩,
    ⟨some 54, .mv (.tmp 4), none, 0⟩,
    ⟨some 55, .mv (.tmp 5), none, 0⟩,
    ⟨some 56, .call k_spec_l01Has [(.tmp 53), (.tmp 54), (.tmp 55)], none, 0⟩,
    ⟨some 57, .load true 2 (.tmp 1), none, 1⟩,
    ⟨some 58, .mv (.tmp 5), none, 1⟩,
    ⟨some 59, .mv (.tmp 4), none, 1⟩,
    ⟨some 60, .call k_spec_l01Has [(.tmp 57), (.tmp 58), (.tmp 59)], none, 0⟩,
    ⟨some 61, .beq true (.tmp 56) (.tmp 60), none, 0⟩]) <|
  .cond (.tmp 61)
    (.seq (.ops [
      ⟨some 2, .mv (.const (.bool false)), none, 0⟩]) <|
    .keep [2] <|
    .ret)
    (.skip)) <|
  .ops [
    ⟨some 51, .mv (.tmp 5), none, 0⟩,
    ⟨some 52, .bin .add (.tmp 51) (.const (.int .i64 1)), none, 0⟩,
    ⟨some 5, .mv (.tmp 52), none, 0⟩]
def i_spec_l01Is_B3 : FC :=
  .seq (.seq (.ops [
    ⟨some 42, .mv (.tmp 4), none, 0⟩,
    ⟨some 43, .fld 0 (.tmp 1), none, 0⟩,
    ⟨some 44, .load false 1 (.tmp 43), none, 0⟩,
    ⟨some 45, .bin .lss (.tmp 42) (.tmp 44), none, 0⟩]) <|
  .cond (.tmp 45)
    (.skip)
    (.keep [] <|
    .exit 2)) <|
  .seq (.block 3 <|
  .seq (.ops [
    ⟨some 5, .mv (.const (.int .i64 0)), none, 0⟩]) <|
  .block 4 <|
  .loop [1, 4, 5] i_spec_l01Is_B2) <|
  .ops [
    ⟨some 46, .mv (.tmp 4), none, 0⟩,
    ⟨some 47, .bin .add (.tmp 46) (.const (.int .i64 1)), none, 0⟩,
    ⟨some 4, .mv (.tmp 47), none, 0⟩]
def i_spec_l01Is : FF := ⟨62, [.tmp 2],
  .seq (.ops [
    ⟨some 1, .box 2 (.tmp 0), none, 0⟩,
    ⟨some 2, .mv (.const (.bool false)), none, 0⟩]) <|
  .seq (.seq (.ops [
    ⟨some 6, .fld 0 (.tmp 1), none, 0⟩,
    ⟨some 7, .load false 1 (.tmp 6), none, 0⟩,
    ⟨some 8, .call k_spec_l01In [(.tmp 7), (.const (.int .i64 1)), (.const (.int .i64 62))], none, 0⟩,
    ⟨some 9, .un .not (.tmp 8), none, 0⟩,
    ⟨some 10, .mv (.tmp 9), none, 0⟩,
    ⟨some 11, .fld 1 (.tmp 1), some (10, false), 0⟩,
    ⟨some 12, .load false 1 (.tmp 11), some (10, false), 0⟩,
    ⟨some 13, .len (.tmp 12), some (10, false), 0⟩,
    ⟨some 14, .fld 0 (.tmp 1), some (10, false), 0⟩,
    ⟨some 15, .load false 1 (.tmp 14), some (10, false), 0⟩,
    ⟨some 16, .bin .neq (.tmp 13) (.tmp 15), some (10, false), 0⟩,
    ⟨some 17, .pick (.tmp 10) (.const (.bool true)) (.tmp 16), none, 0⟩]) <|
  .cond (.tmp 17)
    (.seq (.ops [
      ⟨some 2, .mv (.const (.bool false)), none, 0⟩]) <|
    .keep [2] <|
    .ret)
    (.skip)) <|
  .seq (.seq (.ops [
    ⟨some 3, .mv (.const (.int .i64 0)), none, 0⟩]) <|
  .block 0 <|
  .loop [1, 3] i_spec_l01Is_B1) <|
  .seq (.seq (.ops [
    ⟨some 4, .mv (.const (.int .i64 0)), none, 0⟩]) <|
  .block 2 <|
  .loop [1, 4] i_spec_l01Is_B3) <|
  .seq (.ops [
    ⟨some 2, .mv (.const (.bool true)), none, 0⟩]) <|
  .keep [2] <|
  .ret⟩

theorem e_spec_l01Is : EntOK Try.prog (compD Try.prog) k_spec_l01Is i_spec_l01Is.vf :=
  ⟨Try.f25, Try.f25.body.getD .skip, Try.func25, by kernel_rfl, by kernel_rfl, by kernel_rfl, by kernel_rfl, by kernel_rfl⟩

/-- loop.example/g01331/spec.l10Is -/
def i_spec_l10Is_B1 : FC :=
  .seq (.seq (.ops [
    ⟨some 7, .mv (.tmp 6), none, 0⟩,
    ⟨some 8, .mv (.tmp 1), none, 0⟩,
    ⟨some 9, .len (.tmp 8), none, 0⟩,
    ⟨some 10, .bin .lss (.tmp 7) (.tmp 9), none, 0⟩]) <|
  .cond (.tmp 10)
    (.skip)
    (.keep [1, 2] <|
    .exit 0)) <|
  .seq (.block 1 <|
  .seq (.seq (.ops [
    ⟨some 13, .mv (.tmp 1), none, 0⟩,
    ⟨some 14, .mv (.tmp 6), none, 0⟩,
    ⟨some 15, .idx 1 (.tmp 13) (.tmp 14), none, 0⟩,
    ⟨some 16, .load false 1 (.tmp 15), none, 0⟩,
    ⟨some 17, .mv (.tmp 5), none, 0⟩,
    ⟨some 18, .call k_spec_l01In [(.tmp 16), (.const (.int .i64 0)), (.tmp 17)], none, 0⟩,
    ⟨some 19, .un .not (.tmp 18), none, 0⟩]) <|
  .cond (.tmp 19)
    (.seq (.ops [
      ⟨some 4, .mv (.const (.bool false)), none, 0⟩]) <|
    .keep [4] <|
    .ret)
    (.skip)) <|
  .seq (.ops [
    ⟨some 20, .mv (.tmp 1), none, 0⟩,
    ⟨some 21, .mv (.tmp 6), none, 0⟩,
    ⟨some 22, .idx 1 (.tmp 20) (.tmp 21), none, 0⟩,
    ⟨some 23, .load false 1 (.tmp 22), none, 0⟩,
    ⟨some 24, .mv (.tmp 5), none, 0⟩,
    ⟨some 25, .bin .eql (.tmp 23) (.tmp 24), none, 0⟩]) <|
  .cond (.tmp 25)
    (.ops [
      ⟨some 26, .mv (.tmp 5), none, 0⟩,
      ⟨some 27, .bin .add (.tmp 26) (.const (.int .i64 1)), none, 0⟩,
      ⟨some 5, .mv (.tmp 27), none, 0⟩])
    (.skip)) <|
  .ops [
    ⟨some 11, .mv (.tmp 6), none, 0⟩,
    ⟨some 12, .bin .add (.tmp 11) (.const (.int .i64 1)), none, 0⟩,
    ⟨some 6, .mv (.tmp 12), none, 0⟩]
def i_spec_l10Is : FF := ⟨33, [.tmp 4],
  .seq (.ops [
    ⟨some 2, .box 2 (.tmp 0), none, 0⟩,
    ⟨some 4, .mv (.const (.bool false)), none, 0⟩]) <|
  .seq (.ops [
    ⟨some 5, .mv (.const (.int .i64 0)), none, 0⟩]) <|
  .seq (.seq (.ops [
    ⟨some 6, .mv (.const (.int .i64 0)), none, 0⟩]) <|
  .block 0 <|
  .loop [1, 2, 5, 6] i_spec_l10Is_B1) <|
  .seq (.ops [
    ⟨some 28, .mv (.tmp 1), none, 0⟩,
    ⟨some 29, .len (.tmp 28), none, 0⟩,
    ⟨some 30, .fld 0 (.tmp 2), none, 0⟩,
    ⟨some 31, .load false 1 (.tmp 30), none, 0⟩,
    ⟨some 32, .bin .eql (.tmp 29) (.tmp 31), none, 0⟩,
    ⟨some 4, .mv (.tmp 32), none, 0⟩]) <|
  .keep [4] <|
  .ret⟩

theorem e_spec_l10Is : EntOK Try.prog (compD Try.prog) k_spec_l10Is i_spec_l10Is.vf :=
  ⟨Try.f26, Try.f26.body.getD .skip, Try.func26, by kernel_rfl, by kernel_rfl, by kernel_rfl, by kernel_rfl, by kernel_rfl⟩

/-- loop.example/g01331/spec.l10Counts -/
def i_spec_l10Counts_B1 : FC :=
  .seq (.seq (.ops [
    ⟨some 12, .mv (.tmp 8), none, 0⟩,
    ⟨some 13, .fld 0 (.tmp 3), none, 0⟩,
    ⟨some 14, .load false 1 (.tmp 13), none, 0⟩,
    ⟨some 15, .bin .lss (.tmp 12) (.tmp 14), none, 0⟩]) <|
  .cond (.tmp 15)
    (.skip)
    (.keep [7] <|
    .exit 0)) <|
  .seq (.block 1 <|
  .seq (.ops [
    ⟨some 18, .fld 1 (.tmp 3), none, 0⟩,
    ⟨some 19, .load false 1 (.tmp 18), none, 0⟩,
    ⟨some 20, .mv (.tmp 2), none, 0⟩,
    ⟨some 21, .idx 1 (.tmp 19) (.tmp 20), none, 0⟩,
    ⟨some 22, .load false 1 (.tmp 21), none, 0⟩,
    ⟨some 23, .mv (.tmp 8), none, 0⟩,
    ⟨some 24, .conv .u64 (.tmp 23), none, 0⟩,
    ⟨some 25, .bin .shr (.tmp 22) (.tmp 24), none, 0⟩,
    ⟨some 26, .bin .and (.tmp 25) (.const (.int .i64 1)), none, 0⟩,
    ⟨some 27, .bin .eql (.tmp 26) (.const (.int .i64 1)), none, 0⟩]) <|
  .cond (.tmp 27)
    (.ops [
      ⟨some 28, .mv (.tmp 7), none, 0⟩,
      ⟨some 29, .mv (.tmp 1), none, 0⟩,
      ⟨some 30, .mv (.tmp 8), none, 0⟩,
      ⟨some 31, .idx 1 (.tmp 29) (.tmp 30), none, 0⟩,
      ⟨some 32, .load false 1 (.tmp 31), none, 0⟩,
      ⟨some 33, .idx 1 (.tmp 28) (.tmp 32), none, 0⟩,
      ⟨some 34, .load false 1 (.tmp 33), none, 0⟩,
      ⟨some 35, .bin .add (.tmp 34) (.const (.int .i64 1)), none, 0⟩,
      ⟨some 36, .idx 1 (.tmp 28) (.tmp 32), none, 0⟩,
      ⟨none, .store 1 (.tmp 36) (.tmp 35), none, 0⟩])
    (.skip)) <|
  .ops [
    ⟨some 16, .mv (.tmp 8), none, 0⟩,
    ⟨some 17, .bin .add (.tmp 16) (.const (.int .i64 1)), none, 0⟩,
    ⟨some 8, .mv (.tmp 17), none, 0⟩]
def i_spec_l10Counts : FF := ⟨38, [.tmp 6],
  .seq (.ops [
    ⟨some 3, .box 2 (.tmp 0), none, 0⟩,
    ⟨some 6, .mv (.const (.slice none 0 0)), none, 0⟩]) <|
  .seq (.ops [
    ⟨some 9, .fld 0 (.tmp 3), none, 0⟩,
    ⟨some 10, .load false 1 (.tmp 9), none, 0⟩,
    ⟨some 11, .mkSl 1 [.int .i64 0] 8 (.tmp 10) (.tmp 10), none, 0⟩,
    ⟨some 7, .mv (.tmp 11), none, 0⟩]) <|
  .seq (.seq (.ops [
    ⟨some 8, .mv (.const (.int .i64 0)), none, 0⟩]) <|
  .block 0 <|
  .loop [1, 2, 3, 7, 8] i_spec_l10Counts_B1) <|
  .seq (.ops [
    ⟨some 37, .mv (.tmp 7), none, 0⟩,
    ⟨some 6, .mv (.tmp 37), none, 0⟩]) <|
  .keep [6] <|
  .ret⟩

theorem e_spec_l10Counts : EntOK Try.prog (compD Try.prog) k_spec_l10Counts i_spec_l10Counts.vf :=
  ⟨Try.f27, Try.f27.body.getD .skip, Try.func27, by kernel_rfl, by kernel_rfl, by kernel_rfl, by kernel_rfl, by kernel_rfl⟩

/-- loop.example/g01331/impl.IsGraph -/
def i_impl_IsGraph_B1 : FC :=
  .seq (.ops [
    ⟨some 47, .bin .lss (.tmp 46) (.tmp 45), none, 0⟩]) <|
  .seq (.cond (.tmp 47)
    (.skip)
    (.keep [1, 3, 23, 24, 25] <|
    .exit 2)) <|
  .seq (.block 3 <|
  .seq (.ops [
    ⟨some 48, .mv (.tmp 46), none, 0⟩,
    ⟨some 6, .mv (.tmp 48), none, 0⟩]) <|
  .seq (.dops [
    ⟨some 49, .mv (.tmp 5), none, 0⟩,
    ⟨some 50, .mv (.tmp 6), none, 0⟩,
    ⟨some 51, .bin .shr (.tmp 49) (.tmp 50), none, 0⟩,
    ⟨some 52, .bin .and (.tmp 51) (.const (.int .i64 1)), none, 0⟩,
    ⟨some 53, .fld 1 (.tmp 1), none, 0⟩,
    ⟨some 54, .load false 1 (.tmp 53), none, 0⟩,
    ⟨some 55, .mv (.tmp 6), none, 0⟩,
    ⟨some 56, .idx 1 (.tmp 54) (.tmp 55), none, 0⟩,
    ⟨some 57, .load false 1 (.tmp 56), none, 0⟩,
    ⟨some 58, .mv (.tmp 4), none, 0⟩,
    ⟨some 59, .bin .shr (.tmp 57) (.tmp 58), none, 0⟩,
    ⟨some 60, .bin .and (.tmp 59) (.const (.int .i64 1)), none, 0⟩,
    ⟨some 61, .bin .neq (.tmp 52) (.tmp 60), none, 0⟩]) <|
  .cond (.tmp 61)
    (.seq (.ops [
      ⟨some 2, .mv (.const (.bool false)), none, 0⟩]) <|
    .keep [2] <|
    .ret)
    (.skip)) <|
  .ops [
    ⟨some 62, .bin .add (.tmp 46) (.const (.int .i64 1)), none, 0⟩,
    ⟨some 46, .mv (.tmp 62), none, 0⟩]
def i_impl_IsGraph_B2 : FC :=
  .seq (.ops [
    ⟨some 26, .bin .lss (.tmp 25) (.tmp 24), none, 0⟩]) <|
  .seq (.cond (.tmp 26)
    (.skip)
    (.keep [] <|
    .exit 0)) <|
  .seq (.block 1 <|
  .seq (.ops [
    ⟨some 27, .mv (.tmp 25), none, 0⟩,
    ⟨some 28, .idx 1 (.tmp 23) (.tmp 25), none, 0⟩,
    ⟨some 29, .load false 1 (.tmp 28), none, 0⟩,
    ⟨some 4, .mv (.tmp 27), none, 0⟩,
    ⟨some 5, .mv (.tmp 29), none, 0⟩]) <|
  .seq (.seq (.ops [
    ⟨some 30, .mv (.tmp 5), none, 0⟩,
    ⟨some 31, .bin .lss (.tmp 30) (.const (.int .i64 0)), none, 0⟩,
    ⟨some 32, .mv (.tmp 31), none, 0⟩,
    ⟨some 33, .mv (.tmp 5), some (32, false), 0⟩,
    ⟨some 34, .mv (.tmp 3), some (32, false), 0⟩,
    ⟨some 35, .bin .shl (.const (.int .i64 1)) (.tmp 34), some (32, false), 0⟩,
    ⟨some 36, .bin .geq (.tmp 33) (.tmp 35), some (32, false), 0⟩,
    ⟨some 37, .pick (.tmp 32) (.const (.bool true)) (.tmp 36), none, 0⟩,
    ⟨some 38, .mv (.tmp 37), none, 0⟩,
    ⟨some 39, .mv (.tmp 5), some (38, false), 0⟩,
    ⟨some 40, .mv (.tmp 4), some (38, false), 0⟩,
    ⟨some 41, .bin .shr (.tmp 39) (.tmp 40), some (38, false), 0⟩,
    ⟨some 42, .bin .and (.tmp 41) (.const (.int .i64 1)), some (38, false), 0⟩,
    ⟨some 43, .bin .eql (.tmp 42) (.const (.int .i64 1)), some (38, false), 0⟩,
    ⟨some 44, .pick (.tmp 38) (.const (.bool true)) (.tmp 43), none, 0⟩]) <|
  .cond (.tmp 44)
    (.seq (.ops [
      ⟨some 2, .mv (.const (.bool false)), none, 0⟩]) <|
    .keep [2] <|
    .ret)
    (.skip)) <|
  .seq (.ops [
    ⟨some 45, .mv (.tmp 3), none, 0⟩,
    ⟨some 46, .mv (.const (.int .i64 0)), none, 0⟩]) <|
  .block 2 <|
  .loop [1, 3, 4, 5, 23, 24, 25, 45, 46] i_impl_IsGraph_B1) <|
  .ops [
    ⟨some 63, .bin .add (.tmp 25) (.const (.int .i64 1)), none, 0⟩,
    ⟨some 25, .mv (.tmp 63), none, 0⟩]
def i_impl_IsGraph : FF := ⟨64, [.tmp 2],
  .seq (.ops [
    ⟨some 1, .box 2 (.tmp 0), none, 0⟩,
    ⟨some 2, .mv (.const (.bool false)), none, 0⟩]) <|
  .seq (.ops [
    ⟨some 7, .fld 0 (.tmp 1), none, 0⟩,
    ⟨some 8, .load false 1 (.tmp 7), none, 0⟩,
    ⟨some 3, .mv (.tmp 8), none, 0⟩]) <|
  .seq (.seq (.ops [
    ⟨some 9, .mv (.tmp 3), none, 0⟩,
    ⟨some 10, .bin .lss (.tmp 9) (.const (.int .i64 1)), none, 0⟩,
    ⟨some 11, .mv (.tmp 10), none, 0⟩,
    ⟨some 12, .mv (.tmp 3), some (11, false), 0⟩,
    ⟨some 13, .bin .gtr (.tmp 12) (.const (.int .i64 62)), some (11, false), 0⟩,
    ⟨some 14, .pick (.tmp 11) (.const (.bool true)) (.tmp 13), none, 0⟩,
    ⟨some 15, .mv (.tmp 14), none, 0⟩,
    ⟨some 16, .fld 1 (.tmp 1), some (15, false), 0⟩,
    ⟨some 17, .load false 1 (.tmp 16), some (15, false), 0⟩,
    ⟨some 18, .len (.tmp 17), some (15, false), 0⟩,
    ⟨some 19, .mv (.tmp 3), some (15, false), 0⟩,
    ⟨some 20, .bin .neq (.tmp 18) (.tmp 19), some (15, false), 0⟩,
    ⟨some 21, .pick (.tmp 15) (.const (.bool true)) (.tmp 20), none, 0⟩]) <|
  .cond (.tmp 21)
    (.seq (.ops [
      ⟨some 2, .mv (.const (.bool false)), none, 0⟩]) <|
    .keep [2] <|
    .ret)
    (.skip)) <|
  .seq (.seq (.ops [
    ⟨some 22, .fld 1 (.tmp 1), none, 0⟩,
    ⟨some 23, .load false 1 (.tmp 22), none, 0⟩,
    ⟨some 24, .len (.tmp 23), none, 0⟩,
    ⟨some 25, .mv (.const (.int .i64 0)), none, 0⟩]) <|
  .block 0 <|
  .loop [1, 3, 23, 24, 25] i_impl_IsGraph_B2) <|
  .seq (.ops [
    ⟨some 2, .mv (.const (.bool true)), none, 0⟩]) <|
  .keep [2] <|
  .ret⟩

theorem e_impl_IsGraph : EntOK Try.prog (compD Try.prog) k_impl_IsGraph i_impl_IsGraph.vf :=
  ⟨Try.f28, Try.f28.body.getD .skip, Try.func28, by kernel_rfl, by kernel_rfl, by kernel_rfl, by kernel_rfl, by kernel_rfl⟩

/-- loop.example/g01331/impl.isPartition -/
def i_impl_isPartition_B1 : FC :=
  .seq (.ops [
    ⟨some 16, .bin .lss (.tmp 15) (.tmp 14), none, 0⟩]) <|
  .seq (.cond (.tmp 16)
    (.skip)
    (.keep [] <|
    .exit 0)) <|
  .seq (.block 1 <|
  .seq (.ops [
    ⟨some 17, .idx 1 (.tmp 13) (.tmp 15), none, 0⟩,
    ⟨some 18, .load false 1 (.tmp 17), none, 0⟩,
    ⟨some 7, .mv (.tmp 18), none, 0⟩]) <|
  .seq (.seq (.ops [
    ⟨some 19, .mv (.tmp 7), none, 0⟩,
    ⟨some 20, .bin .lss (.tmp 19) (.const (.int .i64 0)), none, 0⟩,
    ⟨some 21, .mv (.tmp 20), none, 0⟩,
    ⟨some 22, .mv (.tmp 7), some (21, false), 0⟩,
    ⟨some 23, .mv (.tmp 5), some (21, false), 0⟩,
    ⟨some 24, .bin .gtr (.tmp 22) (.tmp 23), some (21, false), 0⟩,
    ⟨some 25, .pick (.tmp 21) (.const (.bool true)) (.tmp 24), none, 0⟩]) <|
  .cond (.tmp 25)
    (.seq (.ops [
      ⟨some 4, .mv (.const (.bool false)), none, 0⟩]) <|
    .keep [4] <|
    .ret)
    (.skip)) <|
  .seq (.ops [
    ⟨some 26, .mv (.tmp 7), none, 0⟩,
    ⟨some 27, .mv (.tmp 5), none, 0⟩,
    ⟨some 28, .bin .eql (.tmp 26) (.tmp 27), none, 0⟩]) <|
  .cond (.tmp 28)
    (.ops [
      ⟨some 29, .mv (.tmp 5), none, 0⟩,
      ⟨some 30, .bin .add (.tmp 29) (.const (.int .i64 1)), none, 0⟩,
      ⟨some 5, .mv (.tmp 30), none, 0⟩])
    (.skip)) <|
  .ops [
    ⟨some 31, .bin .add (.tmp 15) (.const (.int .i64 1)), none, 0⟩,
    ⟨some 15, .mv (.tmp 31), none, 0⟩]
def i_impl_isPartition : FF := ⟨32, [.tmp 4],
  .seq (.ops [
    ⟨some 2, .box 2 (.tmp 0), none, 0⟩,
    ⟨some 4, .mv (.const (.bool false)), none, 0⟩]) <|
  .seq (.seq (.ops [
    ⟨some 8, .mv (.tmp 1), none, 0⟩,
    ⟨some 9, .len (.tmp 8), none, 0⟩,
    ⟨some 10, .fld 0 (.tmp 2), none, 0⟩,
    ⟨some 11, .load false 1 (.tmp 10), none, 0⟩,
    ⟨some 12, .bin .neq (.tmp 9) (.tmp 11), none, 0⟩]) <|
  .cond (.tmp 12)
    (.seq (.ops [
      ⟨some 4, .mv (.const (.bool false)), none, 0⟩]) <|
    .keep [4] <|
    .ret)
    (.skip)) <|
  .seq (.ops [
    ⟨some 5, .mv (.const (.int .i64 0)), none, 0⟩]) <|
  .seq (.seq (.ops [
    ⟨some 13, .mv (.tmp 1), none, 0⟩,
    ⟨some 14, .len (.tmp 13), none, 0⟩,
    ⟨some 15, .mv (.const (.int .i64 0)), none, 0⟩]) <|
  .block 0 <|
  .loop [5, 13, 14, 15] i_impl_isPartition_B1) <|
  .seq (.ops [
    ⟨some 4, .mv (.const (.bool true)), none, 0⟩]) <|
  .keep [4] <|
  .ret⟩

theorem e_impl_isPartition : EntOK Try.prog (compD Try.prog) k_impl_isPartition i_impl_isPartition.vf :=
  ⟨Try.f29, Try.f29.body.getD .skip, Try.func29, by kernel_rfl, by kernel_rfl, by kernel_rfl, by kernel_rfl, by kernel_rfl⟩

/-- slices.Clone[[]int64,int64] -/
def i_slices_Clone_int64_int64 : FF := ⟨8, [.tmp 2],
  .seq (.ops [
    ⟨some 2, .mv (.const (.slice none 0 0)), none, 0⟩]) <|
  .seq (.seq (.ops [
    ⟨some 3, .mv (.tmp 0), none, 0⟩,
    ⟨some 4, .eqnilS false (.tmp 3), none, 0⟩]) <|
  .cond (.tmp 4)
    (.seq (.ops [
      ⟨some 2, .mv (.const (.slice none 0 0)), none, 0⟩]) <|
    .keep [2] <|
    .ret)
    (.skip)) <|
  .seq (.ops [
    ⟨some 5, .buildSl 1 [] [] 0, none, 0⟩,
    ⟨some 6, .mv (.tmp 0), none, 0⟩,
    ⟨some 7, .app 1 8 [.int .i64 0] (.tmp 5) (.tmp 6), none, 0⟩,
    ⟨some 2, .mv (.tmp 7), none, 0⟩]) <|
  .keep [2] <|
  .ret⟩

theorem e_slices_Clone_int64_int64 : EntOK Try.prog (compD Try.prog) k_slices_Clone_int64_int64 i_slices_Clone_int64_int64.vf :=
  ⟨Try.f30, Try.f30.body.getD .skip, Try.func30, by kernel_rfl, by kernel_rfl, by kernel_rfl, by kernel_rfl, by kernel_rfl⟩

/-- (*loop.example/g01331/impl.coloured).refine -/
def i_impl_coloured_refine_B1 : FC :=
  .seq (.ops [
    ⟨some 41, .bin .lss (.tmp 40) (.tmp 39), none, 0⟩]) <|
  .seq (.cond (.tmp 41)
    (.skip)
    (.keep [0, 2, 3, 4, 5, 6, 23, 24, 25] <|
    .exit 4)) <|
  .seq (.block 5 <|
  .seq (.ops [
    ⟨some 42, .mv (.tmp 40), none, 0⟩,
    ⟨some 43, .idx 1 (.tmp 38) (.tmp 40), none, 0⟩,
    ⟨some 44, .load false 1 (.tmp 43), none, 0⟩,
    ⟨some 7, .mv (.tmp 42), none, 0⟩,
    ⟨some 8, .mv (.tmp 44), none, 0⟩]) <|
  .dops [
    ⟨some 45, .mv (.tmp 6), none, 0⟩,
    ⟨some 46, .mv (.tmp 8), none, 0⟩,
    ⟨some 47, .idx 1 (.tmp 45) (.tmp 46), none, 0⟩,
    ⟨some 48, .load false 1 (.tmp 47), none, 0⟩,
    ⟨some 49, .mv (.tmp 7), none, 0⟩,
    ⟨some 50, .bin .shl (.const (.int .i64 1)) (.tmp 49), none, 0⟩,
    ⟨some 51, .bin .or (.tmp 48) (.tmp 50), none, 0⟩,
    ⟨some 52, .idx 1 (.tmp 45) (.tmp 46), none, 0⟩,
    ⟨none, .store 1 (.tmp 52) (.tmp 51), none, 0⟩]) <|
  .ops [
    ⟨some 53, .bin .add (.tmp 40) (.const (.int .i64 1)), none, 0⟩,
    ⟨some 40, .mv (.tmp 53), none, 0⟩]
def i_impl_coloured_refine_B2 : FC :=
  .seq (.ops [
    ⟨some 72, .bin .lss (.tmp 71) (.tmp 70), none, 0⟩]) <|
  .seq (.cond (.tmp 72)
    (.skip)
    (.keep [0, 2, 3, 4, 5, 6, 9, 11, 23, 24, 25, 60, 61, 62] <|
    .exit 8)) <|
  .seq (.block 9 <|
  .seq (.ops [
    ⟨some 73, .idx 1 (.tmp 69) (.tmp 71), none, 0⟩,
    ⟨some 74, .load false 1 (.tmp 73), none, 0⟩,
    ⟨some 13, .mv (.tmp 74), none, 0⟩]) <|
  .ops [
    ⟨some 75, .mv (.tmp 11), none, 0⟩,
    ⟨some 76, .fld 1 (.tmp 5), none, 0⟩,
    ⟨some 77, .load false 1 (.tmp 76), none, 0⟩,
    ⟨some 78, .mv (.tmp 9), none, 0⟩,
    ⟨some 79, .idx 1 (.tmp 77) (.tmp 78), none, 0⟩,
    ⟨some 80, .load false 1 (.tmp 79), none, 0⟩,
    ⟨some 81, .mv (.tmp 13), none, 0⟩,
    ⟨some 82, .bin .and (.tmp 80) (.tmp 81), none, 0⟩,
    ⟨some 83, .call k_impl_size [(.tmp 82)], none, 0⟩,
    ⟨some 84, .buildSl 1 [.int .i64 0] [(0, 1, (.tmp 83))] 1, none, 0⟩,
    ⟨some 85, .app 1 8 [.int .i64 0] (.tmp 75) (.tmp 84), none, 0⟩,
    ⟨some 11, .mv (.tmp 85), none, 0⟩]) <|
  .ops [
    ⟨some 86, .bin .add (.tmp 71) (.const (.int .i64 1)), none, 0⟩,
    ⟨some 71, .mv (.tmp 86), none, 0⟩]
def i_impl_coloured_refine_B3 : FC :=
  .seq (.ops [
    ⟨some 63, .bin .lss (.tmp 62) (.tmp 61), none, 0⟩]) <|
  .seq (.cond (.tmp 63)
    (.skip)
    (.keep [0, 2, 3, 23, 24, 25] <|
    .exit 6)) <|
  .seq (.block 7 <|
  .seq (.ops [
    ⟨some 64, .mv (.tmp 62), none, 0⟩,
    ⟨some 65, .idx 1 (.tmp 60) (.tmp 62), none, 0⟩,
    ⟨some 66, .load false 1 (.tmp 65), none, 0⟩,
    ⟨some 9, .mv (.tmp 64), none, 0⟩,
    ⟨some 10, .mv (.tmp 66), none, 0⟩]) <|
  .seq (.ops [
    ⟨some 67, .mv (.tmp 10), none, 0⟩,
    ⟨some 68, .buildSl 1 [.int .i64 0] [(0, 1, (.tmp 67))] 1, none, 0⟩,
    ⟨some 11, .mv (.tmp 68), none, 0⟩]) <|
  .seq (.seq (.ops [
    ⟨some 69, .mv (.tmp 6), none, 0⟩,
    ⟨some 70, .len (.tmp 69), none, 0⟩,
    ⟨some 71, .mv (.const (.int .i64 0)), none, 0⟩]) <|
  .block 8 <|
  .loop [0, 2, 3, 4, 5, 6, 9, 11, 23, 24, 25, 60, 61, 62, 69, 70, 71] i_impl_coloured_refine_B2) <|
  .ops [
    ⟨some 87, .mv (.tmp 3), none, 0⟩,
    ⟨some 88, .mv (.tmp 4), none, 0⟩,
    ⟨some 89, .mv (.tmp 9), none, 0⟩,
    ⟨some 90, .mv (.tmp 11), none, 0⟩,
    ⟨some 91, .build [.int .i64 0, .int .i64 0, .slice none 0 0] [(0, 1, (.tmp 88)), (1, 1, (.tmp 89)), (2, 1, (.tmp 90))], none, 0⟩,
    ⟨some 92, .buildSl 3 [.int .i64 0, .int .i64 0, .slice none 0 0] [(0, 3, (.tmp 91))] 1, none, 0⟩,
    ⟨some 93, .app 3 40 [.int .i64 0, .int .i64 0, .slice none 0 0] (.tmp 87) (.tmp 92), none, 0⟩,
    ⟨some 3, .mv (.tmp 93), none, 0⟩]) <|
  .ops [
    ⟨some 94, .bin .add (.tmp 62) (.const (.int .i64 1)), none, 0⟩,
    ⟨some 62, .mv (.tmp 94), none, 0⟩]
def i_impl_coloured_refine_B4 : FC :=
  .seq (.ops [
    ⟨some 26, .bin .lss (.tmp 25) (.tmp 24), none, 0⟩]) <|
  .seq (.cond (.tmp 26)
    (.skip)
    (.keep [0, 2, 3] <|
    .exit 2)) <|
  .seq (.block 3 <|
  .seq (.ops [
    ⟨some 27, .mv (.tmp 25), none, 0⟩,
    ⟨some 28, .idx 2 (.tmp 23) (.tmp 25), none, 0⟩,
    ⟨some 29, .load true 2 (.tmp 28), none, 0⟩,
    ⟨some 5, .alloc [.int .i64 0, .slice none 0 0], none, 0⟩,
    ⟨some 4, .mv (.tmp 27), none, 0⟩,
    ⟨none, .store 2 (.tmp 5) (.tmp 29), none, 0⟩]) <|
  .seq (.ops [
    ⟨some 30, .mv (.tmp 2), none, 0⟩,
    ⟨some 31, .mkSl 1 [.int .i64 0] 8 (.tmp 30) (.tmp 30), none, 0⟩,
    ⟨some 6, .mv (.tmp 31), none, 0⟩]) <|
  .seq (.seq (.ops [
    ⟨some 32, .mv (.tmp 0), none, 0⟩,
    ⟨some 33, .nilchk (.tmp 32), none, 0⟩,
    ⟨some 34, .fld 1 (.tmp 33), none, 0⟩,
    ⟨some 35, .load false 1 (.tmp 34), none, 0⟩,
    ⟨some 36, .mv (.tmp 4), none, 0⟩,
    ⟨some 37, .idx 1 (.tmp 35) (.tmp 36), none, 0⟩,
    ⟨some 38, .load false 1 (.tmp 37), none, 0⟩,
    ⟨some 39, .len (.tmp 38), none, 0⟩,
    ⟨some 40, .mv (.const (.int .i64 0)), none, 0⟩]) <|
  .block 4 <|
  .loop [0, 2, 3, 4, 5, 6, 23, 24, 25, 38, 39, 40] i_impl_coloured_refine_B1) <|
  .seq (.ops [
    ⟨some 54, .mv (.tmp 0), none, 0⟩,
    ⟨some 55, .nilchk (.tmp 54), none, 0⟩,
    ⟨some 56, .fld 1 (.tmp 55), none, 0⟩,
    ⟨some 57, .load false 1 (.tmp 56), none, 0⟩,
    ⟨some 58, .mv (.tmp 4), none, 0⟩,
    ⟨some 59, .idx 1 (.tmp 57) (.tmp 58), none, 0⟩,
    ⟨some 60, .load false 1 (.tmp 59), none, 0⟩,
    ⟨some 61, .len (.tmp 60), none, 0⟩,
    ⟨some 62, .mv (.const (.int .i64 0)), none, 0⟩]) <|
  .block 6 <|
  .loop [0, 2, 3, 4, 5, 6, 23, 24, 25, 60, 61, 62] i_impl_coloured_refine_B3) <|
  .ops [
    ⟨some 95, .bin .add (.tmp 25) (.const (.int .i64 1)), none, 0⟩,
    ⟨some 25, .mv (.tmp 95), none, 0⟩]
def i_impl_coloured_refine_B5 : FC :=
  .seq (.ops [
    ⟨some 101, .bin .lss (.tmp 100) (.tmp 99), none, 0⟩]) <|
  .seq (.cond (.tmp 101)
    (.skip)
    (.keep [0, 2, 14] <|
    .exit 10)) <|
  .seq (.block 11 <|
  .seq (.ops [
    ⟨some 102, .mv (.tmp 100), none, 0⟩,
    ⟨some 103, .idx 3 (.tmp 98) (.tmp 100), none, 0⟩,
    ⟨some 104, .load true 3 (.tmp 103), none, 0⟩,
    ⟨some 16, .alloc [.int .i64 0, .int .i64 0, .slice none 0 0], none, 0⟩,
    ⟨some 15, .mv (.tmp 102), none, 0⟩,
    ⟨none, .store 3 (.tmp 16) (.tmp 104), none, 0⟩]) <|
  .seq (.seq (.dops [
    ⟨some 105, .mv (.tmp 15), none, 0⟩,
    ⟨some 106, .bin .eql (.tmp 105) (.const (.int .i64 0)), none, 0⟩,
    ⟨some 107, .mv (.tmp 106), none, 0⟩,
    ⟨some 108, .fld 2 (.tmp 16), some (107, false), 0⟩,
    ⟨some 109, .load false 1 (.tmp 108), some (107, false), 0⟩,
    ⟨some 110, .mv (.tmp 3), some (107, false), 0⟩,
    ⟨some 111, .mv (.tmp 15), some (107, false), 0⟩,
    ⟨some 112, .bin .sub (.tmp 111) (.const (.int .i64 1)), some (107, false), 0⟩,
    ⟨some 113, .idx 3 (.tmp 110) (.tmp 112), some (107, false), 0⟩,
    ⟨some 114, .fld 2 (.tmp 113), some (107, false), 0⟩,
    ⟨some 115, .load false 1 (.tmp 114), some (107, false), 0⟩,
    ⟨some 116, .call k_slices_Compare_int64_int64 [(.tmp 109), (.tmp 115)], some (107, false), 0⟩,
    ⟨some 117, .bin .neq (.tmp 116) (.const (.int .i64 0)), some (107, false), 0⟩,
    ⟨some 118, .pick (.tmp 107) (.const (.bool true)) (.tmp 117), none, 0⟩]) <|
  .cond (.tmp 118)
    (.ops [
      ⟨some 119, .mv (.tmp 14), none, 0⟩,
      ⟨some 120, .bin .add (.tmp 119) (.const (.int .i64 1)), none, 0⟩,
      ⟨some 14, .mv (.tmp 120), none, 0⟩])
    (.skip)) <|
  .dops [
    ⟨some 121, .mv (.tmp 0), none, 0⟩,
    ⟨some 122, .nilchk (.tmp 121), none, 0⟩,
    ⟨some 123, .fld 1 (.tmp 122), none, 0⟩,
    ⟨some 124, .load false 1 (.tmp 123), none, 0⟩,
    ⟨some 125, .fld 0 (.tmp 16), none, 0⟩,
    ⟨some 126, .load false 1 (.tmp 125), none, 0⟩,
    ⟨some 127, .idx 1 (.tmp 124) (.tmp 126), none, 0⟩,
    ⟨some 128, .load false 1 (.tmp 127), none, 0⟩,
    ⟨some 129, .fld 1 (.tmp 16), none, 0⟩,
    ⟨some 130, .load false 1 (.tmp 129), none, 0⟩,
    ⟨some 131, .mv (.tmp 14), none, 0⟩,
    ⟨some 132, .idx 1 (.tmp 128) (.tmp 130), none, 0⟩,
    ⟨none, .store 1 (.tmp 132) (.tmp 131), none, 0⟩]) <|
  .ops [
    ⟨some 133, .bin .add (.tmp 100) (.const (.int .i64 1)), none, 0⟩,
    ⟨some 100, .mv (.tmp 133), none, 0⟩]
def i_impl_coloured_refine_B6 : FC :=
  .block 1 <|
  .seq (.ops [
    ⟨some 17, .mv (.tmp 0), none, 0⟩,
    ⟨some 18, .call k_impl_coloured_many [(.tmp 17)], none, 0⟩,
    ⟨some 2, .mv (.tmp 18), none, 0⟩]) <|
  .seq (.ops [
    ⟨some 19, .buildSl 3 [] [] 0, none, 0⟩,
    ⟨some 3, .mv (.tmp 19), none, 0⟩]) <|
  .seq (.seq (.ops [
    ⟨some 20, .mv (.tmp 0), none, 0⟩,
    ⟨some 21, .nilchk (.tmp 20), none, 0⟩,
    ⟨some 22, .fld 0 (.tmp 21), none, 0⟩,
    ⟨some 23, .load false 1 (.tmp 22), none, 0⟩,
    ⟨some 24, .len (.tmp 23), none, 0⟩,
    ⟨some 25, .mv (.const (.int .i64 0)), none, 0⟩]) <|
  .block 2 <|
  .loop [0, 2, 3, 23, 24, 25] i_impl_coloured_refine_B4) <|
  .seq (.ops [
    ⟨some 96, .mv (.tmp 3), none, 0⟩,
    ⟨some 97, .call k_slices_SortFunc_impl_told_impl_told [(.tmp 96), (.func k_impl_coloured_refine_1)], none, 0⟩]) <|
  .seq (.ops [
    ⟨some 14, .mv (.const (.int .i64 (-1))), none, 0⟩]) <|
  .seq (.seq (.ops [
    ⟨some 98, .mv (.tmp 3), none, 0⟩,
    ⟨some 99, .len (.tmp 98), none, 0⟩,
    ⟨some 100, .mv (.const (.int .i64 0)), none, 0⟩]) <|
  .block 10 <|
  .loop [0, 2, 3, 14, 98, 99, 100] i_impl_coloured_refine_B5) <|
  .seq (.ops [
    ⟨some 134, .mv (.tmp 14), none, 0⟩,
    ⟨some 135, .bin .add (.tmp 134) (.const (.int .i64 1)), none, 0⟩,
    ⟨some 136, .mv (.tmp 2), none, 0⟩,
    ⟨some 137, .bin .eql (.tmp 135) (.tmp 136), none, 0⟩]) <|
  .cond (.tmp 137)
    (.keep [] <|
    .ret)
    (.skip)
def i_impl_coloured_refine : FF := ⟨138, [],
  .block 0 <|
  .loop [0] i_impl_coloured_refine_B6⟩

theorem e_impl_coloured_refine : EntOK Try.prog (compD Try.prog) k_impl_coloured_refine i_impl_coloured_refine.vf :=
  ⟨Try.f31, Try.f31.body.getD .skip, Try.func31, by kernel_rfl, by kernel_rfl, by kernel_rfl, by kernel_rfl, by kernel_rfl⟩

/-- loop.example/g01331/impl.byFirst -/
def i_impl_byFirst_B1 : FC :=
  .seq (.ops [
    ⟨some 13, .bin .lss (.tmp 12) (.tmp 11), none, 0⟩]) <|
  .seq (.cond (.tmp 13)
    (.skip)
    (.keep [4] <|
    .exit 0)) <|
  .seq (.block 1 <|
  .seq (.ops [
    ⟨some 14, .idx 1 (.tmp 10) (.tmp 12), none, 0⟩,
    ⟨some 15, .load false 1 (.tmp 14), none, 0⟩,
    ⟨some 6, .mv (.tmp 15), none, 0⟩]) <|
  .seq (.ops [
    ⟨some 16, .mv (.tmp 3), none, 0⟩,
    ⟨some 17, .mv (.tmp 6), none, 0⟩,
    ⟨some 18, .call k_slices_Index_int64_int64 [(.tmp 16), (.tmp 17)], none, 0⟩,
    ⟨some 7, .mv (.tmp 18), none, 0⟩]) <|
  .seq (.seq (.ops [
    ⟨some 19, .mv (.tmp 7), none, 0⟩,
    ⟨some 20, .bin .lss (.tmp 19) (.const (.int .i64 0)), none, 0⟩]) <|
  .cond (.tmp 20)
    (.seq (.ops [
      ⟨some 21, .mv (.tmp 3), none, 0⟩,
      ⟨some 22, .len (.tmp 21), none, 0⟩,
      ⟨some 7, .mv (.tmp 22), none, 0⟩]) <|
    .ops [
      ⟨some 23, .mv (.tmp 3), none, 0⟩,
      ⟨some 24, .mv (.tmp 6), none, 0⟩,
      ⟨some 25, .buildSl 1 [.int .i64 0] [(0, 1, (.tmp 24))] 1, none, 0⟩,
      ⟨some 26, .app 1 8 [.int .i64 0] (.tmp 23) (.tmp 25), none, 0⟩,
      ⟨some 3, .mv (.tmp 26), none, 0⟩])
    (.skip)) <|
  .ops [
    ⟨some 27, .mv (.tmp 4), none, 0⟩,
    ⟨some 28, .mv (.tmp 7), none, 0⟩,
    ⟨some 29, .buildSl 1 [.int .i64 0] [(0, 1, (.tmp 28))] 1, none, 0⟩,
    ⟨some 30, .app 1 8 [.int .i64 0] (.tmp 27) (.tmp 29), none, 0⟩,
    ⟨some 4, .mv (.tmp 30), none, 0⟩]) <|
  .ops [
    ⟨some 31, .bin .add (.tmp 12) (.const (.int .i64 1)), none, 0⟩,
    ⟨some 12, .mv (.tmp 31), none, 0⟩]
def i_impl_byFirst : FF := ⟨33, [.tmp 2],
  .seq (.ops [
    ⟨some 2, .mv (.const (.slice none 0 0)), none, 0⟩]) <|
  .seq (.ops [
    ⟨some 8, .buildSl 1 [] [] 0, none, 0⟩,
    ⟨some 9, .buildSl 1 [] [] 0, none, 0⟩,
    ⟨some 3, .mv (.tmp 8), none, 0⟩,
    ⟨some 4, .mv (.tmp 9), none, 0⟩]) <|
  .seq (.seq (.ops [
    ⟨some 10, .mv (.tmp 0), none, 0⟩,
    ⟨some 11, .len (.tmp 10), none, 0⟩,
    ⟨some 12, .mv (.const (.int .i64 0)), none, 0⟩]) <|
  .block 0 <|
  .loop [3, 4, 10, 11, 12] i_impl_byFirst_B1) <|
  .seq (.ops [
    ⟨some 32, .mv (.tmp 4), none, 0⟩,
    ⟨some 2, .mv (.tmp 32), none, 0⟩]) <|
  .keep [2] <|
  .ret⟩

theorem e_impl_byFirst : EntOK Try.prog (compD Try.prog) k_impl_byFirst i_impl_byFirst.vf :=
  ⟨Try.f32, Try.f32.body.getD .skip, Try.func32, by kernel_rfl, by kernel_rfl, by kernel_rfl, by kernel_rfl, by kernel_rfl⟩

/-- loop.example/g01331/spec.l01In -/
def i_spec_l01In : FF := ⟨15, [.tmp 6],
  .seq (.ops [
    ⟨some 6, .mv (.const (.bool false)), none, 0⟩]) <|
  .seq (.ops [
    ⟨some 7, .mv (.tmp 0), none, 0⟩,
    ⟨some 8, .mv (.tmp 1), none, 0⟩,
    ⟨some 9, .bin .geq (.tmp 7) (.tmp 8), none, 0⟩,
    ⟨some 10, .mv (.tmp 9), none, 0⟩,
    ⟨some 11, .mv (.tmp 0), some (10, true), 0⟩,
    ⟨some 12, .mv (.tmp 2), some (10, true), 0⟩,
    ⟨some 13, .bin .leq (.tmp 11) (.tmp 12), some (10, true), 0⟩,
    ⟨some 14, .pick (.tmp 10) (.tmp 13) (.const (.bool false)), none, 0⟩,
    ⟨some 6, .mv (.tmp 14), none, 0⟩]) <|
  .keep [6] <|
  .ret⟩

theorem e_spec_l01In : EntOK Try.prog (compD Try.prog) k_spec_l01In i_spec_l01In.vf :=
  ⟨Try.f33, Try.f33.body.getD .skip, Try.func33, by kernel_rfl, by kernel_rfl, by kernel_rfl, by kernel_rfl, by kernel_rfl⟩

/-- loop.example/g01331/spec.l01Has -/
def i_spec_l01Has : FF := ⟨17, [.tmp 6],
  .seq (.ops [
    ⟨some 3, .box 2 (.tmp 0), none, 0⟩,
    ⟨some 6, .mv (.const (.bool false)), none, 0⟩]) <|
  .seq (.ops [
    ⟨some 7, .fld 1 (.tmp 3), none, 0⟩,
    ⟨some 8, .load false 1 (.tmp 7), none, 0⟩,
    ⟨some 9, .mv (.tmp 1), none, 0⟩,
    ⟨some 10, .idx 1 (.tmp 8) (.tmp 9), none, 0⟩,
    ⟨some 11, .load false 1 (.tmp 10), none, 0⟩,
    ⟨some 12, .mv (.tmp 2), none, 0⟩,
    ⟨some 13, .conv .u64 (.tmp 12), none, 0⟩,
    ⟨some 14, .bin .shr (.tmp 11) (.tmp 13), none, 0⟩,
    ⟨some 15, .bin .and (.tmp 14) (.const (.int .i64 1)), none, 0⟩,
    ⟨some 16, .bin .eql (.tmp 15) (.const (.int .i64 1)), none, 0⟩,
    ⟨some 6, .mv (.tmp 16), none, 0⟩]) <|
  .keep [6] <|
  .ret⟩

theorem e_spec_l01Has : EntOK Try.prog (compD Try.prog) k_spec_l01Has i_spec_l01Has.vf :=
  ⟨Try.f34, Try.f34.body.getD .skip, Try.func34, by kernel_rfl, by kernel_rfl, by kernel_rfl, by kernel_rfl, by kernel_rfl⟩

/-- (*loop.example/g01331/impl.coloured).many -/
def i_impl_coloured_many_B1 : FC :=
  .seq (.ops [
    ⟨some 12, .bin .lss (.tmp 11) (.tmp 10), none, 0⟩]) <|
  .seq (.cond (.tmp 12)
    (.skip)
    (.keep [3] <|
    .exit 0)) <|
  .seq (.block 1 <|
  .seq (.ops [
    ⟨some 13, .idx 1 (.tmp 9) (.tmp 11), none, 0⟩,
    ⟨some 14, .load false 1 (.tmp 13), none, 0⟩,
    ⟨some 5, .mv (.tmp 14), none, 0⟩]) <|
  .ops [
    ⟨some 15, .mv (.tmp 3), none, 0⟩,
    ⟨some 16, .mv (.tmp 5), none, 0⟩,
    ⟨some 17, .call k_slices_Max_int64_int64 [(.tmp 16)], none, 0⟩,
    ⟨some 18, .minmax true [(.tmp 15), (.tmp 17)], none, 0⟩,
    ⟨some 3, .mv (.tmp 18), none, 0⟩]) <|
  .ops [
    ⟨some 19, .bin .add (.tmp 11) (.const (.int .i64 1)), none, 0⟩,
    ⟨some 11, .mv (.tmp 19), none, 0⟩]
def i_impl_coloured_many : FF := ⟨22, [.tmp 2],
  .seq (.ops [
    ⟨some 2, .mv (.const (.int .i64 0)), none, 0⟩]) <|
  .seq (.ops [
    ⟨some 3, .mv (.const (.int .i64 0)), none, 0⟩]) <|
  .seq (.seq (.ops [
    ⟨some 6, .mv (.tmp 0), none, 0⟩,
    ⟨some 7, .nilchk (.tmp 6), none, 0⟩,
    ⟨some 8, .fld 1 (.tmp 7), none, 0⟩,
    ⟨some 9, .load false 1 (.tmp 8), none, 0⟩,
    ⟨some 10, .len (.tmp 9), none, 0⟩,
    ⟨some 11, .mv (.const (.int .i64 0)), none, 0⟩]) <|
  .block 0 <|
  .loop [3, 9, 10, 11] i_impl_coloured_many_B1) <|
  .seq (.ops [
    ⟨some 20, .mv (.tmp 3), none, 0⟩,
    ⟨some 21, .bin .add (.tmp 20) (.const (.int .i64 1)), none, 0⟩,
    ⟨some 2, .mv (.tmp 21), none, 0⟩]) <|
  .keep [2] <|
  .ret⟩

theorem e_impl_coloured_many : EntOK Try.prog (compD Try.prog) k_impl_coloured_many i_impl_coloured_many.vf :=
  ⟨Try.f35, Try.f35.body.getD .skip, Try.func35, by kernel_rfl, by kernel_rfl, by kernel_rfl, by kernel_rfl, by kernel_rfl⟩

/-- loop.example/g01331/impl.size -/
def i_impl_size : FF := ⟨6, [.tmp 2],
  .seq (.ops [
    ⟨some 2, .mv (.const (.int .i64 0)), none, 0⟩]) <|
  .seq (.ops [
    ⟨some 3, .mv (.tmp 0), none, 0⟩,
    ⟨some 4, .conv .u64 (.tmp 3), none, 0⟩,
    ⟨some 5, .call k_math_bits_OnesCount64 [(.tmp 4)], none, 0⟩,
    ⟨some 2, .mv (.tmp 5), none, 0⟩]) <|
  .keep [2] <|
  .ret⟩

theorem e_impl_size : EntOK Try.prog (compD Try.prog) k_impl_size i_impl_size.vf :=
  ⟨Try.f36, Try.f36.body.getD .skip, Try.func36, by kernel_rfl, by kernel_rfl, by kernel_rfl, by kernel_rfl, by kernel_rfl⟩

/-- slices.SortFunc[[]loop.example/g01331/impl.told,loop.example/g01331/impl.told] -/
def i_slices_SortFunc_impl_told_impl_told : FF := ⟨14, [],
  .seq (.ops [
    ⟨some 5, .mv (.tmp 0), none, 0⟩,
    ⟨some 6, .len (.tmp 5), none, 0⟩,
    ⟨some 4, .mv (.tmp 6), none, 0⟩]) <|
  .ops [
    ⟨some 7, .mv (.tmp 0), none, 0⟩,
    ⟨some 8, .mv (.tmp 4), none, 0⟩,
    ⟨some 9, .mv (.tmp 4), none, 0⟩,
    ⟨some 10, .conv .u64 (.tmp 9), none, 0⟩,
    ⟨some 11, .call k_math_bits_Len [(.tmp 10)], none, 0⟩,
    ⟨some 12, .mv (.tmp 1), none, 0⟩,
    ⟨some 13, .call k_slices_pdqsortCmpFunc_impl_told [(.tmp 7), (.const (.int .i64 0)), (.tmp 8), (.tmp 11), (.tmp 12)], none, 0⟩]⟩

theorem e_slices_SortFunc_impl_told_impl_told : EntOK Try.prog (compD Try.prog) k_slices_SortFunc_impl_told_impl_told i_slices_SortFunc_impl_told_impl_told.vf :=
  ⟨Try.f37, Try.f37.body.getD .skip, Try.func37, by kernel_rfl, by kernel_rfl, by kernel_rfl, by kernel_rfl, by kernel_rfl⟩

/-- (*loop.example/g01331/impl.coloured).refine$1 -/
def i_impl_coloured_refine_1 : FF := ⟨10, [.tmp 4],
  .seq (.ops [
    ⟨some 2, .box 3 (.tmp 0), none, 0⟩,
    ⟨some 3, .box 3 (.tmp 1), none, 0⟩,
    ⟨some 4, .mv (.const (.int .i64 0)), none, 0⟩]) <|
  .seq (.ops [
    ⟨some 5, .fld 2 (.tmp 2), none, 0⟩,
    ⟨some 6, .load false 1 (.tmp 5), none, 0⟩,
    ⟨some 7, .fld 2 (.tmp 3), none, 0⟩,
    ⟨some 8, .load false 1 (.tmp 7), none, 0⟩,
    ⟨some 9, .call k_slices_Compare_int64_int64 [(.tmp 6), (.tmp 8)], none, 0⟩,
    ⟨some 4, .mv (.tmp 9), none, 0⟩]) <|
  .keep [4] <|
  .ret⟩

theorem e_impl_coloured_refine_1 : EntOK Try.prog (compD Try.prog) k_impl_coloured_refine_1 i_impl_coloured_refine_1.vf :=
  ⟨Try.f38, Try.f38.body.getD .skip, Try.func38, by kernel_rfl, by kernel_rfl, by kernel_rfl, by kernel_rfl, by kernel_rfl⟩

/-- slices.Compare[[]int64,int64] -/
def i_slices_Compare_int64_int64_B1 : FC :=
  .seq (.ops [
    ⟨some 12, .bin .lss (.tmp 11) (.tmp 10), none, 0⟩]) <|
  .seq (.cond (.tmp 12)
    (.skip)
    (.keep [0, 1] <|
    .exit 0)) <|
  .seq (.block 1 <|
  .seq (.ops [
    ⟨some 13, .mv (.tmp 11), none, 0⟩,
    ⟨some 14, .idx 1 (.tmp 9) (.tmp 11), none, 0⟩,
    ⟨some 15, .load false 1 (.tmp 14), none, 0⟩,
    ⟨some 5, .mv (.tmp 13), none, 0⟩,
    ⟨some 6, .mv (.tmp 15), none, 0⟩]) <|
  .seq (.seq (.ops [
    ⟨some 16, .mv (.tmp 5), none, 0⟩,
    ⟨some 17, .mv (.tmp 1), none, 0⟩,
    ⟨some 18, .len (.tmp 17), none, 0⟩,
    ⟨some 19, .bin .geq (.tmp 16) (.tmp 18), none, 0⟩]) <|
  .cond (.tmp 19)
    (.seq (.ops [
      ⟨some 4, .mv (.const (.int .i64 1)), none, 0⟩]) <|
    .keep [4] <|
    .ret)
    (.skip)) <|
  .seq (.ops [
    ⟨some 20, .mv (.tmp 1), none, 0⟩,
    ⟨some 21, .mv (.tmp 5), none, 0⟩,
    ⟨some 22, .idx 1 (.tmp 20) (.tmp 21), none, 0⟩,
    ⟨some 23, .load false 1 (.tmp 22), none, 0⟩,
    ⟨some 7, .mv (.tmp 23), none, 0⟩]) <|
  .seq (.ops [
    ⟨some 24, .mv (.tmp 6), none, 0⟩,
    ⟨some 25, .mv (.tmp 7), none, 0⟩,
    ⟨some 26, .call k_cmp_Compare_int64 [(.tmp 24), (.tmp 25)], none, 0⟩,
    ⟨some 8, .mv (.tmp 26), none, 0⟩]) <|
  .seq (.ops [
    ⟨some 27, .mv (.tmp 8), none, 0⟩,
    ⟨some 28, .bin .neq (.tmp 27) (.const (.int .i64 0)), none, 0⟩]) <|
  .cond (.tmp 28)
    (.seq (.ops [
      ⟨some 29, .mv (.tmp 8), none, 0⟩,
      ⟨some 4, .mv (.tmp 29), none, 0⟩]) <|
    .keep [4] <|
    .ret)
    (.skip)) <|
  .ops [
    ⟨some 30, .bin .add (.tmp 11) (.const (.int .i64 1)), none, 0⟩,
    ⟨some 11, .mv (.tmp 30), none, 0⟩]
def i_slices_Compare_int64_int64 : FF := ⟨36, [.tmp 4],
  .seq (.ops [
    ⟨some 4, .mv (.const (.int .i64 0)), none, 0⟩]) <|
  .seq (.seq (.ops [
    ⟨some 9, .mv (.tmp 0), none, 0⟩,
    ⟨some 10, .len (.tmp 9), none, 0⟩,
    ⟨some 11, .mv (.const (.int .i64 0)), none, 0⟩]) <|
  .block 0 <|
  .loop [0, 1, 9, 10, 11] i_slices_Compare_int64_int64_B1) <|
  .seq (.seq (.ops [
    ⟨some 31, .mv (.tmp 0), none, 0⟩,
    ⟨some 32, .len (.tmp 31), none, 0⟩,
    ⟨some 33, .mv (.tmp 1), none, 0⟩,
    ⟨some 34, .len (.tmp 33), none, 0⟩,
    ⟨some 35, .bin .lss (.tmp 32) (.tmp 34), none, 0⟩]) <|
  .cond (.tmp 35)
    (.seq (.ops [
      ⟨some 4, .mv (.const (.int .i64 (-1))), none, 0⟩]) <|
    .keep [4] <|
    .ret)
    (.skip)) <|
  .seq (.ops [
    ⟨some 4, .mv (.const (.int .i64 0)), none, 0⟩]) <|
  .keep [4] <|
  .ret⟩

theorem e_slices_Compare_int64_int64 : EntOK Try.prog (compD Try.prog) k_slices_Compare_int64_int64 i_slices_Compare_int64_int64.vf :=
  ⟨Try.f39, Try.f39.body.getD .skip, Try.func39, by kernel_rfl, by kernel_rfl, by kernel_rfl, by kernel_rfl, by kernel_rfl⟩

/-- slices.Index[[]int64,int64] -/
def i_slices_Index_int64_int64_B1 : FC :=
  .seq (.ops [
    ⟨some 9, .bin .lss (.tmp 8) (.tmp 7), none, 0⟩]) <|
  .seq (.cond (.tmp 9)
    (.skip)
    (.keep [] <|
    .exit 0)) <|
  .seq (.block 1 <|
  .seq (.ops [
    ⟨some 10, .mv (.tmp 8), none, 0⟩,
    ⟨some 5, .mv (.tmp 10), none, 0⟩]) <|
  .seq (.ops [
    ⟨some 11, .mv (.tmp 1), none, 0⟩,
    ⟨some 12, .mv (.tmp 0), none, 0⟩,
    ⟨some 13, .mv (.tmp 5), none, 0⟩,
    ⟨some 14, .idx 1 (.tmp 12) (.tmp 13), none, 0⟩,
    ⟨some 15, .load false 1 (.tmp 14), none, 0⟩,
    ⟨some 16, .bin .eql (.tmp 11) (.tmp 15), none, 0⟩]) <|
  .cond (.tmp 16)
    (.seq (.ops [
      ⟨some 17, .mv (.tmp 5), none, 0⟩,
      ⟨some 4, .mv (.tmp 17), none, 0⟩]) <|
    .keep [4] <|
    .ret)
    (.skip)) <|
  .ops [
    ⟨some 18, .bin .add (.tmp 8) (.const (.int .i64 1)), none, 0⟩,
    ⟨some 8, .mv (.tmp 18), none, 0⟩]
def i_slices_Index_int64_int64 : FF := ⟨19, [.tmp 4],
  .seq (.ops [
    ⟨some 4, .mv (.const (.int .i64 0)), none, 0⟩]) <|
  .seq (.seq (.ops [
    ⟨some 6, .mv (.tmp 0), none, 0⟩,
    ⟨some 7, .len (.tmp 6), none, 0⟩,
    ⟨some 8, .mv (.const (.int .i64 0)), none, 0⟩]) <|
  .block 0 <|
  .loop [0, 1, 7, 8] i_slices_Index_int64_int64_B1) <|
  .seq (.ops [
    ⟨some 4, .mv (.const (.int .i64 (-1))), none, 0⟩]) <|
  .keep [4] <|
  .ret⟩

theorem e_slices_Index_int64_int64 : EntOK Try.prog (compD Try.prog) k_slices_Index_int64_int64 i_slices_Index_int64_int64.vf :=
  ⟨Try.f40, Try.f40.body.getD .skip, Try.func40, by kernel_rfl, by kernel_rfl, by kernel_rfl, by kernel_rfl, by kernel_rfl⟩

/-- slices.Max[[]int64,int64] -/
def i_slices_Max_int64_int64_B1 : FC :=
  .seq (.seq (.ops [
    ⟨some 12, .mv (.tmp 4), none, 0⟩,
    ⟨some 13, .mv (.tmp 0), none, 0⟩,
    ⟨some 14, .len (.tmp 13), none, 0⟩,
    ⟨some 15, .bin .lss (.tmp 12) (.tmp 14), none, 0⟩]) <|
  .cond (.tmp 15)
    (.skip)
    (.keep [3] <|
    .exit 0)) <|
  .seq (.block 1 <|
  .ops [
    ⟨some 18, .mv (.tmp 3), none, 0⟩,
    ⟨some 19, .mv (.tmp 0), none, 0⟩,
    ⟨some 20, .mv (.tmp 4), none, 0⟩,
    ⟨some 21, .idx 1 (.tmp 19) (.tmp 20), none, 0⟩,
    ⟨some 22, .load false 1 (.tmp 21), none, 0⟩,
    ⟨some 23, .minmax true [(.tmp 18), (.tmp 22)], none, 0⟩,
    ⟨some 3, .mv (.tmp 23), none, 0⟩]) <|
  .ops [
    ⟨some 16, .mv (.tmp 4), none, 0⟩,
    ⟨some 17, .bin .add (.tmp 16) (.const (.int .i64 1)), none, 0⟩,
    ⟨some 4, .mv (.tmp 17), none, 0⟩]
def i_slices_Max_int64_int64 : FF := ⟨25, [.tmp 2],
  .seq (.ops [
    ⟨some 2, .mv (.const (.int .i64 0)), none, 0⟩]) <|
  .seq (.seq (.ops [
    ⟨some 5, .mv (.tmp 0), none, 0⟩,
    ⟨some 6, .len (.tmp 5), none, 0⟩,
    ⟨some 7, .bin .lss (.tmp 6) (.const (.int .i64 1)), none, 0⟩]) <|
  .cond (.tmp 7)
    (.ops [
      ⟨some 8, .stop, none, 0⟩,
      ⟨none, .stop, none, 0⟩])
    (.skip)) <|
  .seq (.ops [
    ⟨some 9, .mv (.tmp 0), none, 0⟩,
    ⟨some 10, .idx 1 (.tmp 9) (.const (.int .i64 0)), none, 0⟩,
    ⟨some 11, .load false 1 (.tmp 10), none, 0⟩,
    ⟨some 3, .mv (.tmp 11), none, 0⟩]) <|
  .seq (.seq (.ops [
    ⟨some 4, .mv (.const (.int .i64 1)), none, 0⟩]) <|
  .block 0 <|
  .loop [0, 3, 4] i_slices_Max_int64_int64_B1) <|
  .seq (.ops [
    ⟨some 24, .mv (.tmp 3), none, 0⟩,
    ⟨some 2, .mv (.tmp 24), none, 0⟩]) <|
  .keep [2] <|
  .ret⟩

theorem e_slices_Max_int64_int64 : EntOK Try.prog (compD Try.prog) k_slices_Max_int64_int64 i_slices_Max_int64_int64.vf :=
  ⟨Try.f41, Try.f41.body.getD .skip, Try.func41, by kernel_rfl, by kernel_rfl, by kernel_rfl, by kernel_rfl, by kernel_rfl⟩

/-- math/bits.OnesCount64 -/
def i_math_bits_OnesCount64 : FF := ⟨35, [.tmp 2],
  .seq (.ops [
    ⟨some 2, .mv (.const (.int .i64 0)), none, 0⟩]) <|
  .seq (.ops [
    ⟨some 3, .mv (.tmp 0), none, 0⟩,
    ⟨some 4, .bin .shr (.tmp 3) (.const (.int .u64 1)), none, 0⟩,
    ⟨some 5, .bin .and (.tmp 4) (.const (.int .u64 6148914691236517205)), none, 0⟩,
    ⟨some 6, .mv (.tmp 0), none, 0⟩,
    ⟨some 7, .bin .and (.tmp 6) (.const (.int .u64 6148914691236517205)), none, 0⟩,
    ⟨some 8, .bin .add (.tmp 5) (.tmp 7), none, 0⟩,
    ⟨some 0, .mv (.tmp 8), none, 0⟩]) <|
  .seq (.ops [
    ⟨some 9, .mv (.tmp 0), none, 0⟩,
    ⟨some 10, .bin .shr (.tmp 9) (.const (.int .u64 2)), none, 0⟩,
    ⟨some 11, .bin .and (.tmp 10) (.const (.int .u64 3689348814741910323)), none, 0⟩,
    ⟨some 12, .mv (.tmp 0), none, 0⟩,
    ⟨some 13, .bin .and (.tmp 12) (.const (.int .u64 3689348814741910323)), none, 0⟩,
    ⟨some 14, .bin .add (.tmp 11) (.tmp 13), none, 0⟩,
    ⟨some 0, .mv (.tmp 14), none, 0⟩]) <|
  .seq (.ops [
    ⟨some 15, .mv (.tmp 0), none, 0⟩,
    ⟨some 16, .bin .shr (.tmp 15) (.const (.int .u64 4)), none, 0⟩,
    ⟨some 17, .mv (.tmp 0), none, 0⟩,
    ⟨some 18, .bin .add (.tmp 16) (.tmp 17), none, 0⟩,
    ⟨some 19, .bin .and (.tmp 18) (.const (.int .u64 1085102592571150095)), none, 0⟩,
    ⟨some 0, .mv (.tmp 19), none, 0⟩]) <|
  .seq (.ops [
    ⟨some 20, .mv (.tmp 0), none, 0⟩,
    ⟨some 21, .mv (.tmp 0), none, 0⟩,
    ⟨some 22, .bin .shr (.tmp 21) (.const (.int .u64 8)), none, 0⟩,
    ⟨some 23, .bin .add (.tmp 20) (.tmp 22), none, 0⟩,
    ⟨some 0, .mv (.tmp 23), none, 0⟩]) <|
  .seq (.ops [
    ⟨some 24, .mv (.tmp 0), none, 0⟩,
    ⟨some 25, .mv (.tmp 0), none, 0⟩,
    ⟨some 26, .bin .shr (.tmp 25) (.const (.int .u64 16)), none, 0⟩,
    ⟨some 27, .bin .add (.tmp 24) (.tmp 26), none, 0⟩,
    ⟨some 0, .mv (.tmp 27), none, 0⟩]) <|
  .seq (.ops [
    ⟨some 28, .mv (.tmp 0), none, 0⟩,
    ⟨some 29, .mv (.tmp 0), none, 0⟩,
    ⟨some 30, .bin .shr (.tmp 29) (.const (.int .u64 32)), none, 0⟩,
    ⟨some 31, .bin .add (.tmp 28) (.tmp 30), none, 0⟩,
    ⟨some 0, .mv (.tmp 31), none, 0⟩]) <|
  .seq (.ops [
    ⟨some 32, .mv (.tmp 0), none, 0⟩,
    ⟨some 33, .conv .i64 (.tmp 32), none, 0⟩,
    ⟨some 34, .bin .and (.tmp 33) (.const (.int .i64 127)), none, 0⟩,
    ⟨some 2, .mv (.tmp 34), none, 0⟩]) <|
  .keep [2] <|
  .ret⟩

theorem e_math_bits_OnesCount64 : EntOK Try.prog (compD Try.prog) k_math_bits_OnesCount64 i_math_bits_OnesCount64.vf :=
  ⟨Try.f42, Try.f42.body.getD .skip, Try.func42, by kernel_rfl, by kernel_rfl, by kernel_rfl, by kernel_rfl, by kernel_rfl⟩

/-- slices.pdqsortCmpFunc[loop.example/g01331/impl.told] -/
def i_slices_pdqsortCmpFunc_impl_told_B1 : FC :=
  .block 1 <|
  .seq (.ops [
    ⟨some 21, .mv (.tmp 2), none, 0⟩,
    ⟨some 22, .mv (.tmp 1), none, 0⟩,
    ⟨some 23, .bin .sub (.tmp 21) (.tmp 22), none, 0⟩,
    ⟨some 12, .mv (.tmp 23), none, 0⟩]) <|
  .seq (.seq (.ops [
    ⟨some 24, .mv (.tmp 12), none, 0⟩,
    ⟨some 25, .bin .leq (.tmp 24) (.const (.int .i64 12)), none, 0⟩]) <|
  .cond (.tmp 25)
    (.seq (.ops [
      ⟨some 26, .mv (.tmp 0), none, 0⟩,
      ⟨some 27, .mv (.tmp 1), none, 0⟩,
      ⟨some 28, .mv (.tmp 2), none, 0⟩,
      ⟨some 29, .mv (.tmp 4), none, 0⟩,
      ⟨some 30, .call k_slices_insertionSortCmpFunc_impl_told [(.tmp 26), (.tmp 27), (.tmp 28), (.tmp 29)], none, 0⟩]) <|
    .keep [] <|
    .ret)
    (.skip)) <|
  .seq (.seq (.ops [
    ⟨some 31, .mv (.tmp 3), none, 0⟩,
    ⟨some 32, .bin .eql (.tmp 31) (.const (.int .i64 0)), none, 0⟩]) <|
  .cond (.tmp 32)
    (.seq (.ops [
      ⟨some 33, .mv (.tmp 0), none, 0⟩,
      ⟨some 34, .mv (.tmp 1), none, 0⟩,
      ⟨some 35, .mv (.tmp 2), none, 0⟩,
      ⟨some 36, .mv (.tmp 4), none, 0⟩,
      ⟨some 37, .call k_slices_heapSortCmpFunc_impl_told [(.tmp 33), (.tmp 34), (.tmp 35), (.tmp 36)], none, 0⟩]) <|
    .keep [] <|
    .ret)
    (.skip)) <|
  .seq (.seq (.ops [
    ⟨some 38, .mv (.tmp 10), none, 0⟩,
    ⟨some 39, .un .not (.tmp 38), none, 0⟩]) <|
  .cond (.tmp 39)
    (.seq (.ops [
      ⟨some 40, .mv (.tmp 0), none, 0⟩,
      ⟨some 41, .mv (.tmp 1), none, 0⟩,
      ⟨some 42, .mv (.tmp 2), none, 0⟩,
      ⟨some 43, .mv (.tmp 4), none, 0⟩,
      ⟨some 44, .call k_slices_breakPatternsCmpFunc_impl_told [(.tmp 40), (.tmp 41), (.tmp 42), (.tmp 43)], none, 0⟩]) <|
    .ops [
      ⟨some 45, .mv (.tmp 3), none, 0⟩,
      ⟨some 46, .bin .sub (.tmp 45) (.const (.int .i64 1)), none, 0⟩,
      ⟨some 3, .mv (.tmp 46), none, 0⟩])
    (.skip)) <|
  .seq (.ops [
    ⟨some 48, .mv (.tmp 0), none, 0⟩,
    ⟨some 49, .mv (.tmp 1), none, 0⟩,
    ⟨some 50, .mv (.tmp 2), none, 0⟩,
    ⟨some 51, .mv (.tmp 4), none, 0⟩,
    ⟨some 52, .call k_slices_choosePivotCmpFunc_impl_told [(.tmp 48), (.tmp 49), (.tmp 50), (.tmp 51)], none, 0⟩,
    ⟨some 47, .mv (.tmp 52), none, 0⟩,
    ⟨some 53, .ext (.tmp 47) 0, none, 0⟩,
    ⟨some 54, .ext (.tmp 47) 1, none, 0⟩,
    ⟨some 13, .mv (.tmp 53), none, 0⟩,
    ⟨some 14, .mv (.tmp 54), none, 0⟩]) <|
  .seq (.seq (.ops [
    ⟨some 55, .mv (.tmp 14), none, 0⟩,
    ⟨some 56, .bin .eql (.tmp 55) (.const (.int .i64 2)), none, 0⟩]) <|
  .cond (.tmp 56)
    (.seq (.ops [
      ⟨some 57, .mv (.tmp 0), none, 0⟩,
      ⟨some 58, .mv (.tmp 1), none, 0⟩,
      ⟨some 59, .mv (.tmp 2), none, 0⟩,
      ⟨some 60, .mv (.tmp 4), none, 0⟩,
      ⟨some 61, .call k_slices_reverseRangeCmpFunc_impl_told [(.tmp 57), (.tmp 58), (.tmp 59), (.tmp 60)], none, 0⟩]) <|
    .seq (.ops [
      ⟨some 62, .mv (.tmp 2), none, 0⟩,
      ⟨some 63, .bin .sub (.tmp 62) (.const (.int .i64 1)), none, 0⟩,
      ⟨some 64, .mv (.tmp 13), none, 0⟩,
      ⟨some 65, .mv (.tmp 1), none, 0⟩,
      ⟨some 66, .bin .sub (.tmp 64) (.tmp 65), none, 0⟩,
      ⟨some 67, .bin .sub (.tmp 63) (.tmp 66), none, 0⟩,
      ⟨some 13, .mv (.tmp 67), none, 0⟩]) <|
    .ops [
      ⟨some 14, .mv (.const (.int .i64 1)), none, 0⟩])
    (.skip)) <|
  .seq (.seq (.ops [
    ⟨some 68, .mv (.tmp 10), none, 0⟩,
    ⟨some 69, .mv (.tmp 68), none, 0⟩,
    ⟨some 70, .mv (.tmp 11), some (69, true), 0⟩,
    ⟨some 71, .pick (.tmp 69) (.tmp 70) (.const (.bool false)), none, 0⟩,
    ⟨some 72, .mv (.tmp 71), none, 0⟩,
    ⟨some 73, .mv (.tmp 14), some (72, true), 0⟩,
    ⟨some 74, .bin .eql (.tmp 73) (.const (.int .i64 1)), some (72, true), 0⟩,
    ⟨some 75, .pick (.tmp 72) (.tmp 74) (.const (.bool false)), none, 0⟩]) <|
  .cond (.tmp 75)
    (.seq (.ops [
      ⟨some 76, .mv (.tmp 0), none, 0⟩,
      ⟨some 77, .mv (.tmp 1), none, 0⟩,
      ⟨some 78, .mv (.tmp 2), none, 0⟩,
      ⟨some 79, .mv (.tmp 4), none, 0⟩,
      ⟨some 80, .call k_slices_partialInsertionSortCmpFunc_impl_told [(.tmp 76), (.tmp 77), (.tmp 78), (.tmp 79)], none, 0⟩]) <|
    .cond (.tmp 80)
      (.keep [] <|
      .ret)
      (.skip))
    (.skip)) <|
  .seq (.seq (.dops [
    ⟨some 81, .mv (.tmp 1), none, 0⟩,
    ⟨some 82, .bin .gtr (.tmp 81) (.const (.int .i64 0)), none, 0⟩,
    ⟨some 83, .mv (.tmp 82), none, 0⟩,
    ⟨some 84, .mv (.tmp 4), some (83, true), 0⟩,
    ⟨some 85, .mv (.tmp 0), some (83, true), 0⟩,
    ⟨some 86, .mv (.tmp 1), some (83, true), 0⟩,
    ⟨some 87, .bin .sub (.tmp 86) (.const (.int .i64 1)), some (83, true), 0⟩,
    ⟨some 88, .idx 3 (.tmp 85) (.tmp 87), some (83, true), 0⟩,
    ⟨some 89, .load true 3 (.tmp 88), some (83, true), 0⟩,
    ⟨some 90, .mv (.tmp 0), some (83, true), 0⟩,
    ⟨some 91, .mv (.tmp 13), some (83, true), 0⟩,
    ⟨some 92, .idx 3 (.tmp 90) (.tmp 91), some (83, true), 0⟩,
    ⟨some 93, .load true 3 (.tmp 92), some (83, true), 0⟩,
    ⟨some 94, .callv (.tmp 84) [(.tmp 89), (.tmp 93)], some (83, true), 0⟩,
    ⟨some 95, .bin .lss (.tmp 94) (.const (.int .i64 0)), some (83, true), 0⟩,
    ⟨some 96, .un .not (.tmp 95), some (83, true), 0⟩,
    ⟨some 97, .pick (.tmp 83) (.tmp 96) (.const (.bool false)), none, 0⟩]) <|
  .cond (.tmp 97)
    (.seq (.ops [
      ⟨some 98, .mv (.tmp 0), none, 0⟩,
      ⟨some 99, .mv (.tmp 1), none, 0⟩,
      ⟨some 100, .mv (.tmp 2), none, 0⟩,
      ⟨some 101, .mv (.tmp 13), none, 0⟩,
      ⟨some 102, .mv (.tmp 4), none, 0⟩,
      ⟨some 103, .call k_slices_partitionEqualCmpFunc_impl_told [(.tmp 98), (.tmp 99), (.tmp 100), (.tmp 101), (.tmp 102)], none, 0⟩,
      ⟨some 15, .mv (.tmp 103), none, 0⟩]) <|
    .seq (.ops [
      ⟨some 104, .mv (.tmp 15), none, 0⟩,
      ⟨some 1, .mv (.tmp 104), none, 0⟩]) <|
    .keep [0, 1, 2, 3, 4, 10, 11] <|
    .exit 1)
    (.skip)) <|
  .seq (.ops [
    ⟨some 106, .mv (.tmp 0), none, 0⟩,
    ⟨some 107, .mv (.tmp 1), none, 0⟩,
    ⟨some 108, .mv (.tmp 2), none, 0⟩,
    ⟨some 109, .mv (.tmp 13), none, 0⟩,
    ⟨some 110, .mv (.tmp 4), none, 0⟩,
    ⟨some 111, .call k_slices_partitionCmpFunc_impl_told [(.tmp 106), (.tmp 107), (.tmp 108), (.tmp 109), (.tmp 110)], none, 0⟩,
    ⟨some 105, .mv (.tmp 111), none, 0⟩,
    ⟨some 112, .ext (.tmp 105) 0, none, 0⟩,
    ⟨some 113, .ext (.tmp 105) 1, none, 0⟩,
    ⟨some 16, .mv (.tmp 112), none, 0⟩,
    ⟨some 17, .mv (.tmp 113), none, 0⟩]) <|
  .seq (.ops [
    ⟨some 114, .mv (.tmp 17), none, 0⟩,
    ⟨some 11, .mv (.tmp 114), none, 0⟩]) <|
  .seq (.ops [
    ⟨some 115, .mv (.tmp 16), none, 0⟩,
    ⟨some 116, .mv (.tmp 1), none, 0⟩,
    ⟨some 117, .bin .sub (.tmp 115) (.tmp 116), none, 0⟩,
    ⟨some 118, .mv (.tmp 2), none, 0⟩,
    ⟨some 119, .mv (.tmp 16), none, 0⟩,
    ⟨some 120, .bin .sub (.tmp 118) (.tmp 119), none, 0⟩,
    ⟨some 18, .mv (.tmp 117), none, 0⟩,
    ⟨some 19, .mv (.tmp 120), none, 0⟩]) <|
  .seq (.ops [
    ⟨some 121, .mv (.tmp 12), none, 0⟩,
    ⟨some 122, .bin .quo (.tmp 121) (.const (.int .i64 8)), none, 0⟩,
    ⟨some 20, .mv (.tmp 122), none, 0⟩]) <|
  .seq (.ops [
    ⟨some 123, .mv (.tmp 18), none, 0⟩,
    ⟨some 124, .mv (.tmp 19), none, 0⟩,
    ⟨some 125, .bin .lss (.tmp 123) (.tmp 124), none, 0⟩]) <|
  .cond (.tmp 125)
    (.seq (.ops [
      ⟨some 126, .mv (.tmp 18), none, 0⟩,
      ⟨some 127, .mv (.tmp 20), none, 0⟩,
      ⟨some 128, .bin .geq (.tmp 126) (.tmp 127), none, 0⟩,
      ⟨some 10, .mv (.tmp 128), none, 0⟩]) <|
    .seq (.ops [
      ⟨some 129, .mv (.tmp 0), none, 0⟩,
      ⟨some 130, .mv (.tmp 1), none, 0⟩,
      ⟨some 131, .mv (.tmp 16), none, 0⟩,
      ⟨some 132, .mv (.tmp 3), none, 0⟩,
      ⟨some 133, .mv (.tmp 4), none, 0⟩,
      ⟨some 134, .call k_slices_pdqsortCmpFunc_impl_told [(.tmp 129), (.tmp 130), (.tmp 131), (.tmp 132), (.tmp 133)], none, 0⟩]) <|
    .ops [
      ⟨some 135, .mv (.tmp 16), none, 0⟩,
      ⟨some 136, .bin .add (.tmp 135) (.const (.int .i64 1)), none, 0⟩,
      ⟨some 1, .mv (.tmp 136), none, 0⟩])
    (.seq (.ops [
      ⟨some 137, .mv (.tmp 19), none, 0⟩,
      ⟨some 138, .mv (.tmp 20), none, 0⟩,
      ⟨some 139, .bin .geq (.tmp 137) (.tmp 138), none, 0⟩,
      ⟨some 10, .mv (.tmp 139), none, 0⟩]) <|
    .seq (.ops [
      ⟨some 140, .mv (.tmp 0), none, 0⟩,
      ⟨some 141, .mv (.tmp 16), none, 0⟩,
      ⟨some 142, .bin .add (.tmp 141) (.const (.int .i64 1)), none, 0⟩,
      ⟨some 143, .mv (.tmp 2), none, 0⟩,
      ⟨some 144, .mv (.tmp 3), none, 0⟩,
      ⟨some 145, .mv (.tmp 4), none, 0⟩,
      ⟨some 146, .call k_slices_pdqsortCmpFunc_impl_told [(.tmp 140), (.tmp 142), (.tmp 143), (.tmp 144), (.tmp 145)], none, 0⟩]) <|
    .ops [
      ⟨some 147, .mv (.tmp 16), none, 0⟩,
      ⟨some 2, .mv (.tmp 147), none, 0⟩])
def i_slices_pdqsortCmpFunc_impl_told : FF := ⟨148, [],
  .seq (.ops [
    ⟨some 10, .mv (.const (.bool true)), none, 0⟩]) <|
  .seq (.ops [
    ⟨some 11, .mv (.const (.bool true)), none, 0⟩]) <|
  .block 0 <|
  .loop [0, 1, 2, 3, 4, 10, 11] i_slices_pdqsortCmpFunc_impl_told_B1⟩

theorem e_slices_pdqsortCmpFunc_impl_told : EntOK Try.prog (compD Try.prog) k_slices_pdqsortCmpFunc_impl_told i_slices_pdqsortCmpFunc_impl_told.vf :=
  ⟨Try.f43, Try.f43.body.getD .skip, Try.func43, by kernel_rfl, by kernel_rfl, by kernel_rfl, by kernel_rfl, by kernel_rfl⟩

/-- math/bits.Len -/
def i_math_bits_Len : FF := ⟨8, [.tmp 2],
  .seq (.ops [
    ⟨some 2, .mv (.const (.int .i64 0)), none, 0⟩]) <|
  .seq (.cond (.const (.bool false))
    (.seq (.ops [
      ⟨some 3, .mv (.tmp 0), none, 0⟩,
      ⟨some 4, .conv .u32 (.tmp 3), none, 0⟩,
      ⟨some 5, .call k_math_bits_Len32 [(.tmp 4)], none, 0⟩,
      ⟨some 2, .mv (.tmp 5), none, 0⟩]) <|
    .keep [2] <|
    .ret)
    (.skip)) <|
  .seq (.ops [
    ⟨some 6, .mv (.tmp 0), none, 0⟩,
    ⟨some 7, .call k_math_bits_Len64 [(.tmp 6)], none, 0⟩,
    ⟨some 2, .mv (.tmp 7), none, 0⟩]) <|
  .keep [2] <|
  .ret⟩

theorem e_math_bits_Len : EntOK Try.prog (compD Try.prog) k_math_bits_Len i_math_bits_Len.vf :=
  ⟨Try.f44, Try.f44.body.getD .skip, Try.func44, by kernel_rfl, by kernel_rfl, by kernel_rfl, by kernel_rfl, by kernel_rfl⟩

/-- cmp.Compare[int64] -/
def i_cmp_Compare_int64 : FF := ⟨20, [.tmp 4],
  .seq (.ops [
    ⟨some 4, .mv (.const (.int .i64 0)), none, 0⟩]) <|
  .seq (.ops [
    ⟨some 7, .mv (.tmp 0), none, 0⟩,
    ⟨some 8, .call k_cmp_isNaN_int64 [(.tmp 7)], none, 0⟩,
    ⟨some 5, .mv (.tmp 8), none, 0⟩]) <|
  .seq (.ops [
    ⟨some 9, .mv (.tmp 1), none, 0⟩,
    ⟨some 10, .call k_cmp_isNaN_int64 [(.tmp 9)], none, 0⟩,
    ⟨some 6, .mv (.tmp 10), none, 0⟩]) <|
  .seq (.seq (.ops [
    ⟨some 11, .mv (.tmp 5), none, 0⟩]) <|
  .cond (.tmp 11)
    (.seq (.seq (.ops [
      ⟨some 12, .mv (.tmp 6), none, 0⟩]) <|
    .cond (.tmp 12)
      (.seq (.ops [
        ⟨some 4, .mv (.const (.int .i64 0)), none, 0⟩]) <|
      .keep [4] <|
      .ret)
      (.skip)) <|
    .seq (.ops [
      ⟨some 4, .mv (.const (.int .i64 (-1))), none, 0⟩]) <|
    .keep [4] <|
    .ret)
    (.skip)) <|
  .seq (.seq (.ops [
    ⟨some 13, .mv (.tmp 6), none, 0⟩]) <|
  .cond (.tmp 13)
    (.seq (.ops [
      ⟨some 4, .mv (.const (.int .i64 1)), none, 0⟩]) <|
    .keep [4] <|
    .ret)
    (.skip)) <|
  .seq (.seq (.ops [
    ⟨some 14, .mv (.tmp 0), none, 0⟩,
    ⟨some 15, .mv (.tmp 1), none, 0⟩,
    ⟨some 16, .bin .lss (.tmp 14) (.tmp 15), none, 0⟩]) <|
  .cond (.tmp 16)
    (.seq (.ops [
      ⟨some 4, .mv (.const (.int .i64 (-1))), none, 0⟩]) <|
    .keep [4] <|
    .ret)
    (.skip)) <|
  .seq (.seq (.ops [
    ⟨some 17, .mv (.tmp 0), none, 0⟩,
    ⟨some 18, .mv (.tmp 1), none, 0⟩,
    ⟨some 19, .bin .gtr (.tmp 17) (.tmp 18), none, 0⟩]) <|
  .cond (.tmp 19)
    (.seq (.ops [
      ⟨some 4, .mv (.const (.int .i64 1)), none, 0⟩]) <|
    .keep [4] <|
    .ret)
    (.skip)) <|
  .seq (.ops [
    ⟨some 4, .mv (.const (.int .i64 0)), none, 0⟩]) <|
  .keep [4] <|
  .ret⟩

theorem e_cmp_Compare_int64 : EntOK Try.prog (compD Try.prog) k_cmp_Compare_int64 i_cmp_Compare_int64.vf :=
  ⟨Try.f45, Try.f45.body.getD .skip, Try.func45, by kernel_rfl, by kernel_rfl, by kernel_rfl, by kernel_rfl, by kernel_rfl⟩

/-- slices.insertionSortCmpFunc[loop.example/g01331/impl.told] -/
def i_slices_insertionSortCmpFunc_impl_told_B1 : FC :=
  .seq (.seq (.dops [
    ⟨some 18, .mv (.tmp 9), none, 0⟩,
    ⟨some 19, .mv (.tmp 1), none, 0⟩,
    ⟨some 20, .bin .gtr (.tmp 18) (.tmp 19), none, 0⟩,
    ⟨some 21, .mv (.tmp 20), none, 0⟩,
    ⟨some 22, .mv (.tmp 3), some (21, true), 0⟩,
    ⟨some 23, .mv (.tmp 0), some (21, true), 0⟩,
    ⟨some 24, .mv (.tmp 9), some (21, true), 0⟩,
    ⟨some 25, .idx 3 (.tmp 23) (.tmp 24), some (21, true), 0⟩,
    ⟨some 26, .load true 3 (.tmp 25), some (21, true), 0⟩,
    ⟨some 27, .mv (.tmp 0), some (21, true), 0⟩,
    ⟨some 28, .mv (.tmp 9), some (21, true), 0⟩,
    ⟨some 29, .bin .sub (.tmp 28) (.const (.int .i64 1)), some (21, true), 0⟩,
    ⟨some 30, .idx 3 (.tmp 27) (.tmp 29), some (21, true), 0⟩,
    ⟨some 31, .load true 3 (.tmp 30), some (21, true), 0⟩,
    ⟨some 32, .callv (.tmp 22) [(.tmp 26), (.tmp 31)], some (21, true), 0⟩,
    ⟨some 33, .bin .lss (.tmp 32) (.const (.int .i64 0)), some (21, true), 0⟩,
    ⟨some 34, .pick (.tmp 21) (.tmp 33) (.const (.bool false)), none, 0⟩]) <|
  .cond (.tmp 34)
    (.skip)
    (.keep [0, 1, 2, 3, 8] <|
    .exit 2)) <|
  .seq (.block 3 <|
  .dops [
    ⟨some 37, .mv (.tmp 0), none, 0⟩,
    ⟨some 38, .mv (.tmp 9), none, 0⟩,
    ⟨some 42, .mv (.tmp 0), none, 0⟩,
    ⟨some 43, .mv (.tmp 9), none, 0⟩,
    ⟨some 44, .bin .sub (.tmp 43) (.const (.int .i64 1)), none, 0⟩,
    ⟨some 45, .idx 3 (.tmp 42) (.tmp 44), none, 0⟩,
    ⟨some 46, .load true 3 (.tmp 45), none, 0⟩,
    ⟨some 47, .mv (.tmp 0), none, 0⟩,
    ⟨some 48, .mv (.tmp 9), none, 0⟩,
    ⟨some 49, .idx 3 (.tmp 47) (.tmp 48), none, 0⟩,
    ⟨some 50, .load true 3 (.tmp 49), none, 0⟩,
    ⟨some 51, .idx 3 (.tmp 37) (.tmp 38), none, 0⟩,
    ⟨none, .store 3 (.tmp 51) (.tmp 46), none, 0⟩,
    ⟨some 39, .mv (.tmp 0), none, 1⟩,
    ⟨some 40, .mv (.tmp 9), none, 1⟩,
    ⟨some 41, .bin .sub (.tmp 40) (.const (.int .i64 1)), none, 1⟩,
    ⟨some 52, .idx 3 (.tmp 39) (.tmp 41), none, 0⟩,
    ⟨none, .store 3 (.tmp 52) (.tmp 50), none, 0⟩]) <|
  .ops [
    ⟨some 35, .mv (.tmp 9), none, 0⟩,
    ⟨some 36, .bin .sub (.tmp 35) (.const (.int .i64 1)), none, 0⟩,
    ⟨some 9, .mv (.tmp 36), none, 0⟩]
def i_slices_insertionSortCmpFunc_impl_told_B2 : FC :=
  .seq (.seq (.ops [
    ⟨some 12, .mv (.tmp 8), none, 0⟩,
    ⟨some 13, .mv (.tmp 2), none, 0⟩,
    ⟨some 14, .bin .lss (.tmp 12) (.tmp 13), none, 0⟩]) <|
  .cond (.tmp 14)
    (.skip)
    (.keep [] <|
    .exit 0)) <|
  .seq (.block 1 <|
  .seq (.ops [
    ⟨some 17, .mv (.tmp 8), none, 0⟩,
    ⟨some 9, .mv (.tmp 17), none, 0⟩]) <|
  .block 2 <|
  .loop [0, 1, 2, 3, 8, 9] i_slices_insertionSortCmpFunc_impl_told_B1) <|
  .ops [
    ⟨some 15, .mv (.tmp 8), none, 0⟩,
    ⟨some 16, .bin .add (.tmp 15) (.const (.int .i64 1)), none, 0⟩,
    ⟨some 8, .mv (.tmp 16), none, 0⟩]
def i_slices_insertionSortCmpFunc_impl_told : FF := ⟨53, [],
  .seq (.ops [
    ⟨some 10, .mv (.tmp 1), none, 0⟩,
    ⟨some 11, .bin .add (.tmp 10) (.const (.int .i64 1)), none, 0⟩,
    ⟨some 8, .mv (.tmp 11), none, 0⟩]) <|
  .block 0 <|
  .loop [0, 1, 2, 3, 8] i_slices_insertionSortCmpFunc_impl_told_B2⟩

theorem e_slices_insertionSortCmpFunc_impl_told : EntOK Try.prog (compD Try.prog) k_slices_insertionSortCmpFunc_impl_told i_slices_insertionSortCmpFunc_impl_told.vf :=
  ⟨Try.f46, Try.f46.body.getD .skip, Try.func46, by kernel_rfl, by kernel_rfl, by kernel_rfl, by kernel_rfl, by kernel_rfl⟩

/-- slices.heapSortCmpFunc[loop.example/g01331/impl.told] -/
def i_slices_heapSortCmpFunc_impl_told_B1 : FC :=
  .seq (.seq (.ops [
    ⟨some 20, .mv (.tmp 11), none, 0⟩,
    ⟨some 21, .bin .geq (.tmp 20) (.const (.int .i64 0)), none, 0⟩]) <|
  .cond (.tmp 21)
    (.skip)
    (.keep [0, 3, 8, 9, 10] <|
    .exit 0)) <|
  .seq (.block 1 <|
  .ops [
    ⟨some 24, .mv (.tmp 0), none, 0⟩,
    ⟨some 25, .mv (.tmp 11), none, 0⟩,
    ⟨some 26, .mv (.tmp 10), none, 0⟩,
    ⟨some 27, .mv (.tmp 8), none, 0⟩,
    ⟨some 28, .mv (.tmp 3), none, 0⟩,
    ⟨some 29, .call k_slices_siftDownCmpFunc_impl_told [(.tmp 24), (.tmp 25), (.tmp 26), (.tmp 27), (.tmp 28)], none, 0⟩]) <|
  .ops [
    ⟨some 22, .mv (.tmp 11), none, 0⟩,
    ⟨some 23, .bin .sub (.tmp 22) (.const (.int .i64 1)), none, 0⟩,
    ⟨some 11, .mv (.tmp 23), none, 0⟩]
def i_slices_heapSortCmpFunc_impl_told_B2 : FC :=
  .seq (.seq (.ops [
    ⟨some 32, .mv (.tmp 12), none, 0⟩,
    ⟨some 33, .bin .geq (.tmp 32) (.const (.int .i64 0)), none, 0⟩]) <|
  .cond (.tmp 33)
    (.skip)
    (.keep [] <|
    .exit 2)) <|
  .seq (.block 3 <|
  .seq (.dops [
    ⟨some 36, .mv (.tmp 0), none, 0⟩,
    ⟨some 37, .mv (.tmp 8), none, 0⟩,
    ⟨some 42, .mv (.tmp 0), none, 0⟩,
    ⟨some 43, .mv (.tmp 8), none, 0⟩,
    ⟨some 44, .mv (.tmp 12), none, 0⟩,
    ⟨some 45, .bin .add (.tmp 43) (.tmp 44), none, 0⟩,
    ⟨some 46, .idx 3 (.tmp 42) (.tmp 45), none, 0⟩,
    ⟨some 47, .load true 3 (.tmp 46), none, 0⟩,
    ⟨some 48, .mv (.tmp 0), none, 0⟩,
    ⟨some 49, .mv (.tmp 8), none, 0⟩,
    ⟨some 50, .idx 3 (.tmp 48) (.tmp 49), none, 0⟩,
    ⟨some 51, .load true 3 (.tmp 50), none, 0⟩,
    ⟨some 52, .idx 3 (.tmp 36) (.tmp 37), none, 0⟩,
    ⟨none, .store 3 (.tmp 52) (.tmp 47), none, 0⟩,
    ⟨some 38, .mv (.tmp 0), none, 1⟩,
    ⟨some 39, .mv (.tmp 8), none, 1⟩,
    ⟨some 40, .mv (.tmp 12), none, 1⟩,
    ⟨some 41, .bin .add (.tmp 39) (.tmp 40), none, 1⟩,
    ⟨some 53, .idx 3 (.tmp 38) (.tmp 41), none, 0⟩,
    ⟨none, .store 3 (.tmp 53) (.tmp 51), none, 0⟩]) <|
  .ops [
    ⟨some 54, .mv (.tmp 0), none, 0⟩,
    ⟨some 55, .mv (.tmp 9), none, 0⟩,
    ⟨some 56, .mv (.tmp 12), none, 0⟩,
    ⟨some 57, .mv (.tmp 8), none, 0⟩,
    ⟨some 58, .mv (.tmp 3), none, 0⟩,
    ⟨some 59, .call k_slices_siftDownCmpFunc_impl_told [(.tmp 54), (.tmp 55), (.tmp 56), (.tmp 57), (.tmp 58)], none, 0⟩]) <|
  .ops [
    ⟨some 34, .mv (.tmp 12), none, 0⟩,
    ⟨some 35, .bin .sub (.tmp 34) (.const (.int .i64 1)), none, 0⟩,
    ⟨some 12, .mv (.tmp 35), none, 0⟩]
def i_slices_heapSortCmpFunc_impl_told : FF := ⟨60, [],
  .seq (.ops [
    ⟨some 13, .mv (.tmp 1), none, 0⟩,
    ⟨some 8, .mv (.tmp 13), none, 0⟩]) <|
  .seq (.ops [
    ⟨some 9, .mv (.const (.int .i64 0)), none, 0⟩]) <|
  .seq (.ops [
    ⟨some 14, .mv (.tmp 2), none, 0⟩,
    ⟨some 15, .mv (.tmp 1), none, 0⟩,
    ⟨some 16, .bin .sub (.tmp 14) (.tmp 15), none, 0⟩,
    ⟨some 10, .mv (.tmp 16), none, 0⟩]) <|
  .seq (.seq (.ops [
    ⟨some 17, .mv (.tmp 10), none, 0⟩,
    ⟨some 18, .bin .sub (.tmp 17) (.const (.int .i64 1)), none, 0⟩,
    ⟨some 19, .bin .quo (.tmp 18) (.const (.int .i64 2)), none, 0⟩,
    ⟨some 11, .mv (.tmp 19), none, 0⟩]) <|
  .block 0 <|
  .loop [0, 3, 8, 9, 10, 11] i_slices_heapSortCmpFunc_impl_told_B1) <|
  .seq (.ops [
    ⟨some 30, .mv (.tmp 10), none, 0⟩,
    ⟨some 31, .bin .sub (.tmp 30) (.const (.int .i64 1)), none, 0⟩,
    ⟨some 12, .mv (.tmp 31), none, 0⟩]) <|
  .block 2 <|
  .loop [0, 3, 8, 9, 12] i_slices_heapSortCmpFunc_impl_told_B2⟩

theorem e_slices_heapSortCmpFunc_impl_told : EntOK Try.prog (compD Try.prog) k_slices_heapSortCmpFunc_impl_told i_slices_heapSortCmpFunc_impl_told.vf :=
  ⟨Try.f47, Try.f47.body.getD .skip, Try.func47, by kernel_rfl, by kernel_rfl, by kernel_rfl, by kernel_rfl, by kernel_rfl⟩

/-- slices.breakPatternsCmpFunc[loop.example/g01331/impl.told] -/
def i_slices_breakPatternsCmpFunc_impl_told_B1 : FC :=
  .seq (.seq (.ops [
    ⟨some 28, .mv (.tmp 11), none, 0⟩,
    ⟨some 29, .mv (.tmp 1), none, 0⟩,
    ⟨some 30, .mv (.tmp 8), none, 0⟩,
    ⟨some 31, .bin .quo (.tmp 30) (.const (.int .i64 4)), none, 0⟩,
    ⟨some 32, .bin .mul (.tmp 31) (.const (.int .i64 2)), none, 0⟩,
    ⟨some 33, .bin .add (.tmp 29) (.tmp 32), none, 0⟩,
    ⟨some 34, .bin .add (.tmp 33) (.const (.int .i64 1)), none, 0⟩,
    ⟨some 35, .bin .leq (.tmp 28) (.tmp 34), none, 0⟩]) <|
  .cond (.tmp 35)
    (.skip)
    (.keep [] <|
    .exit 0)) <|
  .seq (.block 1 <|
  .seq (.ops [
    ⟨some 38, .call k_slices_xorshift_Next [(.tmp 9)], none, 0⟩,
    ⟨some 39, .mv (.tmp 10), none, 0⟩,
    ⟨some 40, .bin .sub (.tmp 39) (.const (.int .u64 1)), none, 0⟩,
    ⟨some 41, .bin .and (.tmp 38) (.tmp 40), none, 0⟩,
    ⟨some 42, .conv .i64 (.tmp 41), none, 0⟩,
    ⟨some 12, .mv (.tmp 42), none, 0⟩]) <|
  .seq (.seq (.ops [
    ⟨some 43, .mv (.tmp 12), none, 0⟩,
    ⟨some 44, .mv (.tmp 8), none, 0⟩,
    ⟨some 45, .bin .geq (.tmp 43) (.tmp 44), none, 0⟩]) <|
  .cond (.tmp 45)
    (.ops [
      ⟨some 46, .mv (.tmp 12), none, 0⟩,
      ⟨some 47, .mv (.tmp 8), none, 0⟩,
      ⟨some 48, .bin .sub (.tmp 46) (.tmp 47), none, 0⟩,
      ⟨some 12, .mv (.tmp 48), none, 0⟩])
    (.skip)) <|
  .dops [
    ⟨some 49, .mv (.tmp 0), none, 0⟩,
    ⟨some 50, .mv (.tmp 11), none, 0⟩,
    ⟨some 55, .mv (.tmp 0), none, 0⟩,
    ⟨some 56, .mv (.tmp 1), none, 0⟩,
    ⟨some 57, .mv (.tmp 12), none, 0⟩,
    ⟨some 58, .bin .add (.tmp 56) (.tmp 57), none, 0⟩,
    ⟨some 59, .idx 3 (.tmp 55) (.tmp 58), none, 0⟩,
    ⟨some 60, .load true 3 (.tmp 59), none, 0⟩,
    ⟨some 61, .mv (.tmp 0), none, 0⟩,
    ⟨some 62, .mv (.tmp 11), none, 0⟩,
    ⟨some 63, .idx 3 (.tmp 61) (.tmp 62), none, 0⟩,
    ⟨some 64, .load true 3 (.tmp 63), none, 0⟩,
    ⟨some 65, .idx 3 (.tmp 49) (.tmp 50), none, 0⟩,
    ⟨none, .store 3 (.tmp 65) (.tmp 60), none, 0⟩,
    ⟨some 51, .mv (.tmp 0), none, 1⟩,
    ⟨some 52, .mv (.tmp 1), none, 1⟩,
    ⟨some 53, .mv (.tmp 12), none, 1⟩,
    ⟨some 54, .bin .add (.tmp 52) (.tmp 53), none, 1⟩,
    ⟨some 66, .idx 3 (.tmp 51) (.tmp 54), none, 0⟩,
    ⟨none, .store 3 (.tmp 66) (.tmp 64), none, 0⟩]) <|
  .ops [
    ⟨some 36, .mv (.tmp 11), none, 0⟩,
    ⟨some 37, .bin .add (.tmp 36) (.const (.int .i64 1)), none, 0⟩,
    ⟨some 11, .mv (.tmp 37), none, 0⟩]
def i_slices_breakPatternsCmpFunc_impl_told : FF := ⟨67, [],
  .seq (.ops [
    ⟨some 13, .mv (.tmp 2), none, 0⟩,
    ⟨some 14, .mv (.tmp 1), none, 0⟩,
    ⟨some 15, .bin .sub (.tmp 13) (.tmp 14), none, 0⟩,
    ⟨some 8, .mv (.tmp 15), none, 0⟩]) <|
  .seq (.ops [
    ⟨some 16, .mv (.tmp 8), none, 0⟩,
    ⟨some 17, .bin .geq (.tmp 16) (.const (.int .i64 8)), none, 0⟩]) <|
  .cond (.tmp 17)
    (.seq (.ops [
      ⟨some 18, .mv (.tmp 8), none, 0⟩,
      ⟨some 19, .conv .u64 (.tmp 18), none, 0⟩,
      ⟨some 9, .alloc [.int .u64 0], none, 0⟩,
      ⟨none, .store 1 (.tmp 9) (.tmp 19), none, 0⟩]) <|
    .seq (.ops [
      ⟨some 20, .mv (.tmp 8), none, 0⟩,
      ⟨some 21, .call k_slices_nextPowerOfTwo [(.tmp 20)], none, 0⟩,
      ⟨some 10, .mv (.tmp 21), none, 0⟩]) <|
    .seq (.ops [
      ⟨some 22, .mv (.tmp 1), none, 0⟩,
      ⟨some 23, .mv (.tmp 8), none, 0⟩,
      ⟨some 24, .bin .quo (.tmp 23) (.const (.int .i64 4)), none, 0⟩,
      ⟨some 25, .bin .mul (.tmp 24) (.const (.int .i64 2)), none, 0⟩,
      ⟨some 26, .bin .add (.tmp 22) (.tmp 25), none, 0⟩,
      ⟨some 27, .bin .sub (.tmp 26) (.const (.int .i64 1)), none, 0⟩,
      ⟨some 11, .mv (.tmp 27), none, 0⟩]) <|
    .block 0 <|
    .loop [0, 1, 8, 9, 10, 11] i_slices_breakPatternsCmpFunc_impl_told_B1)
    (.skip)⟩

theorem e_slices_breakPatternsCmpFunc_impl_told : EntOK Try.prog (compD Try.prog) k_slices_breakPatternsCmpFunc_impl_told i_slices_breakPatternsCmpFunc_impl_told.vf :=
  ⟨Try.f48, Try.f48.body.getD .skip, Try.func48, by kernel_rfl, by kernel_rfl, by kernel_rfl, by kernel_rfl, by kernel_rfl⟩

/-- slices.choosePivotCmpFunc[loop.example/g01331/impl.told] -/
def i_slices_choosePivotCmpFunc_impl_told : FF := ⟨63, [.tmp 8, .tmp 9],
  .seq (.ops [
    ⟨some 8, .mv (.const (.int .i64 0)), none, 0⟩,
    ⟨some 9, .mv (.const (.int .i64 0)), none, 0⟩]) <|
  .seq (.ops [
    ⟨some 15, .mv (.tmp 2), none, 0⟩,
    ⟨some 16, .mv (.tmp 1), none, 0⟩,
    ⟨some 17, .bin .sub (.tmp 15) (.tmp 16), none, 0⟩,
    ⟨some 10, .mv (.tmp 17), none, 0⟩]) <|
  .seq (.ops [
    ⟨some 11, .alloc [.int .i64 0], none, 0⟩]) <|
  .seq (.ops [
    ⟨some 18, .mv (.tmp 1), none, 0⟩,
    ⟨some 19, .mv (.tmp 10), none, 0⟩,
    ⟨some 20, .bin .quo (.tmp 19) (.const (.int .i64 4)), none, 0⟩,
    ⟨some 21, .bin .mul (.tmp 20) (.const (.int .i64 1)), none, 0⟩,
    ⟨some 22, .bin .add (.tmp 18) (.tmp 21), none, 0⟩,
    ⟨some 12, .mv (.tmp 22), none, 0⟩]) <|
  .seq (.ops [
    ⟨some 23, .mv (.tmp 1), none, 0⟩,
    ⟨some 24, .mv (.tmp 10), none, 0⟩,
    ⟨some 25, .bin .quo (.tmp 24) (.const (.int .i64 4)), none, 0⟩,
    ⟨some 26, .bin .mul (.tmp 25) (.const (.int .i64 2)), none, 0⟩,
    ⟨some 27, .bin .add (.tmp 23) (.tmp 26), none, 0⟩,
    ⟨some 13, .mv (.tmp 27), none, 0⟩]) <|
  .seq (.ops [
    ⟨some 28, .mv (.tmp 1), none, 0⟩,
    ⟨some 29, .mv (.tmp 10), none, 0⟩,
    ⟨some 30, .bin .quo (.tmp 29) (.const (.int .i64 4)), none, 0⟩,
    ⟨some 31, .bin .mul (.tmp 30) (.const (.int .i64 3)), none, 0⟩,
    ⟨some 32, .bin .add (.tmp 28) (.tmp 31), none, 0⟩,
    ⟨some 14, .mv (.tmp 32), none, 0⟩]) <|
  .seq (.seq (.ops [
    ⟨some 33, .mv (.tmp 10), none, 0⟩,
    ⟨some 34, .bin .geq (.tmp 33) (.const (.int .i64 8)), none, 0⟩]) <|
  .cond (.tmp 34)
    (.seq (.seq (.ops [
      ⟨some 35, .mv (.tmp 10), none, 0⟩,
      ⟨some 36, .bin .geq (.tmp 35) (.const (.int .i64 50)), none, 0⟩]) <|
    .cond (.tmp 36)
      (.seq (.ops [
        ⟨some 37, .mv (.tmp 0), none, 0⟩,
        ⟨some 38, .mv (.tmp 12), none, 0⟩,
        ⟨some 39, .mv (.tmp 3), none, 0⟩,
        ⟨some 40, .call k_slices_medianAdjacentCmpFunc_impl_told [(.tmp 37), (.tmp 38), (.tmp 11), (.tmp 39)], none, 0⟩,
        ⟨some 12, .mv (.tmp 40), none, 0⟩]) <|
      .seq (.ops [
        ⟨some 41, .mv (.tmp 0), none, 0⟩,
        ⟨some 42, .mv (.tmp 13), none, 0⟩,
        ⟨some 43, .mv (.tmp 3), none, 0⟩,
        ⟨some 44, .call k_slices_medianAdjacentCmpFunc_impl_told [(.tmp 41), (.tmp 42), (.tmp 11), (.tmp 43)], none, 0⟩,
        ⟨some 13, .mv (.tmp 44), none, 0⟩]) <|
      .ops [
        ⟨some 45, .mv (.tmp 0), none, 0⟩,
        ⟨some 46, .mv (.tmp 14), none, 0⟩,
        ⟨some 47, .mv (.tmp 3), none, 0⟩,
        ⟨some 48, .call k_slices_medianAdjacentCmpFunc_impl_told [(.tmp 45), (.tmp 46), (.tmp 11), (.tmp 47)], none, 0⟩,
        ⟨some 14, .mv (.tmp 48), none, 0⟩])
      (.skip)) <|
    .ops [
      ⟨some 49, .mv (.tmp 0), none, 0⟩,
      ⟨some 50, .mv (.tmp 12), none, 0⟩,
      ⟨some 51, .mv (.tmp 13), none, 0⟩,
      ⟨some 52, .mv (.tmp 14), none, 0⟩,
      ⟨some 53, .mv (.tmp 3), none, 0⟩,
      ⟨some 54, .call k_slices_medianCmpFunc_impl_told [(.tmp 49), (.tmp 50), (.tmp 51), (.tmp 52), (.tmp 11), (.tmp 53)], none, 0⟩,
      ⟨some 13, .mv (.tmp 54), none, 0⟩])
    (.skip)) <|
  .seq (.ops [
    ⟨some 55, .load false 1 (.tmp 11), none, 0⟩]) <|
  .block 0 <|
  .seq (.ops [
    ⟨some 58, .bin .eql (.tmp 55) (.const (.int .i64 0)), none, 0⟩,
    ⟨some 57, .mv (.tmp 58), none, 0⟩]) <|
  .cond (.tmp 57)
    (.seq (.ops [
      ⟨some 59, .mv (.tmp 13), none, 0⟩,
      ⟨some 8, .mv (.tmp 59), none, 0⟩,
      ⟨some 9, .mv (.const (.int .i64 1)), none, 0⟩]) <|
    .keep [8, 9] <|
    .ret)
    (.seq (.ops [
      ⟨some 61, .bin .eql (.tmp 55) (.const (.int .i64 12)), none, 0⟩,
      ⟨some 60, .mv (.tmp 61), none, 0⟩]) <|
    .cond (.tmp 60)
      (.seq (.ops [
        ⟨some 62, .mv (.tmp 13), none, 0⟩,
        ⟨some 8, .mv (.tmp 62), none, 0⟩,
        ⟨some 9, .mv (.const (.int .i64 2)), none, 0⟩]) <|
      .keep [8, 9] <|
      .ret)
      (.seq (.ops [
        ⟨some 56, .mv (.tmp 13), none, 0⟩,
        ⟨some 8, .mv (.tmp 56), none, 0⟩,
        ⟨some 9, .mv (.const (.int .i64 0)), none, 0⟩]) <|
      .keep [8, 9] <|
      .ret))⟩

theorem e_slices_choosePivotCmpFunc_impl_told : EntOK Try.prog (compD Try.prog) k_slices_choosePivotCmpFunc_impl_told i_slices_choosePivotCmpFunc_impl_told.vf :=
  ⟨Try.f49, Try.f49.body.getD .skip, Try.func49, by kernel_rfl, by kernel_rfl, by kernel_rfl, by kernel_rfl, by kernel_rfl⟩

/-- slices.reverseRangeCmpFunc[loop.example/g01331/impl.told] -/
def i_slices_reverseRangeCmpFunc_impl_told_B1 : FC :=
  .seq (.seq (.ops [
    ⟨some 13, .mv (.tmp 8), none, 0⟩,
    ⟨some 14, .mv (.tmp 9), none, 0⟩,
    ⟨some 15, .bin .lss (.tmp 13) (.tmp 14), none, 0⟩]) <|
  .cond (.tmp 15)
    (.skip)
    (.keep [] <|
    .exit 0)) <|
  .block 1 <|
  .seq (.dops [
    ⟨some 16, .mv (.tmp 0), none, 0⟩,
    ⟨some 17, .mv (.tmp 8), none, 0⟩,
    ⟨some 20, .mv (.tmp 0), none, 0⟩,
    ⟨some 21, .mv (.tmp 9), none, 0⟩,
    ⟨some 22, .idx 3 (.tmp 20) (.tmp 21), none, 0⟩,
    ⟨some 23, .load true 3 (.tmp 22), none, 0⟩,
    ⟨some 24, .mv (.tmp 0), none, 0⟩,
    ⟨some 25, .mv (.tmp 8), none, 0⟩,
    ⟨some 26, .idx 3 (.tmp 24) (.tmp 25), none, 0⟩,
    ⟨some 27, .load true 3 (.tmp 26), none, 0⟩,
    ⟨some 28, .idx 3 (.tmp 16) (.tmp 17), none, 0⟩,
    ⟨none, .store 3 (.tmp 28) (.tmp 23), none, 0⟩,
    ⟨some 18, .mv (.tmp 0), none, 1⟩,
    ⟨some 19, .mv (.tmp 9), none, 1⟩,
    ⟨some 29, .idx 3 (.tmp 18) (.tmp 19), none, 0⟩,
    ⟨none, .store 3 (.tmp 29) (.tmp 27), none, 0⟩]) <|
  .seq (.ops [
    ⟨some 30, .mv (.tmp 8), none, 0⟩,
    ⟨some 31, .bin .add (.tmp 30) (.const (.int .i64 1)), none, 0⟩,
    ⟨some 8, .mv (.tmp 31), none, 0⟩]) <|
  .ops [
    ⟨some 32, .mv (.tmp 9), none, 0⟩,
    ⟨some 33, .bin .sub (.tmp 32) (.const (.int .i64 1)), none, 0⟩,
    ⟨some 9, .mv (.tmp 33), none, 0⟩]
def i_slices_reverseRangeCmpFunc_impl_told : FF := ⟨34, [],
  .seq (.ops [
    ⟨some 10, .mv (.tmp 1), none, 0⟩,
    ⟨some 8, .mv (.tmp 10), none, 0⟩]) <|
  .seq (.ops [
    ⟨some 11, .mv (.tmp 2), none, 0⟩,
    ⟨some 12, .bin .sub (.tmp 11) (.const (.int .i64 1)), none, 0⟩,
    ⟨some 9, .mv (.tmp 12), none, 0⟩]) <|
  .block 0 <|
  .loop [0, 8, 9] i_slices_reverseRangeCmpFunc_impl_told_B1⟩

theorem e_slices_reverseRangeCmpFunc_impl_told : EntOK Try.prog (compD Try.prog) k_slices_reverseRangeCmpFunc_impl_told i_slices_reverseRangeCmpFunc_impl_told.vf :=
  ⟨Try.f50, Try.f50.body.getD .skip, Try.func50, by kernel_rfl, by kernel_rfl, by kernel_rfl, by kernel_rfl, by kernel_rfl⟩

/-- slices.partialInsertionSortCmpFunc[loop.example/g01331/impl.told] -/
def i_slices_partialInsertionSortCmpFunc_impl_told_B1 : FC :=
  .seq (.seq (.dops [
    ⟨some 19, .mv (.tmp 9), none, 0⟩,
    ⟨some 20, .mv (.tmp 2), none, 0⟩,
    ⟨some 21, .bin .lss (.tmp 19) (.tmp 20), none, 0⟩,
    ⟨some 22, .mv (.tmp 21), none, 0⟩,
    ⟨some 23, .mv (.tmp 3), some (22, true), 0⟩,
    ⟨some 24, .mv (.tmp 0), some (22, true), 0⟩,
    ⟨some 25, .mv (.tmp 9), some (22, true), 0⟩,
    ⟨some 26, .idx 3 (.tmp 24) (.tmp 25), some (22, true), 0⟩,
    ⟨some 27, .load true 3 (.tmp 26), some (22, true), 0⟩,
    ⟨some 28, .mv (.tmp 0), some (22, true), 0⟩,
    ⟨some 29, .mv (.tmp 9), some (22, true), 0⟩,
    ⟨some 30, .bin .sub (.tmp 29) (.const (.int .i64 1)), some (22, true), 0⟩,
    ⟨some 31, .idx 3 (.tmp 28) (.tmp 30), some (22, true), 0⟩,
    ⟨some 32, .load true 3 (.tmp 31), some (22, true), 0⟩,
    ⟨some 33, .callv (.tmp 23) [(.tmp 27), (.tmp 32)], some (22, true), 0⟩,
    ⟨some 34, .bin .lss (.tmp 33) (.const (.int .i64 0)), some (22, true), 0⟩,
    ⟨some 35, .un .not (.tmp 34), some (22, true), 0⟩,
    ⟨some 36, .pick (.tmp 22) (.tmp 35) (.const (.bool false)), none, 0⟩]) <|
  .cond (.tmp 36)
    (.skip)
    (.keep [0, 1, 2, 3, 9, 10] <|
    .exit 2)) <|
  .block 3 <|
  .ops [
    ⟨some 37, .mv (.tmp 9), none, 0⟩,
    ⟨some 38, .bin .add (.tmp 37) (.const (.int .i64 1)), none, 0⟩,
    ⟨some 9, .mv (.tmp 38), none, 0⟩]
def i_slices_partialInsertionSortCmpFunc_impl_told_B2 : FC :=
  .seq (.seq (.ops [
    ⟨some 68, .mv (.tmp 11), none, 0⟩,
    ⟨some 69, .bin .geq (.tmp 68) (.const (.int .i64 1)), none, 0⟩]) <|
  .cond (.tmp 69)
    (.skip)
    (.keep [0, 1, 2, 3, 9, 10] <|
    .exit 4)) <|
  .seq (.block 5 <|
  .seq (.seq (.dops [
    ⟨some 72, .mv (.tmp 3), none, 0⟩,
    ⟨some 73, .mv (.tmp 0), none, 0⟩,
    ⟨some 74, .mv (.tmp 11), none, 0⟩,
    ⟨some 75, .idx 3 (.tmp 73) (.tmp 74), none, 0⟩,
    ⟨some 76, .load true 3 (.tmp 75), none, 0⟩,
    ⟨some 77, .mv (.tmp 0), none, 0⟩,
    ⟨some 78, .mv (.tmp 11), none, 0⟩,
    ⟨some 79, .bin .sub (.tmp 78) (.const (.int .i64 1)), none, 0⟩,
    ⟨some 80, .idx 3 (.tmp 77) (.tmp 79), none, 0⟩,
    ⟨some 81, .load true 3 (.tmp 80), none, 0⟩,
    ⟨some 82, .callv (.tmp 72) [(.tmp 76), (.tmp 81)], none, 0⟩,
    ⟨some 83, .bin .lss (.tmp 82) (.const (.int .i64 0)), none, 0⟩,
    ⟨some 84, .un .not (.tmp 83), none, 0⟩]) <|
  .cond (.tmp 84)
    (.keep [0, 1, 2, 3, 9, 10] <|
    .exit 4)
    (.skip)) <|
  .dops [
    ⟨some 85, .mv (.tmp 0), none, 0⟩,
    ⟨some 86, .mv (.tmp 11), none, 0⟩,
    ⟨some 90, .mv (.tmp 0), none, 0⟩,
    ⟨some 91, .mv (.tmp 11), none, 0⟩,
    ⟨some 92, .bin .sub (.tmp 91) (.const (.int .i64 1)), none, 0⟩,
    ⟨some 93, .idx 3 (.tmp 90) (.tmp 92), none, 0⟩,
    ⟨some 94, .load true 3 (.tmp 93), none, 0⟩,
    ⟨some 95, .mv (.tmp 0), none, 0⟩,
    ⟨some 96, .mv (.tmp 11), none, 0⟩,
    ⟨some 97, .idx 3 (.tmp 95) (.tmp 96), none, 0⟩,
    ⟨some 98, .load true 3 (.tmp 97), none, 0⟩,
    ⟨some 99, .idx 3 (.tmp 85) (.tmp 86), none, 0⟩,
    ⟨none, .store 3 (.tmp 99) (.tmp 94), none, 0⟩,
    ⟨some 87, .mv (.tmp 0), none, 1⟩,
    ⟨some 88, .mv (.tmp 11), none, 1⟩,
    ⟨some 89, .bin .sub (.tmp 88) (.const (.int .i64 1)), none, 1⟩,
    ⟨some 100, .idx 3 (.tmp 87) (.tmp 89), none, 0⟩,
    ⟨none, .store 3 (.tmp 100) (.tmp 98), none, 0⟩]) <|
  .ops [
    ⟨some 70, .mv (.tmp 11), none, 0⟩,
    ⟨some 71, .bin .sub (.tmp 70) (.const (.int .i64 1)), none, 0⟩,
    ⟨some 11, .mv (.tmp 71), none, 0⟩]
def i_slices_partialInsertionSortCmpFunc_impl_told_B3 : FC :=
  .seq (.seq (.ops [
    ⟨some 107, .mv (.tmp 12), none, 0⟩,
    ⟨some 108, .mv (.tmp 2), none, 0⟩,
    ⟨some 109, .bin .lss (.tmp 107) (.tmp 108), none, 0⟩]) <|
  .cond (.tmp 109)
    (.skip)
    (.keep [0, 1, 2, 3, 9, 10] <|
    .exit 6)) <|
  .seq (.block 7 <|
  .seq (.seq (.dops [
    ⟨some 112, .mv (.tmp 3), none, 0⟩,
    ⟨some 113, .mv (.tmp 0), none, 0⟩,
    ⟨some 114, .mv (.tmp 12), none, 0⟩,
    ⟨some 115, .idx 3 (.tmp 113) (.tmp 114), none, 0⟩,
    ⟨some 116, .load true 3 (.tmp 115), none, 0⟩,
    ⟨some 117, .mv (.tmp 0), none, 0⟩,
    ⟨some 118, .mv (.tmp 12), none, 0⟩,
    ⟨some 119, .bin .sub (.tmp 118) (.const (.int .i64 1)), none, 0⟩,
    ⟨some 120, .idx 3 (.tmp 117) (.tmp 119), none, 0⟩,
    ⟨some 121, .load true 3 (.tmp 120), none, 0⟩,
    ⟨some 122, .callv (.tmp 112) [(.tmp 116), (.tmp 121)], none, 0⟩,
    ⟨some 123, .bin .lss (.tmp 122) (.const (.int .i64 0)), none, 0⟩,
    ⟨some 124, .un .not (.tmp 123), none, 0⟩]) <|
  .cond (.tmp 124)
    (.keep [0, 1, 2, 3, 9, 10] <|
    .exit 6)
    (.skip)) <|
  .dops [
    ⟨some 125, .mv (.tmp 0), none, 0⟩,
    ⟨some 126, .mv (.tmp 12), none, 0⟩,
    ⟨some 130, .mv (.tmp 0), none, 0⟩,
    ⟨some 131, .mv (.tmp 12), none, 0⟩,
    ⟨some 132, .bin .sub (.tmp 131) (.const (.int .i64 1)), none, 0⟩,
    ⟨some 133, .idx 3 (.tmp 130) (.tmp 132), none, 0⟩,
    ⟨some 134, .load true 3 (.tmp 133), none, 0⟩,
    ⟨some 135, .mv (.tmp 0), none, 0⟩,
    ⟨some 136, .mv (.tmp 12), none, 0⟩,
    ⟨some 137, .idx 3 (.tmp 135) (.tmp 136), none, 0⟩,
    ⟨some 138, .load true 3 (.tmp 137), none, 0⟩,
    ⟨some 139, .idx 3 (.tmp 125) (.tmp 126), none, 0⟩,
    ⟨none, .store 3 (.tmp 139) (.tmp 134), none, 0⟩,
    ⟨some 127, .mv (.tmp 0), none, 1⟩,
    ⟨some 128, .mv (.tmp 12), none, 1⟩,
    ⟨some 129, .bin .sub (.tmp 128) (.const (.int .i64 1)), none, 1⟩,
    ⟨some 140, .idx 3 (.tmp 127) (.tmp 129), none, 0⟩,
    ⟨none, .store 3 (.tmp 140) (.tmp 138), none, 0⟩]) <|
  .ops [
    ⟨some 110, .mv (.tmp 12), none, 0⟩,
    ⟨some 111, .bin .add (.tmp 110) (.const (.int .i64 1)), none, 0⟩,
    ⟨some 12, .mv (.tmp 111), none, 0⟩]
def i_slices_partialInsertionSortCmpFunc_impl_told_B4 : FC :=
  .seq (.seq (.ops [
    ⟨some 15, .mv (.tmp 10), none, 0⟩,
    ⟨some 16, .bin .lss (.tmp 15) (.const (.int .i64 5)), none, 0⟩]) <|
  .cond (.tmp 16)
    (.skip)
    (.keep [] <|
    .exit 0)) <|
  .seq (.block 1 <|
  .seq (.block 2 <|
  .loop [0, 1, 2, 3, 9, 10] i_slices_partialInsertionSortCmpFunc_impl_told_B1) <|
  .seq (.seq (.ops [
    ⟨some 39, .mv (.tmp 9), none, 0⟩,
    ⟨some 40, .mv (.tmp 2), none, 0⟩,
    ⟨some 41, .bin .eql (.tmp 39) (.tmp 40), none, 0⟩]) <|
  .cond (.tmp 41)
    (.seq (.ops [
      ⟨some 8, .mv (.const (.bool true)), none, 0⟩]) <|
    .keep [8] <|
    .ret)
    (.skip)) <|
  .seq (.seq (.ops [
    ⟨some 42, .mv (.tmp 2), none, 0⟩,
    ⟨some 43, .mv (.tmp 1), none, 0⟩,
    ⟨some 44, .bin .sub (.tmp 42) (.tmp 43), none, 0⟩,
    ⟨some 45, .bin .lss (.tmp 44) (.const (.int .i64 50)), none, 0⟩]) <|
  .cond (.tmp 45)
    (.seq (.ops [
      ⟨some 8, .mv (.const (.bool false)), none, 0⟩]) <|
    .keep [8] <|
    .ret)
    (.skip)) <|
  .seq (.dops [
    ⟨some 46, .mv (.tmp 0), none, 0⟩,
    ⟨some 47, .mv (.tmp 9), none, 0⟩,
    ⟨some 51, .mv (.tmp 0), none, 0⟩,
    ⟨some 52, .mv (.tmp 9), none, 0⟩,
    ⟨some 53, .bin .sub (.tmp 52) (.const (.int .i64 1)), none, 0⟩,
    ⟨some 54, .idx 3 (.tmp 51) (.tmp 53), none, 0⟩,
    ⟨some 55, .load true 3 (.tmp 54), none, 0⟩,
    ⟨some 56, .mv (.tmp 0), none, 0⟩,
    ⟨some 57, .mv (.tmp 9), none, 0⟩,
    ⟨some 58, .idx 3 (.tmp 56) (.tmp 57), none, 0⟩,
    ⟨some 59, .load true 3 (.tmp 58), none, 0⟩,
    ⟨some 60, .idx 3 (.tmp 46) (.tmp 47), none, 0⟩,
    ⟨none, .store 3 (.tmp 60) (.tmp 55), none, 0⟩,
    ⟨some 48, .mv (.tmp 0), none, 1⟩,
    ⟨some 49, .mv (.tmp 9), none, 1⟩,
    ⟨some 50, .bin .sub (.tmp 49) (.const (.int .i64 1)), none, 1⟩,
    ⟨some 61, .idx 3 (.tmp 48) (.tmp 50), none, 0⟩,
    ⟨none, .store 3 (.tmp 61) (.tmp 59), none, 0⟩]) <|
  .seq (.seq (.ops [
    ⟨some 62, .mv (.tmp 9), none, 0⟩,
    ⟨some 63, .mv (.tmp 1), none, 0⟩,
    ⟨some 64, .bin .sub (.tmp 62) (.tmp 63), none, 0⟩,
    ⟨some 65, .bin .geq (.tmp 64) (.const (.int .i64 2)), none, 0⟩]) <|
  .cond (.tmp 65)
    (.seq (.ops [
      ⟨some 66, .mv (.tmp 9), none, 0⟩,
      ⟨some 67, .bin .sub (.tmp 66) (.const (.int .i64 1)), none, 0⟩,
      ⟨some 11, .mv (.tmp 67), none, 0⟩]) <|
    .block 4 <|
    .loop [0, 1, 2, 3, 9, 10, 11] i_slices_partialInsertionSortCmpFunc_impl_told_B2)
    (.skip)) <|
  .seq (.ops [
    ⟨some 101, .mv (.tmp 2), none, 0⟩,
    ⟨some 102, .mv (.tmp 9), none, 0⟩,
    ⟨some 103, .bin .sub (.tmp 101) (.tmp 102), none, 0⟩,
    ⟨some 104, .bin .geq (.tmp 103) (.const (.int .i64 2)), none, 0⟩]) <|
  .cond (.tmp 104)
    (.seq (.ops [
      ⟨some 105, .mv (.tmp 9), none, 0⟩,
      ⟨some 106, .bin .add (.tmp 105) (.const (.int .i64 1)), none, 0⟩,
      ⟨some 12, .mv (.tmp 106), none, 0⟩]) <|
    .block 6 <|
    .loop [0, 1, 2, 3, 9, 10, 12] i_slices_partialInsertionSortCmpFunc_impl_told_B3)
    (.skip)) <|
  .ops [
    ⟨some 17, .mv (.tmp 10), none, 0⟩,
    ⟨some 18, .bin .add (.tmp 17) (.const (.int .i64 1)), none, 0⟩,
    ⟨some 10, .mv (.tmp 18), none, 0⟩]
def i_slices_partialInsertionSortCmpFunc_impl_told : FF := ⟨141, [.tmp 8],
  .seq (.ops [
    ⟨some 8, .mv (.const (.bool false)), none, 0⟩]) <|
  .seq (.ops [
    ⟨some 13, .mv (.tmp 1), none, 0⟩,
    ⟨some 14, .bin .add (.tmp 13) (.const (.int .i64 1)), none, 0⟩,
    ⟨some 9, .mv (.tmp 14), none, 0⟩]) <|
  .seq (.seq (.ops [
    ⟨some 10, .mv (.const (.int .i64 0)), none, 0⟩]) <|
  .block 0 <|
  .loop [0, 1, 2, 3, 9, 10] i_slices_partialInsertionSortCmpFunc_impl_told_B4) <|
  .seq (.ops [
    ⟨some 8, .mv (.const (.bool false)), none, 0⟩]) <|
  .keep [8] <|
  .ret⟩

theorem e_slices_partialInsertionSortCmpFunc_impl_told : EntOK Try.prog (compD Try.prog) k_slices_partialInsertionSortCmpFunc_impl_told i_slices_partialInsertionSortCmpFunc_impl_told.vf :=
  ⟨Try.f51, Try.f51.body.getD .skip, Try.func51, by kernel_rfl, by kernel_rfl, by kernel_rfl, by kernel_rfl, by kernel_rfl⟩

/-- slices.partitionEqualCmpFunc[loop.example/g01331/impl.told] -/
def i_slices_partitionEqualCmpFunc_impl_told_B1 : FC :=
  .seq (.seq (.dops [
    ⟨some 31, .mv (.tmp 11), none, 0⟩,
    ⟨some 32, .mv (.tmp 12), none, 0⟩,
    ⟨some 33, .bin .leq (.tmp 31) (.tmp 32), none, 0⟩,
    ⟨some 34, .mv (.tmp 33), none, 0⟩,
    ⟨some 35, .mv (.tmp 4), some (34, true), 0⟩,
    ⟨some 36, .mv (.tmp 0), some (34, true), 0⟩,
    ⟨some 37, .mv (.tmp 1), some (34, true), 0⟩,
    ⟨some 38, .idx 3 (.tmp 36) (.tmp 37), some (34, true), 0⟩,
    ⟨some 39, .load true 3 (.tmp 38), some (34, true), 0⟩,
    ⟨some 40, .mv (.tmp 0), some (34, true), 0⟩,
    ⟨some 41, .mv (.tmp 11), some (34, true), 0⟩,
    ⟨some 42, .idx 3 (.tmp 40) (.tmp 41), some (34, true), 0⟩,
    ⟨some 43, .load true 3 (.tmp 42), some (34, true), 0⟩,
    ⟨some 44, .callv (.tmp 35) [(.tmp 39), (.tmp 43)], some (34, true), 0⟩,
    ⟨some 45, .bin .lss (.tmp 44) (.const (.int .i64 0)), some (34, true), 0⟩,
    ⟨some 46, .un .not (.tmp 45), some (34, true), 0⟩,
    ⟨some 47, .pick (.tmp 34) (.tmp 46) (.const (.bool false)), none, 0⟩]) <|
  .cond (.tmp 47)
    (.skip)
    (.keep [0, 1, 4, 11, 12] <|
    .exit 2)) <|
  .block 3 <|
  .ops [
    ⟨some 48, .mv (.tmp 11), none, 0⟩,
    ⟨some 49, .bin .add (.tmp 48) (.const (.int .i64 1)), none, 0⟩,
    ⟨some 11, .mv (.tmp 49), none, 0⟩]
def i_slices_partitionEqualCmpFunc_impl_told_B2 : FC :=
  .seq (.seq (.dops [
    ⟨some 50, .mv (.tmp 11), none, 0⟩,
    ⟨some 51, .mv (.tmp 12), none, 0⟩,
    ⟨some 52, .bin .leq (.tmp 50) (.tmp 51), none, 0⟩,
    ⟨some 53, .mv (.tmp 52), none, 0⟩,
    ⟨some 54, .mv (.tmp 4), some (53, true), 0⟩,
    ⟨some 55, .mv (.tmp 0), some (53, true), 0⟩,
    ⟨some 56, .mv (.tmp 1), some (53, true), 0⟩,
    ⟨some 57, .idx 3 (.tmp 55) (.tmp 56), some (53, true), 0⟩,
    ⟨some 58, .load true 3 (.tmp 57), some (53, true), 0⟩,
    ⟨some 59, .mv (.tmp 0), some (53, true), 0⟩,
    ⟨some 60, .mv (.tmp 12), some (53, true), 0⟩,
    ⟨some 61, .idx 3 (.tmp 59) (.tmp 60), some (53, true), 0⟩,
    ⟨some 62, .load true 3 (.tmp 61), some (53, true), 0⟩,
    ⟨some 63, .callv (.tmp 54) [(.tmp 58), (.tmp 62)], some (53, true), 0⟩,
    ⟨some 64, .bin .lss (.tmp 63) (.const (.int .i64 0)), some (53, true), 0⟩,
    ⟨some 65, .pick (.tmp 53) (.tmp 64) (.const (.bool false)), none, 0⟩]) <|
  .cond (.tmp 65)
    (.skip)
    (.keep [0, 1, 4, 11, 12] <|
    .exit 4)) <|
  .block 5 <|
  .ops [
    ⟨some 66, .mv (.tmp 12), none, 0⟩,
    ⟨some 67, .bin .sub (.tmp 66) (.const (.int .i64 1)), none, 0⟩,
    ⟨some 12, .mv (.tmp 67), none, 0⟩]
def i_slices_partitionEqualCmpFunc_impl_told_B3 : FC :=
  .block 1 <|
  .seq (.block 2 <|
  .loop [0, 1, 4, 11, 12] i_slices_partitionEqualCmpFunc_impl_told_B1) <|
  .seq (.block 4 <|
  .loop [0, 1, 4, 11, 12] i_slices_partitionEqualCmpFunc_impl_told_B2) <|
  .seq (.seq (.ops [
    ⟨some 68, .mv (.tmp 11), none, 0⟩,
    ⟨some 69, .mv (.tmp 12), none, 0⟩,
    ⟨some 70, .bin .gtr (.tmp 68) (.tmp 69), none, 0⟩]) <|
  .cond (.tmp 70)
    (.keep [11] <|
    .exit 0)
    (.skip)) <|
  .seq (.dops [
    ⟨some 71, .mv (.tmp 0), none, 0⟩,
    ⟨some 72, .mv (.tmp 11), none, 0⟩,
    ⟨some 75, .mv (.tmp 0), none, 0⟩,
    ⟨some 76, .mv (.tmp 12), none, 0⟩,
    ⟨some 77, .idx 3 (.tmp 75) (.tmp 76), none, 0⟩,
    ⟨some 78, .load true 3 (.tmp 77), none, 0⟩,
    ⟨some 79, .mv (.tmp 0), none, 0⟩,
    ⟨some 80, .mv (.tmp 11), none, 0⟩,
    ⟨some 81, .idx 3 (.tmp 79) (.tmp 80), none, 0⟩,
    ⟨some 82, .load true 3 (.tmp 81), none, 0⟩,
    ⟨some 83, .idx 3 (.tmp 71) (.tmp 72), none, 0⟩,
    ⟨none, .store 3 (.tmp 83) (.tmp 78), none, 0⟩,
    ⟨some 73, .mv (.tmp 0), none, 1⟩,
    ⟨some 74, .mv (.tmp 12), none, 1⟩,
    ⟨some 84, .idx 3 (.tmp 73) (.tmp 74), none, 0⟩,
    ⟨none, .store 3 (.tmp 84) (.tmp 82), none, 0⟩]) <|
  .seq (.ops [
    ⟨some 85, .mv (.tmp 11), none, 0⟩,
    ⟨some 86, .bin .add (.tmp 85) (.const (.int .i64 1)), none, 0⟩,
    ⟨some 11, .mv (.tmp 86), none, 0⟩]) <|
  .ops [
    ⟨some 87, .mv (.tmp 12), none, 0⟩,
    ⟨some 88, .bin .sub (.tmp 87) (.const (.int .i64 1)), none, 0⟩,
    ⟨some 12, .mv (.tmp 88), none, 0⟩]
def i_slices_partitionEqualCmpFunc_impl_told : FF := ⟨90, [.tmp 10],
  .seq (.ops [
    ⟨some 10, .mv (.const (.int .i64 0)), none, 0⟩]) <|
  .seq (.dops [
    ⟨some 13, .mv (.tmp 0), none, 0⟩,
    ⟨some 14, .mv (.tmp 1), none, 0⟩,
    ⟨some 17, .mv (.tmp 0), none, 0⟩,
    ⟨some 18, .mv (.tmp 3), none, 0⟩,
    ⟨some 19, .idx 3 (.tmp 17) (.tmp 18), none, 0⟩,
    ⟨some 20, .load true 3 (.tmp 19), none, 0⟩,
    ⟨some 21, .mv (.tmp 0), none, 0⟩,
    ⟨some 22, .mv (.tmp 1), none, 0⟩,
    ⟨some 23, .idx 3 (.tmp 21) (.tmp 22), none, 0⟩,
    ⟨some 24, .load true 3 (.tmp 23), none, 0⟩,
    ⟨some 25, .idx 3 (.tmp 13) (.tmp 14), none, 0⟩,
    ⟨none, .store 3 (.tmp 25) (.tmp 20), none, 0⟩,
    ⟨some 15, .mv (.tmp 0), none, 1⟩,
    ⟨some 16, .mv (.tmp 3), none, 1⟩,
    ⟨some 26, .idx 3 (.tmp 15) (.tmp 16), none, 0⟩,
    ⟨none, .store 3 (.tmp 26) (.tmp 24), none, 0⟩]) <|
  .seq (.ops [
    ⟨some 27, .mv (.tmp 1), none, 0⟩,
    ⟨some 28, .bin .add (.tmp 27) (.const (.int .i64 1)), none, 0⟩,
    ⟨some 29, .mv (.tmp 2), none, 0⟩,
    ⟨some 30, .bin .sub (.tmp 29) (.const (.int .i64 1)), none, 0⟩,
    ⟨some 11, .mv (.tmp 28), none, 0⟩,
    ⟨some 12, .mv (.tmp 30), none, 0⟩]) <|
  .seq (.block 0 <|
  .loop [0, 1, 4, 11, 12] i_slices_partitionEqualCmpFunc_impl_told_B3) <|
  .seq (.ops [
    ⟨some 89, .mv (.tmp 11), none, 0⟩,
    ⟨some 10, .mv (.tmp 89), none, 0⟩]) <|
  .keep [10] <|
  .ret⟩

theorem e_slices_partitionEqualCmpFunc_impl_told : EntOK Try.prog (compD Try.prog) k_slices_partitionEqualCmpFunc_impl_told i_slices_partitionEqualCmpFunc_impl_told.vf :=
  ⟨Try.f52, Try.f52.body.getD .skip, Try.func52, by kernel_rfl, by kernel_rfl, by kernel_rfl, by kernel_rfl, by kernel_rfl⟩

/-- slices.partitionCmpFunc[loop.example/g01331/impl.told] -/
def i_slices_partitionCmpFunc_impl_told_B1 : FC :=
  .seq (.seq (.dops [
    ⟨some 32, .mv (.tmp 12), none, 0⟩,
    ⟨some 33, .mv (.tmp 13), none, 0⟩,
    ⟨some 34, .bin .leq (.tmp 32) (.tmp 33), none, 0⟩,
    ⟨some 35, .mv (.tmp 34), none, 0⟩,
    ⟨some 36, .mv (.tmp 4), some (35, true), 0⟩,
    ⟨some 37, .mv (.tmp 0), some (35, true), 0⟩,
    ⟨some 38, .mv (.tmp 12), some (35, true), 0⟩,
    ⟨some 39, .idx 3 (.tmp 37) (.tmp 38), some (35, true), 0⟩,
    ⟨some 40, .load true 3 (.tmp 39), some (35, true), 0⟩,
    ⟨some 41, .mv (.tmp 0), some (35, true), 0⟩,
    ⟨some 42, .mv (.tmp 1), some (35, true), 0⟩,
    ⟨some 43, .idx 3 (.tmp 41) (.tmp 42), some (35, true), 0⟩,
    ⟨some 44, .load true 3 (.tmp 43), some (35, true), 0⟩,
    ⟨some 45, .callv (.tmp 36) [(.tmp 40), (.tmp 44)], some (35, true), 0⟩,
    ⟨some 46, .bin .lss (.tmp 45) (.const (.int .i64 0)), some (35, true), 0⟩,
    ⟨some 47, .pick (.tmp 35) (.tmp 46) (.const (.bool false)), none, 0⟩]) <|
  .cond (.tmp 47)
    (.skip)
    (.keep [0, 1, 4, 12, 13] <|
    .exit 0)) <|
  .block 1 <|
  .ops [
    ⟨some 48, .mv (.tmp 12), none, 0⟩,
    ⟨some 49, .bin .add (.tmp 48) (.const (.int .i64 1)), none, 0⟩,
    ⟨some 12, .mv (.tmp 49), none, 0⟩]
def i_slices_partitionCmpFunc_impl_told_B2 : FC :=
  .seq (.seq (.dops [
    ⟨some 50, .mv (.tmp 12), none, 0⟩,
    ⟨some 51, .mv (.tmp 13), none, 0⟩,
    ⟨some 52, .bin .leq (.tmp 50) (.tmp 51), none, 0⟩,
    ⟨some 53, .mv (.tmp 52), none, 0⟩,
    ⟨some 54, .mv (.tmp 4), some (53, true), 0⟩,
    ⟨some 55, .mv (.tmp 0), some (53, true), 0⟩,
    ⟨some 56, .mv (.tmp 13), some (53, true), 0⟩,
    ⟨some 57, .idx 3 (.tmp 55) (.tmp 56), some (53, true), 0⟩,
    ⟨some 58, .load true 3 (.tmp 57), some (53, true), 0⟩,
    ⟨some 59, .mv (.tmp 0), some (53, true), 0⟩,
    ⟨some 60, .mv (.tmp 1), some (53, true), 0⟩,
    ⟨some 61, .idx 3 (.tmp 59) (.tmp 60), some (53, true), 0⟩,
    ⟨some 62, .load true 3 (.tmp 61), some (53, true), 0⟩,
    ⟨some 63, .callv (.tmp 54) [(.tmp 58), (.tmp 62)], some (53, true), 0⟩,
    ⟨some 64, .bin .lss (.tmp 63) (.const (.int .i64 0)), some (53, true), 0⟩,
    ⟨some 65, .un .not (.tmp 64), some (53, true), 0⟩,
    ⟨some 66, .pick (.tmp 53) (.tmp 65) (.const (.bool false)), none, 0⟩]) <|
  .cond (.tmp 66)
    (.skip)
    (.keep [0, 1, 4, 12, 13] <|
    .exit 2)) <|
  .block 3 <|
  .ops [
    ⟨some 67, .mv (.tmp 13), none, 0⟩,
    ⟨some 68, .bin .sub (.tmp 67) (.const (.int .i64 1)), none, 0⟩,
    ⟨some 13, .mv (.tmp 68), none, 0⟩]
def i_slices_partitionCmpFunc_impl_told_B3 : FC :=
  .seq (.seq (.dops [
    ⟨some 105, .mv (.tmp 12), none, 0⟩,
    ⟨some 106, .mv (.tmp 13), none, 0⟩,
    ⟨some 107, .bin .leq (.tmp 105) (.tmp 106), none, 0⟩,
    ⟨some 108, .mv (.tmp 107), none, 0⟩,
    ⟨some 109, .mv (.tmp 4), some (108, true), 0⟩,
    ⟨some 110, .mv (.tmp 0), some (108, true), 0⟩,
    ⟨some 111, .mv (.tmp 12), some (108, true), 0⟩,
    ⟨some 112, .idx 3 (.tmp 110) (.tmp 111), some (108, true), 0⟩,
    ⟨some 113, .load true 3 (.tmp 112), some (108, true), 0⟩,
    ⟨some 114, .mv (.tmp 0), some (108, true), 0⟩,
    ⟨some 115, .mv (.tmp 1), some (108, true), 0⟩,
    ⟨some 116, .idx 3 (.tmp 114) (.tmp 115), some (108, true), 0⟩,
    ⟨some 117, .load true 3 (.tmp 116), some (108, true), 0⟩,
    ⟨some 118, .callv (.tmp 109) [(.tmp 113), (.tmp 117)], some (108, true), 0⟩,
    ⟨some 119, .bin .lss (.tmp 118) (.const (.int .i64 0)), some (108, true), 0⟩,
    ⟨some 120, .pick (.tmp 108) (.tmp 119) (.const (.bool false)), none, 0⟩]) <|
  .cond (.tmp 120)
    (.skip)
    (.keep [0, 1, 4, 12, 13] <|
    .exit 6)) <|
  .block 7 <|
  .ops [
    ⟨some 121, .mv (.tmp 12), none, 0⟩,
    ⟨some 122, .bin .add (.tmp 121) (.const (.int .i64 1)), none, 0⟩,
    ⟨some 12, .mv (.tmp 122), none, 0⟩]
def i_slices_partitionCmpFunc_impl_told_B4 : FC :=
  .seq (.seq (.dops [
    ⟨some 123, .mv (.tmp 12), none, 0⟩,
    ⟨some 124, .mv (.tmp 13), none, 0⟩,
    ⟨some 125, .bin .leq (.tmp 123) (.tmp 124), none, 0⟩,
    ⟨some 126, .mv (.tmp 125), none, 0⟩,
    ⟨some 127, .mv (.tmp 4), some (126, true), 0⟩,
    ⟨some 128, .mv (.tmp 0), some (126, true), 0⟩,
    ⟨some 129, .mv (.tmp 13), some (126, true), 0⟩,
    ⟨some 130, .idx 3 (.tmp 128) (.tmp 129), some (126, true), 0⟩,
    ⟨some 131, .load true 3 (.tmp 130), some (126, true), 0⟩,
    ⟨some 132, .mv (.tmp 0), some (126, true), 0⟩,
    ⟨some 133, .mv (.tmp 1), some (126, true), 0⟩,
    ⟨some 134, .idx 3 (.tmp 132) (.tmp 133), some (126, true), 0⟩,
    ⟨some 135, .load true 3 (.tmp 134), some (126, true), 0⟩,
    ⟨some 136, .callv (.tmp 127) [(.tmp 131), (.tmp 135)], some (126, true), 0⟩,
    ⟨some 137, .bin .lss (.tmp 136) (.const (.int .i64 0)), some (126, true), 0⟩,
    ⟨some 138, .un .not (.tmp 137), some (126, true), 0⟩,
    ⟨some 139, .pick (.tmp 126) (.tmp 138) (.const (.bool false)), none, 0⟩]) <|
  .cond (.tmp 139)
    (.skip)
    (.keep [0, 1, 4, 12, 13] <|
    .exit 8)) <|
  .block 9 <|
  .ops [
    ⟨some 140, .mv (.tmp 13), none, 0⟩,
    ⟨some 141, .bin .sub (.tmp 140) (.const (.int .i64 1)), none, 0⟩,
    ⟨some 13, .mv (.tmp 141), none, 0⟩]
def i_slices_partitionCmpFunc_impl_told_B5 : FC :=
  .block 5 <|
  .seq (.block 6 <|
  .loop [0, 1, 4, 12, 13] i_slices_partitionCmpFunc_impl_told_B3) <|
  .seq (.block 8 <|
  .loop [0, 1, 4, 12, 13] i_slices_partitionCmpFunc_impl_told_B4) <|
  .seq (.seq (.ops [
    ⟨some 142, .mv (.tmp 12), none, 0⟩,
    ⟨some 143, .mv (.tmp 13), none, 0⟩,
    ⟨some 144, .bin .gtr (.tmp 142) (.tmp 143), none, 0⟩]) <|
  .cond (.tmp 144)
    (.keep [0, 1, 13] <|
    .exit 4)
    (.skip)) <|
  .seq (.dops [
    ⟨some 145, .mv (.tmp 0), none, 0⟩,
    ⟨some 146, .mv (.tmp 12), none, 0⟩,
    ⟨some 149, .mv (.tmp 0), none, 0⟩,
    ⟨some 150, .mv (.tmp 13), none, 0⟩,
    ⟨some 151, .idx 3 (.tmp 149) (.tmp 150), none, 0⟩,
    ⟨some 152, .load true 3 (.tmp 151), none, 0⟩,
    ⟨some 153, .mv (.tmp 0), none, 0⟩,
    ⟨some 154, .mv (.tmp 12), none, 0⟩,
    ⟨some 155, .idx 3 (.tmp 153) (.tmp 154), none, 0⟩,
    ⟨some 156, .load true 3 (.tmp 155), none, 0⟩,
    ⟨some 157, .idx 3 (.tmp 145) (.tmp 146), none, 0⟩,
    ⟨none, .store 3 (.tmp 157) (.tmp 152), none, 0⟩,
    ⟨some 147, .mv (.tmp 0), none, 1⟩,
    ⟨some 148, .mv (.tmp 13), none, 1⟩,
    ⟨some 158, .idx 3 (.tmp 147) (.tmp 148), none, 0⟩,
    ⟨none, .store 3 (.tmp 158) (.tmp 156), none, 0⟩]) <|
  .seq (.ops [
    ⟨some 159, .mv (.tmp 12), none, 0⟩,
    ⟨some 160, .bin .add (.tmp 159) (.const (.int .i64 1)), none, 0⟩,
    ⟨some 12, .mv (.tmp 160), none, 0⟩]) <|
  .ops [
    ⟨some 161, .mv (.tmp 13), none, 0⟩,
    ⟨some 162, .bin .sub (.tmp 161) (.const (.int .i64 1)), none, 0⟩,
    ⟨some 13, .mv (.tmp 162), none, 0⟩]
def i_slices_partitionCmpFunc_impl_told : FF := ⟨178, [.tmp 10, .tmp 11],
  .seq (.ops [
    ⟨some 10, .mv (.const (.int .i64 0)), none, 0⟩,
    ⟨some 11, .mv (.const (.bool false)), none, 0⟩]) <|
  .seq (.dops [
    ⟨some 14, .mv (.tmp 0), none, 0⟩,
    ⟨some 15, .mv (.tmp 1), none, 0⟩,
    ⟨some 18, .mv (.tmp 0), none, 0⟩,
    ⟨some 19, .mv (.tmp 3), none, 0⟩,
    ⟨some 20, .idx 3 (.tmp 18) (.tmp 19), none, 0⟩,
    ⟨some 21, .load true 3 (.tmp 20), none, 0⟩,
    ⟨some 22, .mv (.tmp 0), none, 0⟩,
    ⟨some 23, .mv (.tmp 1), none, 0⟩,
    ⟨some 24, .idx 3 (.tmp 22) (.tmp 23), none, 0⟩,
    ⟨some 25, .load true 3 (.tmp 24), none, 0⟩,
    ⟨some 26, .idx 3 (.tmp 14) (.tmp 15), none, 0⟩,
    ⟨none, .store 3 (.tmp 26) (.tmp 21), none, 0⟩,
    ⟨some 16, .mv (.tmp 0), none, 1⟩,
    ⟨some 17, .mv (.tmp 3), none, 1⟩,
    ⟨some 27, .idx 3 (.tmp 16) (.tmp 17), none, 0⟩,
    ⟨none, .store 3 (.tmp 27) (.tmp 25), none, 0⟩]) <|
  .seq (.ops [
    ⟨some 28, .mv (.tmp 1), none, 0⟩,
    ⟨some 29, .bin .add (.tmp 28) (.const (.int .i64 1)), none, 0⟩,
    ⟨some 30, .mv (.tmp 2), none, 0⟩,
    ⟨some 31, .bin .sub (.tmp 30) (.const (.int .i64 1)), none, 0⟩,
    ⟨some 12, .mv (.tmp 29), none, 0⟩,
    ⟨some 13, .mv (.tmp 31), none, 0⟩]) <|
  .seq (.block 0 <|
  .loop [0, 1, 4, 12, 13] i_slices_partitionCmpFunc_impl_told_B1) <|
  .seq (.block 2 <|
  .loop [0, 1, 4, 12, 13] i_slices_partitionCmpFunc_impl_told_B2) <|
  .seq (.seq (.ops [
    ⟨some 69, .mv (.tmp 12), none, 0⟩,
    ⟨some 70, .mv (.tmp 13), none, 0⟩,
    ⟨some 71, .bin .gtr (.tmp 69) (.tmp 70), none, 0⟩]) <|
  .cond (.tmp 71)
    (.seq (.dops [
      ⟨some 72, .mv (.tmp 0), none, 0⟩,
      ⟨some 73, .mv (.tmp 13), none, 0⟩,
      ⟨some 76, .mv (.tmp 0), none, 0⟩,
      ⟨some 77, .mv (.tmp 1), none, 0⟩,
      ⟨some 78, .idx 3 (.tmp 76) (.tmp 77), none, 0⟩,
      ⟨some 79, .load true 3 (.tmp 78), none, 0⟩,
      ⟨some 80, .mv (.tmp 0), none, 0⟩,
      ⟨some 81, .mv (.tmp 13), none, 0⟩,
      ⟨some 82, .idx 3 (.tmp 80) (.tmp 81), none, 0⟩,
      ⟨some 83, .load true 3 (.tmp 82), none, 0⟩,
      ⟨some 84, .idx 3 (.tmp 72) (.tmp 73), none, 0⟩,
      ⟨none, .store 3 (.tmp 84) (.tmp 79), none, 0⟩,
      ⟨some 74, .mv (.tmp 0), none, 1⟩,
      ⟨some 75, .mv (.tmp 1), none, 1⟩,
      ⟨some 85, .idx 3 (.tmp 74) (.tmp 75), none, 0⟩,
      ⟨none, .store 3 (.tmp 85) (.tmp 83), none, 0⟩]) <|
    .seq (.ops [
      ⟨some 86, .mv (.tmp 13), none, 0⟩,
      ⟨some 10, .mv (.tmp 86), none, 0⟩,
      ⟨some 11, .mv (.const (.bool true)), none, 0⟩]) <|
    .keep [10, 11] <|
    .ret)
    (.skip)) <|
  .seq (.dops [
    ⟨some 87, .mv (.tmp 0), none, 0⟩,
    ⟨some 88, .mv (.tmp 12), none, 0⟩,
    ⟨some 91, .mv (.tmp 0), none, 0⟩,
    ⟨some 92, .mv (.tmp 13), none, 0⟩,
    ⟨some 93, .idx 3 (.tmp 91) (.tmp 92), none, 0⟩,
    ⟨some 94, .load true 3 (.tmp 93), none, 0⟩,
    ⟨some 95, .mv (.tmp 0), none, 0⟩,
    ⟨some 96, .mv (.tmp 12), none, 0⟩,
    ⟨some 97, .idx 3 (.tmp 95) (.tmp 96), none, 0⟩,
    ⟨some 98, .load true 3 (.tmp 97), none, 0⟩,
    ⟨some 99, .idx 3 (.tmp 87) (.tmp 88), none, 0⟩,
    ⟨none, .store 3 (.tmp 99) (.tmp 94), none, 0⟩,
    ⟨some 89, .mv (.tmp 0), none, 1⟩,
    ⟨some 90, .mv (.tmp 13), none, 1⟩,
    ⟨some 100, .idx 3 (.tmp 89) (.tmp 90), none, 0⟩,
    ⟨none, .store 3 (.tmp 100) (.tmp 98), none, 0⟩]) <|
  .seq (.ops [
    ⟨some 101, .mv (.tmp 12), none, 0⟩,
    ⟨some 102, .bin .add (.tmp 101) (.const (.int .i64 1)), none, 0⟩,
    ⟨some 12, .mv (.tmp 102), none, 0⟩]) <|
  .seq (.ops [
    ⟨some 103, .mv (.tmp 13), none, 0⟩,
    ⟨some 104, .bin .sub (.tmp 103) (.const (.int .i64 1)), none, 0⟩,
    ⟨some 13, .mv (.tmp 104), none, 0⟩]) <|
  .seq (.block 4 <|
  .loop [0, 1, 4, 12, 13] i_slices_partitionCmpFunc_impl_told_B5) <|
  .seq (.dops [
    ⟨some 163, .mv (.tmp 0), none, 0⟩,
    ⟨some 164, .mv (.tmp 13), none, 0⟩,
    ⟨some 167, .mv (.tmp 0), none, 0⟩,
    ⟨some 168, .mv (.tmp 1), none, 0⟩,
    ⟨some 169, .idx 3 (.tmp 167) (.tmp 168), none, 0⟩,
    ⟨some 170, .load true 3 (.tmp 169), none, 0⟩,
    ⟨some 171, .mv (.tmp 0), none, 0⟩,
    ⟨some 172, .mv (.tmp 13), none, 0⟩,
    ⟨some 173, .idx 3 (.tmp 171) (.tmp 172), none, 0⟩,
    ⟨some 174, .load true 3 (.tmp 173), none, 0⟩,
    ⟨some 175, .idx 3 (.tmp 163) (.tmp 164), none, 0⟩,
    ⟨none, .store 3 (.tmp 175) (.tmp 170), none, 0⟩,
    ⟨some 165, .mv (.tmp 0), none, 1⟩,
    ⟨some 166, .mv (.tmp 1), none, 1⟩,
    ⟨some 176, .idx 3 (.tmp 165) (.tmp 166), none, 0⟩,
    ⟨none, .store 3 (.tmp 176) (.tmp 174), none, 0⟩]) <|
  .seq (.ops [
    ⟨some 177, .mv (.tmp 13), none, 0⟩,
    ⟨some 10, .mv (.tmp 177), none, 0⟩,
    ⟨some 11, .mv (.const (.bool false)), none, 0⟩]) <|
  .keep [10, 11] <|
  .ret⟩

theorem e_slices_partitionCmpFunc_impl_told : EntOK Try.prog (compD Try.prog) k_slices_partitionCmpFunc_impl_told i_slices_partitionCmpFunc_impl_told.vf :=
  ⟨Try.f53, Try.f53.body.getD .skip, Try.func53, by kernel_rfl, by kernel_rfl, by kernel_rfl, by kernel_rfl, by kernel_rfl⟩

/-- math/bits.Len32 -/
def i_math_bits_Len32 : FF := ⟨19, [.tmp 2],
  .seq (.ops [
    ⟨some 2, .mv (.const (.int .i64 0)), none, 0⟩]) <|
  .seq (.seq (.ops [
    ⟨some 3, .mv (.tmp 0), none, 0⟩,
    ⟨some 4, .bin .geq (.tmp 3) (.const (.int .u32 65536)), none, 0⟩]) <|
  .cond (.tmp 4)
    (.seq (.ops [
      ⟨some 5, .mv (.tmp 0), none, 0⟩,
      ⟨some 6, .bin .shr (.tmp 5) (.const (.int .u64 16)), none, 0⟩,
      ⟨some 0, .mv (.tmp 6), none, 0⟩]) <|
    .ops [
      ⟨some 2, .mv (.const (.int .i64 16)), none, 0⟩])
    (.skip)) <|
  .seq (.seq (.ops [
    ⟨some 7, .mv (.tmp 0), none, 0⟩,
    ⟨some 8, .bin .geq (.tmp 7) (.const (.int .u32 256)), none, 0⟩]) <|
  .cond (.tmp 8)
    (.seq (.ops [
      ⟨some 9, .mv (.tmp 0), none, 0⟩,
      ⟨some 10, .bin .shr (.tmp 9) (.const (.int .u64 8)), none, 0⟩,
      ⟨some 0, .mv (.tmp 10), none, 0⟩]) <|
    .ops [
      ⟨some 11, .mv (.tmp 2), none, 0⟩,
      ⟨some 12, .bin .add (.tmp 11) (.const (.int .i64 8)), none, 0⟩,
      ⟨some 2, .mv (.tmp 12), none, 0⟩])
    (.skip)) <|
  .seq (.ops [
    ⟨some 13, .mv (.tmp 2), none, 0⟩,
    ⟨some 14, .mv (.tmp 0), none, 0⟩,
    ⟨some 15, .conv .u8 (.tmp 14), none, 0⟩,
    ⟨some 16, .idxStr (.const (.string ⟨#[0, 1, 2, 2, 3, 3, 3, 3, 4, 4, 4, 4, 4, 4, 4, 4, 5, 5, 5, 5, 5, 5, 5, 5, 5, 5, 5, 5, 5, 5, 5, 5, 6, 6, 6, 6, 6, 6, 6, 6, 6, 6, 6, 6, 6, 6, 6, 6, 6, 6, 6, 6, 6, 6, 6, 6, 6, 6, 6, 6, 6, 6, 6, 6, 7, 7, 7, 7, 7, 7, 7, 7, 7, 7, 7, 7, 7, 7, 7, 7, 7, 7, 7, 7, 7, 7, 7, 7, 7, 7, 7, 7, 7, 7, 7, 7, 7, 7, 7, 7, 7, 7, 7, 7, 7, 7, 7, 7, 7, 7, 7, 7, 7, 7, 7, 7, 7, 7, 7, 7, 7, 7, 7, 7, 7, 7, 7, 7, 8, 8, 8, 8, 8, 8, 8, 8, 8, 8, 8, 8, 8, 8, 8, 8, 8, 8, 8, 8, 8, 8, 8, 8, 8, 8, 8, 8, 8, 8, 8, 8, 8, 8, 8, 8, 8, 8, 8, 8, 8, 8, 8, 8, 8, 8, 8, 8, 8, 8, 8, 8, 8, 8, 8, 8, 8, 8, 8, 8, 8, 8, 8, 8, 8, 8, 8, 8, 8, 8, 8, 8, 8, 8, 8, 8, 8, 8, 8, 8, 8, 8, 8, 8, 8, 8, 8, 8, 8, 8, 8, 8, 8, 8, 8, 8, 8, 8, 8, 8, 8, 8, 8, 8, 8, 8, 8, 8, 8, 8, 8, 8, 8, 8, 8, 8, 8, 8, 8, 8, 8, 8, 8, 8, 8, 8, 8, 8]⟩)) (.tmp 15), none, 0⟩,
    ⟨some 17, .conv .i64 (.tmp 16), none, 0⟩,
    ⟨some 18, .bin .add (.tmp 13) (.tmp 17), none, 0⟩,
    ⟨some 2, .mv (.tmp 18), none, 0⟩]) <|
  .keep [2] <|
  .ret⟩

theorem e_math_bits_Len32 : EntOK Try.prog (compD Try.prog) k_math_bits_Len32 i_math_bits_Len32.vf :=
  ⟨Try.f54, Try.f54.body.getD .skip, Try.func54, by kernel_rfl, by kernel_rfl, by kernel_rfl, by kernel_rfl, by kernel_rfl⟩

/-- math/bits.Len64 -/
def i_math_bits_Len64 : FF := ⟨25, [.tmp 2],
  .seq (.ops [
    ⟨some 2, .mv (.const (.int .i64 0)), none, 0⟩]) <|
  .seq (.seq (.ops [
    ⟨some 3, .mv (.tmp 0), none, 0⟩,
    ⟨some 4, .bin .geq (.tmp 3) (.const (.int .u64 4294967296)), none, 0⟩]) <|
  .cond (.tmp 4)
    (.seq (.ops [
      ⟨some 5, .mv (.tmp 0), none, 0⟩,
      ⟨some 6, .bin .shr (.tmp 5) (.const (.int .u64 32)), none, 0⟩,
      ⟨some 0, .mv (.tmp 6), none, 0⟩]) <|
    .ops [
      ⟨some 2, .mv (.const (.int .i64 32)), none, 0⟩])
    (.skip)) <|
  .seq (.seq (.ops [
    ⟨some 7, .mv (.tmp 0), none, 0⟩,
    ⟨some 8, .bin .geq (.tmp 7) (.const (.int .u64 65536)), none, 0⟩]) <|
  .cond (.tmp 8)
    (.seq (.ops [
      ⟨some 9, .mv (.tmp 0), none, 0⟩,
      ⟨some 10, .bin .shr (.tmp 9) (.const (.int .u64 16)), none, 0⟩,
      ⟨some 0, .mv (.tmp 10), none, 0⟩]) <|
    .ops [
      ⟨some 11, .mv (.tmp 2), none, 0⟩,
      ⟨some 12, .bin .add (.tmp 11) (.const (.int .i64 16)), none, 0⟩,
      ⟨some 2, .mv (.tmp 12), none, 0⟩])
    (.skip)) <|
  .seq (.seq (.ops [
    ⟨some 13, .mv (.tmp 0), none, 0⟩,
    ⟨some 14, .bin .geq (.tmp 13) (.const (.int .u64 256)), none, 0⟩]) <|
  .cond (.tmp 14)
    (.seq (.ops [
      ⟨some 15, .mv (.tmp 0), none, 0⟩,
      ⟨some 16, .bin .shr (.tmp 15) (.const (.int .u64 8)), none, 0⟩,
      ⟨some 0, .mv (.tmp 16), none, 0⟩]) <|
    .ops [
      ⟨some 17, .mv (.tmp 2), none, 0⟩,
      ⟨some 18, .bin .add (.tmp 17) (.const (.int .i64 8)), none, 0⟩,
      ⟨some 2, .mv (.tmp 18), none, 0⟩])
    (.skip)) <|
  .seq (.ops [
    ⟨some 19, .mv (.tmp 2), none, 0⟩,
    ⟨some 20, .mv (.tmp 0), none, 0⟩,
    ⟨some 21, .conv .u8 (.tmp 20), none, 0⟩,
    ⟨some 22, .idxStr (.const (.string ⟨#[0, 1, 2, 2, 3, 3, 3, 3, 4, 4, 4, 4, 4, 4, 4, 4, 5, 5, 5, 5, 5, 5, 5, 5, 5, 5, 5, 5, 5, 5, 5, 5, 6, 6, 6, 6, 6, 6, 6, 6, 6, 6, 6, 6, 6, 6, 6, 6, 6, 6, 6, 6, 6, 6, 6, 6, 6, 6, 6, 6, 6, 6, 6, 6, 7, 7, 7, 7, 7, 7, 7, 7, 7, 7, 7, 7, 7, 7, 7, 7, 7, 7, 7, 7, 7, 7, 7, 7, 7, 7, 7, 7, 7, 7, 7, 7, 7, 7, 7, 7, 7, 7, 7, 7, 7, 7, 7, 7, 7, 7, 7, 7, 7, 7, 7, 7, 7, 7, 7, 7, 7, 7, 7, 7, 7, 7, 7, 7, 8, 8, 8, 8, 8, 8, 8, 8, 8, 8, 8, 8, 8, 8, 8, 8, 8, 8, 8, 8, 8, 8, 8, 8, 8, 8, 8, 8, 8, 8, 8, 8, 8, 8, 8, 8, 8, 8, 8, 8, 8, 8, 8, 8, 8, 8, 8, 8, 8, 8, 8, 8, 8, 8, 8, 8, 8, 8, 8, 8, 8, 8, 8, 8, 8, 8, 8, 8, 8, 8, 8, 8, 8, 8, 8, 8, 8, 8, 8, 8, 8, 8, 8, 8, 8, 8, 8, 8, 8, 8, 8, 8, 8, 8, 8, 8, 8, 8, 8, 8, 8, 8, 8, 8, 8, 8, 8, 8, 8, 8, 8, 8, 8, 8, 8, 8, 8, 8, 8, 8, 8, 8, 8, 8, 8, 8, 8, 8]⟩)) (.tmp 21), none, 0⟩,
    ⟨some 23, .conv .i64 (.tmp 22), none, 0⟩,
    ⟨some 24, .bin .add (.tmp 19) (.tmp 23), none, 0⟩,
    ⟨some 2, .mv (.tmp 24), none, 0⟩]) <|
  .keep [2] <|
  .ret⟩

theorem e_math_bits_Len64 : EntOK Try.prog (compD Try.prog) k_math_bits_Len64 i_math_bits_Len64.vf :=
  ⟨Try.f55, Try.f55.body.getD .skip, Try.func55, by kernel_rfl, by kernel_rfl, by kernel_rfl, by kernel_rfl, by kernel_rfl⟩

/-- cmp.isNaN[int64] -/
def i_cmp_isNaN_int64 : FF := ⟨6, [.tmp 2],
  .seq (.ops [
    ⟨some 2, .mv (.const (.bool false)), none, 0⟩]) <|
  .seq (.ops [
    ⟨some 3, .mv (.tmp 0), none, 0⟩,
    ⟨some 4, .mv (.tmp 0), none, 0⟩,
    ⟨some 5, .bin .neq (.tmp 3) (.tmp 4), none, 0⟩,
    ⟨some 2, .mv (.tmp 5), none, 0⟩]) <|
  .keep [2] <|
  .ret⟩

theorem e_cmp_isNaN_int64 : EntOK Try.prog (compD Try.prog) k_cmp_isNaN_int64 i_cmp_isNaN_int64.vf :=
  ⟨Try.f56, Try.f56.body.getD .skip, Try.func56, by kernel_rfl, by kernel_rfl, by kernel_rfl, by kernel_rfl, by kernel_rfl⟩

/-- slices.siftDownCmpFunc[loop.example/g01331/impl.told] -/
def i_slices_siftDownCmpFunc_impl_told_B1 : FC :=
  .block 1 <|
  .seq (.ops [
    ⟨some 13, .mv (.tmp 10), none, 0⟩,
    ⟨some 14, .bin .mul (.const (.int .i64 2)) (.tmp 13), none, 0⟩,
    ⟨some 15, .bin .add (.tmp 14) (.const (.int .i64 1)), none, 0⟩,
    ⟨some 11, .mv (.tmp 15), none, 0⟩]) <|
  .seq (.seq (.ops [
    ⟨some 16, .mv (.tmp 11), none, 0⟩,
    ⟨some 17, .mv (.tmp 2), none, 0⟩,
    ⟨some 18, .bin .geq (.tmp 16) (.tmp 17), none, 0⟩]) <|
  .cond (.tmp 18)
    (.keep [] <|
    .exit 0)
    (.skip)) <|
  .seq (.seq (.dops [
    ⟨some 19, .mv (.tmp 11), none, 0⟩,
    ⟨some 20, .bin .add (.tmp 19) (.const (.int .i64 1)), none, 0⟩,
    ⟨some 21, .mv (.tmp 2), none, 0⟩,
    ⟨some 22, .bin .lss (.tmp 20) (.tmp 21), none, 0⟩,
    ⟨some 23, .mv (.tmp 22), none, 0⟩,
    ⟨some 24, .mv (.tmp 4), some (23, true), 0⟩,
    ⟨some 25, .mv (.tmp 0), some (23, true), 0⟩,
    ⟨some 26, .mv (.tmp 3), some (23, true), 0⟩,
    ⟨some 27, .mv (.tmp 11), some (23, true), 0⟩,
    ⟨some 28, .bin .add (.tmp 26) (.tmp 27), some (23, true), 0⟩,
    ⟨some 29, .idx 3 (.tmp 25) (.tmp 28), some (23, true), 0⟩,
    ⟨some 30, .load true 3 (.tmp 29), some (23, true), 0⟩,
    ⟨some 31, .mv (.tmp 0), some (23, true), 0⟩,
    ⟨some 32, .mv (.tmp 3), some (23, true), 0⟩,
    ⟨some 33, .mv (.tmp 11), some (23, true), 0⟩,
    ⟨some 34, .bin .add (.tmp 32) (.tmp 33), some (23, true), 0⟩,
    ⟨some 35, .bin .add (.tmp 34) (.const (.int .i64 1)), some (23, true), 0⟩,
    ⟨some 36, .idx 3 (.tmp 31) (.tmp 35), some (23, true), 0⟩,
    ⟨some 37, .load true 3 (.tmp 36), some (23, true), 0⟩,
    ⟨some 38, .callv (.tmp 24) [(.tmp 30), (.tmp 37)], some (23, true), 0⟩,
    ⟨some 39, .bin .lss (.tmp 38) (.const (.int .i64 0)), some (23, true), 0⟩,
    ⟨some 40, .pick (.tmp 23) (.tmp 39) (.const (.bool false)), none, 0⟩]) <|
  .cond (.tmp 40)
    (.ops [
      ⟨some 41, .mv (.tmp 11), none, 0⟩,
      ⟨some 42, .bin .add (.tmp 41) (.const (.int .i64 1)), none, 0⟩,
      ⟨some 11, .mv (.tmp 42), none, 0⟩])
    (.skip)) <|
  .seq (.seq (.dops [
    ⟨some 43, .mv (.tmp 4), none, 0⟩,
    ⟨some 44, .mv (.tmp 0), none, 0⟩,
    ⟨some 45, .mv (.tmp 3), none, 0⟩,
    ⟨some 46, .mv (.tmp 10), none, 0⟩,
    ⟨some 47, .bin .add (.tmp 45) (.tmp 46), none, 0⟩,
    ⟨some 48, .idx 3 (.tmp 44) (.tmp 47), none, 0⟩,
    ⟨some 49, .load true 3 (.tmp 48), none, 0⟩,
    ⟨some 50, .mv (.tmp 0), none, 0⟩,
    ⟨some 51, .mv (.tmp 3), none, 0⟩,
    ⟨some 52, .mv (.tmp 11), none, 0⟩,
    ⟨some 53, .bin .add (.tmp 51) (.tmp 52), none, 0⟩,
    ⟨some 54, .idx 3 (.tmp 50) (.tmp 53), none, 0⟩,
    ⟨some 55, .load true 3 (.tmp 54), none, 0⟩,
    ⟨some 56, .callv (.tmp 43) [(.tmp 49), (.tmp 55)], none, 0⟩,
    ⟨some 57, .bin .lss (.tmp 56) (.const (.int .i64 0)), none, 0⟩,
    ⟨some 58, .un .not (.tmp 57), none, 0⟩]) <|
  .cond (.tmp 58)
    (.keep [] <|
    .ret)
    (.skip)) <|
  .seq (.dops [
    ⟨some 59, .mv (.tmp 0), none, 0⟩,
    ⟨some 60, .mv (.tmp 3), none, 0⟩,
    ⟨some 61, .mv (.tmp 10), none, 0⟩,
    ⟨some 62, .bin .add (.tmp 60) (.tmp 61), none, 0⟩,
    ⟨some 67, .mv (.tmp 0), none, 0⟩,
    ⟨some 68, .mv (.tmp 3), none, 0⟩,
    ⟨some 69, .mv (.tmp 11), none, 0⟩,
    ⟨some 70, .bin .add (.tmp 68) (.tmp 69), none, 0⟩,
    ⟨some 71, .idx 3 (.tmp 67) (.tmp 70), none, 0⟩,
    ⟨some 72, .load true 3 (.tmp 71), none, 0⟩,
    ⟨some 73, .mv (.tmp 0), none, 0⟩,
    ⟨some 74, .mv (.tmp 3), none, 0⟩,
    ⟨some 75, .mv (.tmp 10), none, 0⟩,
    ⟨some 76, .bin .add (.tmp 74) (.tmp 75), none, 0⟩,
    ⟨some 77, .idx 3 (.tmp 73) (.tmp 76), none, 0⟩,
    ⟨some 78, .load true 3 (.tmp 77), none, 0⟩,
    ⟨some 79, .idx 3 (.tmp 59) (.tmp 62), none, 0⟩,
    ⟨none, .store 3 (.tmp 79) (.tmp 72), none, 0⟩,
    ⟨some 63, .mv (.tmp 0), none, 1⟩,
    ⟨some 64, .mv (.tmp 3), none, 1⟩,
    ⟨some 65, .mv (.tmp 11), none, 1⟩,
    ⟨some 66, .bin .add (.tmp 64) (.tmp 65), none, 1⟩,
    ⟨some 80, .idx 3 (.tmp 63) (.tmp 66), none, 0⟩,
    ⟨none, .store 3 (.tmp 80) (.tmp 78), none, 0⟩]) <|
  .ops [
    ⟨some 81, .mv (.tmp 11), none, 0⟩,
    ⟨some 10, .mv (.tmp 81), none, 0⟩]
def i_slices_siftDownCmpFunc_impl_told : FF := ⟨82, [],
  .seq (.ops [
    ⟨some 12, .mv (.tmp 1), none, 0⟩,
    ⟨some 10, .mv (.tmp 12), none, 0⟩]) <|
  .block 0 <|
  .loop [0, 2, 3, 4, 10] i_slices_siftDownCmpFunc_impl_told_B1⟩

theorem e_slices_siftDownCmpFunc_impl_told : EntOK Try.prog (compD Try.prog) k_slices_siftDownCmpFunc_impl_told i_slices_siftDownCmpFunc_impl_told.vf :=
  ⟨Try.f57, Try.f57.body.getD .skip, Try.func57, by kernel_rfl, by kernel_rfl, by kernel_rfl, by kernel_rfl, by kernel_rfl⟩

/-- slices.nextPowerOfTwo -/
def i_slices_nextPowerOfTwo : FF := ⟨7, [.tmp 2],
  .seq (.ops [
    ⟨some 2, .mv (.const (.int .u64 0)), none, 0⟩]) <|
  .seq (.ops [
    ⟨some 3, .mv (.tmp 0), none, 0⟩,
    ⟨some 4, .conv .u64 (.tmp 3), none, 0⟩,
    ⟨some 5, .call k_math_bits_Len [(.tmp 4)], none, 0⟩,
    ⟨some 6, .bin .shl (.const (.int .u64 1)) (.tmp 5), none, 0⟩,
    ⟨some 2, .mv (.tmp 6), none, 0⟩]) <|
  .keep [2] <|
  .ret⟩

theorem e_slices_nextPowerOfTwo : EntOK Try.prog (compD Try.prog) k_slices_nextPowerOfTwo i_slices_nextPowerOfTwo.vf :=
  ⟨Try.f58, Try.f58.body.getD .skip, Try.func58, by kernel_rfl, by kernel_rfl, by kernel_rfl, by kernel_rfl, by kernel_rfl⟩

/-- (*slices.xorshift).Next -/
def i_slices_xorshift_Next : FF := ⟨33, [.tmp 2],
  .seq (.ops [
    ⟨some 2, .mv (.const (.int .u64 0)), none, 0⟩]) <|
  .seq (.dops [
    ⟨some 3, .mv (.tmp 0), none, 0⟩,
    ⟨some 4, .nilchk (.tmp 3), none, 0⟩,
    ⟨some 5, .load false 1 (.tmp 4), none, 0⟩,
    ⟨some 6, .mv (.tmp 0), none, 0⟩,
    ⟨some 7, .nilchk (.tmp 6), none, 0⟩,
    ⟨some 8, .load false 1 (.tmp 7), none, 0⟩,
    ⟨some 9, .bin .shl (.tmp 8) (.const (.int .u64 13)), none, 0⟩,
    ⟨some 10, .bin .xor (.tmp 5) (.tmp 9), none, 0⟩,
    ⟨some 11, .nilchk (.tmp 3), none, 0⟩,
    ⟨none, .store 1 (.tmp 11) (.tmp 10), none, 0⟩]) <|
  .seq (.dops [
    ⟨some 12, .mv (.tmp 0), none, 0⟩,
    ⟨some 13, .nilchk (.tmp 12), none, 0⟩,
    ⟨some 14, .load false 1 (.tmp 13), none, 0⟩,
    ⟨some 15, .mv (.tmp 0), none, 0⟩,
    ⟨some 16, .nilchk (.tmp 15), none, 0⟩,
    ⟨some 17, .load false 1 (.tmp 16), none, 0⟩,
    ⟨some 18, .bin .shr (.tmp 17) (.const (.int .u64 7)), none, 0⟩,
    ⟨some 19, .bin .xor (.tmp 14) (.tmp 18), none, 0⟩,
    ⟨some 20, .nilchk (.tmp 12), none, 0⟩,
    ⟨none, .store 1 (.tmp 20) (.tmp 19), none, 0⟩]) <|
  .seq (.dops [
    ⟨some 21, .mv (.tmp 0), none, 0⟩,
    ⟨some 22, .nilchk (.tmp 21), none, 0⟩,
    ⟨some 23, .load false 1 (.tmp 22), none, 0⟩,
    ⟨some 24, .mv (.tmp 0), none, 0⟩,
    ⟨some 25, .nilchk (.tmp 24), none, 0⟩,
    ⟨some 26, .load false 1 (.tmp 25), none, 0⟩,
    ⟨some 27, .bin .shl (.tmp 26) (.const (.int .u64 17)), none, 0⟩,
    ⟨some 28, .bin .xor (.tmp 23) (.tmp 27), none, 0⟩,
    ⟨some 29, .nilchk (.tmp 21), none, 0⟩,
    ⟨none, .store 1 (.tmp 29) (.tmp 28), none, 0⟩]) <|
  .seq (.ops [
    ⟨some 30, .mv (.tmp 0), none, 0⟩,
    ⟨some 31, .nilchk (.tmp 30), none, 0⟩,
    ⟨some 32, .load false 1 (.tmp 31), none, 0⟩,
    ⟨some 2, .mv (.tmp 32), none, 0⟩]) <|
  .keep [2] <|
  .ret⟩

theorem e_slices_xorshift_Next : EntOK Try.prog (compD Try.prog) k_slices_xorshift_Next i_slices_xorshift_Next.vf :=
  ⟨Try.f59, Try.f59.body.getD .skip, Try.func59, by kernel_rfl, by kernel_rfl, by kernel_rfl, by kernel_rfl, by kernel_rfl⟩

/-- slices.medianAdjacentCmpFunc[loop.example/g01331/impl.told] -/
def i_slices_medianAdjacentCmpFunc_impl_told : FF := ⟨18, [.tmp 8],
  .seq (.ops [
    ⟨some 8, .mv (.const (.int .i64 0)), none, 0⟩]) <|
  .seq (.ops [
    ⟨some 9, .mv (.tmp 0), none, 0⟩,
    ⟨some 10, .mv (.tmp 1), none, 0⟩,
    ⟨some 11, .bin .sub (.tmp 10) (.const (.int .i64 1)), none, 0⟩,
    ⟨some 12, .mv (.tmp 1), none, 0⟩,
    ⟨some 13, .mv (.tmp 1), none, 0⟩,
    ⟨some 14, .bin .add (.tmp 13) (.const (.int .i64 1)), none, 0⟩,
    ⟨some 15, .mv (.tmp 2), none, 0⟩,
    ⟨some 16, .mv (.tmp 3), none, 0⟩,
    ⟨some 17, .call k_slices_medianCmpFunc_impl_told [(.tmp 9), (.tmp 11), (.tmp 12), (.tmp 14), (.tmp 15), (.tmp 16)], none, 0⟩,
    ⟨some 8, .mv (.tmp 17), none, 0⟩]) <|
  .keep [8] <|
  .ret⟩

theorem e_slices_medianAdjacentCmpFunc_impl_told : EntOK Try.prog (compD Try.prog) k_slices_medianAdjacentCmpFunc_impl_told i_slices_medianAdjacentCmpFunc_impl_told.vf :=
  ⟨Try.f60, Try.f60.body.getD .skip, Try.func60, by kernel_rfl, by kernel_rfl, by kernel_rfl, by kernel_rfl, by kernel_rfl⟩

/-- slices.medianCmpFunc[loop.example/g01331/impl.told] -/
def i_slices_medianCmpFunc_impl_told : FF := ⟨41, [.tmp 12],
  .seq (.ops [
    ⟨some 12, .mv (.const (.int .i64 0)), none, 0⟩]) <|
  .seq (.ops [
    ⟨some 14, .mv (.tmp 0), none, 0⟩,
    ⟨some 15, .mv (.tmp 1), none, 0⟩,
    ⟨some 16, .mv (.tmp 2), none, 0⟩,
    ⟨some 17, .mv (.tmp 4), none, 0⟩,
    ⟨some 18, .mv (.tmp 5), none, 0⟩,
    ⟨some 19, .call k_slices_order2CmpFunc_impl_told [(.tmp 14), (.tmp 15), (.tmp 16), (.tmp 17), (.tmp 18)], none, 0⟩,
    ⟨some 13, .mv (.tmp 19), none, 0⟩,
    ⟨some 20, .ext (.tmp 13) 0, none, 0⟩,
    ⟨some 21, .ext (.tmp 13) 1, none, 0⟩,
    ⟨some 1, .mv (.tmp 20), none, 0⟩,
    ⟨some 2, .mv (.tmp 21), none, 0⟩]) <|
  .seq (.ops [
    ⟨some 23, .mv (.tmp 0), none, 0⟩,
    ⟨some 24, .mv (.tmp 2), none, 0⟩,
    ⟨some 25, .mv (.tmp 3), none, 0⟩,
    ⟨some 26, .mv (.tmp 4), none, 0⟩,
    ⟨some 27, .mv (.tmp 5), none, 0⟩,
    ⟨some 28, .call k_slices_order2CmpFunc_impl_told [(.tmp 23), (.tmp 24), (.tmp 25), (.tmp 26), (.tmp 27)], none, 0⟩,
    ⟨some 22, .mv (.tmp 28), none, 0⟩,
    ⟨some 29, .ext (.tmp 22) 0, none, 0⟩,
    ⟨some 30, .ext (.tmp 22) 1, none, 0⟩,
    ⟨some 2, .mv (.tmp 29), none, 0⟩,
    ⟨some 3, .mv (.tmp 30), none, 0⟩]) <|
  .seq (.ops [
    ⟨some 32, .mv (.tmp 0), none, 0⟩,
    ⟨some 33, .mv (.tmp 1), none, 0⟩,
    ⟨some 34, .mv (.tmp 2), none, 0⟩,
    ⟨some 35, .mv (.tmp 4), none, 0⟩,
    ⟨some 36, .mv (.tmp 5), none, 0⟩,
    ⟨some 37, .call k_slices_order2CmpFunc_impl_told [(.tmp 32), (.tmp 33), (.tmp 34), (.tmp 35), (.tmp 36)], none, 0⟩,
    ⟨some 31, .mv (.tmp 37), none, 0⟩,
    ⟨some 38, .ext (.tmp 31) 0, none, 0⟩,
    ⟨some 39, .ext (.tmp 31) 1, none, 0⟩,
    ⟨some 1, .mv (.tmp 38), none, 0⟩,
    ⟨some 2, .mv (.tmp 39), none, 0⟩]) <|
  .seq (.ops [
    ⟨some 40, .mv (.tmp 2), none, 0⟩,
    ⟨some 12, .mv (.tmp 40), none, 0⟩]) <|
  .keep [12] <|
  .ret⟩

theorem e_slices_medianCmpFunc_impl_told : EntOK Try.prog (compD Try.prog) k_slices_medianCmpFunc_impl_told i_slices_medianCmpFunc_impl_told.vf :=
  ⟨Try.f61, Try.f61.body.getD .skip, Try.func61, by kernel_rfl, by kernel_rfl, by kernel_rfl, by kernel_rfl, by kernel_rfl⟩

/-- slices.order2CmpFunc[loop.example/g01331/impl.told] -/
def i_slices_order2CmpFunc_impl_told : FF := ⟨32, [.tmp 10, .tmp 11],
  .seq (.ops [
    ⟨some 10, .mv (.const (.int .i64 0)), none, 0⟩,
    ⟨some 11, .mv (.const (.int .i64 0)), none, 0⟩]) <|
  .seq (.seq (.dops [
    ⟨some 12, .mv (.tmp 4), none, 0⟩,
    ⟨some 13, .mv (.tmp 0), none, 0⟩,
    ⟨some 14, .mv (.tmp 2), none, 0⟩,
    ⟨some 15, .idx 3 (.tmp 13) (.tmp 14), none, 0⟩,
    ⟨some 16, .load true 3 (.tmp 15), none, 0⟩,
    ⟨some 17, .mv (.tmp 0), none, 0⟩,
    ⟨some 18, .mv (.tmp 1), none, 0⟩,
    ⟨some 19, .idx 3 (.tmp 17) (.tmp 18), none, 0⟩,
    ⟨some 20, .load true 3 (.tmp 19), none, 0⟩,
    ⟨some 21, .callv (.tmp 12) [(.tmp 16), (.tmp 20)], none, 0⟩,
    ⟨some 22, .bin .lss (.tmp 21) (.const (.int .i64 0)), none, 0⟩]) <|
  .cond (.tmp 22)
    (.seq (.ops [
      ⟨some 23, .mv (.tmp 3), none, 0⟩,
      ⟨some 24, .nilchk (.tmp 23), none, 0⟩,
      ⟨some 25, .load false 1 (.tmp 24), none, 0⟩,
      ⟨some 26, .bin .add (.tmp 25) (.const (.int .i64 1)), none, 0⟩,
      ⟨some 27, .nilchk (.tmp 23), none, 0⟩,
      ⟨none, .store 1 (.tmp 27) (.tmp 26), none, 0⟩]) <|
    .seq (.ops [
      ⟨some 28, .mv (.tmp 2), none, 0⟩,
      ⟨some 29, .mv (.tmp 1), none, 0⟩,
      ⟨some 10, .mv (.tmp 28), none, 0⟩,
      ⟨some 11, .mv (.tmp 29), none, 0⟩]) <|
    .keep [10, 11] <|
    .ret)
    (.skip)) <|
  .seq (.ops [
    ⟨some 30, .mv (.tmp 1), none, 0⟩,
    ⟨some 31, .mv (.tmp 2), none, 0⟩,
    ⟨some 10, .mv (.tmp 30), none, 0⟩,
    ⟨some 11, .mv (.tmp 31), none, 0⟩]) <|
  .keep [10, 11] <|
  .ret⟩

theorem e_slices_order2CmpFunc_impl_told : EntOK Try.prog (compD Try.prog) k_slices_order2CmpFunc_impl_told i_slices_order2CmpFunc_impl_told.vf :=
  ⟨Try.f62, Try.f62.body.getD .skip, Try.func62, by kernel_rfl, by kernel_rfl, by kernel_rfl, by kernel_rfl, by kernel_rfl⟩

def tab : List (Nat × FF) := [(k_laws_FnExactIsEqualPartition, i_laws_FnExactIsEqualPartition), (k_laws_szGraph, i_laws_szGraph), (k_spec_IsEqualPartition, i_spec_IsEqualPartition), (k_laws_toGraph, i_laws_toGraph), (k_laws_toInt64S, i_laws_toInt64S), (k_impl_IsEqualPartition, i_impl_IsEqualPartition), (k_laws_eqGraph, i_laws_eqGraph), (k_laws_eqInt64S, i_laws_eqInt64S), (k_laws_szInt64S, i_laws_szInt64S), (k_spec_l10Code, i_spec_l10Code), (k_spec_l10Same, i_spec_l10Same), (k_spec_l10Step, i_spec_l10Step), (k_impl_partitionCode, i_impl_partitionCode), (k_slices_Equal_int64_int64, i_slices_Equal_int64_int64), (k_impl_refined, i_impl_refined), (k_spec_l01Is, i_spec_l01Is), (k_spec_l10Is, i_spec_l10Is), (k_spec_l10Counts, i_spec_l10Counts), (k_impl_IsGraph, i_impl_IsGraph), (k_impl_isPartition, i_impl_isPartition), (k_slices_Clone_int64_int64, i_slices_Clone_int64_int64), (k_impl_coloured_refine, i_impl_coloured_refine), (k_impl_byFirst, i_impl_byFirst), (k_spec_l01In, i_spec_l01In), (k_spec_l01Has, i_spec_l01Has), (k_impl_coloured_many, i_impl_coloured_many), (k_impl_size, i_impl_size), (k_slices_SortFunc_impl_told_impl_told, i_slices_SortFunc_impl_told_impl_told), (k_impl_coloured_refine_1, i_impl_coloured_refine_1), (k_slices_Compare_int64_int64, i_slices_Compare_int64_int64), (k_slices_Index_int64_int64, i_slices_Index_int64_int64), (k_slices_Max_int64_int64, i_slices_Max_int64_int64), (k_math_bits_OnesCount64, i_math_bits_OnesCount64), (k_slices_pdqsortCmpFunc_impl_told, i_slices_pdqsortCmpFunc_impl_told), (k_math_bits_Len, i_math_bits_Len), (k_cmp_Compare_int64, i_cmp_Compare_int64), (k_slices_insertionSortCmpFunc_impl_told, i_slices_insertionSortCmpFunc_impl_told), (k_slices_heapSortCmpFunc_impl_told, i_slices_heapSortCmpFunc_impl_told), (k_slices_breakPatternsCmpFunc_impl_told, i_slices_breakPatternsCmpFunc_impl_told), (k_slices_choosePivotCmpFunc_impl_told, i_slices_choosePivotCmpFunc_impl_told), (k_slices_reverseRangeCmpFunc_impl_told, i_slices_reverseRangeCmpFunc_impl_told), (k_slices_partialInsertionSortCmpFunc_impl_told, i_slices_partialInsertionSortCmpFunc_impl_told), (k_slices_partitionEqualCmpFunc_impl_told, i_slices_partitionEqualCmpFunc_impl_told), (k_slices_partitionCmpFunc_impl_told, i_slices_partitionCmpFunc_impl_told), (k_math_bits_Len32, i_math_bits_Len32), (k_math_bits_Len64, i_math_bits_Len64), (k_cmp_isNaN_int64, i_cmp_isNaN_int64), (k_slices_siftDownCmpFunc_impl_told, i_slices_siftDownCmpFunc_impl_told), (k_slices_nextPowerOfTwo, i_slices_nextPowerOfTwo), (k_slices_xorshift_Next, i_slices_xorshift_Next), (k_slices_medianAdjacentCmpFunc_impl_told, i_slices_medianAdjacentCmpFunc_impl_told), (k_slices_medianCmpFunc_impl_told, i_slices_medianCmpFunc_impl_told), (k_slices_order2CmpFunc_impl_told, i_slices_order2CmpFunc_impl_told)]
theorem tabOK : ∀ p ∈ tab, EntOK Try.prog (compD Try.prog) p.1 p.2.vf := by
  intro p hp
  simp only [tab, List.mem_cons, List.not_mem_nil, or_false] at hp
  rcases hp with rfl | rfl | rfl | rfl | rfl | rfl | rfl | rfl | rfl | rfl | rfl | rfl | rfl | rfl | rfl | rfl | rfl | rfl | rfl | rfl | rfl | rfl | rfl | rfl | rfl | rfl | rfl | rfl | rfl | rfl | rfl | rfl | rfl | rfl | rfl | rfl | rfl | rfl | rfl | rfl | rfl | rfl | rfl | rfl | rfl | rfl | rfl | rfl | rfl | rfl | rfl | rfl | rfl
  · exact e_laws_FnExactIsEqualPartition
  · exact e_laws_szGraph
  · exact e_spec_IsEqualPartition
  · exact e_laws_toGraph
  · exact e_laws_toInt64S
  · exact e_impl_IsEqualPartition
  · exact e_laws_eqGraph
  · exact e_laws_eqInt64S
  · exact e_laws_szInt64S
  · exact e_spec_l10Code
  · exact e_spec_l10Same
  · exact e_spec_l10Step
  · exact e_impl_partitionCode
  · exact e_slices_Equal_int64_int64
  · exact e_impl_refined
  · exact e_spec_l01Is
  · exact e_spec_l10Is
  · exact e_spec_l10Counts
  · exact e_impl_IsGraph
  · exact e_impl_isPartition
  · exact e_slices_Clone_int64_int64
  · exact e_impl_coloured_refine
  · exact e_impl_byFirst
  · exact e_spec_l01In
  · exact e_spec_l01Has
  · exact e_impl_coloured_many
  · exact e_impl_size
  · exact e_slices_SortFunc_impl_told_impl_told
  · exact e_impl_coloured_refine_1
  · exact e_slices_Compare_int64_int64
  · exact e_slices_Index_int64_int64
  · exact e_slices_Max_int64_int64
  · exact e_math_bits_OnesCount64
  · exact e_slices_pdqsortCmpFunc_impl_told
  · exact e_math_bits_Len
  · exact e_cmp_Compare_int64
  · exact e_slices_insertionSortCmpFunc_impl_told
  · exact e_slices_heapSortCmpFunc_impl_told
  · exact e_slices_breakPatternsCmpFunc_impl_told
  · exact e_slices_choosePivotCmpFunc_impl_told
  · exact e_slices_reverseRangeCmpFunc_impl_told
  · exact e_slices_partialInsertionSortCmpFunc_impl_told
  · exact e_slices_partitionEqualCmpFunc_impl_told
  · exact e_slices_partitionCmpFunc_impl_told
  · exact e_math_bits_Len32
  · exact e_math_bits_Len64
  · exact e_cmp_isNaN_int64
  · exact e_slices_siftDownCmpFunc_impl_told
  · exact e_slices_nextPowerOfTwo
  · exact e_slices_xorshift_Next
  · exact e_slices_medianAdjacentCmpFunc_impl_told
  · exact e_slices_medianCmpFunc_impl_told
  · exact e_slices_order2CmpFunc_impl_told

def F (n : Nat) : Option Ent := (tab.lookup n).map fun f => .ir f.vf
theorem v_laws_FnExactIsEqualPartition {nro : Nat} {args : List Value} {h : VH} {r : Value × VH} (ha : args.length ≤ i_laws_FnExactIsEqualPartition.ntmps) (hr : fbody (vcall F nro) nro i_laws_FnExactIsEqualPartition args h = some r) : vcall F nro k_laws_FnExactIsEqualPartition args h = some r := vcall_f (by kernel_rfl) (by kernel_rfl) ha hr
theorem v_laws_szGraph {nro : Nat} {args : List Value} {h : VH} {r : Value × VH} (ha : args.length ≤ i_laws_szGraph.ntmps) (hr : fbody (vcall F nro) nro i_laws_szGraph args h = some r) : vcall F nro k_laws_szGraph args h = some r := vcall_f (by kernel_rfl) (by kernel_rfl) ha hr
theorem v_spec_IsEqualPartition {nro : Nat} {args : List Value} {h : VH} {r : Value × VH} (ha : args.length ≤ i_spec_IsEqualPartition.ntmps) (hr : fbody (vcall F nro) nro i_spec_IsEqualPartition args h = some r) : vcall F nro k_spec_IsEqualPartition args h = some r := vcall_f (by kernel_rfl) (by kernel_rfl) ha hr
theorem v_laws_toGraph {nro : Nat} {args : List Value} {h : VH} {r : Value × VH} (ha : args.length ≤ i_laws_toGraph.ntmps) (hr : fbody (vcall F nro) nro i_laws_toGraph args h = some r) : vcall F nro k_laws_toGraph args h = some r := vcall_f (by kernel_rfl) (by kernel_rfl) ha hr
theorem v_laws_toInt64S {nro : Nat} {args : List Value} {h : VH} {r : Value × VH} (ha : args.length ≤ i_laws_toInt64S.ntmps) (hr : fbody (vcall F nro) nro i_laws_toInt64S args h = some r) : vcall F nro k_laws_toInt64S args h = some r := vcall_f (by kernel_rfl) (by kernel_rfl) ha hr
theorem v_impl_IsEqualPartition {nro : Nat} {args : List Value} {h : VH} {r : Value × VH} (ha : args.length ≤ i_impl_IsEqualPartition.ntmps) (hr : fbody (vcall F nro) nro i_impl_IsEqualPartition args h = some r) : vcall F nro k_impl_IsEqualPartition args h = some r := vcall_f (by kernel_rfl) (by kernel_rfl) ha hr
theorem v_laws_eqGraph {nro : Nat} {args : List Value} {h : VH} {r : Value × VH} (ha : args.length ≤ i_laws_eqGraph.ntmps) (hr : fbody (vcall F nro) nro i_laws_eqGraph args h = some r) : vcall F nro k_laws_eqGraph args h = some r := vcall_f (by kernel_rfl) (by kernel_rfl) ha hr
theorem v_laws_eqInt64S {nro : Nat} {args : List Value} {h : VH} {r : Value × VH} (ha : args.length ≤ i_laws_eqInt64S.ntmps) (hr : fbody (vcall F nro) nro i_laws_eqInt64S args h = some r) : vcall F nro k_laws_eqInt64S args h = some r := vcall_f (by kernel_rfl) (by kernel_rfl) ha hr
theorem v_laws_szInt64S {nro : Nat} {args : List Value} {h : VH} {r : Value × VH} (ha : args.length ≤ i_laws_szInt64S.ntmps) (hr : fbody (vcall F nro) nro i_laws_szInt64S args h = some r) : vcall F nro k_laws_szInt64S args h = some r := vcall_f (by kernel_rfl) (by kernel_rfl) ha hr
theorem v_spec_l10Code {nro : Nat} {args : List Value} {h : VH} {r : Value × VH} (ha : args.length ≤ i_spec_l10Code.ntmps) (hr : fbody (vcall F nro) nro i_spec_l10Code args h = some r) : vcall F nro k_spec_l10Code args h = some r := vcall_f (by kernel_rfl) (by kernel_rfl) ha hr
theorem v_spec_l10Same {nro : Nat} {args : List Value} {h : VH} {r : Value × VH} (ha : args.length ≤ i_spec_l10Same.ntmps) (hr : fbody (vcall F nro) nro i_spec_l10Same args h = some r) : vcall F nro k_spec_l10Same args h = some r := vcall_f (by kernel_rfl) (by kernel_rfl) ha hr
theorem v_spec_l10Step {nro : Nat} {args : List Value} {h : VH} {r : Value × VH} (ha : args.length ≤ i_spec_l10Step.ntmps) (hr : fbody (vcall F nro) nro i_spec_l10Step args h = some r) : vcall F nro k_spec_l10Step args h = some r := vcall_f (by kernel_rfl) (by kernel_rfl) ha hr
theorem v_impl_partitionCode {nro : Nat} {args : List Value} {h : VH} {r : Value × VH} (ha : args.length ≤ i_impl_partitionCode.ntmps) (hr : fbody (vcall F nro) nro i_impl_partitionCode args h = some r) : vcall F nro k_impl_partitionCode args h = some r := vcall_f (by kernel_rfl) (by kernel_rfl) ha hr
theorem v_slices_Equal_int64_int64 {nro : Nat} {args : List Value} {h : VH} {r : Value × VH} (ha : args.length ≤ i_slices_Equal_int64_int64.ntmps) (hr : fbody (vcall F nro) nro i_slices_Equal_int64_int64 args h = some r) : vcall F nro k_slices_Equal_int64_int64 args h = some r := vcall_f (by kernel_rfl) (by kernel_rfl) ha hr
theorem v_impl_refined {nro : Nat} {args : List Value} {h : VH} {r : Value × VH} (ha : args.length ≤ i_impl_refined.ntmps) (hr : fbody (vcall F nro) nro i_impl_refined args h = some r) : vcall F nro k_impl_refined args h = some r := vcall_f (by kernel_rfl) (by kernel_rfl) ha hr
theorem v_spec_l01Is {nro : Nat} {args : List Value} {h : VH} {r : Value × VH} (ha : args.length ≤ i_spec_l01Is.ntmps) (hr : fbody (vcall F nro) nro i_spec_l01Is args h = some r) : vcall F nro k_spec_l01Is args h = some r := vcall_f (by kernel_rfl) (by kernel_rfl) ha hr
theorem v_spec_l10Is {nro : Nat} {args : List Value} {h : VH} {r : Value × VH} (ha : args.length ≤ i_spec_l10Is.ntmps) (hr : fbody (vcall F nro) nro i_spec_l10Is args h = some r) : vcall F nro k_spec_l10Is args h = some r := vcall_f (by kernel_rfl) (by kernel_rfl) ha hr
theorem v_spec_l10Counts {nro : Nat} {args : List Value} {h : VH} {r : Value × VH} (ha : args.length ≤ i_spec_l10Counts.ntmps) (hr : fbody (vcall F nro) nro i_spec_l10Counts args h = some r) : vcall F nro k_spec_l10Counts args h = some r := vcall_f (by kernel_rfl) (by kernel_rfl) ha hr
theorem v_impl_IsGraph {nro : Nat} {args : List Value} {h : VH} {r : Value × VH} (ha : args.length ≤ i_impl_IsGraph.ntmps) (hr : fbody (vcall F nro) nro i_impl_IsGraph args h = some r) : vcall F nro k_impl_IsGraph args h = some r := vcall_f (by kernel_rfl) (by kernel_rfl) ha hr
theorem v_impl_isPartition {nro : Nat} {args : List Value} {h : VH} {r : Value × VH} (ha : args.length ≤ i_impl_isPartition.ntmps) (hr : fbody (vcall F nro) nro i_impl_isPartition args h = some r) : vcall F nro k_impl_isPartition args h = some r := vcall_f (by kernel_rfl) (by kernel_rfl) ha hr
theorem v_slices_Clone_int64_int64 {nro : Nat} {args : List Value} {h : VH} {r : Value × VH} (ha : args.length ≤ i_slices_Clone_int64_int64.ntmps) (hr : fbody (vcall F nro) nro i_slices_Clone_int64_int64 args h = some r) : vcall F nro k_slices_Clone_int64_int64 args h = some r := vcall_f (by kernel_rfl) (by kernel_rfl) ha hr
theorem v_impl_coloured_refine {nro : Nat} {args : List Value} {h : VH} {r : Value × VH} (ha : args.length ≤ i_impl_coloured_refine.ntmps) (hr : fbody (vcall F nro) nro i_impl_coloured_refine args h = some r) : vcall F nro k_impl_coloured_refine args h = some r := vcall_f (by kernel_rfl) (by kernel_rfl) ha hr
theorem v_impl_byFirst {nro : Nat} {args : List Value} {h : VH} {r : Value × VH} (ha : args.length ≤ i_impl_byFirst.ntmps) (hr : fbody (vcall F nro) nro i_impl_byFirst args h = some r) : vcall F nro k_impl_byFirst args h = some r := vcall_f (by kernel_rfl) (by kernel_rfl) ha hr
theorem v_spec_l01In {nro : Nat} {args : List Value} {h : VH} {r : Value × VH} (ha : args.length ≤ i_spec_l01In.ntmps) (hr : fbody (vcall F nro) nro i_spec_l01In args h = some r) : vcall F nro k_spec_l01In args h = some r := vcall_f (by kernel_rfl) (by kernel_rfl) ha hr
theorem v_spec_l01Has {nro : Nat} {args : List Value} {h : VH} {r : Value × VH} (ha : args.length ≤ i_spec_l01Has.ntmps) (hr : fbody (vcall F nro) nro i_spec_l01Has args h = some r) : vcall F nro k_spec_l01Has args h = some r := vcall_f (by kernel_rfl) (by kernel_rfl) ha hr
theorem v_impl_coloured_many {nro : Nat} {args : List Value} {h : VH} {r : Value × VH} (ha : args.length ≤ i_impl_coloured_many.ntmps) (hr : fbody (vcall F nro) nro i_impl_coloured_many args h = some r) : vcall F nro k_impl_coloured_many args h = some r := vcall_f (by kernel_rfl) (by kernel_rfl) ha hr
theorem v_impl_size {nro : Nat} {args : List Value} {h : VH} {r : Value × VH} (ha : args.length ≤ i_impl_size.ntmps) (hr : fbody (vcall F nro) nro i_impl_size args h = some r) : vcall F nro k_impl_size args h = some r := vcall_f (by kernel_rfl) (by kernel_rfl) ha hr
theorem v_slices_SortFunc_impl_told_impl_told {nro : Nat} {args : List Value} {h : VH} {r : Value × VH} (ha : args.length ≤ i_slices_SortFunc_impl_told_impl_told.ntmps) (hr : fbody (vcall F nro) nro i_slices_SortFunc_impl_told_impl_told args h = some r) : vcall F nro k_slices_SortFunc_impl_told_impl_told args h = some r := vcall_f (by kernel_rfl) (by kernel_rfl) ha hr
theorem v_impl_coloured_refine_1 {nro : Nat} {args : List Value} {h : VH} {r : Value × VH} (ha : args.length ≤ i_impl_coloured_refine_1.ntmps) (hr : fbody (vcall F nro) nro i_impl_coloured_refine_1 args h = some r) : vcall F nro k_impl_coloured_refine_1 args h = some r := vcall_f (by kernel_rfl) (by kernel_rfl) ha hr
theorem v_slices_Compare_int64_int64 {nro : Nat} {args : List Value} {h : VH} {r : Value × VH} (ha : args.length ≤ i_slices_Compare_int64_int64.ntmps) (hr : fbody (vcall F nro) nro i_slices_Compare_int64_int64 args h = some r) : vcall F nro k_slices_Compare_int64_int64 args h = some r := vcall_f (by kernel_rfl) (by kernel_rfl) ha hr
theorem v_slices_Index_int64_int64 {nro : Nat} {args : List Value} {h : VH} {r : Value × VH} (ha : args.length ≤ i_slices_Index_int64_int64.ntmps) (hr : fbody (vcall F nro) nro i_slices_Index_int64_int64 args h = some r) : vcall F nro k_slices_Index_int64_int64 args h = some r := vcall_f (by kernel_rfl) (by kernel_rfl) ha hr
theorem v_slices_Max_int64_int64 {nro : Nat} {args : List Value} {h : VH} {r : Value × VH} (ha : args.length ≤ i_slices_Max_int64_int64.ntmps) (hr : fbody (vcall F nro) nro i_slices_Max_int64_int64 args h = some r) : vcall F nro k_slices_Max_int64_int64 args h = some r := vcall_f (by kernel_rfl) (by kernel_rfl) ha hr
theorem v_math_bits_OnesCount64 {nro : Nat} {args : List Value} {h : VH} {r : Value × VH} (ha : args.length ≤ i_math_bits_OnesCount64.ntmps) (hr : fbody (vcall F nro) nro i_math_bits_OnesCount64 args h = some r) : vcall F nro k_math_bits_OnesCount64 args h = some r := vcall_f (by kernel_rfl) (by kernel_rfl) ha hr
theorem v_slices_pdqsortCmpFunc_impl_told {nro : Nat} {args : List Value} {h : VH} {r : Value × VH} (ha : args.length ≤ i_slices_pdqsortCmpFunc_impl_told.ntmps) (hr : fbody (vcall F nro) nro i_slices_pdqsortCmpFunc_impl_told args h = some r) : vcall F nro k_slices_pdqsortCmpFunc_impl_told args h = some r := vcall_f (by kernel_rfl) (by kernel_rfl) ha hr
theorem v_math_bits_Len {nro : Nat} {args : List Value} {h : VH} {r : Value × VH} (ha : args.length ≤ i_math_bits_Len.ntmps) (hr : fbody (vcall F nro) nro i_math_bits_Len args h = some r) : vcall F nro k_math_bits_Len args h = some r := vcall_f (by kernel_rfl) (by kernel_rfl) ha hr
theorem v_cmp_Compare_int64 {nro : Nat} {args : List Value} {h : VH} {r : Value × VH} (ha : args.length ≤ i_cmp_Compare_int64.ntmps) (hr : fbody (vcall F nro) nro i_cmp_Compare_int64 args h = some r) : vcall F nro k_cmp_Compare_int64 args h = some r := vcall_f (by kernel_rfl) (by kernel_rfl) ha hr
theorem v_slices_insertionSortCmpFunc_impl_told {nro : Nat} {args : List Value} {h : VH} {r : Value × VH} (ha : args.length ≤ i_slices_insertionSortCmpFunc_impl_told.ntmps) (hr : fbody (vcall F nro) nro i_slices_insertionSortCmpFunc_impl_told args h = some r) : vcall F nro k_slices_insertionSortCmpFunc_impl_told args h = some r := vcall_f (by kernel_rfl) (by kernel_rfl) ha hr
theorem v_slices_heapSortCmpFunc_impl_told {nro : Nat} {args : List Value} {h : VH} {r : Value × VH} (ha : args.length ≤ i_slices_heapSortCmpFunc_impl_told.ntmps) (hr : fbody (vcall F nro) nro i_slices_heapSortCmpFunc_impl_told args h = some r) : vcall F nro k_slices_heapSortCmpFunc_impl_told args h = some r := vcall_f (by kernel_rfl) (by kernel_rfl) ha hr
theorem v_slices_breakPatternsCmpFunc_impl_told {nro : Nat} {args : List Value} {h : VH} {r : Value × VH} (ha : args.length ≤ i_slices_breakPatternsCmpFunc_impl_told.ntmps) (hr : fbody (vcall F nro) nro i_slices_breakPatternsCmpFunc_impl_told args h = some r) : vcall F nro k_slices_breakPatternsCmpFunc_impl_told args h = some r := vcall_f (by kernel_rfl) (by kernel_rfl) ha hr
theorem v_slices_choosePivotCmpFunc_impl_told {nro : Nat} {args : List Value} {h : VH} {r : Value × VH} (ha : args.length ≤ i_slices_choosePivotCmpFunc_impl_told.ntmps) (hr : fbody (vcall F nro) nro i_slices_choosePivotCmpFunc_impl_told args h = some r) : vcall F nro k_slices_choosePivotCmpFunc_impl_told args h = some r := vcall_f (by kernel_rfl) (by kernel_rfl) ha hr
theorem v_slices_reverseRangeCmpFunc_impl_told {nro : Nat} {args : List Value} {h : VH} {r : Value × VH} (ha : args.length ≤ i_slices_reverseRangeCmpFunc_impl_told.ntmps) (hr : fbody (vcall F nro) nro i_slices_reverseRangeCmpFunc_impl_told args h = some r) : vcall F nro k_slices_reverseRangeCmpFunc_impl_told args h = some r := vcall_f (by kernel_rfl) (by kernel_rfl) ha hr
theorem v_slices_partialInsertionSortCmpFunc_impl_told {nro : Nat} {args : List Value} {h : VH} {r : Value × VH} (ha : args.length ≤ i_slices_partialInsertionSortCmpFunc_impl_told.ntmps) (hr : fbody (vcall F nro) nro i_slices_partialInsertionSortCmpFunc_impl_told args h = some r) : vcall F nro k_slices_partialInsertionSortCmpFunc_impl_told args h = some r := vcall_f (by kernel_rfl) (by kernel_rfl) ha hr
theorem v_slices_partitionEqualCmpFunc_impl_told {nro : Nat} {args : List Value} {h : VH} {r : Value × VH} (ha : args.length ≤ i_slices_partitionEqualCmpFunc_impl_told.ntmps) (hr : fbody (vcall F nro) nro i_slices_partitionEqualCmpFunc_impl_told args h = some r) : vcall F nro k_slices_partitionEqualCmpFunc_impl_told args h = some r := vcall_f (by kernel_rfl) (by kernel_rfl) ha hr
theorem v_slices_partitionCmpFunc_impl_told {nro : Nat} {args : List Value} {h : VH} {r : Value × VH} (ha : args.length ≤ i_slices_partitionCmpFunc_impl_told.ntmps) (hr : fbody (vcall F nro) nro i_slices_partitionCmpFunc_impl_told args h = some r) : vcall F nro k_slices_partitionCmpFunc_impl_told args h = some r := vcall_f (by kernel_rfl) (by kernel_rfl) ha hr
theorem v_math_bits_Len32 {nro : Nat} {args : List Value} {h : VH} {r : Value × VH} (ha : args.length ≤ i_math_bits_Len32.ntmps) (hr : fbody (vcall F nro) nro i_math_bits_Len32 args h = some r) : vcall F nro k_math_bits_Len32 args h = some r := vcall_f (by kernel_rfl) (by kernel_rfl) ha hr
theorem v_math_bits_Len64 {nro : Nat} {args : List Value} {h : VH} {r : Value × VH} (ha : args.length ≤ i_math_bits_Len64.ntmps) (hr : fbody (vcall F nro) nro i_math_bits_Len64 args h = some r) : vcall F nro k_math_bits_Len64 args h = some r := vcall_f (by kernel_rfl) (by kernel_rfl) ha hr
theorem v_cmp_isNaN_int64 {nro : Nat} {args : List Value} {h : VH} {r : Value × VH} (ha : args.length ≤ i_cmp_isNaN_int64.ntmps) (hr : fbody (vcall F nro) nro i_cmp_isNaN_int64 args h = some r) : vcall F nro k_cmp_isNaN_int64 args h = some r := vcall_f (by kernel_rfl) (by kernel_rfl) ha hr
theorem v_slices_siftDownCmpFunc_impl_told {nro : Nat} {args : List Value} {h : VH} {r : Value × VH} (ha : args.length ≤ i_slices_siftDownCmpFunc_impl_told.ntmps) (hr : fbody (vcall F nro) nro i_slices_siftDownCmpFunc_impl_told args h = some r) : vcall F nro k_slices_siftDownCmpFunc_impl_told args h = some r := vcall_f (by kernel_rfl) (by kernel_rfl) ha hr
theorem v_slices_nextPowerOfTwo {nro : Nat} {args : List Value} {h : VH} {r : Value × VH} (ha : args.length ≤ i_slices_nextPowerOfTwo.ntmps) (hr : fbody (vcall F nro) nro i_slices_nextPowerOfTwo args h = some r) : vcall F nro k_slices_nextPowerOfTwo args h = some r := vcall_f (by kernel_rfl) (by kernel_rfl) ha hr
theorem v_slices_xorshift_Next {nro : Nat} {args : List Value} {h : VH} {r : Value × VH} (ha : args.length ≤ i_slices_xorshift_Next.ntmps) (hr : fbody (vcall F nro) nro i_slices_xorshift_Next args h = some r) : vcall F nro k_slices_xorshift_Next args h = some r := vcall_f (by kernel_rfl) (by kernel_rfl) ha hr
theorem v_slices_medianAdjacentCmpFunc_impl_told {nro : Nat} {args : List Value} {h : VH} {r : Value × VH} (ha : args.length ≤ i_slices_medianAdjacentCmpFunc_impl_told.ntmps) (hr : fbody (vcall F nro) nro i_slices_medianAdjacentCmpFunc_impl_told args h = some r) : vcall F nro k_slices_medianAdjacentCmpFunc_impl_told args h = some r := vcall_f (by kernel_rfl) (by kernel_rfl) ha hr
theorem v_slices_medianCmpFunc_impl_told {nro : Nat} {args : List Value} {h : VH} {r : Value × VH} (ha : args.length ≤ i_slices_medianCmpFunc_impl_told.ntmps) (hr : fbody (vcall F nro) nro i_slices_medianCmpFunc_impl_told args h = some r) : vcall F nro k_slices_medianCmpFunc_impl_told args h = some r := vcall_f (by kernel_rfl) (by kernel_rfl) ha hr
theorem v_slices_order2CmpFunc_impl_told {nro : Nat} {args : List Value} {h : VH} {r : Value × VH} (ha : args.length ≤ i_slices_order2CmpFunc_impl_told.ntmps) (hr : fbody (vcall F nro) nro i_slices_order2CmpFunc_impl_told args h = some r) : vcall F nro k_slices_order2CmpFunc_impl_told args h = some r := vcall_f (by kernel_rfl) (by kernel_rfl) ha hr

end Go.Proofs.Ytcdcmaakcldniaa.Zv

