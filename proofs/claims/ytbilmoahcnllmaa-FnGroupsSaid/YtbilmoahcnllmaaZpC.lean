/- Part C of the proof: ZwIr1. Conditions: none. -/
import Derived.Test.YtbilmoahcnllmaaProg
import Derived.Test.YtbilmoahcnllmaaZpB
set_option linter.unusedSimpArgs false
set_option linter.unusedVariables false
/- The functions' intermediate form. -/
namespace Go.Proofs.Ytbilmoahcnllmaa.Zv
open Go
def k_laws_FnGroups : Nat := 3
def k_laws_big : Nat := 4
def k_spec_DrawProductIn : Nat := 5
def k_impl_ProductIn : Nat := 6
def k_spec_ProductIn : Nat := 7
def k_impl_IsGroup : Nat := 8
def k_spec_IsGroup : Nat := 9
def k_impl_InverseIn : Nat := 10
def k_impl_OrderOf : Nat := 11
def k_impl_OrderOfGroup : Nat := 12
def k_impl_GeneratedBy : Nat := 13
def k_spec_DrawGeneratedBy : Nat := 14
def k_spec_GeneratedBy : Nat := 15
def k_laws_likeInts : Nat := 16
def k_spec_DrawClosedSet : Nat := 17
def k_impl_ClosedSet : Nat := 18
def k_spec_ClosedSet : Nat := 19
def k_impl_IsConnectionSet : Nat := 20
def k_spec_DrawIsConnectionSet : Nat := 21
def k_spec_IsConnectionSet : Nat := 22
def k_spec_DrawInverseIn : Nat := 23
def k_spec_InverseIn : Nat := 24
def k_spec_DrawOrderOf : Nat := 25
def k_spec_OrderOf : Nat := 26
def k_spec_DrawOrderOfGroup : Nat := 27
def k_spec_OrderOfGroup : Nat := 28
def k_spec_l01From : Nat := 29
def k_spec_l05DrawOf : Nat := 30
def k_spec_l01Near : Nat := 31
def k_spec_l05Order : Nat := 32
def k_spec_l05Bad : Nat := 33
def k_impl_groupCode : Nat := 34
def k_impl_Group_product : Nat := 35
def k_spec_l05Elements : Nat := 36
def k_spec_l05Times : Nat := 37
def k_impl_isPrime : Nat := 38
def k_spec_l05Is : Nat := 39
def k_impl_Group_inverse : Nat := 40
def k_impl_Group_order : Nat := 41
def k_impl_fewCode : Nat := 42
def k_slices_Contains_int64_int64 : Nat := 43
def k_slices_Sort_int64_int64 : Nat := 44
def k_spec_l05DrawList : Nat := 45
def k_spec_l05List : Nat := 46
def k_spec_l05Generated : Nat := 47
def k_slices_Compact_int64_int64 : Nat := 48
def k_spec_l05Closed : Nat := 49
def k_impl_Group_isConnection : Nat := 50
def k_spec_l05DrawSet : Nat := 51
def k_spec_l05Set : Nat := 52
def k_spec_l05With : Nat := 53
def k_spec_l05Inverse : Nat := 54
def k_spec_l01Next : Nat := 55
def k_spec_l01Pick : Nat := 56
def k_spec_l01In : Nat := 57
def k_spec_l05Prime : Nat := 58
def k_slices_Index_int64_int64 : Nat := 59
def k_slices_pdqsortOrdered_int64 : Nat := 60
def k_math_bits_Len : Nat := 61
def k_slices_insertionSortOrdered_int64 : Nat := 62
def k_slices_heapSortOrdered_int64 : Nat := 63
def k_slices_breakPatternsOrdered_int64 : Nat := 64
def k_slices_choosePivotOrdered_int64 : Nat := 65
def k_slices_reverseRangeOrdered_int64 : Nat := 66
def k_slices_partialInsertionSortOrdered_int64 : Nat := 67
def k_cmp_Less_int64 : Nat := 68
def k_slices_partitionEqualOrdered_int64 : Nat := 69
def k_slices_partitionOrdered_int64 : Nat := 70
def k_math_bits_Len32 : Nat := 71
def k_math_bits_Len64 : Nat := 72
def k_slices_siftDownOrdered_int64 : Nat := 73
def k_slices_nextPowerOfTwo : Nat := 74
def k_slices_xorshift_Next : Nat := 75
def k_slices_medianAdjacentOrdered_int64 : Nat := 76
def k_slices_medianOrdered_int64 : Nat := 77
def k_cmp_isNaN_int64 : Nat := 78
def k_slices_order2Ordered_int64 : Nat := 79
/-- loop.example/g01331/laws.FnGroups -/
def i_laws_FnGroups : FF := ⟨402, [.tmp 2],
  .seq (.ops [
    ⟨some 2, .mv (.const (.bool false)), none, 0⟩]) <|
  .seq (.seq (.ops [
    ⟨some 65, .mv (.tmp 0), none, 0⟩,
    ⟨some 66, .call k_laws_big [(.tmp 65)], none, 0⟩]) <|
  .cond (.tmp 66)
    (.seq (.ops [
      ⟨some 2, .mv (.const (.bool true)), none, 0⟩]) <|
    .keep [2] <|
    .ret)
    (.skip)) <|
  .seq (.ops [
    ⟨some 68, .mv (.tmp 0), none, 0⟩,
    ⟨some 69, .call k_spec_DrawProductIn [(.tmp 68)], none, 0⟩,
    ⟨some 67, .mv (.tmp 69), none, 0⟩,
    ⟨some 70, .ext (.tmp 67) 0, none, 0⟩,
    ⟨some 71, .ext (.tmp 67) 1, none, 0⟩,
    ⟨some 72, .ext (.tmp 67) 2, none, 0⟩,
    ⟨some 3, .alloc [.int .i64 0, .int .i64 0], none, 0⟩,
    ⟨none, .store 2 (.tmp 3) (.tmp 70), none, 0⟩,
    ⟨some 4, .mv (.tmp 71), none, 0⟩,
    ⟨some 5, .mv (.tmp 72), none, 0⟩]) <|
  .seq (.ops [
    ⟨some 74, .load true 2 (.tmp 3), none, 0⟩,
    ⟨some 75, .mv (.tmp 4), none, 0⟩,
    ⟨some 76, .mv (.tmp 5), none, 0⟩,
    ⟨some 77, .call k_impl_ProductIn [(.tmp 74), (.tmp 75), (.tmp 76)], none, 0⟩,
    ⟨some 73, .mv (.tmp 77), none, 0⟩,
    ⟨some 78, .ext (.tmp 73) 0, none, 0⟩,
    ⟨some 79, .ext (.tmp 73) 1, none, 0⟩,
    ⟨some 6, .mv (.tmp 78), none, 0⟩,
    ⟨some 7, .mv (.tmp 79), none, 0⟩]) <|
  .seq (.ops [
    ⟨some 81, .load true 2 (.tmp 3), none, 0⟩,
    ⟨some 82, .mv (.tmp 4), none, 0⟩,
    ⟨some 83, .mv (.tmp 5), none, 0⟩,
    ⟨some 84, .call k_spec_ProductIn [(.tmp 81), (.tmp 82), (.tmp 83)], none, 0⟩,
    ⟨some 80, .mv (.tmp 84), none, 0⟩,
    ⟨some 85, .ext (.tmp 80) 0, none, 0⟩,
    ⟨some 86, .ext (.tmp 80) 1, none, 0⟩,
    ⟨some 8, .mv (.tmp 85), none, 0⟩,
    ⟨some 9, .mv (.tmp 86), none, 0⟩]) <|
  .seq (.seq (.dops [
    ⟨some 87, .mv (.tmp 7), none, 0⟩,
    ⟨some 88, .mv (.tmp 9), none, 0⟩,
    ⟨some 89, .bin .neq (.tmp 87) (.tmp 88), none, 0⟩,
    ⟨some 90, .mv (.tmp 89), none, 0⟩,
    ⟨some 91, .mv (.tmp 6), some (90, false), 0⟩,
    ⟨some 92, .mv (.tmp 8), some (90, false), 0⟩,
    ⟨some 93, .bin .neq (.tmp 91) (.tmp 92), some (90, false), 0⟩,
    ⟨some 94, .pick (.tmp 90) (.const (.bool true)) (.tmp 93), none, 0⟩,
    ⟨some 95, .mv (.tmp 94), none, 0⟩,
    ⟨some 96, .load true 2 (.tmp 3), some (95, false), 0⟩,
    ⟨some 97, .call k_impl_IsGroup [(.tmp 96)], some (95, false), 0⟩,
    ⟨some 98, .load true 2 (.tmp 3), some (95, false), 1⟩,
    ⟨some 99, .call k_spec_IsGroup [(.tmp 98)], some (95, false), 0⟩,
    ⟨some 100, .beq true (.tmp 97) (.tmp 99), some (95, false), 0⟩,
    ⟨some 101, .pick (.tmp 95) (.const (.bool true)) (.tmp 100), none, 0⟩]) <|
  .cond (.tmp 101)
    (.seq (.ops [
      ⟨some 2, .mv (.const (.bool false)), none, 0⟩]) <|
    .keep [2] <|
    .ret)
    (.skip)) <|
  .seq (.seq (.ops [
    ⟨some 102, .mv (.tmp 7), none, 0⟩,
    ⟨some 103, .bin .eql (.tmp 102) (.const (.int .i64 0)), none, 0⟩]) <|
  .cond (.tmp 103)
    (.seq (.ops [
      ⟨some 105, .load true 2 (.tmp 3), none, 0⟩,
      ⟨some 106, .mv (.tmp 4), none, 0⟩,
      ⟨some 107, .call k_impl_InverseIn [(.tmp 105), (.tmp 106)], none, 0⟩,
      ⟨some 104, .mv (.tmp 107), none, 0⟩,
      ⟨some 108, .ext (.tmp 104) 0, none, 0⟩,
      ⟨some 109, .ext (.tmp 104) 1, none, 0⟩,
      ⟨some 10, .mv (.tmp 108), none, 0⟩,
      ⟨some 11, .mv (.tmp 109), none, 0⟩]) <|
    .seq (.ops [
      ⟨some 111, .load true 2 (.tmp 3), none, 0⟩,
      ⟨some 112, .mv (.tmp 4), none, 0⟩,
      ⟨some 113, .mv (.tmp 10), none, 0⟩,
      ⟨some 114, .call k_impl_ProductIn [(.tmp 111), (.tmp 112), (.tmp 113)], none, 0⟩,
      ⟨some 110, .mv (.tmp 114), none, 0⟩,
      ⟨some 115, .ext (.tmp 110) 0, none, 0⟩,
      ⟨some 116, .ext (.tmp 110) 1, none, 0⟩,
      ⟨some 12, .mv (.tmp 115), none, 0⟩,
      ⟨some 13, .mv (.tmp 116), none, 0⟩]) <|
    .seq (.ops [
      ⟨some 118, .load true 2 (.tmp 3), none, 0⟩,
      ⟨some 119, .mv (.tmp 10), none, 0⟩,
      ⟨some 120, .mv (.tmp 4), none, 0⟩,
      ⟨some 121, .call k_impl_ProductIn [(.tmp 118), (.tmp 119), (.tmp 120)], none, 0⟩,
      ⟨some 117, .mv (.tmp 121), none, 0⟩,
      ⟨some 122, .ext (.tmp 117) 0, none, 0⟩,
      ⟨some 123, .ext (.tmp 117) 1, none, 0⟩,
      ⟨some 14, .mv (.tmp 122), none, 0⟩,
      ⟨some 15, .mv (.tmp 123), none, 0⟩]) <|
    .seq (.ops [
      ⟨some 125, .load true 2 (.tmp 3), none, 0⟩,
      ⟨some 126, .mv (.tmp 4), none, 0⟩,
      ⟨some 127, .call k_impl_OrderOf [(.tmp 125), (.tmp 126)], none, 0⟩,
      ⟨some 124, .mv (.tmp 127), none, 0⟩,
      ⟨some 128, .ext (.tmp 124) 0, none, 0⟩,
      ⟨some 129, .ext (.tmp 124) 1, none, 0⟩,
      ⟨some 16, .mv (.tmp 128), none, 0⟩,
      ⟨some 17, .mv (.tmp 129), none, 0⟩]) <|
    .seq (.ops [
      ⟨some 131, .load true 2 (.tmp 3), none, 0⟩,
      ⟨some 132, .call k_impl_OrderOfGroup [(.tmp 131)], none, 0⟩,
      ⟨some 130, .mv (.tmp 132), none, 0⟩,
      ⟨some 133, .ext (.tmp 130) 0, none, 0⟩,
      ⟨some 134, .ext (.tmp 130) 1, none, 0⟩,
      ⟨some 18, .mv (.tmp 133), none, 0⟩,
      ⟨some 19, .mv (.tmp 134), none, 0⟩]) <|
    .seq (.ops [
      ⟨some 136, .load true 2 (.tmp 3), none, 0⟩,
      ⟨some 137, .mv (.tmp 10), none, 0⟩,
      ⟨some 138, .mv (.tmp 6), none, 0⟩,
      ⟨some 139, .call k_impl_ProductIn [(.tmp 136), (.tmp 137), (.tmp 138)], none, 0⟩,
      ⟨some 135, .mv (.tmp 139), none, 0⟩,
      ⟨some 140, .ext (.tmp 135) 0, none, 0⟩,
      ⟨some 141, .ext (.tmp 135) 1, none, 0⟩,
      ⟨some 20, .mv (.tmp 140), none, 0⟩,
      ⟨some 21, .mv (.tmp 141), none, 0⟩]) <|
    .seq (.seq (.ops [
      ⟨some 142, .mv (.tmp 11), none, 0⟩,
      ⟨some 143, .bin .neq (.tmp 142) (.const (.int .i64 0)), none, 0⟩,
      ⟨some 144, .mv (.tmp 143), none, 0⟩,
      ⟨some 145, .mv (.tmp 13), some (144, false), 0⟩,
      ⟨some 146, .bin .neq (.tmp 145) (.const (.int .i64 0)), some (144, false), 0⟩,
      ⟨some 147, .pick (.tmp 144) (.const (.bool true)) (.tmp 146), none, 0⟩,
      ⟨some 148, .mv (.tmp 147), none, 0⟩,
      ⟨some 149, .mv (.tmp 15), some (148, false), 0⟩,
      ⟨some 150, .bin .neq (.tmp 149) (.const (.int .i64 0)), some (148, false), 0⟩,
      ⟨some 151, .pick (.tmp 148) (.const (.bool true)) (.tmp 150), none, 0⟩,
      ⟨some 152, .mv (.tmp 151), none, 0⟩,
      ⟨some 153, .mv (.tmp 17), some (152, false), 0⟩,
      ⟨some 154, .bin .neq (.tmp 153) (.const (.int .i64 0)), some (152, false), 0⟩,
      ⟨some 155, .pick (.tmp 152) (.const (.bool true)) (.tmp 154), none, 0⟩,
      ⟨some 156, .mv (.tmp 155), none, 0⟩,
      ⟨some 157, .mv (.tmp 19), some (156, false), 0⟩,
      ⟨some 158, .bin .neq (.tmp 157) (.const (.int .i64 0)), some (156, false), 0⟩,
      ⟨some 159, .pick (.tmp 156) (.const (.bool true)) (.tmp 158), none, 0⟩,
      ⟨some 160, .mv (.tmp 159), none, 0⟩,
      ⟨some 161, .mv (.tmp 21), some (160, false), 0⟩,
      ⟨some 162, .bin .neq (.tmp 161) (.const (.int .i64 0)), some (160, false), 0⟩,
      ⟨some 163, .pick (.tmp 160) (.const (.bool true)) (.tmp 162), none, 0⟩,
      ⟨some 164, .mv (.tmp 163), none, 0⟩,
      ⟨some 165, .mv (.tmp 12), some (164, false), 0⟩,
      ⟨some 166, .bin .neq (.tmp 165) (.const (.int .i64 0)), some (164, false), 0⟩,
      ⟨some 167, .pick (.tmp 164) (.const (.bool true)) (.tmp 166), none, 0⟩,
      ⟨some 168, .mv (.tmp 167), none, 0⟩,
      ⟨some 169, .mv (.tmp 14), some (168, false), 0⟩,
      ⟨some 170, .bin .neq (.tmp 169) (.const (.int .i64 0)), some (168, false), 0⟩,
      ⟨some 171, .pick (.tmp 168) (.const (.bool true)) (.tmp 170), none, 0⟩,
      ⟨some 172, .mv (.tmp 171), none, 0⟩,
      ⟨some 173, .mv (.tmp 18), some (172, false), 0⟩,
      ⟨some 174, .mv (.tmp 16), some (172, false), 0⟩,
      ⟨some 175, .bin .rem (.tmp 173) (.tmp 174), some (172, false), 0⟩,
      ⟨some 176, .bin .neq (.tmp 175) (.const (.int .i64 0)), some (172, false), 0⟩,
      ⟨some 177, .pick (.tmp 172) (.const (.bool true)) (.tmp 176), none, 0⟩,
      ⟨some 178, .mv (.tmp 177), none, 0⟩,
      ⟨some 179, .mv (.tmp 20), some (178, false), 0⟩,
      ⟨some 180, .mv (.tmp 5), some (178, false), 0⟩,
      ⟨some 181, .bin .neq (.tmp 179) (.tmp 180), some (178, false), 0⟩,
      ⟨some 182, .pick (.tmp 178) (.const (.bool true)) (.tmp 181), none, 0⟩]) <|
    .cond (.tmp 182)
      (.seq (.ops [
        ⟨some 2, .mv (.const (.bool false)), none, 0⟩]) <|
      .keep [2] <|
      .ret)
      (.skip)) <|
    .seq (.ops [
      ⟨some 184, .load true 2 (.tmp 3), none, 0⟩,
      ⟨some 185, .mv (.tmp 4), none, 0⟩,
      ⟨some 186, .buildSl 1 [.int .i64 0] [(0, 1, (.tmp 185))] 1, none, 0⟩,
      ⟨some 187, .call k_impl_GeneratedBy [(.tmp 184), (.tmp 186)], none, 0⟩,
      ⟨some 183, .mv (.tmp 187), none, 0⟩,
      ⟨some 188, .ext (.tmp 183) 0, none, 0⟩,
      ⟨some 189, .ext (.tmp 183) 1, none, 0⟩,
      ⟨some 22, .mv (.tmp 188), none, 0⟩,
      ⟨some 23, .mv (.tmp 189), none, 0⟩]) <|
    .seq (.ops [
      ⟨some 190, .mv (.tmp 23), none, 0⟩,
      ⟨some 191, .bin .neq (.tmp 190) (.const (.int .i64 0)), none, 0⟩,
      ⟨some 192, .mv (.tmp 191), none, 0⟩,
      ⟨some 193, .mv (.tmp 22), some (192, false), 0⟩,
      ⟨some 194, .len (.tmp 193), some (192, false), 0⟩,
      ⟨some 195, .mv (.tmp 16), some (192, false), 0⟩,
      ⟨some 196, .bin .neq (.tmp 194) (.tmp 195), some (192, false), 0⟩,
      ⟨some 197, .pick (.tmp 192) (.const (.bool true)) (.tmp 196), none, 0⟩]) <|
    .cond (.tmp 197)
      (.seq (.ops [
        ⟨some 2, .mv (.const (.bool false)), none, 0⟩]) <|
      .keep [2] <|
      .ret)
      (.skip))
    (.skip)) <|
  .seq (.ops [
    ⟨some 199, .mv (.tmp 0), none, 0⟩,
    ⟨some 200, .call k_spec_DrawGeneratedBy [(.tmp 199)], none, 0⟩,
    ⟨some 198, .mv (.tmp 200), none, 0⟩,
    ⟨some 201, .ext (.tmp 198) 0, none, 0⟩,
    ⟨some 202, .ext (.tmp 198) 1, none, 0⟩,
    ⟨some 24, .alloc [.int .i64 0, .int .i64 0], none, 0⟩,
    ⟨none, .store 2 (.tmp 24) (.tmp 201), none, 0⟩,
    ⟨some 25, .mv (.tmp 202), none, 0⟩]) <|
  .seq (.ops [
    ⟨some 204, .load true 2 (.tmp 24), none, 0⟩,
    ⟨some 205, .mv (.tmp 25), none, 0⟩,
    ⟨some 206, .call k_impl_GeneratedBy [(.tmp 204), (.tmp 205)], none, 0⟩,
    ⟨some 203, .mv (.tmp 206), none, 0⟩,
    ⟨some 207, .ext (.tmp 203) 0, none, 0⟩,
    ⟨some 208, .ext (.tmp 203) 1, none, 0⟩,
    ⟨some 26, .mv (.tmp 207), none, 0⟩,
    ⟨some 27, .mv (.tmp 208), none, 0⟩]) <|
  .seq (.ops [
    ⟨some 210, .load true 2 (.tmp 24), none, 0⟩,
    ⟨some 211, .mv (.tmp 25), none, 0⟩,
    ⟨some 212, .call k_spec_GeneratedBy [(.tmp 210), (.tmp 211)], none, 0⟩,
    ⟨some 209, .mv (.tmp 212), none, 0⟩,
    ⟨some 213, .ext (.tmp 209) 0, none, 0⟩,
    ⟨some 214, .ext (.tmp 209) 1, none, 0⟩,
    ⟨some 28, .mv (.tmp 213), none, 0⟩,
    ⟨some 29, .mv (.tmp 214), none, 0⟩]) <|
  .seq (.seq (.ops [
    ⟨some 215, .mv (.tmp 27), none, 0⟩,
    ⟨some 216, .mv (.tmp 29), none, 0⟩,
    ⟨some 217, .bin .neq (.tmp 215) (.tmp 216), none, 0⟩,
    ⟨some 218, .mv (.tmp 217), none, 0⟩,
    ⟨some 219, .mv (.tmp 26), some (218, false), 0⟩,
    ⟨some 220, .mv (.tmp 28), some (218, false), 0⟩,
    ⟨some 221, .call k_laws_likeInts [(.tmp 219), (.tmp 220)], some (218, false), 0⟩,
    ⟨some 222, .un .not (.tmp 221), some (218, false), 0⟩,
    ⟨some 223, .pick (.tmp 218) (.const (.bool true)) (.tmp 222), none, 0⟩]) <|
  .cond (.tmp 223)
    (.seq (.ops [
      ⟨some 2, .mv (.const (.bool false)), none, 0⟩]) <|
    .keep [2] <|
    .ret)
    (.skip)) <|
  .seq (.seq (.ops [
    ⟨some 224, .mv (.tmp 27), none, 0⟩,
    ⟨some 225, .bin .eql (.tmp 224) (.const (.int .i64 0)), none, 0⟩]) <|
  .cond (.tmp 225)
    (.seq (.ops [
      ⟨some 227, .load true 2 (.tmp 24), none, 0⟩,
      ⟨some 228, .mv (.tmp 26), none, 0⟩,
      ⟨some 229, .call k_impl_GeneratedBy [(.tmp 227), (.tmp 228)], none, 0⟩,
      ⟨some 226, .mv (.tmp 229), none, 0⟩,
      ⟨some 230, .ext (.tmp 226) 0, none, 0⟩,
      ⟨some 231, .ext (.tmp 226) 1, none, 0⟩,
      ⟨some 30, .mv (.tmp 230), none, 0⟩,
      ⟨some 31, .mv (.tmp 231), none, 0⟩]) <|
    .seq (.ops [
      ⟨some 233, .load true 2 (.tmp 24), none, 0⟩,
      ⟨some 234, .call k_impl_OrderOfGroup [(.tmp 233)], none, 0⟩,
      ⟨some 232, .mv (.tmp 234), none, 0⟩,
      ⟨some 235, .ext (.tmp 232) 0, none, 0⟩,
      ⟨some 236, .ext (.tmp 232) 1, none, 0⟩,
      ⟨some 32, .mv (.tmp 235), none, 0⟩,
      ⟨some 33, .mv (.tmp 236), none, 0⟩]) <|
    .seq (.ops [
      ⟨some 237, .mv (.tmp 31), none, 0⟩,
      ⟨some 238, .bin .neq (.tmp 237) (.const (.int .i64 0)), none, 0⟩,
      ⟨some 239, .mv (.tmp 238), none, 0⟩,
      ⟨some 240, .mv (.tmp 33), some (239, false), 0⟩,
      ⟨some 241, .bin .neq (.tmp 240) (.const (.int .i64 0)), some (239, false), 0⟩,
      ⟨some 242, .pick (.tmp 239) (.const (.bool true)) (.tmp 241), none, 0⟩,
      ⟨some 243, .mv (.tmp 242), none, 0⟩,
      ⟨some 244, .mv (.tmp 30), some (243, false), 0⟩,
      ⟨some 245, .mv (.tmp 26), some (243, false), 0⟩,
      ⟨some 246, .call k_laws_likeInts [(.tmp 244), (.tmp 245)], some (243, false), 0⟩,
      ⟨some 247, .un .not (.tmp 246), some (243, false), 0⟩,
      ⟨some 248, .pick (.tmp 243) (.const (.bool true)) (.tmp 247), none, 0⟩,
      ⟨some 249, .mv (.tmp 248), none, 0⟩,
      ⟨some 250, .mv (.tmp 26), some (249, false), 0⟩,
      ⟨some 251, .len (.tmp 250), some (249, false), 0⟩,
      ⟨some 252, .bin .lss (.tmp 251) (.const (.int .i64 1)), some (249, false), 0⟩,
      ⟨some 253, .pick (.tmp 249) (.const (.bool true)) (.tmp 252), none, 0⟩,
      ⟨some 254, .mv (.tmp 253), none, 0⟩,
      ⟨some 255, .mv (.tmp 32), some (254, false), 0⟩,
      ⟨some 256, .mv (.tmp 26), some (254, false), 0⟩,
      ⟨some 257, .len (.tmp 256), some (254, false), 0⟩,
      ⟨some 258, .bin .rem (.tmp 255) (.tmp 257), some (254, false), 0⟩,
      ⟨some 259, .bin .neq (.tmp 258) (.const (.int .i64 0)), some (254, false), 0⟩,
      ⟨some 260, .pick (.tmp 254) (.const (.bool true)) (.tmp 259), none, 0⟩]) <|
    .cond (.tmp 260)
      (.seq (.ops [
        ⟨some 2, .mv (.const (.bool false)), none, 0⟩]) <|
      .keep [2] <|
      .ret)
      (.skip))
    (.skip)) <|
  .seq (.ops [
    ⟨some 262, .mv (.tmp 0), none, 0⟩,
    ⟨some 263, .call k_spec_DrawClosedSet [(.tmp 262)], none, 0⟩,
    ⟨some 261, .mv (.tmp 263), none, 0⟩,
    ⟨some 264, .ext (.tmp 261) 0, none, 0⟩,
    ⟨some 265, .ext (.tmp 261) 1, none, 0⟩,
    ⟨some 34, .alloc [.int .i64 0, .int .i64 0], none, 0⟩,
    ⟨none, .store 2 (.tmp 34) (.tmp 264), none, 0⟩,
    ⟨some 35, .mv (.tmp 265), none, 0⟩]) <|
  .seq (.ops [
    ⟨some 267, .load true 2 (.tmp 34), none, 0⟩,
    ⟨some 268, .mv (.tmp 35), none, 0⟩,
    ⟨some 269, .call k_impl_ClosedSet [(.tmp 267), (.tmp 268)], none, 0⟩,
    ⟨some 266, .mv (.tmp 269), none, 0⟩,
    ⟨some 270, .ext (.tmp 266) 0, none, 0⟩,
    ⟨some 271, .ext (.tmp 266) 1, none, 0⟩,
    ⟨some 36, .mv (.tmp 270), none, 0⟩,
    ⟨some 37, .mv (.tmp 271), none, 0⟩]) <|
  .seq (.ops [
    ⟨some 273, .load true 2 (.tmp 34), none, 0⟩,
    ⟨some 274, .mv (.tmp 35), none, 0⟩,
    ⟨some 275, .call k_spec_ClosedSet [(.tmp 273), (.tmp 274)], none, 0⟩,
    ⟨some 272, .mv (.tmp 275), none, 0⟩,
    ⟨some 276, .ext (.tmp 272) 0, none, 0⟩,
    ⟨some 277, .ext (.tmp 272) 1, none, 0⟩,
    ⟨some 38, .mv (.tmp 276), none, 0⟩,
    ⟨some 39, .mv (.tmp 277), none, 0⟩]) <|
  .seq (.seq (.ops [
    ⟨some 278, .mv (.tmp 37), none, 0⟩,
    ⟨some 279, .mv (.tmp 39), none, 0⟩,
    ⟨some 280, .bin .neq (.tmp 278) (.tmp 279), none, 0⟩,
    ⟨some 281, .mv (.tmp 280), none, 0⟩,
    ⟨some 282, .mv (.tmp 36), some (281, false), 0⟩,
    ⟨some 283, .mv (.tmp 38), some (281, false), 0⟩,
    ⟨some 284, .call k_laws_likeInts [(.tmp 282), (.tmp 283)], some (281, false), 0⟩,
    ⟨some 285, .un .not (.tmp 284), some (281, false), 0⟩,
    ⟨some 286, .pick (.tmp 281) (.const (.bool true)) (.tmp 285), none, 0⟩]) <|
  .cond (.tmp 286)
    (.seq (.ops [
      ⟨some 2, .mv (.const (.bool false)), none, 0⟩]) <|
    .keep [2] <|
    .ret)
    (.skip)) <|
  .seq (.seq (.ops [
    ⟨some 287, .mv (.tmp 37), none, 0⟩,
    ⟨some 288, .bin .eql (.tmp 287) (.const (.int .i64 0)), none, 0⟩]) <|
  .cond (.tmp 288)
    (.seq (.ops [
      ⟨some 290, .load true 2 (.tmp 34), none, 0⟩,
      ⟨some 291, .mv (.tmp 36), none, 0⟩,
      ⟨some 292, .call k_impl_IsConnectionSet [(.tmp 290), (.tmp 291)], none, 0⟩,
      ⟨some 289, .mv (.tmp 292), none, 0⟩,
      ⟨some 293, .ext (.tmp 289) 0, none, 0⟩,
      ⟨some 294, .ext (.tmp 289) 1, none, 0⟩,
      ⟨some 40, .mv (.tmp 293), none, 0⟩,
      ⟨some 41, .mv (.tmp 294), none, 0⟩]) <|
    .seq (.ops [
      ⟨some 295, .mv (.tmp 41), none, 0⟩,
      ⟨some 296, .bin .neq (.tmp 295) (.const (.int .i64 0)), none, 0⟩,
      ⟨some 297, .mv (.tmp 296), none, 0⟩,
      ⟨some 298, .mv (.tmp 40), some (297, false), 0⟩,
      ⟨some 299, .un .not (.tmp 298), some (297, false), 0⟩,
      ⟨some 300, .pick (.tmp 297) (.const (.bool true)) (.tmp 299), none, 0⟩]) <|
    .cond (.tmp 300)
      (.seq (.ops [
        ⟨some 2, .mv (.const (.bool false)), none, 0⟩]) <|
      .keep [2] <|
      .ret)
      (.skip))
    (.skip)) <|
  .seq (.ops [
    ⟨some 302, .mv (.tmp 0), none, 0⟩,
    ⟨some 303, .call k_spec_DrawIsConnectionSet [(.tmp 302)], none, 0⟩,
    ⟨some 301, .mv (.tmp 303), none, 0⟩,
    ⟨some 304, .ext (.tmp 301) 0, none, 0⟩,
    ⟨some 305, .ext (.tmp 301) 1, none, 0⟩,
    ⟨some 42, .alloc [.int .i64 0, .int .i64 0], none, 0⟩,
    ⟨none, .store 2 (.tmp 42) (.tmp 304), none, 0⟩,
    ⟨some 43, .mv (.tmp 305), none, 0⟩]) <|
  .seq (.ops [
    ⟨some 307, .load true 2 (.tmp 42), none, 0⟩,
    ⟨some 308, .mv (.tmp 43), none, 0⟩,
    ⟨some 309, .call k_impl_IsConnectionSet [(.tmp 307), (.tmp 308)], none, 0⟩,
    ⟨some 306, .mv (.tmp 309), none, 0⟩,
    ⟨some 310, .ext (.tmp 306) 0, none, 0⟩,
    ⟨some 311, .ext (.tmp 306) 1, none, 0⟩,
    ⟨some 44, .mv (.tmp 310), none, 0⟩,
    ⟨some 45, .mv (.tmp 311), none, 0⟩]) <|
  .seq (.ops [
    ⟨some 313, .load true 2 (.tmp 42), none, 0⟩,
    ⟨some 314, .mv (.tmp 43), none, 0⟩,
    ⟨some 315, .call k_spec_IsConnectionSet [(.tmp 313), (.tmp 314)], none, 0⟩,
    ⟨some 312, .mv (.tmp 315), none, 0⟩,
    ⟨some 316, .ext (.tmp 312) 0, none, 0⟩,
    ⟨some 317, .ext (.tmp 312) 1, none, 0⟩,
    ⟨some 46, .mv (.tmp 316), none, 0⟩,
    ⟨some 47, .mv (.tmp 317), none, 0⟩]) <|
  .seq (.ops [
    ⟨some 319, .mv (.tmp 0), none, 0⟩,
    ⟨some 320, .call k_spec_DrawInverseIn [(.tmp 319)], none, 0⟩,
    ⟨some 318, .mv (.tmp 320), none, 0⟩,
    ⟨some 321, .ext (.tmp 318) 0, none, 0⟩,
    ⟨some 322, .ext (.tmp 318) 1, none, 0⟩,
    ⟨some 48, .alloc [.int .i64 0, .int .i64 0], none, 0⟩,
    ⟨none, .store 2 (.tmp 48) (.tmp 321), none, 0⟩,
    ⟨some 49, .mv (.tmp 322), none, 0⟩]) <|
  .seq (.ops [
    ⟨some 324, .load true 2 (.tmp 48), none, 0⟩,
    ⟨some 325, .mv (.tmp 49), none, 0⟩,
    ⟨some 326, .call k_impl_InverseIn [(.tmp 324), (.tmp 325)], none, 0⟩,
    ⟨some 323, .mv (.tmp 326), none, 0⟩,
    ⟨some 327, .ext (.tmp 323) 0, none, 0⟩,
    ⟨some 328, .ext (.tmp 323) 1, none, 0⟩,
    ⟨some 50, .mv (.tmp 327), none, 0⟩,
    ⟨some 51, .mv (.tmp 328), none, 0⟩]) <|
  .seq (.ops [
    ⟨some 330, .load true 2 (.tmp 48), none, 0⟩,
    ⟨some 331, .mv (.tmp 49), none, 0⟩,
    ⟨some 332, .call k_spec_InverseIn [(.tmp 330), (.tmp 331)], none, 0⟩,
    ⟨some 329, .mv (.tmp 332), none, 0⟩,
    ⟨some 333, .ext (.tmp 329) 0, none, 0⟩,
    ⟨some 334, .ext (.tmp 329) 1, none, 0⟩,
    ⟨some 52, .mv (.tmp 333), none, 0⟩,
    ⟨some 53, .mv (.tmp 334), none, 0⟩]) <|
  .seq (.ops [
    ⟨some 336, .mv (.tmp 0), none, 0⟩,
    ⟨some 337, .call k_spec_DrawOrderOf [(.tmp 336)], none, 0⟩,
    ⟨some 335, .mv (.tmp 337), none, 0⟩,
    ⟨some 338, .ext (.tmp 335) 0, none, 0⟩,
    ⟨some 339, .ext (.tmp 335) 1, none, 0⟩,
    ⟨some 54, .alloc [.int .i64 0, .int .i64 0], none, 0⟩,
    ⟨none, .store 2 (.tmp 54) (.tmp 338), none, 0⟩,
    ⟨some 55, .mv (.tmp 339), none, 0⟩]) <|
  .seq (.ops [
    ⟨some 341, .load true 2 (.tmp 54), none, 0⟩,
    ⟨some 342, .mv (.tmp 55), none, 0⟩,
    ⟨some 343, .call k_impl_OrderOf [(.tmp 341), (.tmp 342)], none, 0⟩,
    ⟨some 340, .mv (.tmp 343), none, 0⟩,
    ⟨some 344, .ext (.tmp 340) 0, none, 0⟩,
    ⟨some 345, .ext (.tmp 340) 1, none, 0⟩,
    ⟨some 56, .mv (.tmp 344), none, 0⟩,
    ⟨some 57, .mv (.tmp 345), none, 0⟩]) <|
  .seq (.ops [
    ⟨some 347, .load true 2 (.tmp 54), none, 0⟩,
    ⟨some 348, .mv (.tmp 55), none, 0⟩,
    ⟨some 349, .call k_spec_OrderOf [(.tmp 347), (.tmp 348)], none, 0⟩,
    ⟨some 346, .mv (.tmp 349), none, 0⟩,
    ⟨some 350, .ext (.tmp 346) 0, none, 0⟩,
    ⟨some 351, .ext (.tmp 346) 1, none, 0⟩,
    ⟨some 58, .mv (.tmp 350), none, 0⟩,
    ⟨some 59, .mv (.tmp 351), none, 0⟩]) <|
  .seq (.ops [
    ⟨some 352, .mv (.tmp 0), none, 0⟩,
    ⟨some 353, .call k_spec_DrawOrderOfGroup [(.tmp 352)], none, 0⟩,
    ⟨some 60, .alloc [.int .i64 0, .int .i64 0], none, 0⟩,
    ⟨none, .store 2 (.tmp 60) (.tmp 353), none, 0⟩]) <|
  .seq (.ops [
    ⟨some 355, .load true 2 (.tmp 60), none, 0⟩,
    ⟨some 356, .call k_impl_OrderOfGroup [(.tmp 355)], none, 0⟩,
    ⟨some 354, .mv (.tmp 356), none, 0⟩,
    ⟨some 357, .ext (.tmp 354) 0, none, 0⟩,
    ⟨some 358, .ext (.tmp 354) 1, none, 0⟩,
    ⟨some 61, .mv (.tmp 357), none, 0⟩,
    ⟨some 62, .mv (.tmp 358), none, 0⟩]) <|
  .seq (.ops [
    ⟨some 360, .load true 2 (.tmp 60), none, 0⟩,
    ⟨some 361, .call k_spec_OrderOfGroup [(.tmp 360)], none, 0⟩,
    ⟨some 359, .mv (.tmp 361), none, 0⟩,
    ⟨some 362, .ext (.tmp 359) 0, none, 0⟩,
    ⟨some 363, .ext (.tmp 359) 1, none, 0⟩,
    ⟨some 63, .mv (.tmp 362), none, 0⟩,
    ⟨some 64, .mv (.tmp 363), none, 0⟩]) <|
  .seq (.ops [
    ⟨some 364, .mv (.tmp 45), none, 0⟩,
    ⟨some 365, .mv (.tmp 47), none, 0⟩,
    ⟨some 366, .bin .eql (.tmp 364) (.tmp 365), none, 0⟩,
    ⟨some 367, .mv (.tmp 366), none, 0⟩,
    ⟨some 368, .mv (.tmp 44), some (367, true), 0⟩,
    ⟨some 369, .mv (.tmp 46), some (367, true), 0⟩,
    ⟨some 370, .beq false (.tmp 368) (.tmp 369), some (367, true), 0⟩,
    ⟨some 371, .pick (.tmp 367) (.tmp 370) (.const (.bool false)), none, 0⟩,
    ⟨some 372, .mv (.tmp 371), none, 0⟩,
    ⟨some 373, .mv (.tmp 51), some (372, true), 0⟩,
    ⟨some 374, .mv (.tmp 53), some (372, true), 0⟩,
    ⟨some 375, .bin .eql (.tmp 373) (.tmp 374), some (372, true), 0⟩,
    ⟨some 376, .pick (.tmp 372) (.tmp 375) (.const (.bool false)), none, 0⟩,
    ⟨some 377, .mv (.tmp 376), none, 0⟩,
    ⟨some 378, .mv (.tmp 50), some (377, true), 0⟩,
    ⟨some 379, .mv (.tmp 52), some (377, true), 0⟩,
    ⟨some 380, .bin .eql (.tmp 378) (.tmp 379), some (377, true), 0⟩,
    ⟨some 381, .pick (.tmp 377) (.tmp 380) (.const (.bool false)), none, 0⟩,
    ⟨some 382, .mv (.tmp 381), none, 0⟩,
    ⟨some 383, .mv (.tmp 57), some (382, true), 0⟩,
    ⟨some 384, .mv (.tmp 59), some (382, true), 0⟩,
    ⟨some 385, .bin .eql (.tmp 383) (.tmp 384), some (382, true), 0⟩,
    ⟨some 386, .pick (.tmp 382) (.tmp 385) (.const (.bool false)), none, 0⟩,
    ⟨some 387, .mv (.tmp 386), none, 0⟩,
    ⟨some 388, .mv (.tmp 56), some (387, true), 0⟩,
    ⟨some 389, .mv (.tmp 58), some (387, true), 0⟩,
    ⟨some 390, .bin .eql (.tmp 388) (.tmp 389), some (387, true), 0⟩,
    ⟨some 391, .pick (.tmp 387) (.tmp 390) (.const (.bool false)), none, 0⟩,
    ⟨some 392, .mv (.tmp 391), none, 0⟩,
    ⟨some 393, .mv (.tmp 62), some (392, true), 0⟩,
    ⟨some 394, .mv (.tmp 64), some (392, true), 0⟩,
    ⟨some 395, .bin .eql (.tmp 393) (.tmp 394), some (392, true), 0⟩,
    ⟨some 396, .pick (.tmp 392) (.tmp 395) (.const (.bool false)), none, 0⟩,
    ⟨some 397, .mv (.tmp 396), none, 0⟩,
    ⟨some 398, .mv (.tmp 61), some (397, true), 0⟩,
    ⟨some 399, .mv (.tmp 63), some (397, true), 0⟩,
    ⟨some 400, .bin .eql (.tmp 398) (.tmp 399), some (397, true), 0⟩,
    ⟨some 401, .pick (.tmp 397) (.tmp 400) (.const (.bool false)), none, 0⟩,
    ⟨some 2, .mv (.tmp 401), none, 0⟩]) <|
  .keep [2] <|
  .ret⟩

theorem e_laws_FnGroups : EntOK Try.prog (compD Try.prog) k_laws_FnGroups i_laws_FnGroups.vf :=
  ⟨Try.f3, Try.f3.body.getD .skip, Try.func3, by kernel_rfl, by kernel_rfl, by kernel_rfl, by kernel_rfl, by kernel_rfl⟩

/-- loop.example/g01331/laws.big -/
def i_laws_big : FF := ⟨6, [.tmp 2],
  .seq (.ops [
    ⟨some 2, .mv (.const (.bool false)), none, 0⟩]) <|
  .seq (.ops [
    ⟨some 3, .mv (.tmp 0), none, 0⟩,
    ⟨some 4, .len (.tmp 3), none, 0⟩,
    ⟨some 5, .bin .gtr (.tmp 4) (.const (.int .i64 4096)), none, 0⟩,
    ⟨some 2, .mv (.tmp 5), none, 0⟩]) <|
  .keep [2] <|
  .ret⟩

theorem e_laws_big : EntOK Try.prog (compD Try.prog) k_laws_big i_laws_big.vf :=
  ⟨Try.f4, Try.f4.body.getD .skip, Try.func4, by kernel_rfl, by kernel_rfl, by kernel_rfl, by kernel_rfl, by kernel_rfl⟩

/-- loop.example/g01331/spec.DrawProductIn -/
def i_spec_DrawProductIn : FF := ⟨28, [.cell 2 true 2, .tmp 3, .tmp 4],
  .seq (.ops [
    ⟨some 2, .alloc [.int .i64 0, .int .i64 0], none, 0⟩,
    ⟨some 3, .mv (.const (.int .i64 0)), none, 0⟩,
    ⟨some 4, .mv (.const (.int .i64 0)), none, 0⟩]) <|
  .seq (.ops [
    ⟨some 9, .mv (.tmp 0), none, 0⟩,
    ⟨some 10, .call k_spec_l01From [(.tmp 9)], none, 0⟩,
    ⟨some 5, .mv (.tmp 10), none, 0⟩]) <|
  .seq (.ops [
    ⟨some 11, .mv (.tmp 5), none, 0⟩,
    ⟨some 12, .call k_spec_l05DrawOf [(.tmp 11)], none, 0⟩,
    ⟨some 6, .alloc [.int .i64 0, .int .i64 0], none, 0⟩,
    ⟨none, .store 2 (.tmp 6) (.tmp 12), none, 0⟩]) <|
  .seq (.ops [
    ⟨some 13, .mv (.tmp 5), none, 0⟩,
    ⟨some 14, .load true 2 (.tmp 6), none, 0⟩,
    ⟨some 15, .call k_spec_l05Order [(.tmp 14)], none, 0⟩,
    ⟨some 16, .bin .sub (.tmp 15) (.const (.int .i64 1)), none, 0⟩,
    ⟨some 17, .call k_spec_l01Near [(.tmp 13), (.tmp 16)], none, 0⟩,
    ⟨some 7, .mv (.tmp 17), none, 0⟩]) <|
  .seq (.ops [
    ⟨some 18, .mv (.tmp 5), none, 0⟩,
    ⟨some 19, .load true 2 (.tmp 6), none, 0⟩,
    ⟨some 20, .call k_spec_l05Order [(.tmp 19)], none, 0⟩,
    ⟨some 21, .bin .sub (.tmp 20) (.const (.int .i64 1)), none, 0⟩,
    ⟨some 22, .call k_spec_l01Near [(.tmp 18), (.tmp 21)], none, 0⟩,
    ⟨some 8, .mv (.tmp 22), none, 0⟩]) <|
  .seq (.ops [
    ⟨some 23, .mv (.tmp 5), none, 0⟩,
    ⟨some 24, .load true 2 (.tmp 6), none, 0⟩,
    ⟨some 25, .call k_spec_l05Bad [(.tmp 23), (.tmp 24)], none, 0⟩,
    ⟨some 26, .mv (.tmp 7), none, 0⟩,
    ⟨some 27, .mv (.tmp 8), none, 0⟩,
    ⟨none, .store 2 (.tmp 2) (.tmp 25), none, 0⟩,
    ⟨some 3, .mv (.tmp 26), none, 0⟩,
    ⟨some 4, .mv (.tmp 27), none, 0⟩]) <|
  .keep [2, 3, 4] <|
  .ret⟩

theorem e_spec_DrawProductIn : EntOK Try.prog (compD Try.prog) k_spec_DrawProductIn i_spec_DrawProductIn.vf :=
  ⟨Try.f5, Try.f5.body.getD .skip, Try.func5, by kernel_rfl, by kernel_rfl, by kernel_rfl, by kernel_rfl, by kernel_rfl⟩

/-- loop.example/g01331/impl.ProductIn -/
def i_impl_ProductIn : FF := ⟨21, [.tmp 6, .tmp 7],
  .seq (.ops [
    ⟨some 3, .box 2 (.tmp 0), none, 0⟩,
    ⟨some 6, .mv (.const (.int .i64 0)), none, 0⟩,
    ⟨some 7, .mv (.const (.int .i64 0)), none, 0⟩]) <|
  .seq (.seq (.ops [
    ⟨some 9, .load true 2 (.tmp 3), none, 0⟩,
    ⟨some 10, .mv (.tmp 1), none, 0⟩,
    ⟨some 11, .mv (.tmp 2), none, 0⟩,
    ⟨some 12, .buildSl 1 [.int .i64 0, .int .i64 0] [(0, 1, (.tmp 10)), (1, 1, (.tmp 11))] 2, none, 0⟩,
    ⟨some 13, .call k_impl_groupCode [(.tmp 9), (.tmp 12)], none, 0⟩,
    ⟨some 8, .mv (.tmp 13), none, 0⟩]) <|
  .seq (.ops [
    ⟨some 14, .mv (.tmp 8), none, 0⟩,
    ⟨some 15, .bin .neq (.tmp 14) (.const (.int .i64 0)), none, 0⟩]) <|
  .cond (.tmp 15)
    (.seq (.ops [
      ⟨some 16, .mv (.tmp 8), none, 0⟩,
      ⟨some 6, .mv (.const (.int .i64 0)), none, 0⟩,
      ⟨some 7, .mv (.tmp 16), none, 0⟩]) <|
    .keep [6, 7] <|
    .ret)
    (.skip)) <|
  .seq (.ops [
    ⟨some 17, .load true 2 (.tmp 3), none, 0⟩,
    ⟨some 18, .mv (.tmp 1), none, 0⟩,
    ⟨some 19, .mv (.tmp 2), none, 0⟩,
    ⟨some 20, .call k_impl_Group_product [(.tmp 17), (.tmp 18), (.tmp 19)], none, 0⟩,
    ⟨some 6, .mv (.tmp 20), none, 0⟩,
    ⟨some 7, .mv (.const (.int .i64 0)), none, 0⟩]) <|
  .keep [6, 7] <|
  .ret⟩

theorem e_impl_ProductIn : EntOK Try.prog (compD Try.prog) k_impl_ProductIn i_impl_ProductIn.vf :=
  ⟨Try.f6, Try.f6.body.getD .skip, Try.func6, by kernel_rfl, by kernel_rfl, by kernel_rfl, by kernel_rfl, by kernel_rfl⟩

/-- loop.example/g01331/spec.ProductIn -/
def i_spec_ProductIn : FF := ⟨21, [.tmp 6, .tmp 7],
  .seq (.ops [
    ⟨some 3, .box 2 (.tmp 0), none, 0⟩,
    ⟨some 6, .mv (.const (.int .i64 0)), none, 0⟩,
    ⟨some 7, .mv (.const (.int .i64 0)), none, 0⟩]) <|
  .seq (.seq (.ops [
    ⟨some 9, .load true 2 (.tmp 3), none, 0⟩,
    ⟨some 10, .mv (.tmp 1), none, 0⟩,
    ⟨some 11, .mv (.tmp 2), none, 0⟩,
    ⟨some 12, .buildSl 1 [.int .i64 0, .int .i64 0] [(0, 1, (.tmp 10)), (1, 1, (.tmp 11))] 2, none, 0⟩,
    ⟨some 13, .call k_spec_l05Elements [(.tmp 9), (.tmp 12)], none, 0⟩,
    ⟨some 8, .mv (.tmp 13), none, 0⟩]) <|
  .seq (.ops [
    ⟨some 14, .mv (.tmp 8), none, 0⟩,
    ⟨some 15, .bin .neq (.tmp 14) (.const (.int .i64 0)), none, 0⟩]) <|
  .cond (.tmp 15)
    (.seq (.ops [
      ⟨some 16, .mv (.tmp 8), none, 0⟩,
      ⟨some 6, .mv (.const (.int .i64 0)), none, 0⟩,
      ⟨some 7, .mv (.tmp 16), none, 0⟩]) <|
    .keep [6, 7] <|
    .ret)
    (.skip)) <|
  .seq (.ops [
    ⟨some 17, .load true 2 (.tmp 3), none, 0⟩,
    ⟨some 18, .mv (.tmp 1), none, 0⟩,
    ⟨some 19, .mv (.tmp 2), none, 0⟩,
    ⟨some 20, .call k_spec_l05Times [(.tmp 17), (.tmp 18), (.tmp 19)], none, 0⟩,
    ⟨some 6, .mv (.tmp 20), none, 0⟩,
    ⟨some 7, .mv (.const (.int .i64 0)), none, 0⟩]) <|
  .keep [6, 7] <|
  .ret⟩

theorem e_spec_ProductIn : EntOK Try.prog (compD Try.prog) k_spec_ProductIn i_spec_ProductIn.vf :=
  ⟨Try.f7, Try.f7.body.getD .skip, Try.func7, by kernel_rfl, by kernel_rfl, by kernel_rfl, by kernel_rfl, by kernel_rfl⟩

/-- loop.example/g01331/impl.IsGroup -/
def i_impl_IsGroup : FF := ⟨33, [.tmp 2],
  .seq (.ops [
    ⟨some 1, .box 2 (.tmp 0), none, 0⟩,
    ⟨some 2, .mv (.const (.bool false)), none, 0⟩]) <|
  .seq (.seq (.ops [
    ⟨some 3, .fld 0 (.tmp 1), none, 0⟩,
    ⟨some 4, .load false 1 (.tmp 3), none, 0⟩]) <|
  .block 0 <|
  .seq (.ops [
    ⟨some 6, .bin .eql (.tmp 4) (.const (.int .i64 0)), none, 0⟩,
    ⟨some 5, .mv (.tmp 6), none, 0⟩]) <|
  .cond (.tmp 5)
    (.seq (.ops [
      ⟨some 7, .fld 1 (.tmp 1), none, 0⟩,
      ⟨some 8, .load false 1 (.tmp 7), none, 0⟩,
      ⟨some 9, .bin .geq (.tmp 8) (.const (.int .i64 1)), none, 0⟩,
      ⟨some 10, .mv (.tmp 9), none, 0⟩,
      ⟨some 11, .fld 1 (.tmp 1), some (10, true), 0⟩,
      ⟨some 12, .load false 1 (.tmp 11), some (10, true), 0⟩,
      ⟨some 13, .bin .leq (.tmp 12) (.const (.int .i64 62)), some (10, true), 0⟩,
      ⟨some 14, .pick (.tmp 10) (.tmp 13) (.const (.bool false)), none, 0⟩,
      ⟨some 2, .mv (.tmp 14), none, 0⟩]) <|
    .keep [2] <|
    .ret)
    (.seq (.ops [
      ⟨some 16, .bin .eql (.tmp 4) (.const (.int .i64 1)), none, 0⟩,
      ⟨some 15, .mv (.tmp 16), none, 0⟩]) <|
    .cond (.tmp 15)
      (.seq (.ops [
        ⟨some 17, .fld 1 (.tmp 1), none, 0⟩,
        ⟨some 18, .load false 1 (.tmp 17), none, 0⟩,
        ⟨some 19, .bin .geq (.tmp 18) (.const (.int .i64 1)), none, 0⟩,
        ⟨some 20, .mv (.tmp 19), none, 0⟩,
        ⟨some 21, .fld 1 (.tmp 1), some (20, true), 0⟩,
        ⟨some 22, .load false 1 (.tmp 21), some (20, true), 0⟩,
        ⟨some 23, .bin .leq (.tmp 22) (.const (.int .i64 31)), some (20, true), 0⟩,
        ⟨some 24, .pick (.tmp 20) (.tmp 23) (.const (.bool false)), none, 0⟩,
        ⟨some 2, .mv (.tmp 24), none, 0⟩]) <|
      .keep [2] <|
      .ret)
      (.skip))) <|
  .seq (.ops [
    ⟨some 25, .fld 0 (.tmp 1), none, 0⟩,
    ⟨some 26, .load false 1 (.tmp 25), none, 0⟩,
    ⟨some 27, .bin .eql (.tmp 26) (.const (.int .i64 2)), none, 0⟩,
    ⟨some 28, .mv (.tmp 27), none, 0⟩,
    ⟨some 29, .fld 1 (.tmp 1), some (28, true), 0⟩,
    ⟨some 30, .load false 1 (.tmp 29), some (28, true), 0⟩,
    ⟨some 31, .call k_impl_isPrime [(.tmp 30)], some (28, true), 0⟩,
    ⟨some 32, .pick (.tmp 28) (.tmp 31) (.const (.bool false)), none, 0⟩,
    ⟨some 2, .mv (.tmp 32), none, 0⟩]) <|
  .keep [2] <|
  .ret⟩

theorem e_impl_IsGroup : EntOK Try.prog (compD Try.prog) k_impl_IsGroup i_impl_IsGroup.vf :=
  ⟨Try.f8, Try.f8.body.getD .skip, Try.func8, by kernel_rfl, by kernel_rfl, by kernel_rfl, by kernel_rfl, by kernel_rfl⟩

/-- loop.example/g01331/spec.IsGroup -/
def i_spec_IsGroup : FF := ⟨5, [.tmp 2],
  .seq (.ops [
    ⟨some 1, .box 2 (.tmp 0), none, 0⟩,
    ⟨some 2, .mv (.const (.bool false)), none, 0⟩]) <|
  .seq (.ops [
    ⟨some 3, .load true 2 (.tmp 1), none, 0⟩,
    ⟨some 4, .call k_spec_l05Is [(.tmp 3)], none, 0⟩,
    ⟨some 2, .mv (.tmp 4), none, 0⟩]) <|
  .keep [2] <|
  .ret⟩

theorem e_spec_IsGroup : EntOK Try.prog (compD Try.prog) k_spec_IsGroup i_spec_IsGroup.vf :=
  ⟨Try.f9, Try.f9.body.getD .skip, Try.func9, by kernel_rfl, by kernel_rfl, by kernel_rfl, by kernel_rfl, by kernel_rfl⟩

/-- loop.example/g01331/impl.InverseIn -/
def i_impl_InverseIn : FF := ⟨17, [.tmp 4, .tmp 5],
  .seq (.ops [
    ⟨some 2, .box 2 (.tmp 0), none, 0⟩,
    ⟨some 4, .mv (.const (.int .i64 0)), none, 0⟩,
    ⟨some 5, .mv (.const (.int .i64 0)), none, 0⟩]) <|
  .seq (.seq (.ops [
    ⟨some 7, .load true 2 (.tmp 2), none, 0⟩,
    ⟨some 8, .mv (.tmp 1), none, 0⟩,
    ⟨some 9, .buildSl 1 [.int .i64 0] [(0, 1, (.tmp 8))] 1, none, 0⟩,
    ⟨some 10, .call k_impl_groupCode [(.tmp 7), (.tmp 9)], none, 0⟩,
    ⟨some 6, .mv (.tmp 10), none, 0⟩]) <|
  .seq (.ops [
    ⟨some 11, .mv (.tmp 6), none, 0⟩,
    ⟨some 12, .bin .neq (.tmp 11) (.const (.int .i64 0)), none, 0⟩]) <|
  .cond (.tmp 12)
    (.seq (.ops [
      ⟨some 13, .mv (.tmp 6), none, 0⟩,
      ⟨some 4, .mv (.const (.int .i64 0)), none, 0⟩,
      ⟨some 5, .mv (.tmp 13), none, 0⟩]) <|
    .keep [4, 5] <|
    .ret)
    (.skip)) <|
  .seq (.ops [
    ⟨some 14, .load true 2 (.tmp 2), none, 0⟩,
    ⟨some 15, .mv (.tmp 1), none, 0⟩,
    ⟨some 16, .call k_impl_Group_inverse [(.tmp 14), (.tmp 15)], none, 0⟩,
    ⟨some 4, .mv (.tmp 16), none, 0⟩,
    ⟨some 5, .mv (.const (.int .i64 0)), none, 0⟩]) <|
  .keep [4, 5] <|
  .ret⟩

theorem e_impl_InverseIn : EntOK Try.prog (compD Try.prog) k_impl_InverseIn i_impl_InverseIn.vf :=
  ⟨Try.f10, Try.f10.body.getD .skip, Try.func10, by kernel_rfl, by kernel_rfl, by kernel_rfl, by kernel_rfl, by kernel_rfl⟩

/-- loop.example/g01331/impl.OrderOf -/
def i_impl_OrderOf_B1 : FC :=
  .seq (.seq (.ops [
    ⟨some 17, .mv (.tmp 8), none, 0⟩,
    ⟨some 18, .bin .neq (.tmp 17) (.const (.int .i64 0)), none, 0⟩]) <|
  .cond (.tmp 18)
    (.skip)
    (.keep [7] <|
    .exit 0)) <|
  .seq (.block 1 <|
  .ops [
    ⟨some 23, .mv (.tmp 7), none, 0⟩,
    ⟨some 24, .bin .add (.tmp 23) (.const (.int .i64 1)), none, 0⟩,
    ⟨some 7, .mv (.tmp 24), none, 0⟩]) <|
  .ops [
    ⟨some 19, .load true 2 (.tmp 2), none, 0⟩,
    ⟨some 20, .mv (.tmp 8), none, 0⟩,
    ⟨some 21, .mv (.tmp 1), none, 0⟩,
    ⟨some 22, .call k_impl_Group_product [(.tmp 19), (.tmp 20), (.tmp 21)], none, 0⟩,
    ⟨some 8, .mv (.tmp 22), none, 0⟩]
def i_impl_OrderOf : FF := ⟨26, [.tmp 4, .tmp 5],
  .seq (.ops [
    ⟨some 2, .box 2 (.tmp 0), none, 0⟩,
    ⟨some 4, .mv (.const (.int .i64 0)), none, 0⟩,
    ⟨some 5, .mv (.const (.int .i64 0)), none, 0⟩]) <|
  .seq (.seq (.ops [
    ⟨some 9, .load true 2 (.tmp 2), none, 0⟩,
    ⟨some 10, .mv (.tmp 1), none, 0⟩,
    ⟨some 11, .buildSl 1 [.int .i64 0] [(0, 1, (.tmp 10))] 1, none, 0⟩,
    ⟨some 12, .call k_impl_groupCode [(.tmp 9), (.tmp 11)], none, 0⟩,
    ⟨some 6, .mv (.tmp 12), none, 0⟩]) <|
  .seq (.ops [
    ⟨some 13, .mv (.tmp 6), none, 0⟩,
    ⟨some 14, .bin .neq (.tmp 13) (.const (.int .i64 0)), none, 0⟩]) <|
  .cond (.tmp 14)
    (.seq (.ops [
      ⟨some 15, .mv (.tmp 6), none, 0⟩,
      ⟨some 4, .mv (.const (.int .i64 0)), none, 0⟩,
      ⟨some 5, .mv (.tmp 15), none, 0⟩]) <|
    .keep [4, 5] <|
    .ret)
    (.skip)) <|
  .seq (.ops [
    ⟨some 7, .mv (.const (.int .i64 1)), none, 0⟩]) <|
  .seq (.seq (.ops [
    ⟨some 16, .mv (.tmp 1), none, 0⟩,
    ⟨some 8, .mv (.tmp 16), none, 0⟩]) <|
  .block 0 <|
  .loop [1, 2, 7, 8] i_impl_OrderOf_B1) <|
  .seq (.ops [
    ⟨some 25, .mv (.tmp 7), none, 0⟩,
    ⟨some 4, .mv (.tmp 25), none, 0⟩,
    ⟨some 5, .mv (.const (.int .i64 0)), none, 0⟩]) <|
  .keep [4, 5] <|
  .ret⟩

theorem e_impl_OrderOf : EntOK Try.prog (compD Try.prog) k_impl_OrderOf i_impl_OrderOf.vf :=
  ⟨Try.f11, Try.f11.body.getD .skip, Try.func11, by kernel_rfl, by kernel_rfl, by kernel_rfl, by kernel_rfl, by kernel_rfl⟩

/-- loop.example/g01331/impl.OrderOfGroup -/
def i_impl_OrderOfGroup : FF := ⟨9, [.tmp 2, .tmp 3],
  .seq (.ops [
    ⟨some 1, .box 2 (.tmp 0), none, 0⟩,
    ⟨some 2, .mv (.const (.int .i64 0)), none, 0⟩,
    ⟨some 3, .mv (.const (.int .i64 0)), none, 0⟩]) <|
  .seq (.seq (.ops [
    ⟨some 4, .load true 2 (.tmp 1), none, 0⟩,
    ⟨some 5, .call k_impl_IsGroup [(.tmp 4)], none, 0⟩,
    ⟨some 6, .un .not (.tmp 5), none, 0⟩]) <|
  .cond (.tmp 6)
    (.seq (.ops [
      ⟨some 2, .mv (.const (.int .i64 0)), none, 0⟩,
      ⟨some 3, .mv (.const (.int .i64 1)), none, 0⟩]) <|
    .keep [2, 3] <|
    .ret)
    (.skip)) <|
  .seq (.ops [
    ⟨some 7, .load true 2 (.tmp 1), none, 0⟩,
    ⟨some 8, .call k_impl_Group_order [(.tmp 7)], none, 0⟩,
    ⟨some 2, .mv (.tmp 8), none, 0⟩,
    ⟨some 3, .mv (.const (.int .i64 0)), none, 0⟩]) <|
  .keep [2, 3] <|
  .ret⟩

theorem e_impl_OrderOfGroup : EntOK Try.prog (compD Try.prog) k_impl_OrderOfGroup i_impl_OrderOfGroup.vf :=
  ⟨Try.f12, Try.f12.body.getD .skip, Try.func12, by kernel_rfl, by kernel_rfl, by kernel_rfl, by kernel_rfl, by kernel_rfl⟩

/-- loop.example/g01331/impl.GeneratedBy -/
def i_impl_GeneratedBy_B1 : FC :=
  .seq (.ops [
    ⟨some 28, .bin .lss (.tmp 27) (.tmp 26), none, 0⟩]) <|
  .seq (.cond (.tmp 28)
    (.skip)
    (.keep [1, 2, 7, 8] <|
    .exit 2)) <|
  .seq (.block 3 <|
  .seq (.ops [
    ⟨some 29, .idx 1 (.tmp 25) (.tmp 27), none, 0⟩,
    ⟨some 30, .load false 1 (.tmp 29), none, 0⟩,
    ⟨some 10, .mv (.tmp 30), none, 0⟩]) <|
  .seq (.dops [
    ⟨some 31, .load true 2 (.tmp 2), none, 0⟩,
    ⟨some 32, .mv (.tmp 7), none, 0⟩,
    ⟨some 33, .mv (.tmp 8), none, 0⟩,
    ⟨some 34, .idx 1 (.tmp 32) (.tmp 33), none, 0⟩,
    ⟨some 35, .load false 1 (.tmp 34), none, 0⟩,
    ⟨some 36, .mv (.tmp 10), none, 0⟩,
    ⟨some 37, .call k_impl_Group_product [(.tmp 31), (.tmp 35), (.tmp 36)], none, 0⟩,
    ⟨some 11, .mv (.tmp 37), none, 0⟩]) <|
  .seq (.ops [
    ⟨some 38, .mv (.tmp 7), none, 0⟩,
    ⟨some 39, .mv (.tmp 11), none, 0⟩,
    ⟨some 40, .call k_slices_Contains_int64_int64 [(.tmp 38), (.tmp 39)], none, 0⟩,
    ⟨some 41, .un .not (.tmp 40), none, 0⟩]) <|
  .cond (.tmp 41)
    (.ops [
      ⟨some 42, .mv (.tmp 7), none, 0⟩,
      ⟨some 43, .mv (.tmp 11), none, 0⟩,
      ⟨some 44, .buildSl 1 [.int .i64 0] [(0, 1, (.tmp 43))] 1, none, 0⟩,
      ⟨some 45, .app 1 8 [.int .i64 0] (.tmp 42) (.tmp 44), none, 0⟩,
      ⟨some 7, .mv (.tmp 45), none, 0⟩])
    (.skip)) <|
  .ops [
    ⟨some 46, .bin .add (.tmp 27) (.const (.int .i64 1)), none, 0⟩,
    ⟨some 27, .mv (.tmp 46), none, 0⟩]
def i_impl_GeneratedBy_B2 : FC :=
  .seq (.seq (.ops [
    ⟨some 19, .mv (.tmp 8), none, 0⟩,
    ⟨some 20, .mv (.tmp 7), none, 0⟩,
    ⟨some 21, .len (.tmp 20), none, 0⟩,
    ⟨some 22, .bin .lss (.tmp 19) (.tmp 21), none, 0⟩]) <|
  .cond (.tmp 22)
    (.skip)
    (.keep [7] <|
    .exit 0)) <|
  .seq (.block 1 <|
  .seq (.ops [
    ⟨some 25, .mv (.tmp 1), none, 0⟩,
    ⟨some 26, .len (.tmp 25), none, 0⟩,
    ⟨some 27, .mv (.const (.int .i64 0)), none, 0⟩]) <|
  .block 2 <|
  .loop [1, 2, 7, 8, 25, 26, 27] i_impl_GeneratedBy_B1) <|
  .ops [
    ⟨some 23, .mv (.tmp 8), none, 0⟩,
    ⟨some 24, .bin .add (.tmp 23) (.const (.int .i64 1)), none, 0⟩,
    ⟨some 8, .mv (.tmp 24), none, 0⟩]
def i_impl_GeneratedBy : FF := ⟨50, [.tmp 4, .tmp 5],
  .seq (.ops [
    ⟨some 2, .box 2 (.tmp 0), none, 0⟩,
    ⟨some 4, .mv (.const (.slice none 0 0)), none, 0⟩,
    ⟨some 5, .mv (.const (.int .i64 0)), none, 0⟩]) <|
  .seq (.seq (.ops [
    ⟨some 12, .load true 2 (.tmp 2), none, 0⟩,
    ⟨some 13, .mv (.tmp 1), none, 0⟩,
    ⟨some 14, .call k_impl_fewCode [(.tmp 12), (.tmp 13)], none, 0⟩,
    ⟨some 6, .mv (.tmp 14), none, 0⟩]) <|
  .seq (.ops [
    ⟨some 15, .mv (.tmp 6), none, 0⟩,
    ⟨some 16, .bin .neq (.tmp 15) (.const (.int .i64 0)), none, 0⟩]) <|
  .cond (.tmp 16)
    (.seq (.ops [
      ⟨some 17, .mv (.tmp 6), none, 0⟩,
      ⟨some 4, .mv (.const (.slice none 0 0)), none, 0⟩,
      ⟨some 5, .mv (.tmp 17), none, 0⟩]) <|
    .keep [4, 5] <|
    .ret)
    (.skip)) <|
  .seq (.ops [
    ⟨some 18, .buildSl 1 [.int .i64 0] [(0, 1, (.const (.int .i64 0)))] 1, none, 0⟩,
    ⟨some 7, .mv (.tmp 18), none, 0⟩]) <|
  .seq (.seq (.ops [
    ⟨some 8, .mv (.const (.int .i64 0)), none, 0⟩]) <|
  .block 0 <|
  .loop [1, 2, 7, 8] i_impl_GeneratedBy_B2) <|
  .seq (.ops [
    ⟨some 47, .mv (.tmp 7), none, 0⟩,
    ⟨some 48, .call k_slices_Sort_int64_int64 [(.tmp 47)], none, 0⟩]) <|
  .seq (.ops [
    ⟨some 49, .mv (.tmp 7), none, 0⟩,
    ⟨some 4, .mv (.tmp 49), none, 0⟩,
    ⟨some 5, .mv (.const (.int .i64 0)), none, 0⟩]) <|
  .keep [4, 5] <|
  .ret⟩

theorem e_impl_GeneratedBy : EntOK Try.prog (compD Try.prog) k_impl_GeneratedBy i_impl_GeneratedBy.vf :=
  ⟨Try.f13, Try.f13.body.getD .skip, Try.func13, by kernel_rfl, by kernel_rfl, by kernel_rfl, by kernel_rfl, by kernel_rfl⟩

/-- loop.example/g01331/spec.DrawGeneratedBy -/
def i_spec_DrawGeneratedBy : FF := ⟨18, [.cell 2 true 2, .tmp 3],
  .seq (.ops [
    ⟨some 2, .alloc [.int .i64 0, .int .i64 0], none, 0⟩,
    ⟨some 3, .mv (.const (.slice none 0 0)), none, 0⟩]) <|
  .seq (.ops [
    ⟨some 7, .mv (.tmp 0), none, 0⟩,
    ⟨some 8, .call k_spec_l01From [(.tmp 7)], none, 0⟩,
    ⟨some 4, .mv (.tmp 8), none, 0⟩]) <|
  .seq (.ops [
    ⟨some 10, .mv (.tmp 4), none, 0⟩,
    ⟨some 11, .call k_spec_l05DrawList [(.tmp 10)], none, 0⟩,
    ⟨some 9, .mv (.tmp 11), none, 0⟩,
    ⟨some 12, .ext (.tmp 9) 0, none, 0⟩,
    ⟨some 13, .ext (.tmp 9) 1, none, 0⟩,
    ⟨some 5, .alloc [.int .i64 0, .int .i64 0], none, 0⟩,
    ⟨none, .store 2 (.tmp 5) (.tmp 12), none, 0⟩,
    ⟨some 6, .mv (.tmp 13), none, 0⟩]) <|
  .seq (.ops [
    ⟨some 14, .mv (.tmp 4), none, 0⟩,
    ⟨some 15, .load true 2 (.tmp 5), none, 0⟩,
    ⟨some 16, .call k_spec_l05Bad [(.tmp 14), (.tmp 15)], none, 0⟩,
    ⟨some 17, .mv (.tmp 6), none, 0⟩,
    ⟨none, .store 2 (.tmp 2) (.tmp 16), none, 0⟩,
    ⟨some 3, .mv (.tmp 17), none, 0⟩]) <|
  .keep [2, 3] <|
  .ret⟩

theorem e_spec_DrawGeneratedBy : EntOK Try.prog (compD Try.prog) k_spec_DrawGeneratedBy i_spec_DrawGeneratedBy.vf :=
  ⟨Try.f14, Try.f14.body.getD .skip, Try.func14, by kernel_rfl, by kernel_rfl, by kernel_rfl, by kernel_rfl, by kernel_rfl⟩

/-- loop.example/g01331/spec.GeneratedBy -/
def i_spec_GeneratedBy : FF := ⟨16, [.tmp 4, .tmp 5],
  .seq (.ops [
    ⟨some 2, .box 2 (.tmp 0), none, 0⟩,
    ⟨some 4, .mv (.const (.slice none 0 0)), none, 0⟩,
    ⟨some 5, .mv (.const (.int .i64 0)), none, 0⟩]) <|
  .seq (.seq (.ops [
    ⟨some 7, .load true 2 (.tmp 2), none, 0⟩,
    ⟨some 8, .mv (.tmp 1), none, 0⟩,
    ⟨some 9, .call k_spec_l05List [(.tmp 7), (.tmp 8)], none, 0⟩,
    ⟨some 6, .mv (.tmp 9), none, 0⟩]) <|
  .seq (.ops [
    ⟨some 10, .mv (.tmp 6), none, 0⟩,
    ⟨some 11, .bin .neq (.tmp 10) (.const (.int .i64 0)), none, 0⟩]) <|
  .cond (.tmp 11)
    (.seq (.ops [
      ⟨some 12, .mv (.tmp 6), none, 0⟩,
      ⟨some 4, .mv (.const (.slice none 0 0)), none, 0⟩,
      ⟨some 5, .mv (.tmp 12), none, 0⟩]) <|
    .keep [4, 5] <|
    .ret)
    (.skip)) <|
  .seq (.ops [
    ⟨some 13, .load true 2 (.tmp 2), none, 0⟩,
    ⟨some 14, .mv (.tmp 1), none, 0⟩,
    ⟨some 15, .call k_spec_l05Generated [(.tmp 13), (.tmp 14)], none, 0⟩,
    ⟨some 4, .mv (.tmp 15), none, 0⟩,
    ⟨some 5, .mv (.const (.int .i64 0)), none, 0⟩]) <|
  .keep [4, 5] <|
  .ret⟩

theorem e_spec_GeneratedBy : EntOK Try.prog (compD Try.prog) k_spec_GeneratedBy i_spec_GeneratedBy.vf :=
  ⟨Try.f15, Try.f15.body.getD .skip, Try.func15, by kernel_rfl, by kernel_rfl, by kernel_rfl, by kernel_rfl, by kernel_rfl⟩

/-- loop.example/g01331/laws.likeInts -/
def i_laws_likeInts_B1 : FC :=
  .seq (.seq (.ops [
    ⟨some 11, .mv (.tmp 5), none, 0⟩,
    ⟨some 12, .mv (.tmp 0), none, 0⟩,
    ⟨some 13, .len (.tmp 12), none, 0⟩,
    ⟨some 14, .bin .lss (.tmp 11) (.tmp 13), none, 0⟩]) <|
  .cond (.tmp 14)
    (.skip)
    (.keep [] <|
    .exit 0)) <|
  .seq (.block 1 <|
  .seq (.dops [
    ⟨some 17, .mv (.tmp 0), none, 0⟩,
    ⟨some 18, .mv (.tmp 5), none, 0⟩,
    ⟨some 19, .idx 1 (.tmp 17) (.tmp 18), none, 0⟩,
    ⟨some 20, .load false 1 (.tmp 19), none, 0⟩,
    ⟨some 21, .mv (.tmp 1), none, 0⟩,
    ⟨some 22, .mv (.tmp 5), none, 0⟩,
    ⟨some 23, .idx 1 (.tmp 21) (.tmp 22), none, 0⟩,
    ⟨some 24, .load false 1 (.tmp 23), none, 0⟩,
    ⟨some 25, .bin .neq (.tmp 20) (.tmp 24), none, 0⟩]) <|
  .cond (.tmp 25)
    (.seq (.ops [
      ⟨some 4, .mv (.const (.bool false)), none, 0⟩]) <|
    .keep [4] <|
    .ret)
    (.skip)) <|
  .ops [
    ⟨some 15, .mv (.tmp 5), none, 0⟩,
    ⟨some 16, .bin .add (.tmp 15) (.const (.int .i64 1)), none, 0⟩,
    ⟨some 5, .mv (.tmp 16), none, 0⟩]
def i_laws_likeInts : FF := ⟨26, [.tmp 4],
  .seq (.ops [
    ⟨some 4, .mv (.const (.bool false)), none, 0⟩]) <|
  .seq (.seq (.ops [
    ⟨some 6, .mv (.tmp 0), none, 0⟩,
    ⟨some 7, .len (.tmp 6), none, 0⟩,
    ⟨some 8, .mv (.tmp 1), none, 0⟩,
    ⟨some 9, .len (.tmp 8), none, 0⟩,
    ⟨some 10, .bin .neq (.tmp 7) (.tmp 9), none, 0⟩]) <|
  .cond (.tmp 10)
    (.seq (.ops [
      ⟨some 4, .mv (.const (.bool false)), none, 0⟩]) <|
    .keep [4] <|
    .ret)
    (.skip)) <|
  .seq (.seq (.ops [
    ⟨some 5, .mv (.const (.int .i64 0)), none, 0⟩]) <|
  .block 0 <|
  .loop [0, 1, 5] i_laws_likeInts_B1) <|
  .seq (.ops [
    ⟨some 4, .mv (.const (.bool true)), none, 0⟩]) <|
  .keep [4] <|
  .ret⟩

theorem e_laws_likeInts : EntOK Try.prog (compD Try.prog) k_laws_likeInts i_laws_likeInts.vf :=
  ⟨Try.f16, Try.f16.body.getD .skip, Try.func16, by kernel_rfl, by kernel_rfl, by kernel_rfl, by kernel_rfl, by kernel_rfl⟩

/-- loop.example/g01331/spec.DrawClosedSet -/
def i_spec_DrawClosedSet : FF := ⟨18, [.cell 2 true 2, .tmp 3],
  .seq (.ops [
    ⟨some 2, .alloc [.int .i64 0, .int .i64 0], none, 0⟩,
    ⟨some 3, .mv (.const (.slice none 0 0)), none, 0⟩]) <|
  .seq (.ops [
    ⟨some 7, .mv (.tmp 0), none, 0⟩,
    ⟨some 8, .call k_spec_l01From [(.tmp 7)], none, 0⟩,
    ⟨some 4, .mv (.tmp 8), none, 0⟩]) <|
  .seq (.ops [
    ⟨some 10, .mv (.tmp 4), none, 0⟩,
    ⟨some 11, .call k_spec_l05DrawList [(.tmp 10)], none, 0⟩,
    ⟨some 9, .mv (.tmp 11), none, 0⟩,
    ⟨some 12, .ext (.tmp 9) 0, none, 0⟩,
    ⟨some 13, .ext (.tmp 9) 1, none, 0⟩,
    ⟨some 5, .alloc [.int .i64 0, .int .i64 0], none, 0⟩,
    ⟨none, .store 2 (.tmp 5) (.tmp 12), none, 0⟩,
    ⟨some 6, .mv (.tmp 13), none, 0⟩]) <|
  .seq (.ops [
    ⟨some 14, .mv (.tmp 4), none, 0⟩,
    ⟨some 15, .load true 2 (.tmp 5), none, 0⟩,
    ⟨some 16, .call k_spec_l05Bad [(.tmp 14), (.tmp 15)], none, 0⟩,
    ⟨some 17, .mv (.tmp 6), none, 0⟩,
    ⟨none, .store 2 (.tmp 2) (.tmp 16), none, 0⟩,
    ⟨some 3, .mv (.tmp 17), none, 0⟩]) <|
  .keep [2, 3] <|
  .ret⟩

theorem e_spec_DrawClosedSet : EntOK Try.prog (compD Try.prog) k_spec_DrawClosedSet i_spec_DrawClosedSet.vf :=
  ⟨Try.f17, Try.f17.body.getD .skip, Try.func17, by kernel_rfl, by kernel_rfl, by kernel_rfl, by kernel_rfl, by kernel_rfl⟩

/-- loop.example/g01331/impl.ClosedSet -/
def i_impl_ClosedSet_B1 : FC :=
  .seq (.ops [
    ⟨some 20, .bin .lss (.tmp 19) (.tmp 18), none, 0⟩]) <|
  .seq (.cond (.tmp 20)
    (.skip)
    (.keep [7] <|
    .exit 0)) <|
  .seq (.block 1 <|
  .seq (.ops [
    ⟨some 21, .idx 1 (.tmp 17) (.tmp 19), none, 0⟩,
    ⟨some 22, .load false 1 (.tmp 21), none, 0⟩,
    ⟨some 9, .mv (.tmp 22), none, 0⟩]) <|
  .seq (.ops [
    ⟨some 23, .mv (.tmp 9), none, 0⟩,
    ⟨some 24, .bin .neq (.tmp 23) (.const (.int .i64 0)), none, 0⟩]) <|
  .cond (.tmp 24)
    (.ops [
      ⟨some 25, .mv (.tmp 7), none, 0⟩,
      ⟨some 26, .mv (.tmp 9), none, 0⟩,
      ⟨some 27, .load true 2 (.tmp 2), none, 0⟩,
      ⟨some 28, .mv (.tmp 9), none, 0⟩,
      ⟨some 29, .call k_impl_Group_inverse [(.tmp 27), (.tmp 28)], none, 0⟩,
      ⟨some 30, .buildSl 1 [.int .i64 0, .int .i64 0] [(0, 1, (.tmp 26)), (1, 1, (.tmp 29))] 2, none, 0⟩,
      ⟨some 31, .app 1 8 [.int .i64 0] (.tmp 25) (.tmp 30), none, 0⟩,
      ⟨some 7, .mv (.tmp 31), none, 0⟩])
    (.skip)) <|
  .ops [
    ⟨some 32, .bin .add (.tmp 19) (.const (.int .i64 1)), none, 0⟩,
    ⟨some 19, .mv (.tmp 32), none, 0⟩]
def i_impl_ClosedSet : FF := ⟨37, [.tmp 4, .tmp 5],
  .seq (.ops [
    ⟨some 2, .box 2 (.tmp 0), none, 0⟩,
    ⟨some 4, .mv (.const (.slice none 0 0)), none, 0⟩,
    ⟨some 5, .mv (.const (.int .i64 0)), none, 0⟩]) <|
  .seq (.seq (.ops [
    ⟨some 10, .load true 2 (.tmp 2), none, 0⟩,
    ⟨some 11, .mv (.tmp 1), none, 0⟩,
    ⟨some 12, .call k_impl_fewCode [(.tmp 10), (.tmp 11)], none, 0⟩,
    ⟨some 6, .mv (.tmp 12), none, 0⟩]) <|
  .seq (.ops [
    ⟨some 13, .mv (.tmp 6), none, 0⟩,
    ⟨some 14, .bin .neq (.tmp 13) (.const (.int .i64 0)), none, 0⟩]) <|
  .cond (.tmp 14)
    (.seq (.ops [
      ⟨some 15, .mv (.tmp 6), none, 0⟩,
      ⟨some 4, .mv (.const (.slice none 0 0)), none, 0⟩,
      ⟨some 5, .mv (.tmp 15), none, 0⟩]) <|
    .keep [4, 5] <|
    .ret)
    (.skip)) <|
  .seq (.ops [
    ⟨some 16, .buildSl 1 [] [] 0, none, 0⟩,
    ⟨some 7, .mv (.tmp 16), none, 0⟩]) <|
  .seq (.seq (.ops [
    ⟨some 17, .mv (.tmp 1), none, 0⟩,
    ⟨some 18, .len (.tmp 17), none, 0⟩,
    ⟨some 19, .mv (.const (.int .i64 0)), none, 0⟩]) <|
  .block 0 <|
  .loop [2, 7, 17, 18, 19] i_impl_ClosedSet_B1) <|
  .seq (.ops [
    ⟨some 33, .mv (.tmp 7), none, 0⟩,
    ⟨some 34, .call k_slices_Sort_int64_int64 [(.tmp 33)], none, 0⟩]) <|
  .seq (.ops [
    ⟨some 35, .mv (.tmp 7), none, 0⟩,
    ⟨some 36, .call k_slices_Compact_int64_int64 [(.tmp 35)], none, 0⟩,
    ⟨some 4, .mv (.tmp 36), none, 0⟩,
    ⟨some 5, .mv (.const (.int .i64 0)), none, 0⟩]) <|
  .keep [4, 5] <|
  .ret⟩

theorem e_impl_ClosedSet : EntOK Try.prog (compD Try.prog) k_impl_ClosedSet i_impl_ClosedSet.vf :=
  ⟨Try.f18, Try.f18.body.getD .skip, Try.func18, by kernel_rfl, by kernel_rfl, by kernel_rfl, by kernel_rfl, by kernel_rfl⟩

/-- loop.example/g01331/spec.ClosedSet -/
def i_spec_ClosedSet : FF := ⟨16, [.tmp 4, .tmp 5],
  .seq (.ops [
    ⟨some 2, .box 2 (.tmp 0), none, 0⟩,
    ⟨some 4, .mv (.const (.slice none 0 0)), none, 0⟩,
    ⟨some 5, .mv (.const (.int .i64 0)), none, 0⟩]) <|
  .seq (.seq (.ops [
    ⟨some 7, .load true 2 (.tmp 2), none, 0⟩,
    ⟨some 8, .mv (.tmp 1), none, 0⟩,
    ⟨some 9, .call k_spec_l05List [(.tmp 7), (.tmp 8)], none, 0⟩,
    ⟨some 6, .mv (.tmp 9), none, 0⟩]) <|
  .seq (.ops [
    ⟨some 10, .mv (.tmp 6), none, 0⟩,
    ⟨some 11, .bin .neq (.tmp 10) (.const (.int .i64 0)), none, 0⟩]) <|
  .cond (.tmp 11)
    (.seq (.ops [
      ⟨some 12, .mv (.tmp 6), none, 0⟩,
      ⟨some 4, .mv (.const (.slice none 0 0)), none, 0⟩,
      ⟨some 5, .mv (.tmp 12), none, 0⟩]) <|
    .keep [4, 5] <|
    .ret)
    (.skip)) <|
  .seq (.ops [
    ⟨some 13, .load true 2 (.tmp 2), none, 0⟩,
    ⟨some 14, .mv (.tmp 1), none, 0⟩,
    ⟨some 15, .call k_spec_l05Closed [(.tmp 13), (.tmp 14)], none, 0⟩,
    ⟨some 4, .mv (.tmp 15), none, 0⟩,
    ⟨some 5, .mv (.const (.int .i64 0)), none, 0⟩]) <|
  .keep [4, 5] <|
  .ret⟩

theorem e_spec_ClosedSet : EntOK Try.prog (compD Try.prog) k_spec_ClosedSet i_spec_ClosedSet.vf :=
  ⟨Try.f19, Try.f19.body.getD .skip, Try.func19, by kernel_rfl, by kernel_rfl, by kernel_rfl, by kernel_rfl, by kernel_rfl⟩

/-- loop.example/g01331/impl.IsConnectionSet -/
def i_impl_IsConnectionSet : FF := ⟨16, [.tmp 4, .tmp 5],
  .seq (.ops [
    ⟨some 2, .box 2 (.tmp 0), none, 0⟩,
    ⟨some 4, .mv (.const (.bool false)), none, 0⟩,
    ⟨some 5, .mv (.const (.int .i64 0)), none, 0⟩]) <|
  .seq (.seq (.ops [
    ⟨some 7, .load true 2 (.tmp 2), none, 0⟩,
    ⟨some 8, .mv (.tmp 1), none, 0⟩,
    ⟨some 9, .call k_impl_groupCode [(.tmp 7), (.tmp 8)], none, 0⟩,
    ⟨some 6, .mv (.tmp 9), none, 0⟩]) <|
  .seq (.ops [
    ⟨some 10, .mv (.tmp 6), none, 0⟩,
    ⟨some 11, .bin .neq (.tmp 10) (.const (.int .i64 0)), none, 0⟩]) <|
  .cond (.tmp 11)
    (.seq (.ops [
      ⟨some 12, .mv (.tmp 6), none, 0⟩,
      ⟨some 4, .mv (.const (.bool false)), none, 0⟩,
      ⟨some 5, .mv (.tmp 12), none, 0⟩]) <|
    .keep [4, 5] <|
    .ret)
    (.skip)) <|
  .seq (.ops [
    ⟨some 13, .load true 2 (.tmp 2), none, 0⟩,
    ⟨some 14, .mv (.tmp 1), none, 0⟩,
    ⟨some 15, .call k_impl_Group_isConnection [(.tmp 13), (.tmp 14)], none, 0⟩,
    ⟨some 4, .mv (.tmp 15), none, 0⟩,
    ⟨some 5, .mv (.const (.int .i64 0)), none, 0⟩]) <|
  .keep [4, 5] <|
  .ret⟩

theorem e_impl_IsConnectionSet : EntOK Try.prog (compD Try.prog) k_impl_IsConnectionSet i_impl_IsConnectionSet.vf :=
  ⟨Try.f20, Try.f20.body.getD .skip, Try.func20, by kernel_rfl, by kernel_rfl, by kernel_rfl, by kernel_rfl, by kernel_rfl⟩

/-- loop.example/g01331/spec.DrawIsConnectionSet -/
def i_spec_DrawIsConnectionSet : FF := ⟨18, [.cell 2 true 2, .tmp 3],
  .seq (.ops [
    ⟨some 2, .alloc [.int .i64 0, .int .i64 0], none, 0⟩,
    ⟨some 3, .mv (.const (.slice none 0 0)), none, 0⟩]) <|
  .seq (.ops [
    ⟨some 7, .mv (.tmp 0), none, 0⟩,
    ⟨some 8, .call k_spec_l01From [(.tmp 7)], none, 0⟩,
    ⟨some 4, .mv (.tmp 8), none, 0⟩]) <|
  .seq (.ops [
    ⟨some 10, .mv (.tmp 4), none, 0⟩,
    ⟨some 11, .call k_spec_l05DrawSet [(.tmp 10)], none, 0⟩,
    ⟨some 9, .mv (.tmp 11), none, 0⟩,
    ⟨some 12, .ext (.tmp 9) 0, none, 0⟩,
    ⟨some 13, .ext (.tmp 9) 1, none, 0⟩,
    ⟨some 5, .alloc [.int .i64 0, .int .i64 0], none, 0⟩,
    ⟨none, .store 2 (.tmp 5) (.tmp 12), none, 0⟩,
    ⟨some 6, .mv (.tmp 13), none, 0⟩]) <|
  .seq (.ops [
    ⟨some 14, .mv (.tmp 4), none, 0⟩,
    ⟨some 15, .load true 2 (.tmp 5), none, 0⟩,
    ⟨some 16, .call k_spec_l05Bad [(.tmp 14), (.tmp 15)], none, 0⟩,
    ⟨some 17, .mv (.tmp 6), none, 0⟩,
    ⟨none, .store 2 (.tmp 2) (.tmp 16), none, 0⟩,
    ⟨some 3, .mv (.tmp 17), none, 0⟩]) <|
  .keep [2, 3] <|
  .ret⟩

theorem e_spec_DrawIsConnectionSet : EntOK Try.prog (compD Try.prog) k_spec_DrawIsConnectionSet i_spec_DrawIsConnectionSet.vf :=
  ⟨Try.f21, Try.f21.body.getD .skip, Try.func21, by kernel_rfl, by kernel_rfl, by kernel_rfl, by kernel_rfl, by kernel_rfl⟩

/-- loop.example/g01331/spec.IsConnectionSet -/
def i_spec_IsConnectionSet : FF := ⟨16, [.tmp 4, .tmp 5],
  .seq (.ops [
    ⟨some 2, .box 2 (.tmp 0), none, 0⟩,
    ⟨some 4, .mv (.const (.bool false)), none, 0⟩,
    ⟨some 5, .mv (.const (.int .i64 0)), none, 0⟩]) <|
  .seq (.seq (.ops [
    ⟨some 7, .load true 2 (.tmp 2), none, 0⟩,
    ⟨some 8, .mv (.tmp 1), none, 0⟩,
    ⟨some 9, .call k_spec_l05Elements [(.tmp 7), (.tmp 8)], none, 0⟩,
    ⟨some 6, .mv (.tmp 9), none, 0⟩]) <|
  .seq (.ops [
    ⟨some 10, .mv (.tmp 6), none, 0⟩,
    ⟨some 11, .bin .neq (.tmp 10) (.const (.int .i64 0)), none, 0⟩]) <|
  .cond (.tmp 11)
    (.seq (.ops [
      ⟨some 12, .mv (.tmp 6), none, 0⟩,
      ⟨some 4, .mv (.const (.bool false)), none, 0⟩,
      ⟨some 5, .mv (.tmp 12), none, 0⟩]) <|
    .keep [4, 5] <|
    .ret)
    (.skip)) <|
  .seq (.ops [
    ⟨some 13, .load true 2 (.tmp 2), none, 0⟩,
    ⟨some 14, .mv (.tmp 1), none, 0⟩,
    ⟨some 15, .call k_spec_l05Set [(.tmp 13), (.tmp 14)], none, 0⟩,
    ⟨some 4, .mv (.tmp 15), none, 0⟩,
    ⟨some 5, .mv (.const (.int .i64 0)), none, 0⟩]) <|
  .keep [4, 5] <|
  .ret⟩

theorem e_spec_IsConnectionSet : EntOK Try.prog (compD Try.prog) k_spec_IsConnectionSet i_spec_IsConnectionSet.vf :=
  ⟨Try.f22, Try.f22.body.getD .skip, Try.func22, by kernel_rfl, by kernel_rfl, by kernel_rfl, by kernel_rfl, by kernel_rfl⟩

/-- loop.example/g01331/spec.DrawInverseIn -/
def i_spec_DrawInverseIn : FF := ⟨13, [.cell 2 true 2, .tmp 3],
  .seq (.ops [
    ⟨some 2, .alloc [.int .i64 0, .int .i64 0], none, 0⟩,
    ⟨some 3, .mv (.const (.int .i64 0)), none, 0⟩]) <|
  .seq (.ops [
    ⟨some 7, .mv (.tmp 0), none, 0⟩,
    ⟨some 8, .call k_spec_l05With [(.tmp 7)], none, 0⟩,
    ⟨some 6, .mv (.tmp 8), none, 0⟩,
    ⟨some 9, .ext (.tmp 6) 0, none, 0⟩,
    ⟨some 10, .ext (.tmp 6) 1, none, 0⟩,
    ⟨some 4, .alloc [.int .i64 0, .int .i64 0], none, 0⟩,
    ⟨none, .store 2 (.tmp 4) (.tmp 9), none, 0⟩,
    ⟨some 5, .mv (.tmp 10), none, 0⟩]) <|
  .seq (.ops [
    ⟨some 11, .load true 2 (.tmp 4), none, 0⟩,
    ⟨some 12, .mv (.tmp 5), none, 0⟩,
    ⟨none, .store 2 (.tmp 2) (.tmp 11), none, 0⟩,
    ⟨some 3, .mv (.tmp 12), none, 0⟩]) <|
  .keep [2, 3] <|
  .ret⟩

theorem e_spec_DrawInverseIn : EntOK Try.prog (compD Try.prog) k_spec_DrawInverseIn i_spec_DrawInverseIn.vf :=
  ⟨Try.f23, Try.f23.body.getD .skip, Try.func23, by kernel_rfl, by kernel_rfl, by kernel_rfl, by kernel_rfl, by kernel_rfl⟩

/-- loop.example/g01331/spec.InverseIn -/
def i_spec_InverseIn : FF := ⟨17, [.tmp 4, .tmp 5],
  .seq (.ops [
    ⟨some 2, .box 2 (.tmp 0), none, 0⟩,
    ⟨some 4, .mv (.const (.int .i64 0)), none, 0⟩,
    ⟨some 5, .mv (.const (.int .i64 0)), none, 0⟩]) <|
  .seq (.seq (.ops [
    ⟨some 7, .load true 2 (.tmp 2), none, 0⟩,
    ⟨some 8, .mv (.tmp 1), none, 0⟩,
    ⟨some 9, .buildSl 1 [.int .i64 0] [(0, 1, (.tmp 8))] 1, none, 0⟩,
    ⟨some 10, .call k_spec_l05Elements [(.tmp 7), (.tmp 9)], none, 0⟩,
    ⟨some 6, .mv (.tmp 10), none, 0⟩]) <|
  .seq (.ops [
    ⟨some 11, .mv (.tmp 6), none, 0⟩,
    ⟨some 12, .bin .neq (.tmp 11) (.const (.int .i64 0)), none, 0⟩]) <|
  .cond (.tmp 12)
    (.seq (.ops [
      ⟨some 13, .mv (.tmp 6), none, 0⟩,
      ⟨some 4, .mv (.const (.int .i64 0)), none, 0⟩,
      ⟨some 5, .mv (.tmp 13), none, 0⟩]) <|
    .keep [4, 5] <|
    .ret)
    (.skip)) <|
  .seq (.ops [
    ⟨some 14, .load true 2 (.tmp 2), none, 0⟩,
    ⟨some 15, .mv (.tmp 1), none, 0⟩,
    ⟨some 16, .call k_spec_l05Inverse [(.tmp 14), (.tmp 15)], none, 0⟩,
    ⟨some 4, .mv (.tmp 16), none, 0⟩,
    ⟨some 5, .mv (.const (.int .i64 0)), none, 0⟩]) <|
  .keep [4, 5] <|
  .ret⟩

theorem e_spec_InverseIn : EntOK Try.prog (compD Try.prog) k_spec_InverseIn i_spec_InverseIn.vf :=
  ⟨Try.f24, Try.f24.body.getD .skip, Try.func24, by kernel_rfl, by kernel_rfl, by kernel_rfl, by kernel_rfl, by kernel_rfl⟩

/-- loop.example/g01331/spec.DrawOrderOf -/
def i_spec_DrawOrderOf : FF := ⟨13, [.cell 2 true 2, .tmp 3],
  .seq (.ops [
    ⟨some 2, .alloc [.int .i64 0, .int .i64 0], none, 0⟩,
    ⟨some 3, .mv (.const (.int .i64 0)), none, 0⟩]) <|
  .seq (.ops [
    ⟨some 7, .mv (.tmp 0), none, 0⟩,
    ⟨some 8, .call k_spec_l05With [(.tmp 7)], none, 0⟩,
    ⟨some 6, .mv (.tmp 8), none, 0⟩,
    ⟨some 9, .ext (.tmp 6) 0, none, 0⟩,
    ⟨some 10, .ext (.tmp 6) 1, none, 0⟩,
    ⟨some 4, .alloc [.int .i64 0, .int .i64 0], none, 0⟩,
    ⟨none, .store 2 (.tmp 4) (.tmp 9), none, 0⟩,
    ⟨some 5, .mv (.tmp 10), none, 0⟩]) <|
  .seq (.ops [
    ⟨some 11, .load true 2 (.tmp 4), none, 0⟩,
    ⟨some 12, .mv (.tmp 5), none, 0⟩,
    ⟨none, .store 2 (.tmp 2) (.tmp 11), none, 0⟩,
    ⟨some 3, .mv (.tmp 12), none, 0⟩]) <|
  .keep [2, 3] <|
  .ret⟩

theorem e_spec_DrawOrderOf : EntOK Try.prog (compD Try.prog) k_spec_DrawOrderOf i_spec_DrawOrderOf.vf :=
  ⟨Try.f25, Try.f25.body.getD .skip, Try.func25, by kernel_rfl, by kernel_rfl, by kernel_rfl, by kernel_rfl, by kernel_rfl⟩

/-- loop.example/g01331/spec.OrderOf -/
def i_spec_OrderOf_B1 : FC :=
  .seq (.seq (.ops [
    ⟨some 17, .mv (.tmp 8), none, 0⟩,
    ⟨some 18, .bin .neq (.tmp 17) (.const (.int .i64 0)), none, 0⟩]) <|
  .cond (.tmp 18)
    (.skip)
    (.keep [7] <|
    .exit 0)) <|
  .seq (.block 1 <|
  .ops [
    ⟨some 23, .mv (.tmp 7), none, 0⟩,
    ⟨some 24, .bin .add (.tmp 23) (.const (.int .i64 1)), none, 0⟩,
    ⟨some 7, .mv (.tmp 24), none, 0⟩]) <|
  .ops [
    ⟨some 19, .load true 2 (.tmp 2), none, 0⟩,
    ⟨some 20, .mv (.tmp 8), none, 0⟩,
    ⟨some 21, .mv (.tmp 1), none, 0⟩,
    ⟨some 22, .call k_spec_l05Times [(.tmp 19), (.tmp 20), (.tmp 21)], none, 0⟩,
    ⟨some 8, .mv (.tmp 22), none, 0⟩]
def i_spec_OrderOf : FF := ⟨26, [.tmp 4, .tmp 5],
  .seq (.ops [
    ⟨some 2, .box 2 (.tmp 0), none, 0⟩,
    ⟨some 4, .mv (.const (.int .i64 0)), none, 0⟩,
    ⟨some 5, .mv (.const (.int .i64 0)), none, 0⟩]) <|
  .seq (.seq (.ops [
    ⟨some 9, .load true 2 (.tmp 2), none, 0⟩,
    ⟨some 10, .mv (.tmp 1), none, 0⟩,
    ⟨some 11, .buildSl 1 [.int .i64 0] [(0, 1, (.tmp 10))] 1, none, 0⟩,
    ⟨some 12, .call k_spec_l05Elements [(.tmp 9), (.tmp 11)], none, 0⟩,
    ⟨some 6, .mv (.tmp 12), none, 0⟩]) <|
  .seq (.ops [
    ⟨some 13, .mv (.tmp 6), none, 0⟩,
    ⟨some 14, .bin .neq (.tmp 13) (.const (.int .i64 0)), none, 0⟩]) <|
  .cond (.tmp 14)
    (.seq (.ops [
      ⟨some 15, .mv (.tmp 6), none, 0⟩,
      ⟨some 4, .mv (.const (.int .i64 0)), none, 0⟩,
      ⟨some 5, .mv (.tmp 15), none, 0⟩]) <|
    .keep [4, 5] <|
    .ret)
    (.skip)) <|
  .seq (.ops [
    ⟨some 7, .mv (.const (.int .i64 1)), none, 0⟩]) <|
  .seq (.seq (.ops [
    ⟨some 16, .mv (.tmp 1), none, 0⟩,
    ⟨some 8, .mv (.tmp 16), none, 0⟩]) <|
  .block 0 <|
  .loop [1, 2, 7, 8] i_spec_OrderOf_B1) <|
  .seq (.ops [
    ⟨some 25, .mv (.tmp 7), none, 0⟩,
    ⟨some 4, .mv (.tmp 25), none, 0⟩,
    ⟨some 5, .mv (.const (.int .i64 0)), none, 0⟩]) <|
  .keep [4, 5] <|
  .ret⟩

theorem e_spec_OrderOf : EntOK Try.prog (compD Try.prog) k_spec_OrderOf i_spec_OrderOf.vf :=
  ⟨Try.f26, Try.f26.body.getD .skip, Try.func26, by kernel_rfl, by kernel_rfl, by kernel_rfl, by kernel_rfl, by kernel_rfl⟩

/-- loop.example/g01331/spec.DrawOrderOfGroup -/
def i_spec_DrawOrderOfGroup : FF := ⟨10, [.cell 2 true 2],
  .seq (.ops [
    ⟨some 2, .alloc [.int .i64 0, .int .i64 0], none, 0⟩]) <|
  .seq (.ops [
    ⟨some 4, .mv (.tmp 0), none, 0⟩,
    ⟨some 5, .call k_spec_l01From [(.tmp 4)], none, 0⟩,
    ⟨some 3, .mv (.tmp 5), none, 0⟩]) <|
  .seq (.ops [
    ⟨some 6, .mv (.tmp 3), none, 0⟩,
    ⟨some 7, .mv (.tmp 3), none, 0⟩,
    ⟨some 8, .call k_spec_l05DrawOf [(.tmp 7)], none, 0⟩,
    ⟨some 9, .call k_spec_l05Bad [(.tmp 6), (.tmp 8)], none, 0⟩,
    ⟨none, .store 2 (.tmp 2) (.tmp 9), none, 0⟩]) <|
  .keep [2] <|
  .ret⟩

theorem e_spec_DrawOrderOfGroup : EntOK Try.prog (compD Try.prog) k_spec_DrawOrderOfGroup i_spec_DrawOrderOfGroup.vf :=
  ⟨Try.f27, Try.f27.body.getD .skip, Try.func27, by kernel_rfl, by kernel_rfl, by kernel_rfl, by kernel_rfl, by kernel_rfl⟩

/-- loop.example/g01331/spec.OrderOfGroup -/
def i_spec_OrderOfGroup : FF := ⟨9, [.tmp 2, .tmp 3],
  .seq (.ops [
    ⟨some 1, .box 2 (.tmp 0), none, 0⟩,
    ⟨some 2, .mv (.const (.int .i64 0)), none, 0⟩,
    ⟨some 3, .mv (.const (.int .i64 0)), none, 0⟩]) <|
  .seq (.seq (.ops [
    ⟨some 4, .load true 2 (.tmp 1), none, 0⟩,
    ⟨some 5, .call k_spec_l05Is [(.tmp 4)], none, 0⟩,
    ⟨some 6, .un .not (.tmp 5), none, 0⟩]) <|
  .cond (.tmp 6)
    (.seq (.ops [
      ⟨some 2, .mv (.const (.int .i64 0)), none, 0⟩,
      ⟨some 3, .mv (.const (.int .i64 1)), none, 0⟩]) <|
    .keep [2, 3] <|
    .ret)
    (.skip)) <|
  .seq (.ops [
    ⟨some 7, .load true 2 (.tmp 1), none, 0⟩,
    ⟨some 8, .call k_spec_l05Order [(.tmp 7)], none, 0⟩,
    ⟨some 2, .mv (.tmp 8), none, 0⟩,
    ⟨some 3, .mv (.const (.int .i64 0)), none, 0⟩]) <|
  .keep [2, 3] <|
  .ret⟩

theorem e_spec_OrderOfGroup : EntOK Try.prog (compD Try.prog) k_spec_OrderOfGroup i_spec_OrderOfGroup.vf :=
  ⟨Try.f28, Try.f28.body.getD .skip, Try.func28, by kernel_rfl, by kernel_rfl, by kernel_rfl, by kernel_rfl, by kernel_rfl⟩

/-- loop.example/g01331/spec.l01From -/
def i_spec_l01From_B1 : FC :=
  .seq (.seq (.ops [
    ⟨some 12, .mv (.tmp 4), none, 0⟩,
    ⟨some 13, .mv (.tmp 0), none, 0⟩,
    ⟨some 14, .len (.tmp 13), none, 0⟩,
    ⟨some 15, .bin .lss (.tmp 12) (.tmp 14), none, 0⟩,
    ⟨some 16, .mv (.tmp 15), none, 0⟩,
    ⟨some 17, .mv (.tmp 4), some (16, true), 0⟩,
    ⟨some 18, .bin .lss (.tmp 17) (.const (.int .i64 4096)), some (16, true), 0⟩,
    ⟨some 19, .pick (.tmp 16) (.tmp 18) (.const (.bool false)), none, 0⟩]) <|
  .cond (.tmp 19)
    (.skip)
    (.keep [3] <|
    .exit 0)) <|
  .seq (.block 1 <|
  .dops [
    ⟨some 22, .mv (.tmp 3), none, 0⟩,
    ⟨some 23, .mv (.tmp 3), none, 0⟩,
    ⟨some 24, .nilchk (.tmp 23), none, 0⟩,
    ⟨some 25, .fld 2 (.tmp 24), none, 0⟩,
    ⟨some 26, .load false 1 (.tmp 25), none, 0⟩,
    ⟨some 27, .bin .mul (.tmp 26) (.const (.int .u64 1099511628211)), none, 0⟩,
    ⟨some 28, .mv (.tmp 0), none, 0⟩,
    ⟨some 29, .mv (.tmp 4), none, 0⟩,
    ⟨some 30, .idx 1 (.tmp 28) (.tmp 29), none, 0⟩,
    ⟨some 31, .load false 1 (.tmp 30), none, 0⟩,
    ⟨some 32, .conv .u64 (.tmp 31), none, 0⟩,
    ⟨some 33, .bin .add (.tmp 27) (.tmp 32), none, 0⟩,
    ⟨some 34, .bin .add (.tmp 33) (.const (.int .u64 157)), none, 0⟩,
    ⟨some 35, .nilchk (.tmp 22), none, 0⟩,
    ⟨some 36, .fld 2 (.tmp 35), none, 0⟩,
    ⟨none, .store 1 (.tmp 36) (.tmp 34), none, 0⟩]) <|
  .ops [
    ⟨some 20, .mv (.tmp 4), none, 0⟩,
    ⟨some 21, .bin .add (.tmp 20) (.const (.int .i64 1)), none, 0⟩,
    ⟨some 4, .mv (.tmp 21), none, 0⟩]
def i_spec_l01From : FF := ⟨38, [.tmp 2],
  .seq (.ops [
    ⟨some 2, .mv (.const (.pointer none)), none, 0⟩]) <|
  .seq (.ops [
    ⟨some 5, .mv (.tmp 0), none, 0⟩,
    ⟨some 6, .mv (.tmp 0), none, 0⟩,
    ⟨some 7, .len (.tmp 6), none, 0⟩,
    ⟨some 8, .conv .u64 (.tmp 7), none, 0⟩,
    ⟨some 9, .bin .add (.const (.int .u64 13311)) (.tmp 8), none, 0⟩,
    ⟨some 10, .build [.slice none 0 0, .int .i64 0, .int .u64 0] [(0, 1, (.tmp 5)), (2, 1, (.tmp 9))], none, 0⟩,
    ⟨some 11, .box 3 (.tmp 10), none, 0⟩,
    ⟨some 3, .mv (.tmp 11), none, 0⟩]) <|
  .seq (.seq (.ops [
    ⟨some 4, .mv (.const (.int .i64 0)), none, 0⟩]) <|
  .block 0 <|
  .loop [0, 3, 4] i_spec_l01From_B1) <|
  .seq (.ops [
    ⟨some 37, .mv (.tmp 3), none, 0⟩,
    ⟨some 2, .mv (.tmp 37), none, 0⟩]) <|
  .keep [2] <|
  .ret⟩

theorem e_spec_l01From : EntOK Try.prog (compD Try.prog) k_spec_l01From i_spec_l01From.vf :=
  ⟨Try.f29, Try.f29.body.getD .skip, Try.func29, by kernel_rfl, by kernel_rfl, by kernel_rfl, by kernel_rfl, by kernel_rfl⟩

/-- loop.example/g01331/spec.l05DrawOf -/
def i_spec_l05DrawOf : FF := ⟨27, [.cell 2 true 2],
  .seq (.ops [
    ⟨some 2, .alloc [.int .i64 0, .int .i64 0], none, 0⟩]) <|
  .seq (.seq (.ops [
    ⟨some 3, .mv (.tmp 0), none, 0⟩,
    ⟨some 4, .call k_spec_l01Next [(.tmp 3), (.const (.int .i64 3))], none, 0⟩]) <|
  .block 0 <|
  .seq (.ops [
    ⟨some 6, .bin .eql (.tmp 4) (.const (.int .i64 0)), none, 0⟩,
    ⟨some 5, .mv (.tmp 6), none, 0⟩]) <|
  .cond (.tmp 5)
    (.seq (.ops [
      ⟨some 7, .mv (.tmp 0), none, 0⟩,
      ⟨some 8, .mv (.tmp 0), none, 0⟩,
      ⟨some 9, .buildSl 1 [.int .i64 0, .int .i64 0, .int .i64 0] [(0, 1, (.const (.int .i64 10))), (1, 1, (.const (.int .i64 30))), (2, 1, (.const (.int .i64 62)))] 3, none, 0⟩,
      ⟨some 10, .call k_spec_l01Pick [(.tmp 8), (.tmp 9)], none, 0⟩,
      ⟨some 11, .call k_spec_l01Next [(.tmp 7), (.tmp 10)], none, 0⟩,
      ⟨some 12, .bin .add (.const (.int .i64 1)) (.tmp 11), none, 0⟩,
      ⟨some 13, .build [.int .i64 0, .int .i64 0] [(0, 1, (.const (.int .i64 0))), (1, 1, (.tmp 12))], none, 0⟩,
      ⟨none, .store 2 (.tmp 2) (.tmp 13), none, 0⟩]) <|
    .keep [2] <|
    .ret)
    (.seq (.ops [
      ⟨some 15, .bin .eql (.tmp 4) (.const (.int .i64 1)), none, 0⟩,
      ⟨some 14, .mv (.tmp 15), none, 0⟩]) <|
    .cond (.tmp 14)
      (.seq (.ops [
        ⟨some 16, .mv (.tmp 0), none, 0⟩,
        ⟨some 17, .mv (.tmp 0), none, 0⟩,
        ⟨some 18, .buildSl 1 [.int .i64 0, .int .i64 0, .int .i64 0] [(0, 1, (.const (.int .i64 6))), (1, 1, (.const (.int .i64 15))), (2, 1, (.const (.int .i64 31)))] 3, none, 0⟩,
        ⟨some 19, .call k_spec_l01Pick [(.tmp 17), (.tmp 18)], none, 0⟩,
        ⟨some 20, .call k_spec_l01Next [(.tmp 16), (.tmp 19)], none, 0⟩,
        ⟨some 21, .bin .add (.const (.int .i64 1)) (.tmp 20), none, 0⟩,
        ⟨some 22, .build [.int .i64 0, .int .i64 0] [(0, 1, (.const (.int .i64 1))), (1, 1, (.tmp 21))], none, 0⟩,
        ⟨none, .store 2 (.tmp 2) (.tmp 22), none, 0⟩]) <|
      .keep [2] <|
      .ret)
      (.skip))) <|
  .seq (.ops [
    ⟨some 23, .mv (.tmp 0), none, 0⟩,
    ⟨some 24, .buildSl 1 [.int .i64 0, .int .i64 0, .int .i64 0, .int .i64 0] [(0, 1, (.const (.int .i64 2))), (1, 1, (.const (.int .i64 3))), (2, 1, (.const (.int .i64 5))), (3, 1, (.const (.int .i64 7)))] 4, none, 0⟩,
    ⟨some 25, .call k_spec_l01Pick [(.tmp 23), (.tmp 24)], none, 0⟩,
    ⟨some 26, .build [.int .i64 0, .int .i64 0] [(0, 1, (.const (.int .i64 2))), (1, 1, (.tmp 25))], none, 0⟩,
    ⟨none, .store 2 (.tmp 2) (.tmp 26), none, 0⟩]) <|
  .keep [2] <|
  .ret⟩

theorem e_spec_l05DrawOf : EntOK Try.prog (compD Try.prog) k_spec_l05DrawOf i_spec_l05DrawOf.vf :=
  ⟨Try.f30, Try.f30.body.getD .skip, Try.func30, by kernel_rfl, by kernel_rfl, by kernel_rfl, by kernel_rfl, by kernel_rfl⟩

/-- loop.example/g01331/spec.l01Near -/
def i_spec_l01Near : FF := ⟨17, [.tmp 4],
  .seq (.ops [
    ⟨some 4, .mv (.const (.int .i64 0)), none, 0⟩]) <|
  .seq (.seq (.ops [
    ⟨some 5, .mv (.tmp 0), none, 0⟩,
    ⟨some 6, .call k_spec_l01Next [(.tmp 5), (.const (.int .i64 14))], none, 0⟩,
    ⟨some 7, .bin .eql (.tmp 6) (.const (.int .i64 0)), none, 0⟩]) <|
  .cond (.tmp 7)
    (.seq (.ops [
      ⟨some 8, .mv (.tmp 0), none, 0⟩,
      ⟨some 9, .mv (.tmp 1), none, 0⟩,
      ⟨some 10, .bin .add (.tmp 9) (.const (.int .i64 1)), none, 0⟩,
      ⟨some 11, .buildSl 1 [.int .i64 0, .int .i64 0, .int .i64 0, .int .i64 0] [(0, 1, (.const (.int .i64 (-1)))), (1, 1, (.tmp 10)), (2, 1, (.const (.int .i64 1099511627776))), (3, 1, (.const (.int .i64 (-4611686018427387904))))] 4, none, 0⟩,
      ⟨some 12, .call k_spec_l01Pick [(.tmp 8), (.tmp 11)], none, 0⟩,
      ⟨some 4, .mv (.tmp 12), none, 0⟩]) <|
    .keep [4] <|
    .ret)
    (.skip)) <|
  .seq (.ops [
    ⟨some 13, .mv (.tmp 0), none, 0⟩,
    ⟨some 14, .mv (.tmp 1), none, 0⟩,
    ⟨some 15, .bin .add (.tmp 14) (.const (.int .i64 1)), none, 0⟩,
    ⟨some 16, .call k_spec_l01Next [(.tmp 13), (.tmp 15)], none, 0⟩,
    ⟨some 4, .mv (.tmp 16), none, 0⟩]) <|
  .keep [4] <|
  .ret⟩

theorem e_spec_l01Near : EntOK Try.prog (compD Try.prog) k_spec_l01Near i_spec_l01Near.vf :=
  ⟨Try.f31, Try.f31.body.getD .skip, Try.func31, by kernel_rfl, by kernel_rfl, by kernel_rfl, by kernel_rfl, by kernel_rfl⟩

/-- loop.example/g01331/spec.l05Order -/
def i_spec_l05Order : FF := ⟨20, [.tmp 2],
  .seq (.ops [
    ⟨some 1, .box 2 (.tmp 0), none, 0⟩,
    ⟨some 2, .mv (.const (.int .i64 0)), none, 0⟩]) <|
  .seq (.seq (.ops [
    ⟨some 3, .fld 0 (.tmp 1), none, 0⟩,
    ⟨some 4, .load false 1 (.tmp 3), none, 0⟩]) <|
  .block 0 <|
  .seq (.ops [
    ⟨some 6, .bin .eql (.tmp 4) (.const (.int .i64 1)), none, 0⟩,
    ⟨some 5, .mv (.tmp 6), none, 0⟩]) <|
  .cond (.tmp 5)
    (.seq (.ops [
      ⟨some 7, .fld 1 (.tmp 1), none, 0⟩,
      ⟨some 8, .load false 1 (.tmp 7), none, 0⟩,
      ⟨some 9, .bin .mul (.const (.int .i64 2)) (.tmp 8), none, 0⟩,
      ⟨some 2, .mv (.tmp 9), none, 0⟩]) <|
    .keep [2] <|
    .ret)
    (.seq (.ops [
      ⟨some 11, .bin .eql (.tmp 4) (.const (.int .i64 2)), none, 0⟩,
      ⟨some 10, .mv (.tmp 11), none, 0⟩]) <|
    .cond (.tmp 10)
      (.seq (.ops [
        ⟨some 12, .fld 1 (.tmp 1), none, 0⟩,
        ⟨some 13, .load false 1 (.tmp 12), none, 0⟩,
        ⟨some 14, .fld 1 (.tmp 1), none, 0⟩,
        ⟨some 15, .load false 1 (.tmp 14), none, 0⟩,
        ⟨some 16, .bin .sub (.tmp 15) (.const (.int .i64 1)), none, 0⟩,
        ⟨some 17, .bin .mul (.tmp 13) (.tmp 16), none, 0⟩,
        ⟨some 2, .mv (.tmp 17), none, 0⟩]) <|
      .keep [2] <|
      .ret)
      (.skip))) <|
  .seq (.ops [
    ⟨some 18, .fld 1 (.tmp 1), none, 0⟩,
    ⟨some 19, .load false 1 (.tmp 18), none, 0⟩,
    ⟨some 2, .mv (.tmp 19), none, 0⟩]) <|
  .keep [2] <|
  .ret⟩

theorem e_spec_l05Order : EntOK Try.prog (compD Try.prog) k_spec_l05Order i_spec_l05Order.vf :=
  ⟨Try.f32, Try.f32.body.getD .skip, Try.func32, by kernel_rfl, by kernel_rfl, by kernel_rfl, by kernel_rfl, by kernel_rfl⟩

/-- loop.example/g01331/spec.l05Bad -/
def i_spec_l05Bad : FF := ⟨20, [.cell 4 true 2],
  .seq (.ops [
    ⟨some 3, .box 2 (.tmp 1), none, 0⟩,
    ⟨some 4, .alloc [.int .i64 0, .int .i64 0], none, 0⟩]) <|
  .seq (.seq (.ops [
    ⟨some 5, .mv (.tmp 0), none, 0⟩,
    ⟨some 6, .call k_spec_l01Next [(.tmp 5), (.const (.int .i64 40))], none, 0⟩]) <|
  .block 0 <|
  .seq (.ops [
    ⟨some 8, .bin .eql (.tmp 6) (.const (.int .i64 0)), none, 0⟩,
    ⟨some 7, .mv (.tmp 8), none, 0⟩]) <|
  .cond (.tmp 7)
    (.ops [
      ⟨some 9, .mv (.tmp 0), none, 0⟩,
      ⟨some 10, .buildSl 1 [.int .i64 0, .int .i64 0] [(0, 1, (.const (.int .i64 (-1)))), (1, 1, (.const (.int .i64 3)))] 2, none, 0⟩,
      ⟨some 11, .call k_spec_l01Pick [(.tmp 9), (.tmp 10)], none, 0⟩,
      ⟨some 12, .fld 0 (.tmp 3), none, 0⟩,
      ⟨none, .store 1 (.tmp 12) (.tmp 11), none, 0⟩])
    (.seq (.ops [
      ⟨some 14, .bin .eql (.tmp 6) (.const (.int .i64 1)), none, 0⟩,
      ⟨some 13, .mv (.tmp 14), none, 0⟩]) <|
    .cond (.tmp 13)
      (.ops [
        ⟨some 15, .mv (.tmp 0), none, 0⟩,
        ⟨some 16, .buildSl 1 [.int .i64 0, .int .i64 0, .int .i64 0, .int .i64 0] [(0, 1, (.const (.int .i64 0))), (1, 1, (.const (.int .i64 63))), (2, 1, (.const (.int .i64 4))), (3, 1, (.const (.int .i64 1099511627776)))] 4, none, 0⟩,
        ⟨some 17, .call k_spec_l01Pick [(.tmp 15), (.tmp 16)], none, 0⟩,
        ⟨some 18, .fld 1 (.tmp 3), none, 0⟩,
        ⟨none, .store 1 (.tmp 18) (.tmp 17), none, 0⟩])
      (.skip))) <|
  .seq (.ops [
    ⟨some 19, .load true 2 (.tmp 3), none, 0⟩,
    ⟨none, .store 2 (.tmp 4) (.tmp 19), none, 0⟩]) <|
  .keep [4] <|
  .ret⟩

theorem e_spec_l05Bad : EntOK Try.prog (compD Try.prog) k_spec_l05Bad i_spec_l05Bad.vf :=
  ⟨Try.f33, Try.f33.body.getD .skip, Try.func33, by kernel_rfl, by kernel_rfl, by kernel_rfl, by kernel_rfl, by kernel_rfl⟩

/-- loop.example/g01331/impl.groupCode -/
def i_impl_groupCode_B1 : FC :=
  .seq (.ops [
    ⟨some 13, .bin .lss (.tmp 12) (.tmp 11), none, 0⟩]) <|
  .seq (.cond (.tmp 13)
    (.skip)
    (.keep [] <|
    .exit 0)) <|
  .seq (.block 1 <|
  .seq (.ops [
    ⟨some 14, .idx 1 (.tmp 10) (.tmp 12), none, 0⟩,
    ⟨some 15, .load false 1 (.tmp 14), none, 0⟩,
    ⟨some 6, .mv (.tmp 15), none, 0⟩]) <|
  .seq (.ops [
    ⟨some 16, .mv (.tmp 6), none, 0⟩,
    ⟨some 17, .bin .lss (.tmp 16) (.const (.int .i64 0)), none, 0⟩,
    ⟨some 18, .mv (.tmp 17), none, 0⟩,
    ⟨some 19, .mv (.tmp 6), some (18, false), 0⟩,
    ⟨some 20, .load true 2 (.tmp 2), some (18, false), 0⟩,
    ⟨some 21, .call k_impl_Group_order [(.tmp 20)], some (18, false), 0⟩,
    ⟨some 22, .bin .geq (.tmp 19) (.tmp 21), some (18, false), 0⟩,
    ⟨some 23, .pick (.tmp 18) (.const (.bool true)) (.tmp 22), none, 0⟩]) <|
  .cond (.tmp 23)
    (.seq (.ops [
      ⟨some 4, .mv (.const (.int .i64 2)), none, 0⟩]) <|
    .keep [4] <|
    .ret)
    (.skip)) <|
  .ops [
    ⟨some 24, .bin .add (.tmp 12) (.const (.int .i64 1)), none, 0⟩,
    ⟨some 12, .mv (.tmp 24), none, 0⟩]
def i_impl_groupCode : FF := ⟨25, [.tmp 4],
  .seq (.ops [
    ⟨some 2, .box 2 (.tmp 0), none, 0⟩,
    ⟨some 4, .mv (.const (.int .i64 0)), none, 0⟩]) <|
  .seq (.seq (.ops [
    ⟨some 7, .load true 2 (.tmp 2), none, 0⟩,
    ⟨some 8, .call k_impl_IsGroup [(.tmp 7)], none, 0⟩,
    ⟨some 9, .un .not (.tmp 8), none, 0⟩]) <|
  .cond (.tmp 9)
    (.seq (.ops [
      ⟨some 4, .mv (.const (.int .i64 1)), none, 0⟩]) <|
    .keep [4] <|
    .ret)
    (.skip)) <|
  .seq (.seq (.ops [
    ⟨some 10, .mv (.tmp 1), none, 0⟩,
    ⟨some 11, .len (.tmp 10), none, 0⟩,
    ⟨some 12, .mv (.const (.int .i64 0)), none, 0⟩]) <|
  .block 0 <|
  .loop [2, 10, 11, 12] i_impl_groupCode_B1) <|
  .seq (.ops [
    ⟨some 4, .mv (.const (.int .i64 0)), none, 0⟩]) <|
  .keep [4] <|
  .ret⟩

theorem e_impl_groupCode : EntOK Try.prog (compD Try.prog) k_impl_groupCode i_impl_groupCode.vf :=
  ⟨Try.f34, Try.f34.body.getD .skip, Try.func34, by kernel_rfl, by kernel_rfl, by kernel_rfl, by kernel_rfl, by kernel_rfl⟩

/-- (loop.example/g01331/impl.Group).product -/
def i_impl_Group_product : FF := ⟨98, [.tmp 6],
  .seq (.ops [
    ⟨some 3, .box 2 (.tmp 0), none, 0⟩,
    ⟨some 6, .mv (.const (.int .i64 0)), none, 0⟩]) <|
  .seq (.ops [
    ⟨some 12, .fld 1 (.tmp 3), none, 0⟩,
    ⟨some 13, .load false 1 (.tmp 12), none, 0⟩,
    ⟨some 7, .mv (.tmp 13), none, 0⟩]) <|
  .seq (.seq (.ops [
    ⟨some 14, .fld 0 (.tmp 3), none, 0⟩,
    ⟨some 15, .load false 1 (.tmp 14), none, 0⟩]) <|
  .block 0 <|
  .seq (.ops [
    ⟨some 17, .bin .eql (.tmp 15) (.const (.int .i64 0)), none, 0⟩,
    ⟨some 16, .mv (.tmp 17), none, 0⟩]) <|
  .cond (.tmp 16)
    (.seq (.ops [
      ⟨some 18, .mv (.tmp 1), none, 0⟩,
      ⟨some 19, .mv (.tmp 2), none, 0⟩,
      ⟨some 20, .bin .add (.tmp 18) (.tmp 19), none, 0⟩,
      ⟨some 21, .mv (.tmp 7), none, 0⟩,
      ⟨some 22, .bin .rem (.tmp 20) (.tmp 21), none, 0⟩,
      ⟨some 6, .mv (.tmp 22), none, 0⟩]) <|
    .keep [6] <|
    .ret)
    (.seq (.ops [
      ⟨some 24, .bin .eql (.tmp 15) (.const (.int .i64 1)), none, 0⟩,
      ⟨some 23, .mv (.tmp 24), none, 0⟩]) <|
    .cond (.tmp 23)
      (.seq (.seq (.ops [
        ⟨some 25, .mv (.tmp 1), none, 0⟩,
        ⟨some 26, .mv (.tmp 7), none, 0⟩,
        ⟨some 27, .bin .lss (.tmp 25) (.tmp 26), none, 0⟩]) <|
      .cond (.tmp 27)
        (.seq (.dops [
          ⟨some 28, .mv (.tmp 1), none, 0⟩,
          ⟨some 29, .mv (.tmp 7), none, 0⟩,
          ⟨some 30, .bin .quo (.tmp 28) (.tmp 29), none, 0⟩,
          ⟨some 31, .mv (.tmp 2), none, 0⟩,
          ⟨some 32, .mv (.tmp 7), none, 0⟩,
          ⟨some 33, .bin .quo (.tmp 31) (.tmp 32), none, 0⟩,
          ⟨some 34, .bin .add (.tmp 30) (.tmp 33), none, 0⟩,
          ⟨some 35, .bin .rem (.tmp 34) (.const (.int .i64 2)), none, 0⟩,
          ⟨some 36, .mv (.tmp 7), none, 0⟩,
          ⟨some 37, .bin .mul (.tmp 35) (.tmp 36), none, 0⟩,
          ⟨some 38, .mv (.tmp 1), none, 0⟩,
          ⟨some 39, .mv (.tmp 2), none, 0⟩,
          ⟨some 40, .mv (.tmp 7), none, 0⟩,
          ⟨some 41, .bin .rem (.tmp 39) (.tmp 40), none, 0⟩,
          ⟨some 42, .bin .add (.tmp 38) (.tmp 41), none, 0⟩,
          ⟨some 43, .mv (.tmp 7), none, 0⟩,
          ⟨some 44, .bin .rem (.tmp 42) (.tmp 43), none, 0⟩,
          ⟨some 45, .bin .add (.tmp 37) (.tmp 44), none, 0⟩,
          ⟨some 6, .mv (.tmp 45), none, 0⟩]) <|
        .keep [6] <|
        .ret)
        (.skip)) <|
      .seq (.dops [
        ⟨some 46, .mv (.tmp 1), none, 0⟩,
        ⟨some 47, .mv (.tmp 7), none, 0⟩,
        ⟨some 48, .bin .quo (.tmp 46) (.tmp 47), none, 0⟩,
        ⟨some 49, .mv (.tmp 2), none, 0⟩,
        ⟨some 50, .mv (.tmp 7), none, 0⟩,
        ⟨some 51, .bin .quo (.tmp 49) (.tmp 50), none, 0⟩,
        ⟨some 52, .bin .add (.tmp 48) (.tmp 51), none, 0⟩,
        ⟨some 53, .bin .rem (.tmp 52) (.const (.int .i64 2)), none, 0⟩,
        ⟨some 54, .mv (.tmp 7), none, 0⟩,
        ⟨some 55, .bin .mul (.tmp 53) (.tmp 54), none, 0⟩,
        ⟨some 56, .mv (.tmp 1), none, 0⟩,
        ⟨some 57, .mv (.tmp 7), none, 0⟩,
        ⟨some 58, .bin .rem (.tmp 56) (.tmp 57), none, 0⟩,
        ⟨some 59, .mv (.tmp 2), none, 0⟩,
        ⟨some 60, .mv (.tmp 7), none, 0⟩,
        ⟨some 61, .bin .rem (.tmp 59) (.tmp 60), none, 0⟩,
        ⟨some 62, .bin .sub (.tmp 58) (.tmp 61), none, 0⟩,
        ⟨some 63, .mv (.tmp 7), none, 0⟩,
        ⟨some 64, .bin .add (.tmp 62) (.tmp 63), none, 0⟩,
        ⟨some 65, .mv (.tmp 7), none, 0⟩,
        ⟨some 66, .bin .rem (.tmp 64) (.tmp 65), none, 0⟩,
        ⟨some 67, .bin .add (.tmp 55) (.tmp 66), none, 0⟩,
        ⟨some 6, .mv (.tmp 67), none, 0⟩]) <|
      .keep [6] <|
      .ret)
      (.skip))) <|
  .seq (.dops [
    ⟨some 68, .mv (.tmp 1), none, 0⟩,
    ⟨some 69, .mv (.tmp 7), none, 0⟩,
    ⟨some 70, .bin .quo (.tmp 68) (.tmp 69), none, 0⟩,
    ⟨some 71, .bin .add (.tmp 70) (.const (.int .i64 1)), none, 0⟩,
    ⟨some 72, .mv (.tmp 1), none, 0⟩,
    ⟨some 73, .mv (.tmp 7), none, 0⟩,
    ⟨some 74, .bin .rem (.tmp 72) (.tmp 73), none, 0⟩,
    ⟨some 75, .mv (.tmp 2), none, 0⟩,
    ⟨some 76, .mv (.tmp 7), none, 0⟩,
    ⟨some 77, .bin .quo (.tmp 75) (.tmp 76), none, 0⟩,
    ⟨some 78, .bin .add (.tmp 77) (.const (.int .i64 1)), none, 0⟩,
    ⟨some 79, .mv (.tmp 2), none, 0⟩,
    ⟨some 80, .mv (.tmp 7), none, 0⟩,
    ⟨some 81, .bin .rem (.tmp 79) (.tmp 80), none, 0⟩,
    ⟨some 8, .mv (.tmp 71), none, 0⟩,
    ⟨some 9, .mv (.tmp 74), none, 0⟩,
    ⟨some 10, .mv (.tmp 78), none, 0⟩,
    ⟨some 11, .mv (.tmp 81), none, 0⟩]) <|
  .seq (.dops [
    ⟨some 82, .mv (.tmp 8), none, 0⟩,
    ⟨some 83, .mv (.tmp 10), none, 0⟩,
    ⟨some 84, .bin .mul (.tmp 82) (.tmp 83), none, 0⟩,
    ⟨some 85, .mv (.tmp 7), none, 0⟩,
    ⟨some 86, .bin .rem (.tmp 84) (.tmp 85), none, 0⟩,
    ⟨some 87, .bin .sub (.tmp 86) (.const (.int .i64 1)), none, 0⟩,
    ⟨some 88, .mv (.tmp 7), none, 0⟩,
    ⟨some 89, .bin .mul (.tmp 87) (.tmp 88), none, 0⟩,
    ⟨some 90, .mv (.tmp 8), none, 0⟩,
    ⟨some 91, .mv (.tmp 11), none, 0⟩,
    ⟨some 92, .bin .mul (.tmp 90) (.tmp 91), none, 0⟩,
    ⟨some 93, .mv (.tmp 9), none, 0⟩,
    ⟨some 94, .bin .add (.tmp 92) (.tmp 93), none, 0⟩,
    ⟨some 95, .mv (.tmp 7), none, 0⟩,
    ⟨some 96, .bin .rem (.tmp 94) (.tmp 95), none, 0⟩,
    ⟨some 97, .bin .add (.tmp 89) (.tmp 96), none, 0⟩,
    ⟨some 6, .mv (.tmp 97), none, 0⟩]) <|
  .keep [6] <|
  .ret⟩

theorem e_impl_Group_product : EntOK Try.prog (compD Try.prog) k_impl_Group_product i_impl_Group_product.vf :=
  ⟨Try.f35, Try.f35.body.getD .skip, Try.func35, by kernel_rfl, by kernel_rfl, by kernel_rfl, by kernel_rfl, by kernel_rfl⟩

/-- loop.example/g01331/spec.l05Elements -/
def i_spec_l05Elements_B1 : FC :=
  .seq (.seq (.ops [
    ⟨some 9, .mv (.tmp 5), none, 0⟩,
    ⟨some 10, .mv (.tmp 1), none, 0⟩,
    ⟨some 11, .len (.tmp 10), none, 0⟩,
    ⟨some 12, .bin .lss (.tmp 9) (.tmp 11), none, 0⟩]) <|
  .cond (.tmp 12)
    (.skip)
    (.keep [] <|
    .exit 0)) <|
  .seq (.block 1 <|
  .seq (.dops [
    ⟨some 19, .load true 2 (.tmp 2), none, 0⟩,
    ⟨some 20, .call k_spec_l05Order [(.tmp 19)], none, 0⟩,
    ⟨some 15, .mv (.tmp 1), none, 1⟩,
    ⟨some 16, .mv (.tmp 5), none, 1⟩,
    ⟨some 17, .idx 1 (.tmp 15) (.tmp 16), none, 1⟩,
    ⟨some 18, .load false 1 (.tmp 17), none, 1⟩,
    ⟨some 21, .bin .sub (.tmp 20) (.const (.int .i64 1)), none, 0⟩,
    ⟨some 22, .call k_spec_l01In [(.tmp 18), (.const (.int .i64 0)), (.tmp 21)], none, 0⟩,
    ⟨some 23, .un .not (.tmp 22), none, 0⟩]) <|
  .cond (.tmp 23)
    (.seq (.ops [
      ⟨some 4, .mv (.const (.int .i64 2)), none, 0⟩]) <|
    .keep [4] <|
    .ret)
    (.skip)) <|
  .ops [
    ⟨some 13, .mv (.tmp 5), none, 0⟩,
    ⟨some 14, .bin .add (.tmp 13) (.const (.int .i64 1)), none, 0⟩,
    ⟨some 5, .mv (.tmp 14), none, 0⟩]
def i_spec_l05Elements : FF := ⟨24, [.tmp 4],
  .seq (.ops [
    ⟨some 2, .box 2 (.tmp 0), none, 0⟩,
    ⟨some 4, .mv (.const (.int .i64 0)), none, 0⟩]) <|
  .seq (.seq (.ops [
    ⟨some 6, .load true 2 (.tmp 2), none, 0⟩,
    ⟨some 7, .call k_spec_l05Is [(.tmp 6)], none, 0⟩,
    ⟨some 8, .un .not (.tmp 7), none, 0⟩]) <|
  .cond (.tmp 8)
    (.seq (.ops [
      ⟨some 4, .mv (.const (.int .i64 1)), none, 0⟩]) <|
    .keep [4] <|
    .ret)
    (.skip)) <|
  .seq (.seq (.ops [
    ⟨some 5, .mv (.const (.int .i64 0)), none, 0⟩]) <|
  .block 0 <|
  .loop [1, 2, 5] i_spec_l05Elements_B1) <|
  .seq (.ops [
    ⟨some 4, .mv (.const (.int .i64 0)), none, 0⟩]) <|
  .keep [4] <|
  .ret⟩

theorem e_spec_l05Elements : EntOK Try.prog (compD Try.prog) k_spec_l05Elements i_spec_l05Elements.vf :=
  ⟨Try.f36, Try.f36.body.getD .skip, Try.func36, by kernel_rfl, by kernel_rfl, by kernel_rfl, by kernel_rfl, by kernel_rfl⟩

/-- loop.example/g01331/spec.l05Times -/
def i_spec_l05Times : FF := ⟨88, [.tmp 6],
  .seq (.ops [
    ⟨some 3, .box 2 (.tmp 0), none, 0⟩,
    ⟨some 6, .mv (.const (.int .i64 0)), none, 0⟩]) <|
  .seq (.ops [
    ⟨some 16, .fld 1 (.tmp 3), none, 0⟩,
    ⟨some 17, .load false 1 (.tmp 16), none, 0⟩,
    ⟨some 7, .mv (.tmp 17), none, 0⟩]) <|
  .seq (.seq (.ops [
    ⟨some 18, .fld 0 (.tmp 3), none, 0⟩,
    ⟨some 19, .load false 1 (.tmp 18), none, 0⟩]) <|
  .block 0 <|
  .seq (.ops [
    ⟨some 21, .bin .eql (.tmp 19) (.const (.int .i64 1)), none, 0⟩,
    ⟨some 20, .mv (.tmp 21), none, 0⟩]) <|
  .cond (.tmp 20)
    (.seq (.dops [
      ⟨some 22, .mv (.tmp 1), none, 0⟩,
      ⟨some 23, .mv (.tmp 7), none, 0⟩,
      ⟨some 24, .bin .quo (.tmp 22) (.tmp 23), none, 0⟩,
      ⟨some 25, .mv (.tmp 1), none, 0⟩,
      ⟨some 26, .mv (.tmp 7), none, 0⟩,
      ⟨some 27, .bin .rem (.tmp 25) (.tmp 26), none, 0⟩,
      ⟨some 28, .mv (.tmp 2), none, 0⟩,
      ⟨some 29, .mv (.tmp 7), none, 0⟩,
      ⟨some 30, .bin .quo (.tmp 28) (.tmp 29), none, 0⟩,
      ⟨some 31, .mv (.tmp 2), none, 0⟩,
      ⟨some 32, .mv (.tmp 7), none, 0⟩,
      ⟨some 33, .bin .rem (.tmp 31) (.tmp 32), none, 0⟩,
      ⟨some 8, .mv (.tmp 24), none, 0⟩,
      ⟨some 9, .mv (.tmp 27), none, 0⟩,
      ⟨some 10, .mv (.tmp 30), none, 0⟩,
      ⟨some 11, .mv (.tmp 33), none, 0⟩]) <|
    .seq (.seq (.ops [
      ⟨some 34, .mv (.tmp 8), none, 0⟩,
      ⟨some 35, .bin .eql (.tmp 34) (.const (.int .i64 1)), none, 0⟩]) <|
    .cond (.tmp 35)
      (.ops [
        ⟨some 36, .mv (.tmp 7), none, 0⟩,
        ⟨some 37, .mv (.tmp 11), none, 0⟩,
        ⟨some 38, .bin .sub (.tmp 36) (.tmp 37), none, 0⟩,
        ⟨some 11, .mv (.tmp 38), none, 0⟩])
      (.skip)) <|
    .seq (.ops [
      ⟨some 39, .mv (.tmp 8), none, 0⟩,
      ⟨some 40, .mv (.tmp 10), none, 0⟩,
      ⟨some 41, .bin .add (.tmp 39) (.tmp 40), none, 0⟩,
      ⟨some 42, .bin .rem (.tmp 41) (.const (.int .i64 2)), none, 0⟩,
      ⟨some 43, .mv (.tmp 7), none, 0⟩,
      ⟨some 44, .bin .mul (.tmp 42) (.tmp 43), none, 0⟩,
      ⟨some 45, .mv (.tmp 9), none, 0⟩,
      ⟨some 46, .mv (.tmp 11), none, 0⟩,
      ⟨some 47, .bin .add (.tmp 45) (.tmp 46), none, 0⟩,
      ⟨some 48, .mv (.tmp 7), none, 0⟩,
      ⟨some 49, .bin .rem (.tmp 47) (.tmp 48), none, 0⟩,
      ⟨some 50, .bin .add (.tmp 44) (.tmp 49), none, 0⟩,
      ⟨some 6, .mv (.tmp 50), none, 0⟩]) <|
    .keep [6] <|
    .ret)
    (.seq (.ops [
      ⟨some 52, .bin .eql (.tmp 19) (.const (.int .i64 2)), none, 0⟩,
      ⟨some 51, .mv (.tmp 52), none, 0⟩]) <|
    .cond (.tmp 51)
      (.seq (.dops [
        ⟨some 53, .mv (.tmp 1), none, 0⟩,
        ⟨some 54, .mv (.tmp 7), none, 0⟩,
        ⟨some 55, .bin .quo (.tmp 53) (.tmp 54), none, 0⟩,
        ⟨some 56, .bin .add (.tmp 55) (.const (.int .i64 1)), none, 0⟩,
        ⟨some 57, .mv (.tmp 1), none, 0⟩,
        ⟨some 58, .mv (.tmp 7), none, 0⟩,
        ⟨some 59, .bin .rem (.tmp 57) (.tmp 58), none, 0⟩,
        ⟨some 60, .mv (.tmp 2), none, 0⟩,
        ⟨some 61, .mv (.tmp 7), none, 0⟩,
        ⟨some 62, .bin .quo (.tmp 60) (.tmp 61), none, 0⟩,
        ⟨some 63, .bin .add (.tmp 62) (.const (.int .i64 1)), none, 0⟩,
        ⟨some 64, .mv (.tmp 2), none, 0⟩,
        ⟨some 65, .mv (.tmp 7), none, 0⟩,
        ⟨some 66, .bin .rem (.tmp 64) (.tmp 65), none, 0⟩,
        ⟨some 12, .mv (.tmp 56), none, 0⟩,
        ⟨some 13, .mv (.tmp 59), none, 0⟩,
        ⟨some 14, .mv (.tmp 63), none, 0⟩,
        ⟨some 15, .mv (.tmp 66), none, 0⟩]) <|
      .seq (.dops [
        ⟨some 67, .mv (.tmp 12), none, 0⟩,
        ⟨some 68, .mv (.tmp 14), none, 0⟩,
        ⟨some 69, .bin .mul (.tmp 67) (.tmp 68), none, 0⟩,
        ⟨some 70, .mv (.tmp 7), none, 0⟩,
        ⟨some 71, .bin .rem (.tmp 69) (.tmp 70), none, 0⟩,
        ⟨some 72, .bin .sub (.tmp 71) (.const (.int .i64 1)), none, 0⟩,
        ⟨some 73, .mv (.tmp 7), none, 0⟩,
        ⟨some 74, .bin .mul (.tmp 72) (.tmp 73), none, 0⟩,
        ⟨some 75, .mv (.tmp 12), none, 0⟩,
        ⟨some 76, .mv (.tmp 15), none, 0⟩,
        ⟨some 77, .bin .mul (.tmp 75) (.tmp 76), none, 0⟩,
        ⟨some 78, .mv (.tmp 13), none, 0⟩,
        ⟨some 79, .bin .add (.tmp 77) (.tmp 78), none, 0⟩,
        ⟨some 80, .mv (.tmp 7), none, 0⟩,
        ⟨some 81, .bin .rem (.tmp 79) (.tmp 80), none, 0⟩,
        ⟨some 82, .bin .add (.tmp 74) (.tmp 81), none, 0⟩,
        ⟨some 6, .mv (.tmp 82), none, 0⟩]) <|
      .keep [6] <|
      .ret)
      (.skip))) <|
  .seq (.ops [
    ⟨some 83, .mv (.tmp 1), none, 0⟩,
    ⟨some 84, .mv (.tmp 2), none, 0⟩,
    ⟨some 85, .bin .add (.tmp 83) (.tmp 84), none, 0⟩,
    ⟨some 86, .mv (.tmp 7), none, 0⟩,
    ⟨some 87, .bin .rem (.tmp 85) (.tmp 86), none, 0⟩,
    ⟨some 6, .mv (.tmp 87), none, 0⟩]) <|
  .keep [6] <|
  .ret⟩

theorem e_spec_l05Times : EntOK Try.prog (compD Try.prog) k_spec_l05Times i_spec_l05Times.vf :=
  ⟨Try.f37, Try.f37.body.getD .skip, Try.func37, by kernel_rfl, by kernel_rfl, by kernel_rfl, by kernel_rfl, by kernel_rfl⟩

/-- loop.example/g01331/impl.isPrime -/
def i_impl_isPrime : FF := ⟨17, [.tmp 2],
  .seq (.ops [
    ⟨some 2, .mv (.const (.bool false)), none, 0⟩]) <|
  .seq (.ops [
    ⟨some 3, .mv (.tmp 0), none, 0⟩,
    ⟨some 4, .bin .eql (.tmp 3) (.const (.int .i64 2)), none, 0⟩,
    ⟨some 5, .mv (.tmp 4), none, 0⟩,
    ⟨some 6, .mv (.tmp 0), some (5, false), 0⟩,
    ⟨some 7, .bin .eql (.tmp 6) (.const (.int .i64 3)), some (5, false), 0⟩,
    ⟨some 8, .pick (.tmp 5) (.const (.bool true)) (.tmp 7), none, 0⟩,
    ⟨some 9, .mv (.tmp 8), none, 0⟩,
    ⟨some 10, .mv (.tmp 0), some (9, false), 0⟩,
    ⟨some 11, .bin .eql (.tmp 10) (.const (.int .i64 5)), some (9, false), 0⟩,
    ⟨some 12, .pick (.tmp 9) (.const (.bool true)) (.tmp 11), none, 0⟩,
    ⟨some 13, .mv (.tmp 12), none, 0⟩,
    ⟨some 14, .mv (.tmp 0), some (13, false), 0⟩,
    ⟨some 15, .bin .eql (.tmp 14) (.const (.int .i64 7)), some (13, false), 0⟩,
    ⟨some 16, .pick (.tmp 13) (.const (.bool true)) (.tmp 15), none, 0⟩,
    ⟨some 2, .mv (.tmp 16), none, 0⟩]) <|
  .keep [2] <|
  .ret⟩

theorem e_impl_isPrime : EntOK Try.prog (compD Try.prog) k_impl_isPrime i_impl_isPrime.vf :=
  ⟨Try.f38, Try.f38.body.getD .skip, Try.func38, by kernel_rfl, by kernel_rfl, by kernel_rfl, by kernel_rfl, by kernel_rfl⟩

/-- loop.example/g01331/spec.l05Is -/
def i_spec_l05Is : FF := ⟨20, [.tmp 2],
  .seq (.ops [
    ⟨some 1, .box 2 (.tmp 0), none, 0⟩,
    ⟨some 2, .mv (.const (.bool false)), none, 0⟩]) <|
  .seq (.seq (.ops [
    ⟨some 3, .fld 0 (.tmp 1), none, 0⟩,
    ⟨some 4, .load false 1 (.tmp 3), none, 0⟩]) <|
  .block 0 <|
  .seq (.ops [
    ⟨some 6, .bin .eql (.tmp 4) (.const (.int .i64 0)), none, 0⟩,
    ⟨some 5, .mv (.tmp 6), none, 0⟩]) <|
  .cond (.tmp 5)
    (.seq (.ops [
      ⟨some 7, .fld 1 (.tmp 1), none, 0⟩,
      ⟨some 8, .load false 1 (.tmp 7), none, 0⟩,
      ⟨some 9, .call k_spec_l01In [(.tmp 8), (.const (.int .i64 1)), (.const (.int .i64 62))], none, 0⟩,
      ⟨some 2, .mv (.tmp 9), none, 0⟩]) <|
    .keep [2] <|
    .ret)
    (.seq (.ops [
      ⟨some 11, .bin .eql (.tmp 4) (.const (.int .i64 1)), none, 0⟩,
      ⟨some 10, .mv (.tmp 11), none, 0⟩]) <|
    .cond (.tmp 10)
      (.seq (.ops [
        ⟨some 12, .fld 1 (.tmp 1), none, 0⟩,
        ⟨some 13, .load false 1 (.tmp 12), none, 0⟩,
        ⟨some 14, .call k_spec_l01In [(.tmp 13), (.const (.int .i64 1)), (.const (.int .i64 31))], none, 0⟩,
        ⟨some 2, .mv (.tmp 14), none, 0⟩]) <|
      .keep [2] <|
      .ret)
      (.seq (.ops [
        ⟨some 16, .bin .eql (.tmp 4) (.const (.int .i64 2)), none, 0⟩,
        ⟨some 15, .mv (.tmp 16), none, 0⟩]) <|
      .cond (.tmp 15)
        (.seq (.ops [
          ⟨some 17, .fld 1 (.tmp 1), none, 0⟩,
          ⟨some 18, .load false 1 (.tmp 17), none, 0⟩,
          ⟨some 19, .call k_spec_l05Prime [(.tmp 18)], none, 0⟩,
          ⟨some 2, .mv (.tmp 19), none, 0⟩]) <|
        .keep [2] <|
        .ret)
        (.skip)))) <|
  .seq (.ops [
    ⟨some 2, .mv (.const (.bool false)), none, 0⟩]) <|
  .keep [2] <|
  .ret⟩

theorem e_spec_l05Is : EntOK Try.prog (compD Try.prog) k_spec_l05Is i_spec_l05Is.vf :=
  ⟨Try.f39, Try.f39.body.getD .skip, Try.func39, by kernel_rfl, by kernel_rfl, by kernel_rfl, by kernel_rfl, by kernel_rfl⟩

/-- (loop.example/g01331/impl.Group).inverse -/
def i_impl_Group_inverse_B1 : FC :=
  .seq (.seq (.ops [
    ⟨some 6, .load true 2 (.tmp 2), none, 0⟩,
    ⟨some 7, .mv (.tmp 1), none, 0⟩,
    ⟨some 8, .mv (.tmp 5), none, 0⟩,
    ⟨some 9, .call k_impl_Group_product [(.tmp 6), (.tmp 7), (.tmp 8)], none, 0⟩,
    ⟨some 10, .bin .neq (.tmp 9) (.const (.int .i64 0)), none, 0⟩]) <|
  .cond (.tmp 10)
    (.skip)
    (.keep [5] <|
    .exit 0)) <|
  .block 1 <|
  .ops [
    ⟨some 11, .mv (.tmp 5), none, 0⟩,
    ⟨some 12, .bin .add (.tmp 11) (.const (.int .i64 1)), none, 0⟩,
    ⟨some 5, .mv (.tmp 12), none, 0⟩]
def i_impl_Group_inverse : FF := ⟨14, [.tmp 4],
  .seq (.ops [
    ⟨some 2, .box 2 (.tmp 0), none, 0⟩,
    ⟨some 4, .mv (.const (.int .i64 0)), none, 0⟩]) <|
  .seq (.ops [
    ⟨some 5, .mv (.const (.int .i64 0)), none, 0⟩]) <|
  .seq (.block 0 <|
  .loop [1, 2, 5] i_impl_Group_inverse_B1) <|
  .seq (.ops [
    ⟨some 13, .mv (.tmp 5), none, 0⟩,
    ⟨some 4, .mv (.tmp 13), none, 0⟩]) <|
  .keep [4] <|
  .ret⟩

theorem e_impl_Group_inverse : EntOK Try.prog (compD Try.prog) k_impl_Group_inverse i_impl_Group_inverse.vf :=
  ⟨Try.f40, Try.f40.body.getD .skip, Try.func40, by kernel_rfl, by kernel_rfl, by kernel_rfl, by kernel_rfl, by kernel_rfl⟩

/-- (loop.example/g01331/impl.Group).order -/
def i_impl_Group_order : FF := ⟨20, [.tmp 2],
  .seq (.ops [
    ⟨some 1, .box 2 (.tmp 0), none, 0⟩,
    ⟨some 2, .mv (.const (.int .i64 0)), none, 0⟩]) <|
  .seq (.seq (.ops [
    ⟨some 3, .fld 0 (.tmp 1), none, 0⟩,
    ⟨some 4, .load false 1 (.tmp 3), none, 0⟩]) <|
  .block 0 <|
  .seq (.ops [
    ⟨some 6, .bin .eql (.tmp 4) (.const (.int .i64 0)), none, 0⟩,
    ⟨some 5, .mv (.tmp 6), none, 0⟩]) <|
  .cond (.tmp 5)
    (.seq (.ops [
      ⟨some 7, .fld 1 (.tmp 1), none, 0⟩,
      ⟨some 8, .load false 1 (.tmp 7), none, 0⟩,
      ⟨some 2, .mv (.tmp 8), none, 0⟩]) <|
    .keep [2] <|
    .ret)
    (.seq (.ops [
      ⟨some 10, .bin .eql (.tmp 4) (.const (.int .i64 1)), none, 0⟩,
      ⟨some 9, .mv (.tmp 10), none, 0⟩]) <|
    .cond (.tmp 9)
      (.seq (.ops [
        ⟨some 11, .fld 1 (.tmp 1), none, 0⟩,
        ⟨some 12, .load false 1 (.tmp 11), none, 0⟩,
        ⟨some 13, .bin .mul (.const (.int .i64 2)) (.tmp 12), none, 0⟩,
        ⟨some 2, .mv (.tmp 13), none, 0⟩]) <|
      .keep [2] <|
      .ret)
      (.skip))) <|
  .seq (.ops [
    ⟨some 14, .fld 1 (.tmp 1), none, 0⟩,
    ⟨some 15, .load false 1 (.tmp 14), none, 0⟩,
    ⟨some 16, .fld 1 (.tmp 1), none, 0⟩,
    ⟨some 17, .load false 1 (.tmp 16), none, 0⟩,
    ⟨some 18, .bin .sub (.tmp 17) (.const (.int .i64 1)), none, 0⟩,
    ⟨some 19, .bin .mul (.tmp 15) (.tmp 18), none, 0⟩,
    ⟨some 2, .mv (.tmp 19), none, 0⟩]) <|
  .keep [2] <|
  .ret⟩

theorem e_impl_Group_order : EntOK Try.prog (compD Try.prog) k_impl_Group_order i_impl_Group_order.vf :=
  ⟨Try.f41, Try.f41.body.getD .skip, Try.func41, by kernel_rfl, by kernel_rfl, by kernel_rfl, by kernel_rfl, by kernel_rfl⟩

/-- loop.example/g01331/impl.fewCode -/
def i_impl_fewCode : FF := ⟨15, [.tmp 4],
  .seq (.ops [
    ⟨some 2, .box 2 (.tmp 0), none, 0⟩,
    ⟨some 4, .mv (.const (.int .i64 0)), none, 0⟩]) <|
  .seq (.seq (.ops [
    ⟨some 6, .load true 2 (.tmp 2), none, 0⟩,
    ⟨some 7, .mv (.tmp 1), none, 0⟩,
    ⟨some 8, .call k_impl_groupCode [(.tmp 6), (.tmp 7)], none, 0⟩,
    ⟨some 5, .mv (.tmp 8), none, 0⟩]) <|
  .seq (.ops [
    ⟨some 9, .mv (.tmp 5), none, 0⟩,
    ⟨some 10, .bin .neq (.tmp 9) (.const (.int .i64 0)), none, 0⟩]) <|
  .cond (.tmp 10)
    (.seq (.ops [
      ⟨some 11, .mv (.tmp 5), none, 0⟩,
      ⟨some 4, .mv (.tmp 11), none, 0⟩]) <|
    .keep [4] <|
    .ret)
    (.skip)) <|
  .seq (.seq (.ops [
    ⟨some 12, .mv (.tmp 1), none, 0⟩,
    ⟨some 13, .len (.tmp 12), none, 0⟩,
    ⟨some 14, .bin .gtr (.tmp 13) (.const (.int .i64 62)), none, 0⟩]) <|
  .cond (.tmp 14)
    (.seq (.ops [
      ⟨some 4, .mv (.const (.int .i64 2)), none, 0⟩]) <|
    .keep [4] <|
    .ret)
    (.skip)) <|
  .seq (.ops [
    ⟨some 4, .mv (.const (.int .i64 0)), none, 0⟩]) <|
  .keep [4] <|
  .ret⟩

theorem e_impl_fewCode : EntOK Try.prog (compD Try.prog) k_impl_fewCode i_impl_fewCode.vf :=
  ⟨Try.f42, Try.f42.body.getD .skip, Try.func42, by kernel_rfl, by kernel_rfl, by kernel_rfl, by kernel_rfl, by kernel_rfl⟩

/-- slices.Contains[[]int64,int64] -/
def i_slices_Contains_int64_int64 : FF := ⟨9, [.tmp 4],
  .seq (.ops [
    ⟨some 4, .mv (.const (.bool false)), none, 0⟩]) <|
  .seq (.ops [
    ⟨some 5, .mv (.tmp 0), none, 0⟩,
    ⟨some 6, .mv (.tmp 1), none, 0⟩,
    ⟨some 7, .call k_slices_Index_int64_int64 [(.tmp 5), (.tmp 6)], none, 0⟩,
    ⟨some 8, .bin .geq (.tmp 7) (.const (.int .i64 0)), none, 0⟩,
    ⟨some 4, .mv (.tmp 8), none, 0⟩]) <|
  .keep [4] <|
  .ret⟩

theorem e_slices_Contains_int64_int64 : EntOK Try.prog (compD Try.prog) k_slices_Contains_int64_int64 i_slices_Contains_int64_int64.vf :=
  ⟨Try.f43, Try.f43.body.getD .skip, Try.func43, by kernel_rfl, by kernel_rfl, by kernel_rfl, by kernel_rfl, by kernel_rfl⟩

/-- slices.Sort[[]int64,int64] -/
def i_slices_Sort_int64_int64 : FF := ⟨11, [],
  .seq (.ops [
    ⟨some 3, .mv (.tmp 0), none, 0⟩,
    ⟨some 4, .len (.tmp 3), none, 0⟩,
    ⟨some 2, .mv (.tmp 4), none, 0⟩]) <|
  .ops [
    ⟨some 5, .mv (.tmp 0), none, 0⟩,
    ⟨some 6, .mv (.tmp 2), none, 0⟩,
    ⟨some 7, .mv (.tmp 2), none, 0⟩,
    ⟨some 8, .conv .u64 (.tmp 7), none, 0⟩,
    ⟨some 9, .call k_math_bits_Len [(.tmp 8)], none, 0⟩,
    ⟨some 10, .call k_slices_pdqsortOrdered_int64 [(.tmp 5), (.const (.int .i64 0)), (.tmp 6), (.tmp 9)], none, 0⟩]⟩

theorem e_slices_Sort_int64_int64 : EntOK Try.prog (compD Try.prog) k_slices_Sort_int64_int64 i_slices_Sort_int64_int64.vf :=
  ⟨Try.f44, Try.f44.body.getD .skip, Try.func44, by kernel_rfl, by kernel_rfl, by kernel_rfl, by kernel_rfl, by kernel_rfl⟩

/-- loop.example/g01331/spec.l05DrawList -/
def i_spec_l05DrawList_B1 : FC :=
  .seq (.seq (.ops [
    ⟨some 15, .mv (.tmp 6), none, 0⟩,
    ⟨some 16, .bin .gtr (.tmp 15) (.const (.int .i64 0)), none, 0⟩]) <|
  .cond (.tmp 16)
    (.skip)
    (.keep [0, 2, 4, 5] <|
    .exit 0)) <|
  .seq (.block 1 <|
  .ops [
    ⟨some 19, .mv (.tmp 5), none, 0⟩,
    ⟨some 20, .mv (.tmp 0), none, 0⟩,
    ⟨some 21, .load true 2 (.tmp 4), none, 0⟩,
    ⟨some 22, .call k_spec_l05Order [(.tmp 21)], none, 0⟩,
    ⟨some 23, .call k_spec_l01Next [(.tmp 20), (.tmp 22)], none, 0⟩,
    ⟨some 24, .buildSl 1 [.int .i64 0] [(0, 1, (.tmp 23))] 1, none, 0⟩,
    ⟨some 25, .app 1 8 [.int .i64 0] (.tmp 19) (.tmp 24), none, 0⟩,
    ⟨some 5, .mv (.tmp 25), none, 0⟩]) <|
  .ops [
    ⟨some 17, .mv (.tmp 6), none, 0⟩,
    ⟨some 18, .bin .sub (.tmp 17) (.const (.int .i64 1)), none, 0⟩,
    ⟨some 6, .mv (.tmp 18), none, 0⟩]
def i_spec_l05DrawList : FF := ⟨39, [.cell 2 true 2, .tmp 3],
  .seq (.ops [
    ⟨some 2, .alloc [.int .i64 0, .int .i64 0], none, 0⟩,
    ⟨some 3, .mv (.const (.slice none 0 0)), none, 0⟩]) <|
  .seq (.ops [
    ⟨some 7, .mv (.tmp 0), none, 0⟩,
    ⟨some 8, .call k_spec_l05DrawOf [(.tmp 7)], none, 0⟩,
    ⟨some 9, .buildSl 1 [] [] 0, none, 0⟩,
    ⟨some 4, .alloc [.int .i64 0, .int .i64 0], none, 0⟩,
    ⟨none, .store 2 (.tmp 4) (.tmp 8), none, 0⟩,
    ⟨some 5, .mv (.tmp 9), none, 0⟩]) <|
  .seq (.seq (.ops [
    ⟨some 10, .mv (.tmp 0), none, 0⟩,
    ⟨some 11, .mv (.tmp 0), none, 0⟩,
    ⟨some 12, .buildSl 1 [.int .i64 0, .int .i64 0, .int .i64 0] [(0, 1, (.const (.int .i64 2))), (1, 1, (.const (.int .i64 3))), (2, 1, (.const (.int .i64 5)))] 3, none, 0⟩,
    ⟨some 13, .call k_spec_l01Pick [(.tmp 11), (.tmp 12)], none, 0⟩,
    ⟨some 14, .call k_spec_l01Next [(.tmp 10), (.tmp 13)], none, 0⟩,
    ⟨some 6, .mv (.tmp 14), none, 0⟩]) <|
  .block 0 <|
  .loop [0, 2, 4, 5, 6] i_spec_l05DrawList_B1) <|
  .seq (.seq (.ops [
    ⟨some 26, .mv (.tmp 0), none, 0⟩,
    ⟨some 27, .call k_spec_l01Next [(.tmp 26), (.const (.int .i64 20))], none, 0⟩,
    ⟨some 28, .bin .eql (.tmp 27) (.const (.int .i64 0)), none, 0⟩]) <|
  .cond (.tmp 28)
    (.ops [
      ⟨some 29, .mv (.tmp 5), none, 0⟩,
      ⟨some 30, .mv (.tmp 0), none, 0⟩,
      ⟨some 31, .load true 2 (.tmp 4), none, 0⟩,
      ⟨some 32, .call k_spec_l05Order [(.tmp 31)], none, 0⟩,
      ⟨some 33, .buildSl 1 [.int .i64 0, .int .i64 0, .int .i64 0] [(0, 1, (.const (.int .i64 (-1)))), (1, 1, (.tmp 32)), (2, 1, (.const (.int .i64 0)))] 3, none, 0⟩,
      ⟨some 34, .call k_spec_l01Pick [(.tmp 30), (.tmp 33)], none, 0⟩,
      ⟨some 35, .buildSl 1 [.int .i64 0] [(0, 1, (.tmp 34))] 1, none, 0⟩,
      ⟨some 36, .app 1 8 [.int .i64 0] (.tmp 29) (.tmp 35), none, 0⟩,
      ⟨some 5, .mv (.tmp 36), none, 0⟩])
    (.skip)) <|
  .seq (.ops [
    ⟨some 37, .load true 2 (.tmp 4), none, 0⟩,
    ⟨some 38, .mv (.tmp 5), none, 0⟩,
    ⟨none, .store 2 (.tmp 2) (.tmp 37), none, 0⟩,
    ⟨some 3, .mv (.tmp 38), none, 0⟩]) <|
  .keep [2, 3] <|
  .ret⟩

theorem e_spec_l05DrawList : EntOK Try.prog (compD Try.prog) k_spec_l05DrawList i_spec_l05DrawList.vf :=
  ⟨Try.f45, Try.f45.body.getD .skip, Try.func45, by kernel_rfl, by kernel_rfl, by kernel_rfl, by kernel_rfl, by kernel_rfl⟩

/-- loop.example/g01331/spec.l05List -/
def i_spec_l05List : FF := ⟨17, [.tmp 4],
  .seq (.ops [
    ⟨some 2, .box 2 (.tmp 0), none, 0⟩,
    ⟨some 4, .mv (.const (.int .i64 0)), none, 0⟩]) <|
  .seq (.ops [
    ⟨some 6, .load true 2 (.tmp 2), none, 0⟩,
    ⟨some 7, .mv (.tmp 1), none, 0⟩,
    ⟨some 8, .call k_spec_l05Elements [(.tmp 6), (.tmp 7)], none, 0⟩,
    ⟨some 5, .mv (.tmp 8), none, 0⟩]) <|
  .seq (.seq (.ops [
    ⟨some 9, .mv (.tmp 5), none, 0⟩,
    ⟨some 10, .bin .eql (.tmp 9) (.const (.int .i64 0)), none, 0⟩,
    ⟨some 11, .mv (.tmp 10), none, 0⟩,
    ⟨some 12, .mv (.tmp 1), some (11, true), 0⟩,
    ⟨some 13, .len (.tmp 12), some (11, true), 0⟩,
    ⟨some 14, .bin .gtr (.tmp 13) (.const (.int .i64 62)), some (11, true), 0⟩,
    ⟨some 15, .pick (.tmp 11) (.tmp 14) (.const (.bool false)), none, 0⟩]) <|
  .cond (.tmp 15)
    (.seq (.ops [
      ⟨some 4, .mv (.const (.int .i64 2)), none, 0⟩]) <|
    .keep [4] <|
    .ret)
    (.skip)) <|
  .seq (.ops [
    ⟨some 16, .mv (.tmp 5), none, 0⟩,
    ⟨some 4, .mv (.tmp 16), none, 0⟩]) <|
  .keep [4] <|
  .ret⟩

theorem e_spec_l05List : EntOK Try.prog (compD Try.prog) k_spec_l05List i_spec_l05List.vf :=
  ⟨Try.f46, Try.f46.body.getD .skip, Try.func46, by kernel_rfl, by kernel_rfl, by kernel_rfl, by kernel_rfl, by kernel_rfl⟩

/-- loop.example/g01331/spec.l05Generated -/
def i_spec_l05Generated_B1 : FC :=
  .seq (.seq (.ops [
    ⟨some 24, .mv (.tmp 8), none, 0⟩,
    ⟨some 25, .mv (.tmp 1), none, 0⟩,
    ⟨some 26, .len (.tmp 25), none, 0⟩,
    ⟨some 27, .bin .lss (.tmp 24) (.tmp 26), none, 0⟩]) <|
  .cond (.tmp 27)
    (.skip)
    (.keep [1, 2, 5, 6, 7] <|
    .exit 2)) <|
  .seq (.block 3 <|
  .seq (.dops [
    ⟨some 30, .load true 2 (.tmp 2), none, 0⟩,
    ⟨some 31, .mv (.tmp 6), none, 0⟩,
    ⟨some 32, .mv (.tmp 7), none, 0⟩,
    ⟨some 33, .idx 1 (.tmp 31) (.tmp 32), none, 0⟩,
    ⟨some 34, .load false 1 (.tmp 33), none, 0⟩,
    ⟨some 35, .mv (.tmp 1), none, 0⟩,
    ⟨some 36, .mv (.tmp 8), none, 0⟩,
    ⟨some 37, .idx 1 (.tmp 35) (.tmp 36), none, 0⟩,
    ⟨some 38, .load false 1 (.tmp 37), none, 0⟩,
    ⟨some 39, .call k_spec_l05Times [(.tmp 30), (.tmp 34), (.tmp 38)], none, 0⟩,
    ⟨some 9, .mv (.tmp 39), none, 0⟩]) <|
  .seq (.ops [
    ⟨some 40, .mv (.tmp 5), none, 0⟩,
    ⟨some 41, .mv (.tmp 9), none, 0⟩,
    ⟨some 42, .idx 1 (.tmp 40) (.tmp 41), none, 0⟩,
    ⟨some 43, .load false 1 (.tmp 42), none, 0⟩,
    ⟨some 44, .un .not (.tmp 43), none, 0⟩]) <|
  .cond (.tmp 44)
    (.seq (.ops [
      ⟨some 45, .mv (.tmp 5), none, 0⟩,
      ⟨some 46, .mv (.tmp 9), none, 0⟩,
      ⟨some 47, .idx 1 (.tmp 45) (.tmp 46), none, 0⟩,
      ⟨none, .store 1 (.tmp 47) (.const (.bool true)), none, 0⟩]) <|
    .ops [
      ⟨some 48, .mv (.tmp 6), none, 0⟩,
      ⟨some 49, .mv (.tmp 9), none, 0⟩,
      ⟨some 50, .buildSl 1 [.int .i64 0] [(0, 1, (.tmp 49))] 1, none, 0⟩,
      ⟨some 51, .app 1 8 [.int .i64 0] (.tmp 48) (.tmp 50), none, 0⟩,
      ⟨some 6, .mv (.tmp 51), none, 0⟩])
    (.skip)) <|
  .ops [
    ⟨some 28, .mv (.tmp 8), none, 0⟩,
    ⟨some 29, .bin .add (.tmp 28) (.const (.int .i64 1)), none, 0⟩,
    ⟨some 8, .mv (.tmp 29), none, 0⟩]
def i_spec_l05Generated_B2 : FC :=
  .seq (.seq (.ops [
    ⟨some 18, .mv (.tmp 7), none, 0⟩,
    ⟨some 19, .mv (.tmp 6), none, 0⟩,
    ⟨some 20, .len (.tmp 19), none, 0⟩,
    ⟨some 21, .bin .lss (.tmp 18) (.tmp 20), none, 0⟩]) <|
  .cond (.tmp 21)
    (.skip)
    (.keep [5] <|
    .exit 0)) <|
  .seq (.block 1 <|
  .seq (.ops [
    ⟨some 8, .mv (.const (.int .i64 0)), none, 0⟩]) <|
  .block 2 <|
  .loop [1, 2, 5, 6, 7, 8] i_spec_l05Generated_B1) <|
  .ops [
    ⟨some 22, .mv (.tmp 7), none, 0⟩,
    ⟨some 23, .bin .add (.tmp 22) (.const (.int .i64 1)), none, 0⟩,
    ⟨some 7, .mv (.tmp 23), none, 0⟩]
def i_spec_l05Generated_B3 : FC :=
  .seq (.seq (.ops [
    ⟨some 53, .mv (.tmp 11), none, 0⟩,
    ⟨some 54, .mv (.tmp 5), none, 0⟩,
    ⟨some 55, .len (.tmp 54), none, 0⟩,
    ⟨some 56, .bin .lss (.tmp 53) (.tmp 55), none, 0⟩]) <|
  .cond (.tmp 56)
    (.skip)
    (.keep [10] <|
    .exit 4)) <|
  .seq (.block 5 <|
  .seq (.ops [
    ⟨some 59, .mv (.tmp 5), none, 0⟩,
    ⟨some 60, .mv (.tmp 11), none, 0⟩,
    ⟨some 61, .idx 1 (.tmp 59) (.tmp 60), none, 0⟩,
    ⟨some 62, .load false 1 (.tmp 61), none, 0⟩]) <|
  .cond (.tmp 62)
    (.ops [
      ⟨some 63, .mv (.tmp 10), none, 0⟩,
      ⟨some 64, .mv (.tmp 11), none, 0⟩,
      ⟨some 65, .buildSl 1 [.int .i64 0] [(0, 1, (.tmp 64))] 1, none, 0⟩,
      ⟨some 66, .app 1 8 [.int .i64 0] (.tmp 63) (.tmp 65), none, 0⟩,
      ⟨some 10, .mv (.tmp 66), none, 0⟩])
    (.skip)) <|
  .ops [
    ⟨some 57, .mv (.tmp 11), none, 0⟩,
    ⟨some 58, .bin .add (.tmp 57) (.const (.int .i64 1)), none, 0⟩,
    ⟨some 11, .mv (.tmp 58), none, 0⟩]
def i_spec_l05Generated : FF := ⟨68, [.tmp 4],
  .seq (.ops [
    ⟨some 2, .box 2 (.tmp 0), none, 0⟩,
    ⟨some 4, .mv (.const (.slice none 0 0)), none, 0⟩]) <|
  .seq (.ops [
    ⟨some 12, .load true 2 (.tmp 2), none, 0⟩,
    ⟨some 13, .call k_spec_l05Order [(.tmp 12)], none, 0⟩,
    ⟨some 14, .mkSl 1 [.bool false] 1 (.tmp 13) (.tmp 13), none, 0⟩,
    ⟨some 15, .buildSl 1 [.int .i64 0] [(0, 1, (.const (.int .i64 0)))] 1, none, 0⟩,
    ⟨some 5, .mv (.tmp 14), none, 0⟩,
    ⟨some 6, .mv (.tmp 15), none, 0⟩]) <|
  .seq (.ops [
    ⟨some 16, .mv (.tmp 5), none, 0⟩,
    ⟨some 17, .idx 1 (.tmp 16) (.const (.int .i64 0)), none, 0⟩,
    ⟨none, .store 1 (.tmp 17) (.const (.bool true)), none, 0⟩]) <|
  .seq (.seq (.ops [
    ⟨some 7, .mv (.const (.int .i64 0)), none, 0⟩]) <|
  .block 0 <|
  .loop [1, 2, 5, 6, 7] i_spec_l05Generated_B2) <|
  .seq (.ops [
    ⟨some 52, .buildSl 1 [] [] 0, none, 0⟩,
    ⟨some 10, .mv (.tmp 52), none, 0⟩]) <|
  .seq (.seq (.ops [
    ⟨some 11, .mv (.const (.int .i64 0)), none, 0⟩]) <|
  .block 4 <|
  .loop [5, 10, 11] i_spec_l05Generated_B3) <|
  .seq (.ops [
    ⟨some 67, .mv (.tmp 10), none, 0⟩,
    ⟨some 4, .mv (.tmp 67), none, 0⟩]) <|
  .keep [4] <|
  .ret⟩

theorem e_spec_l05Generated : EntOK Try.prog (compD Try.prog) k_spec_l05Generated i_spec_l05Generated.vf :=
  ⟨Try.f47, Try.f47.body.getD .skip, Try.func47, by kernel_rfl, by kernel_rfl, by kernel_rfl, by kernel_rfl, by kernel_rfl⟩

/-- slices.Compact[[]int64,int64] -/
def i_slices_Compact_int64_int64_B1 : FC :=
  .seq (.seq (.ops [
    ⟨some 29, .mv (.tmp 5), none, 0⟩,
    ⟨some 30, .mv (.tmp 4), none, 0⟩,
    ⟨some 31, .len (.tmp 30), none, 0⟩,
    ⟨some 32, .bin .lss (.tmp 29) (.tmp 31), none, 0⟩]) <|
  .cond (.tmp 32)
    (.skip)
    (.keep [0, 3] <|
    .exit 2)) <|
  .seq (.block 3 <|
  .seq (.dops [
    ⟨some 35, .mv (.tmp 4), none, 0⟩,
    ⟨some 36, .mv (.tmp 5), none, 0⟩,
    ⟨some 37, .idx 1 (.tmp 35) (.tmp 36), none, 0⟩,
    ⟨some 38, .load false 1 (.tmp 37), none, 0⟩,
    ⟨some 39, .mv (.tmp 4), none, 0⟩,
    ⟨some 40, .mv (.tmp 5), none, 0⟩,
    ⟨some 41, .bin .sub (.tmp 40) (.const (.int .i64 1)), none, 0⟩,
    ⟨some 42, .idx 1 (.tmp 39) (.tmp 41), none, 0⟩,
    ⟨some 43, .load false 1 (.tmp 42), none, 0⟩,
    ⟨some 44, .bin .neq (.tmp 38) (.tmp 43), none, 0⟩]) <|
  .cond (.tmp 44)
    (.seq (.ops [
      ⟨some 45, .mv (.tmp 0), none, 0⟩,
      ⟨some 46, .mv (.tmp 3), none, 0⟩,
      ⟨some 47, .mv (.tmp 4), none, 0⟩,
      ⟨some 48, .mv (.tmp 5), none, 0⟩,
      ⟨some 49, .idx 1 (.tmp 47) (.tmp 48), none, 0⟩,
      ⟨some 50, .load false 1 (.tmp 49), none, 0⟩,
      ⟨some 51, .idx 1 (.tmp 45) (.tmp 46), none, 0⟩,
      ⟨none, .store 1 (.tmp 51) (.tmp 50), none, 0⟩]) <|
    .ops [
      ⟨some 52, .mv (.tmp 3), none, 0⟩,
      ⟨some 53, .bin .add (.tmp 52) (.const (.int .i64 1)), none, 0⟩,
      ⟨some 3, .mv (.tmp 53), none, 0⟩])
    (.skip)) <|
  .ops [
    ⟨some 33, .mv (.tmp 5), none, 0⟩,
    ⟨some 34, .bin .add (.tmp 33) (.const (.int .i64 1)), none, 0⟩,
    ⟨some 5, .mv (.tmp 34), none, 0⟩]
def i_slices_Compact_int64_int64_B2 : FC :=
  .seq (.seq (.ops [
    ⟨some 10, .mv (.tmp 3), none, 0⟩,
    ⟨some 11, .mv (.tmp 0), none, 0⟩,
    ⟨some 12, .len (.tmp 11), none, 0⟩,
    ⟨some 13, .bin .lss (.tmp 10) (.tmp 12), none, 0⟩]) <|
  .cond (.tmp 13)
    (.skip)
    (.keep [0] <|
    .exit 0)) <|
  .seq (.block 1 <|
  .seq (.dops [
    ⟨some 16, .mv (.tmp 0), none, 0⟩,
    ⟨some 17, .mv (.tmp 3), none, 0⟩,
    ⟨some 18, .idx 1 (.tmp 16) (.tmp 17), none, 0⟩,
    ⟨some 19, .load false 1 (.tmp 18), none, 0⟩,
    ⟨some 20, .mv (.tmp 0), none, 0⟩,
    ⟨some 21, .mv (.tmp 3), none, 0⟩,
    ⟨some 22, .bin .sub (.tmp 21) (.const (.int .i64 1)), none, 0⟩,
    ⟨some 23, .idx 1 (.tmp 20) (.tmp 22), none, 0⟩,
    ⟨some 24, .load false 1 (.tmp 23), none, 0⟩,
    ⟨some 25, .bin .eql (.tmp 19) (.tmp 24), none, 0⟩]) <|
  .cond (.tmp 25)
    (.seq (.ops [
      ⟨some 26, .mv (.tmp 0), none, 0⟩,
      ⟨some 27, .mv (.tmp 3), none, 0⟩,
      ⟨some 28, .slc 1 (.tmp 26) (some (.tmp 27)) none, none, 0⟩,
      ⟨some 4, .mv (.tmp 28), none, 0⟩]) <|
    .seq (.seq (.ops [
      ⟨some 5, .mv (.const (.int .i64 1)), none, 0⟩]) <|
    .block 2 <|
    .loop [0, 3, 4, 5] i_slices_Compact_int64_int64_B1) <|
    .seq (.ops [
      ⟨some 54, .mv (.tmp 0), none, 0⟩,
      ⟨some 55, .mv (.tmp 3), none, 0⟩,
      ⟨some 56, .slc 1 (.tmp 54) (some (.tmp 55)) none, none, 0⟩,
      ⟨none, .clr 1 [.int .i64 0] (.tmp 56), none, 0⟩]) <|
    .seq (.ops [
      ⟨some 57, .mv (.tmp 0), none, 0⟩,
      ⟨some 58, .mv (.tmp 3), none, 0⟩,
      ⟨some 59, .slc 1 (.tmp 57) none (some (.tmp 58)), none, 0⟩,
      ⟨some 2, .mv (.tmp 59), none, 0⟩]) <|
    .keep [2] <|
    .ret)
    (.skip)) <|
  .ops [
    ⟨some 14, .mv (.tmp 3), none, 0⟩,
    ⟨some 15, .bin .add (.tmp 14) (.const (.int .i64 1)), none, 0⟩,
    ⟨some 3, .mv (.tmp 15), none, 0⟩]
def i_slices_Compact_int64_int64 : FF := ⟨61, [.tmp 2],
  .seq (.ops [
    ⟨some 2, .mv (.const (.slice none 0 0)), none, 0⟩]) <|
  .seq (.seq (.ops [
    ⟨some 6, .mv (.tmp 0), none, 0⟩,
    ⟨some 7, .len (.tmp 6), none, 0⟩,
    ⟨some 8, .bin .lss (.tmp 7) (.const (.int .i64 2)), none, 0⟩]) <|
  .cond (.tmp 8)
    (.seq (.ops [
      ⟨some 9, .mv (.tmp 0), none, 0⟩,
      ⟨some 2, .mv (.tmp 9), none, 0⟩]) <|
    .keep [2] <|
    .ret)
    (.skip)) <|
  .seq (.seq (.ops [
    ⟨some 3, .mv (.const (.int .i64 1)), none, 0⟩]) <|
  .block 0 <|
  .loop [0, 3] i_slices_Compact_int64_int64_B2) <|
  .seq (.ops [
    ⟨some 60, .mv (.tmp 0), none, 0⟩,
    ⟨some 2, .mv (.tmp 60), none, 0⟩]) <|
  .keep [2] <|
  .ret⟩

theorem e_slices_Compact_int64_int64 : EntOK Try.prog (compD Try.prog) k_slices_Compact_int64_int64 i_slices_Compact_int64_int64.vf :=
  ⟨Try.f48, Try.f48.body.getD .skip, Try.func48, by kernel_rfl, by kernel_rfl, by kernel_rfl, by kernel_rfl, by kernel_rfl⟩

/-- loop.example/g01331/spec.l05Closed -/
def i_spec_l05Closed_B1 : FC :=
  .seq (.seq (.ops [
    ⟨some 13, .mv (.tmp 7), none, 0⟩,
    ⟨some 14, .mv (.tmp 1), none, 0⟩,
    ⟨some 15, .len (.tmp 14), none, 0⟩,
    ⟨some 16, .bin .lss (.tmp 13) (.tmp 15), none, 0⟩]) <|
  .cond (.tmp 16)
    (.skip)
    (.keep [5, 6] <|
    .exit 0)) <|
  .seq (.block 1 <|
  .seq (.ops [
    ⟨some 19, .mv (.tmp 5), none, 0⟩,
    ⟨some 20, .mv (.tmp 1), none, 0⟩,
    ⟨some 21, .mv (.tmp 7), none, 0⟩,
    ⟨some 22, .idx 1 (.tmp 20) (.tmp 21), none, 0⟩,
    ⟨some 23, .load false 1 (.tmp 22), none, 0⟩,
    ⟨some 24, .idx 1 (.tmp 19) (.tmp 23), none, 0⟩,
    ⟨none, .store 1 (.tmp 24) (.const (.bool true)), none, 0⟩]) <|
  .dops [
    ⟨some 26, .load true 2 (.tmp 2), none, 0⟩,
    ⟨some 27, .mv (.tmp 1), none, 0⟩,
    ⟨some 28, .mv (.tmp 7), none, 0⟩,
    ⟨some 29, .idx 1 (.tmp 27) (.tmp 28), none, 0⟩,
    ⟨some 30, .load false 1 (.tmp 29), none, 0⟩,
    ⟨some 31, .call k_spec_l05Inverse [(.tmp 26), (.tmp 30)], none, 0⟩,
    ⟨some 25, .mv (.tmp 5), none, 1⟩,
    ⟨some 32, .idx 1 (.tmp 25) (.tmp 31), none, 0⟩,
    ⟨none, .store 1 (.tmp 32) (.const (.bool true)), none, 0⟩]) <|
  .ops [
    ⟨some 17, .mv (.tmp 7), none, 0⟩,
    ⟨some 18, .bin .add (.tmp 17) (.const (.int .i64 1)), none, 0⟩,
    ⟨some 7, .mv (.tmp 18), none, 0⟩]
def i_spec_l05Closed_B2 : FC :=
  .seq (.seq (.ops [
    ⟨some 33, .mv (.tmp 8), none, 0⟩,
    ⟨some 34, .mv (.tmp 5), none, 0⟩,
    ⟨some 35, .len (.tmp 34), none, 0⟩,
    ⟨some 36, .bin .lss (.tmp 33) (.tmp 35), none, 0⟩]) <|
  .cond (.tmp 36)
    (.skip)
    (.keep [6] <|
    .exit 2)) <|
  .seq (.block 3 <|
  .seq (.ops [
    ⟨some 39, .mv (.tmp 5), none, 0⟩,
    ⟨some 40, .mv (.tmp 8), none, 0⟩,
    ⟨some 41, .idx 1 (.tmp 39) (.tmp 40), none, 0⟩,
    ⟨some 42, .load false 1 (.tmp 41), none, 0⟩]) <|
  .cond (.tmp 42)
    (.ops [
      ⟨some 43, .mv (.tmp 6), none, 0⟩,
      ⟨some 44, .mv (.tmp 8), none, 0⟩,
      ⟨some 45, .buildSl 1 [.int .i64 0] [(0, 1, (.tmp 44))] 1, none, 0⟩,
      ⟨some 46, .app 1 8 [.int .i64 0] (.tmp 43) (.tmp 45), none, 0⟩,
      ⟨some 6, .mv (.tmp 46), none, 0⟩])
    (.skip)) <|
  .ops [
    ⟨some 37, .mv (.tmp 8), none, 0⟩,
    ⟨some 38, .bin .add (.tmp 37) (.const (.int .i64 1)), none, 0⟩,
    ⟨some 8, .mv (.tmp 38), none, 0⟩]
def i_spec_l05Closed : FF := ⟨48, [.tmp 4],
  .seq (.ops [
    ⟨some 2, .box 2 (.tmp 0), none, 0⟩,
    ⟨some 4, .mv (.const (.slice none 0 0)), none, 0⟩]) <|
  .seq (.ops [
    ⟨some 9, .load true 2 (.tmp 2), none, 0⟩,
    ⟨some 10, .call k_spec_l05Order [(.tmp 9)], none, 0⟩,
    ⟨some 11, .mkSl 1 [.bool false] 1 (.tmp 10) (.tmp 10), none, 0⟩,
    ⟨some 12, .buildSl 1 [] [] 0, none, 0⟩,
    ⟨some 5, .mv (.tmp 11), none, 0⟩,
    ⟨some 6, .mv (.tmp 12), none, 0⟩]) <|
  .seq (.seq (.ops [
    ⟨some 7, .mv (.const (.int .i64 0)), none, 0⟩]) <|
  .block 0 <|
  .loop [1, 2, 5, 6, 7] i_spec_l05Closed_B1) <|
  .seq (.seq (.ops [
    ⟨some 8, .mv (.const (.int .i64 1)), none, 0⟩]) <|
  .block 2 <|
  .loop [5, 6, 8] i_spec_l05Closed_B2) <|
  .seq (.ops [
    ⟨some 47, .mv (.tmp 6), none, 0⟩,
    ⟨some 4, .mv (.tmp 47), none, 0⟩]) <|
  .keep [4] <|
  .ret⟩

theorem e_spec_l05Closed : EntOK Try.prog (compD Try.prog) k_spec_l05Closed i_spec_l05Closed.vf :=
  ⟨Try.f49, Try.f49.body.getD .skip, Try.func49, by kernel_rfl, by kernel_rfl, by kernel_rfl, by kernel_rfl, by kernel_rfl⟩

/-- (loop.example/g01331/impl.Group).isConnection -/
def i_impl_Group_isConnection_B1 : FC :=
  .seq (.ops [
    ⟨some 10, .bin .lss (.tmp 9) (.tmp 8), none, 0⟩]) <|
  .seq (.cond (.tmp 10)
    (.skip)
    (.keep [] <|
    .exit 0)) <|
  .seq (.block 1 <|
  .seq (.ops [
    ⟨some 11, .mv (.tmp 9), none, 0⟩,
    ⟨some 12, .idx 1 (.tmp 7) (.tmp 9), none, 0⟩,
    ⟨some 13, .load false 1 (.tmp 12), none, 0⟩,
    ⟨some 5, .mv (.tmp 11), none, 0⟩,
    ⟨some 6, .mv (.tmp 13), none, 0⟩]) <|
  .seq (.ops [
    ⟨some 14, .mv (.tmp 6), none, 0⟩,
    ⟨some 15, .bin .eql (.tmp 14) (.const (.int .i64 0)), none, 0⟩,
    ⟨some 16, .mv (.tmp 15), none, 0⟩,
    ⟨some 17, .mv (.tmp 5), some (16, false), 0⟩,
    ⟨some 18, .bin .gtr (.tmp 17) (.const (.int .i64 0)), some (16, false), 0⟩,
    ⟨some 19, .mv (.tmp 18), some (16, false), 0⟩,
    ⟨some 20, .mv (.tmp 6), some (19, true), 0⟩,
    ⟨some 21, .mv (.tmp 1), some (19, true), 0⟩,
    ⟨some 22, .mv (.tmp 5), some (19, true), 0⟩,
    ⟨some 23, .bin .sub (.tmp 22) (.const (.int .i64 1)), some (19, true), 0⟩,
    ⟨some 24, .idx 1 (.tmp 21) (.tmp 23), some (19, true), 0⟩,
    ⟨some 25, .load false 1 (.tmp 24), some (19, true), 0⟩,
    ⟨some 26, .bin .leq (.tmp 20) (.tmp 25), some (19, true), 0⟩,
    ⟨some 27, .pick (.tmp 19) (.tmp 26) (.const (.bool false)), some (16, false), 0⟩,
    ⟨some 28, .pick (.tmp 16) (.const (.bool true)) (.tmp 27), none, 0⟩,
    ⟨some 29, .mv (.tmp 28), none, 0⟩,
    ⟨some 30, .mv (.tmp 1), some (29, false), 0⟩,
    ⟨some 31, .load true 2 (.tmp 2), some (29, false), 0⟩,
    ⟨some 32, .mv (.tmp 6), some (29, false), 0⟩,
    ⟨some 33, .call k_impl_Group_inverse [(.tmp 31), (.tmp 32)], some (29, false), 0⟩,
    ⟨some 34, .call k_slices_Contains_int64_int64 [(.tmp 30), (.tmp 33)], some (29, false), 0⟩,
    ⟨some 35, .un .not (.tmp 34), some (29, false), 0⟩,
    ⟨some 36, .pick (.tmp 29) (.const (.bool true)) (.tmp 35), none, 0⟩]) <|
  .cond (.tmp 36)
    (.seq (.ops [
      ⟨some 4, .mv (.const (.bool false)), none, 0⟩]) <|
    .keep [4] <|
    .ret)
    (.skip)) <|
  .ops [
    ⟨some 37, .bin .add (.tmp 9) (.const (.int .i64 1)), none, 0⟩,
    ⟨some 9, .mv (.tmp 37), none, 0⟩]
def i_impl_Group_isConnection : FF := ⟨38, [.tmp 4],
  .seq (.ops [
    ⟨some 2, .box 2 (.tmp 0), none, 0⟩,
    ⟨some 4, .mv (.const (.bool false)), none, 0⟩]) <|
  .seq (.seq (.ops [
    ⟨some 7, .mv (.tmp 1), none, 0⟩,
    ⟨some 8, .len (.tmp 7), none, 0⟩,
    ⟨some 9, .mv (.const (.int .i64 0)), none, 0⟩]) <|
  .block 0 <|
  .loop [1, 2, 7, 8, 9] i_impl_Group_isConnection_B1) <|
  .seq (.ops [
    ⟨some 4, .mv (.const (.bool true)), none, 0⟩]) <|
  .keep [4] <|
  .ret⟩

theorem e_impl_Group_isConnection : EntOK Try.prog (compD Try.prog) k_impl_Group_isConnection i_impl_Group_isConnection.vf :=
  ⟨Try.f50, Try.f50.body.getD .skip, Try.func50, by kernel_rfl, by kernel_rfl, by kernel_rfl, by kernel_rfl, by kernel_rfl⟩

/-- loop.example/g01331/spec.l05DrawSet -/
def i_spec_l05DrawSet_B1 : FC :=
  .seq (.seq (.ops [
    ⟨some 12, .mv (.tmp 6), none, 0⟩,
    ⟨some 13, .mv (.tmp 5), none, 0⟩,
    ⟨some 14, .len (.tmp 13), none, 0⟩,
    ⟨some 15, .bin .lss (.tmp 12) (.tmp 14), none, 0⟩]) <|
  .cond (.tmp 15)
    (.skip)
    (.keep [0, 2, 4, 5] <|
    .exit 0)) <|
  .seq (.block 1 <|
  .seq (.dops [
    ⟨some 22, .load true 2 (.tmp 4), none, 0⟩,
    ⟨some 23, .call k_spec_l05Order [(.tmp 22)], none, 0⟩,
    ⟨some 18, .mv (.tmp 5), none, 1⟩,
    ⟨some 19, .mv (.tmp 6), none, 1⟩,
    ⟨some 20, .idx 1 (.tmp 18) (.tmp 19), none, 1⟩,
    ⟨some 21, .load false 1 (.tmp 20), none, 1⟩,
    ⟨some 24, .bin .sub (.tmp 23) (.const (.int .i64 1)), none, 0⟩,
    ⟨some 25, .call k_spec_l01In [(.tmp 21), (.const (.int .i64 0)), (.tmp 24)], none, 0⟩,
    ⟨some 26, .un .not (.tmp 25), none, 0⟩]) <|
  .cond (.tmp 26)
    (.seq (.ops [
      ⟨some 27, .load true 2 (.tmp 4), none, 0⟩,
      ⟨some 28, .mv (.tmp 5), none, 0⟩,
      ⟨none, .store 2 (.tmp 2) (.tmp 27), none, 0⟩,
      ⟨some 3, .mv (.tmp 28), none, 0⟩]) <|
    .keep [2, 3] <|
    .ret)
    (.skip)) <|
  .ops [
    ⟨some 16, .mv (.tmp 6), none, 0⟩,
    ⟨some 17, .bin .add (.tmp 16) (.const (.int .i64 1)), none, 0⟩,
    ⟨some 6, .mv (.tmp 17), none, 0⟩]
def i_spec_l05DrawSet : FF := ⟨37, [.cell 2 true 2, .tmp 3],
  .seq (.ops [
    ⟨some 2, .alloc [.int .i64 0, .int .i64 0], none, 0⟩,
    ⟨some 3, .mv (.const (.slice none 0 0)), none, 0⟩]) <|
  .seq (.ops [
    ⟨some 8, .mv (.tmp 0), none, 0⟩,
    ⟨some 9, .call k_spec_l05DrawList [(.tmp 8)], none, 0⟩,
    ⟨some 7, .mv (.tmp 9), none, 0⟩,
    ⟨some 10, .ext (.tmp 7) 0, none, 0⟩,
    ⟨some 11, .ext (.tmp 7) 1, none, 0⟩,
    ⟨some 4, .alloc [.int .i64 0, .int .i64 0], none, 0⟩,
    ⟨none, .store 2 (.tmp 4) (.tmp 10), none, 0⟩,
    ⟨some 5, .mv (.tmp 11), none, 0⟩]) <|
  .seq (.seq (.ops [
    ⟨some 6, .mv (.const (.int .i64 0)), none, 0⟩]) <|
  .block 0 <|
  .loop [0, 2, 4, 5, 6] i_spec_l05DrawSet_B1) <|
  .seq (.seq (.ops [
    ⟨some 29, .mv (.tmp 0), none, 0⟩,
    ⟨some 30, .call k_spec_l01Next [(.tmp 29), (.const (.int .i64 8))], none, 0⟩,
    ⟨some 31, .bin .gtr (.tmp 30) (.const (.int .i64 0)), none, 0⟩]) <|
  .cond (.tmp 31)
    (.ops [
      ⟨some 32, .load true 2 (.tmp 4), none, 0⟩,
      ⟨some 33, .mv (.tmp 5), none, 0⟩,
      ⟨some 34, .call k_spec_l05Closed [(.tmp 32), (.tmp 33)], none, 0⟩,
      ⟨some 5, .mv (.tmp 34), none, 0⟩])
    (.skip)) <|
  .seq (.ops [
    ⟨some 35, .load true 2 (.tmp 4), none, 0⟩,
    ⟨some 36, .mv (.tmp 5), none, 0⟩,
    ⟨none, .store 2 (.tmp 2) (.tmp 35), none, 0⟩,
    ⟨some 3, .mv (.tmp 36), none, 0⟩]) <|
  .keep [2, 3] <|
  .ret⟩

theorem e_spec_l05DrawSet : EntOK Try.prog (compD Try.prog) k_spec_l05DrawSet i_spec_l05DrawSet.vf :=
  ⟨Try.f51, Try.f51.body.getD .skip, Try.func51, by kernel_rfl, by kernel_rfl, by kernel_rfl, by kernel_rfl, by kernel_rfl⟩

/-- loop.example/g01331/spec.l05Set -/
def i_spec_l05Set_B1 : FC :=
  .seq (.seq (.ops [
    ⟨some 15, .mv (.tmp 6), none, 0⟩,
    ⟨some 16, .mv (.tmp 5), none, 0⟩,
    ⟨some 17, .len (.tmp 16), none, 0⟩,
    ⟨some 18, .bin .lss (.tmp 15) (.tmp 17), none, 0⟩]) <|
  .cond (.tmp 18)
    (.skip)
    (.keep [] <|
    .exit 0)) <|
  .seq (.block 1 <|
  .seq (.dops [
    ⟨some 21, .mv (.tmp 5), none, 0⟩,
    ⟨some 22, .mv (.tmp 6), none, 0⟩,
    ⟨some 23, .idx 1 (.tmp 21) (.tmp 22), none, 0⟩,
    ⟨some 24, .load false 1 (.tmp 23), none, 0⟩,
    ⟨some 25, .mv (.tmp 1), none, 0⟩,
    ⟨some 26, .mv (.tmp 6), none, 0⟩,
    ⟨some 27, .idx 1 (.tmp 25) (.tmp 26), none, 0⟩,
    ⟨some 28, .load false 1 (.tmp 27), none, 0⟩,
    ⟨some 29, .bin .neq (.tmp 24) (.tmp 28), none, 0⟩]) <|
  .cond (.tmp 29)
    (.seq (.ops [
      ⟨some 4, .mv (.const (.bool false)), none, 0⟩]) <|
    .keep [4] <|
    .ret)
    (.skip)) <|
  .ops [
    ⟨some 19, .mv (.tmp 6), none, 0⟩,
    ⟨some 20, .bin .add (.tmp 19) (.const (.int .i64 1)), none, 0⟩,
    ⟨some 6, .mv (.tmp 20), none, 0⟩]
def i_spec_l05Set : FF := ⟨30, [.tmp 4],
  .seq (.ops [
    ⟨some 2, .box 2 (.tmp 0), none, 0⟩,
    ⟨some 4, .mv (.const (.bool false)), none, 0⟩]) <|
  .seq (.ops [
    ⟨some 7, .load true 2 (.tmp 2), none, 0⟩,
    ⟨some 8, .mv (.tmp 1), none, 0⟩,
    ⟨some 9, .call k_spec_l05Closed [(.tmp 7), (.tmp 8)], none, 0⟩,
    ⟨some 5, .mv (.tmp 9), none, 0⟩]) <|
  .seq (.seq (.ops [
    ⟨some 10, .mv (.tmp 5), none, 0⟩,
    ⟨some 11, .len (.tmp 10), none, 0⟩,
    ⟨some 12, .mv (.tmp 1), none, 0⟩,
    ⟨some 13, .len (.tmp 12), none, 0⟩,
    ⟨some 14, .bin .neq (.tmp 11) (.tmp 13), none, 0⟩]) <|
  .cond (.tmp 14)
    (.seq (.ops [
      ⟨some 4, .mv (.const (.bool false)), none, 0⟩]) <|
    .keep [4] <|
    .ret)
    (.skip)) <|
  .seq (.seq (.ops [
    ⟨some 6, .mv (.const (.int .i64 0)), none, 0⟩]) <|
  .block 0 <|
  .loop [1, 5, 6] i_spec_l05Set_B1) <|
  .seq (.ops [
    ⟨some 4, .mv (.const (.bool true)), none, 0⟩]) <|
  .keep [4] <|
  .ret⟩

theorem e_spec_l05Set : EntOK Try.prog (compD Try.prog) k_spec_l05Set i_spec_l05Set.vf :=
  ⟨Try.f52, Try.f52.body.getD .skip, Try.func52, by kernel_rfl, by kernel_rfl, by kernel_rfl, by kernel_rfl, by kernel_rfl⟩

/-- loop.example/g01331/spec.l05With -/
def i_spec_l05With : FF := ⟨20, [.cell 2 true 2, .tmp 3],
  .seq (.ops [
    ⟨some 2, .alloc [.int .i64 0, .int .i64 0], none, 0⟩,
    ⟨some 3, .mv (.const (.int .i64 0)), none, 0⟩]) <|
  .seq (.ops [
    ⟨some 7, .mv (.tmp 0), none, 0⟩,
    ⟨some 8, .call k_spec_l01From [(.tmp 7)], none, 0⟩,
    ⟨some 4, .mv (.tmp 8), none, 0⟩]) <|
  .seq (.ops [
    ⟨some 9, .mv (.tmp 4), none, 0⟩,
    ⟨some 10, .call k_spec_l05DrawOf [(.tmp 9)], none, 0⟩,
    ⟨some 5, .alloc [.int .i64 0, .int .i64 0], none, 0⟩,
    ⟨none, .store 2 (.tmp 5) (.tmp 10), none, 0⟩]) <|
  .seq (.ops [
    ⟨some 11, .mv (.tmp 4), none, 0⟩,
    ⟨some 12, .load true 2 (.tmp 5), none, 0⟩,
    ⟨some 13, .call k_spec_l05Order [(.tmp 12)], none, 0⟩,
    ⟨some 14, .bin .sub (.tmp 13) (.const (.int .i64 1)), none, 0⟩,
    ⟨some 15, .call k_spec_l01Near [(.tmp 11), (.tmp 14)], none, 0⟩,
    ⟨some 6, .mv (.tmp 15), none, 0⟩]) <|
  .seq (.ops [
    ⟨some 16, .mv (.tmp 4), none, 0⟩,
    ⟨some 17, .load true 2 (.tmp 5), none, 0⟩,
    ⟨some 18, .call k_spec_l05Bad [(.tmp 16), (.tmp 17)], none, 0⟩,
    ⟨some 19, .mv (.tmp 6), none, 0⟩,
    ⟨none, .store 2 (.tmp 2) (.tmp 18), none, 0⟩,
    ⟨some 3, .mv (.tmp 19), none, 0⟩]) <|
  .keep [2, 3] <|
  .ret⟩

theorem e_spec_l05With : EntOK Try.prog (compD Try.prog) k_spec_l05With i_spec_l05With.vf :=
  ⟨Try.f53, Try.f53.body.getD .skip, Try.func53, by kernel_rfl, by kernel_rfl, by kernel_rfl, by kernel_rfl, by kernel_rfl⟩

/-- loop.example/g01331/spec.l05Inverse -/
def i_spec_l05Inverse_B1 : FC :=
  .seq (.seq (.ops [
    ⟨some 6, .load true 2 (.tmp 2), none, 0⟩,
    ⟨some 7, .mv (.tmp 1), none, 0⟩,
    ⟨some 8, .mv (.tmp 5), none, 0⟩,
    ⟨some 9, .call k_spec_l05Times [(.tmp 6), (.tmp 7), (.tmp 8)], none, 0⟩,
    ⟨some 10, .bin .neq (.tmp 9) (.const (.int .i64 0)), none, 0⟩]) <|
  .cond (.tmp 10)
    (.skip)
    (.keep [5] <|
    .exit 0)) <|
  .block 1 <|
  .ops [
    ⟨some 11, .mv (.tmp 5), none, 0⟩,
    ⟨some 12, .bin .add (.tmp 11) (.const (.int .i64 1)), none, 0⟩,
    ⟨some 5, .mv (.tmp 12), none, 0⟩]
def i_spec_l05Inverse : FF := ⟨14, [.tmp 4],
  .seq (.ops [
    ⟨some 2, .box 2 (.tmp 0), none, 0⟩,
    ⟨some 4, .mv (.const (.int .i64 0)), none, 0⟩]) <|
  .seq (.ops [
    ⟨some 5, .mv (.const (.int .i64 0)), none, 0⟩]) <|
  .seq (.block 0 <|
  .loop [1, 2, 5] i_spec_l05Inverse_B1) <|
  .seq (.ops [
    ⟨some 13, .mv (.tmp 5), none, 0⟩,
    ⟨some 4, .mv (.tmp 13), none, 0⟩]) <|
  .keep [4] <|
  .ret⟩

theorem e_spec_l05Inverse : EntOK Try.prog (compD Try.prog) k_spec_l05Inverse i_spec_l05Inverse.vf :=
  ⟨Try.f54, Try.f54.body.getD .skip, Try.func54, by kernel_rfl, by kernel_rfl, by kernel_rfl, by kernel_rfl, by kernel_rfl⟩

/-- loop.example/g01331/spec.l01Next -/
def i_spec_l01Next : FF := ⟨58, [.tmp 4],
  .seq (.ops [
    ⟨some 4, .mv (.const (.int .i64 0)), none, 0⟩]) <|
  .seq (.seq (.ops [
    ⟨some 6, .mv (.tmp 1), none, 0⟩,
    ⟨some 7, .bin .lss (.tmp 6) (.const (.int .i64 1)), none, 0⟩]) <|
  .cond (.tmp 7)
    (.seq (.ops [
      ⟨some 4, .mv (.const (.int .i64 0)), none, 0⟩]) <|
    .keep [4] <|
    .ret)
    (.skip)) <|
  .seq (.ops [
    ⟨some 8, .mv (.tmp 0), none, 0⟩,
    ⟨some 9, .mv (.tmp 0), none, 0⟩,
    ⟨some 10, .nilchk (.tmp 9), none, 0⟩,
    ⟨some 11, .fld 2 (.tmp 10), none, 0⟩,
    ⟨some 12, .load false 1 (.tmp 11), none, 0⟩,
    ⟨some 13, .bin .mul (.tmp 12) (.const (.int .u64 6364136223846793005)), none, 0⟩,
    ⟨some 14, .bin .add (.tmp 13) (.const (.int .u64 1442695040888963407)), none, 0⟩,
    ⟨some 15, .nilchk (.tmp 8), none, 0⟩,
    ⟨some 16, .fld 2 (.tmp 15), none, 0⟩,
    ⟨none, .store 1 (.tmp 16) (.tmp 14), none, 0⟩]) <|
  .seq (.ops [
    ⟨some 17, .mv (.tmp 0), none, 0⟩,
    ⟨some 18, .nilchk (.tmp 17), none, 0⟩,
    ⟨some 19, .fld 2 (.tmp 18), none, 0⟩,
    ⟨some 20, .load false 1 (.tmp 19), none, 0⟩,
    ⟨some 21, .bin .shr (.tmp 20) (.const (.int .u64 33)), none, 0⟩,
    ⟨some 22, .bin .and (.tmp 21) (.const (.int .u64 16777215)), none, 0⟩,
    ⟨some 23, .conv .i64 (.tmp 22), none, 0⟩,
    ⟨some 5, .mv (.tmp 23), none, 0⟩]) <|
  .seq (.seq (.dops [
    ⟨some 24, .mv (.tmp 0), none, 0⟩,
    ⟨some 25, .nilchk (.tmp 24), none, 0⟩,
    ⟨some 26, .fld 1 (.tmp 25), none, 0⟩,
    ⟨some 27, .load false 1 (.tmp 26), none, 0⟩,
    ⟨some 28, .mv (.tmp 0), none, 0⟩,
    ⟨some 29, .nilchk (.tmp 28), none, 0⟩,
    ⟨some 30, .fld 0 (.tmp 29), none, 0⟩,
    ⟨some 31, .load false 1 (.tmp 30), none, 0⟩,
    ⟨some 32, .len (.tmp 31), none, 0⟩,
    ⟨some 33, .bin .lss (.tmp 27) (.tmp 32), none, 0⟩]) <|
  .cond (.tmp 33)
    (.seq (.dops [
      ⟨some 34, .mv (.tmp 5), none, 0⟩,
      ⟨some 35, .mv (.tmp 0), none, 0⟩,
      ⟨some 36, .nilchk (.tmp 35), none, 0⟩,
      ⟨some 37, .fld 0 (.tmp 36), none, 0⟩,
      ⟨some 38, .load false 1 (.tmp 37), none, 0⟩,
      ⟨some 39, .mv (.tmp 0), none, 0⟩,
      ⟨some 40, .nilchk (.tmp 39), none, 0⟩,
      ⟨some 41, .fld 1 (.tmp 40), none, 0⟩,
      ⟨some 42, .load false 1 (.tmp 41), none, 0⟩,
      ⟨some 43, .idx 1 (.tmp 38) (.tmp 42), none, 0⟩,
      ⟨some 44, .load false 1 (.tmp 43), none, 0⟩,
      ⟨some 45, .conv .i64 (.tmp 44), none, 0⟩,
      ⟨some 46, .bin .add (.tmp 34) (.tmp 45), none, 0⟩,
      ⟨some 5, .mv (.tmp 46), none, 0⟩]) <|
    .ops [
      ⟨some 47, .mv (.tmp 0), none, 0⟩,
      ⟨some 48, .mv (.tmp 0), none, 0⟩,
      ⟨some 49, .nilchk (.tmp 48), none, 0⟩,
      ⟨some 50, .fld 1 (.tmp 49), none, 0⟩,
      ⟨some 51, .load false 1 (.tmp 50), none, 0⟩,
      ⟨some 52, .bin .add (.tmp 51) (.const (.int .i64 1)), none, 0⟩,
      ⟨some 53, .nilchk (.tmp 47), none, 0⟩,
      ⟨some 54, .fld 1 (.tmp 53), none, 0⟩,
      ⟨none, .store 1 (.tmp 54) (.tmp 52), none, 0⟩])
    (.skip)) <|
  .seq (.ops [
    ⟨some 55, .mv (.tmp 5), none, 0⟩,
    ⟨some 56, .mv (.tmp 1), none, 0⟩,
    ⟨some 57, .bin .rem (.tmp 55) (.tmp 56), none, 0⟩,
    ⟨some 4, .mv (.tmp 57), none, 0⟩]) <|
  .keep [4] <|
  .ret⟩

theorem e_spec_l01Next : EntOK Try.prog (compD Try.prog) k_spec_l01Next i_spec_l01Next.vf :=
  ⟨Try.f55, Try.f55.body.getD .skip, Try.func55, by kernel_rfl, by kernel_rfl, by kernel_rfl, by kernel_rfl, by kernel_rfl⟩

/-- loop.example/g01331/spec.l01Pick -/
def i_spec_l01Pick : FF := ⟨12, [.tmp 4],
  .seq (.ops [
    ⟨some 4, .mv (.const (.int .i64 0)), none, 0⟩]) <|
  .seq (.ops [
    ⟨some 5, .mv (.tmp 1), none, 0⟩,
    ⟨some 6, .mv (.tmp 0), none, 0⟩,
    ⟨some 7, .mv (.tmp 1), none, 0⟩,
    ⟨some 8, .len (.tmp 7), none, 0⟩,
    ⟨some 9, .call k_spec_l01Next [(.tmp 6), (.tmp 8)], none, 0⟩,
    ⟨some 10, .idx 1 (.tmp 5) (.tmp 9), none, 0⟩,
    ⟨some 11, .load false 1 (.tmp 10), none, 0⟩,
    ⟨some 4, .mv (.tmp 11), none, 0⟩]) <|
  .keep [4] <|
  .ret⟩

theorem e_spec_l01Pick : EntOK Try.prog (compD Try.prog) k_spec_l01Pick i_spec_l01Pick.vf :=
  ⟨Try.f56, Try.f56.body.getD .skip, Try.func56, by kernel_rfl, by kernel_rfl, by kernel_rfl, by kernel_rfl, by kernel_rfl⟩

/-- loop.example/g01331/spec.l01In -/
def i_spec_l01In : FF := ⟨15, [.tmp 6],
  .seq (.ops [
    ⟨some 6, .mv (.const (.bool false)), none, 0⟩]) <|
  .seq (.ops [
    ⟨some 7, .mv (.tmp 0), none, 0⟩,
    ⟨some 8, .mv (.tmp 1), none, 0⟩,
    ⟨some 9, .bin .geq (.tmp 7) (.tmp 8), none, 0⟩,
    ⟨some 10, .mv (.tmp 9), none, 0⟩,
    ⟨some 11, .mv (.tmp 0), some (10, true), 0⟩,
    ⟨some 12, .mv (.tmp 2), some (10, true), 0⟩,
    ⟨some 13, .bin .leq (.tmp 11) (.tmp 12), some (10, true), 0⟩,
    ⟨some 14, .pick (.tmp 10) (.tmp 13) (.const (.bool false)), none, 0⟩,
    ⟨some 6, .mv (.tmp 14), none, 0⟩]) <|
  .keep [6] <|
  .ret⟩

theorem e_spec_l01In : EntOK Try.prog (compD Try.prog) k_spec_l01In i_spec_l01In.vf :=
  ⟨Try.f57, Try.f57.body.getD .skip, Try.func57, by kernel_rfl, by kernel_rfl, by kernel_rfl, by kernel_rfl, by kernel_rfl⟩

/-- loop.example/g01331/spec.l05Prime -/
def i_spec_l05Prime : FF := ⟨17, [.tmp 2],
  .seq (.ops [
    ⟨some 2, .mv (.const (.bool false)), none, 0⟩]) <|
  .seq (.ops [
    ⟨some 3, .mv (.tmp 0), none, 0⟩,
    ⟨some 4, .bin .eql (.tmp 3) (.const (.int .i64 2)), none, 0⟩,
    ⟨some 5, .mv (.tmp 4), none, 0⟩,
    ⟨some 6, .mv (.tmp 0), some (5, false), 0⟩,
    ⟨some 7, .bin .eql (.tmp 6) (.const (.int .i64 3)), some (5, false), 0⟩,
    ⟨some 8, .pick (.tmp 5) (.const (.bool true)) (.tmp 7), none, 0⟩,
    ⟨some 9, .mv (.tmp 8), none, 0⟩,
    ⟨some 10, .mv (.tmp 0), some (9, false), 0⟩,
    ⟨some 11, .bin .eql (.tmp 10) (.const (.int .i64 5)), some (9, false), 0⟩,
    ⟨some 12, .pick (.tmp 9) (.const (.bool true)) (.tmp 11), none, 0⟩,
    ⟨some 13, .mv (.tmp 12), none, 0⟩,
    ⟨some 14, .mv (.tmp 0), some (13, false), 0⟩,
    ⟨some 15, .bin .eql (.tmp 14) (.const (.int .i64 7)), some (13, false), 0⟩,
    ⟨some 16, .pick (.tmp 13) (.const (.bool true)) (.tmp 15), none, 0⟩,
    ⟨some 2, .mv (.tmp 16), none, 0⟩]) <|
  .keep [2] <|
  .ret⟩

theorem e_spec_l05Prime : EntOK Try.prog (compD Try.prog) k_spec_l05Prime i_spec_l05Prime.vf :=
  ⟨Try.f58, Try.f58.body.getD .skip, Try.func58, by kernel_rfl, by kernel_rfl, by kernel_rfl, by kernel_rfl, by kernel_rfl⟩

/-- slices.Index[[]int64,int64] -/
def i_slices_Index_int64_int64_B1 : FC :=
  .seq (.ops [
    ⟨some 9, .bin .lss (.tmp 8) (.tmp 7), none, 0⟩]) <|
  .seq (.cond (.tmp 9)
    (.skip)
    (.keep [] <|
    .exit 0)) <|
  .seq (.block 1 <|
  .seq (.ops [
    ⟨some 10, .mv (.tmp 8), none, 0⟩,
    ⟨some 5, .mv (.tmp 10), none, 0⟩]) <|
  .seq (.ops [
    ⟨some 11, .mv (.tmp 1), none, 0⟩,
    ⟨some 12, .mv (.tmp 0), none, 0⟩,
    ⟨some 13, .mv (.tmp 5), none, 0⟩,
    ⟨some 14, .idx 1 (.tmp 12) (.tmp 13), none, 0⟩,
    ⟨some 15, .load false 1 (.tmp 14), none, 0⟩,
    ⟨some 16, .bin .eql (.tmp 11) (.tmp 15), none, 0⟩]) <|
  .cond (.tmp 16)
    (.seq (.ops [
      ⟨some 17, .mv (.tmp 5), none, 0⟩,
      ⟨some 4, .mv (.tmp 17), none, 0⟩]) <|
    .keep [4] <|
    .ret)
    (.skip)) <|
  .ops [
    ⟨some 18, .bin .add (.tmp 8) (.const (.int .i64 1)), none, 0⟩,
    ⟨some 8, .mv (.tmp 18), none, 0⟩]
def i_slices_Index_int64_int64 : FF := ⟨19, [.tmp 4],
  .seq (.ops [
    ⟨some 4, .mv (.const (.int .i64 0)), none, 0⟩]) <|
  .seq (.seq (.ops [
    ⟨some 6, .mv (.tmp 0), none, 0⟩,
    ⟨some 7, .len (.tmp 6), none, 0⟩,
    ⟨some 8, .mv (.const (.int .i64 0)), none, 0⟩]) <|
  .block 0 <|
  .loop [0, 1, 7, 8] i_slices_Index_int64_int64_B1) <|
  .seq (.ops [
    ⟨some 4, .mv (.const (.int .i64 (-1))), none, 0⟩]) <|
  .keep [4] <|
  .ret⟩

theorem e_slices_Index_int64_int64 : EntOK Try.prog (compD Try.prog) k_slices_Index_int64_int64 i_slices_Index_int64_int64.vf :=
  ⟨Try.f59, Try.f59.body.getD .skip, Try.func59, by kernel_rfl, by kernel_rfl, by kernel_rfl, by kernel_rfl, by kernel_rfl⟩

/-- slices.pdqsortOrdered[int64] -/
def i_slices_pdqsortOrdered_int64_B1 : FC :=
  .block 1 <|
  .seq (.ops [
    ⟨some 19, .mv (.tmp 2), none, 0⟩,
    ⟨some 20, .mv (.tmp 1), none, 0⟩,
    ⟨some 21, .bin .sub (.tmp 19) (.tmp 20), none, 0⟩,
    ⟨some 10, .mv (.tmp 21), none, 0⟩]) <|
  .seq (.seq (.ops [
    ⟨some 22, .mv (.tmp 10), none, 0⟩,
    ⟨some 23, .bin .leq (.tmp 22) (.const (.int .i64 12)), none, 0⟩]) <|
  .cond (.tmp 23)
    (.seq (.ops [
      ⟨some 24, .mv (.tmp 0), none, 0⟩,
      ⟨some 25, .mv (.tmp 1), none, 0⟩,
      ⟨some 26, .mv (.tmp 2), none, 0⟩,
      ⟨some 27, .call k_slices_insertionSortOrdered_int64 [(.tmp 24), (.tmp 25), (.tmp 26)], none, 0⟩]) <|
    .keep [] <|
    .ret)
    (.skip)) <|
  .seq (.seq (.ops [
    ⟨some 28, .mv (.tmp 3), none, 0⟩,
    ⟨some 29, .bin .eql (.tmp 28) (.const (.int .i64 0)), none, 0⟩]) <|
  .cond (.tmp 29)
    (.seq (.ops [
      ⟨some 30, .mv (.tmp 0), none, 0⟩,
      ⟨some 31, .mv (.tmp 1), none, 0⟩,
      ⟨some 32, .mv (.tmp 2), none, 0⟩,
      ⟨some 33, .call k_slices_heapSortOrdered_int64 [(.tmp 30), (.tmp 31), (.tmp 32)], none, 0⟩]) <|
    .keep [] <|
    .ret)
    (.skip)) <|
  .seq (.seq (.ops [
    ⟨some 34, .mv (.tmp 8), none, 0⟩,
    ⟨some 35, .un .not (.tmp 34), none, 0⟩]) <|
  .cond (.tmp 35)
    (.seq (.ops [
      ⟨some 36, .mv (.tmp 0), none, 0⟩,
      ⟨some 37, .mv (.tmp 1), none, 0⟩,
      ⟨some 38, .mv (.tmp 2), none, 0⟩,
      ⟨some 39, .call k_slices_breakPatternsOrdered_int64 [(.tmp 36), (.tmp 37), (.tmp 38)], none, 0⟩]) <|
    .ops [
      ⟨some 40, .mv (.tmp 3), none, 0⟩,
      ⟨some 41, .bin .sub (.tmp 40) (.const (.int .i64 1)), none, 0⟩,
      ⟨some 3, .mv (.tmp 41), none, 0⟩])
    (.skip)) <|
  .seq (.ops [
    ⟨some 43, .mv (.tmp 0), none, 0⟩,
    ⟨some 44, .mv (.tmp 1), none, 0⟩,
    ⟨some 45, .mv (.tmp 2), none, 0⟩,
    ⟨some 46, .call k_slices_choosePivotOrdered_int64 [(.tmp 43), (.tmp 44), (.tmp 45)], none, 0⟩,
    ⟨some 42, .mv (.tmp 46), none, 0⟩,
    ⟨some 47, .ext (.tmp 42) 0, none, 0⟩,
    ⟨some 48, .ext (.tmp 42) 1, none, 0⟩,
    ⟨some 11, .mv (.tmp 47), none, 0⟩,
    ⟨some 12, .mv (.tmp 48), none, 0⟩]) <|
  .seq (.seq (.ops [
    ⟨some 49, .mv (.tmp 12), none, 0⟩,
    ⟨some 50, .bin .eql (.tmp 49) (.const (.int .i64 2)), none, 0⟩]) <|
  .cond (.tmp 50)
    (.seq (.ops [
      ⟨some 51, .mv (.tmp 0), none, 0⟩,
      ⟨some 52, .mv (.tmp 1), none, 0⟩,
      ⟨some 53, .mv (.tmp 2), none, 0⟩,
      ⟨some 54, .call k_slices_reverseRangeOrdered_int64 [(.tmp 51), (.tmp 52), (.tmp 53)], none, 0⟩]) <|
    .seq (.ops [
      ⟨some 55, .mv (.tmp 2), none, 0⟩,
      ⟨some 56, .bin .sub (.tmp 55) (.const (.int .i64 1)), none, 0⟩,
      ⟨some 57, .mv (.tmp 11), none, 0⟩,
      ⟨some 58, .mv (.tmp 1), none, 0⟩,
      ⟨some 59, .bin .sub (.tmp 57) (.tmp 58), none, 0⟩,
      ⟨some 60, .bin .sub (.tmp 56) (.tmp 59), none, 0⟩,
      ⟨some 11, .mv (.tmp 60), none, 0⟩]) <|
    .ops [
      ⟨some 12, .mv (.const (.int .i64 1)), none, 0⟩])
    (.skip)) <|
  .seq (.seq (.ops [
    ⟨some 61, .mv (.tmp 8), none, 0⟩,
    ⟨some 62, .mv (.tmp 61), none, 0⟩,
    ⟨some 63, .mv (.tmp 9), some (62, true), 0⟩,
    ⟨some 64, .pick (.tmp 62) (.tmp 63) (.const (.bool false)), none, 0⟩,
    ⟨some 65, .mv (.tmp 64), none, 0⟩,
    ⟨some 66, .mv (.tmp 12), some (65, true), 0⟩,
    ⟨some 67, .bin .eql (.tmp 66) (.const (.int .i64 1)), some (65, true), 0⟩,
    ⟨some 68, .pick (.tmp 65) (.tmp 67) (.const (.bool false)), none, 0⟩]) <|
  .cond (.tmp 68)
    (.seq (.ops [
      ⟨some 69, .mv (.tmp 0), none, 0⟩,
      ⟨some 70, .mv (.tmp 1), none, 0⟩,
      ⟨some 71, .mv (.tmp 2), none, 0⟩,
      ⟨some 72, .call k_slices_partialInsertionSortOrdered_int64 [(.tmp 69), (.tmp 70), (.tmp 71)], none, 0⟩]) <|
    .cond (.tmp 72)
      (.keep [] <|
      .ret)
      (.skip))
    (.skip)) <|
  .seq (.seq (.dops [
    ⟨some 73, .mv (.tmp 1), none, 0⟩,
    ⟨some 74, .bin .gtr (.tmp 73) (.const (.int .i64 0)), none, 0⟩,
    ⟨some 75, .mv (.tmp 74), none, 0⟩,
    ⟨some 76, .mv (.tmp 0), some (75, true), 0⟩,
    ⟨some 77, .mv (.tmp 1), some (75, true), 0⟩,
    ⟨some 78, .bin .sub (.tmp 77) (.const (.int .i64 1)), some (75, true), 0⟩,
    ⟨some 79, .idx 1 (.tmp 76) (.tmp 78), some (75, true), 0⟩,
    ⟨some 80, .load false 1 (.tmp 79), some (75, true), 0⟩,
    ⟨some 81, .mv (.tmp 0), some (75, true), 0⟩,
    ⟨some 82, .mv (.tmp 11), some (75, true), 0⟩,
    ⟨some 83, .idx 1 (.tmp 81) (.tmp 82), some (75, true), 0⟩,
    ⟨some 84, .load false 1 (.tmp 83), some (75, true), 0⟩,
    ⟨some 85, .call k_cmp_Less_int64 [(.tmp 80), (.tmp 84)], some (75, true), 0⟩,
    ⟨some 86, .un .not (.tmp 85), some (75, true), 0⟩,
    ⟨some 87, .pick (.tmp 75) (.tmp 86) (.const (.bool false)), none, 0⟩]) <|
  .cond (.tmp 87)
    (.seq (.ops [
      ⟨some 88, .mv (.tmp 0), none, 0⟩,
      ⟨some 89, .mv (.tmp 1), none, 0⟩,
      ⟨some 90, .mv (.tmp 2), none, 0⟩,
      ⟨some 91, .mv (.tmp 11), none, 0⟩,
      ⟨some 92, .call k_slices_partitionEqualOrdered_int64 [(.tmp 88), (.tmp 89), (.tmp 90), (.tmp 91)], none, 0⟩,
      ⟨some 13, .mv (.tmp 92), none, 0⟩]) <|
    .seq (.ops [
      ⟨some 93, .mv (.tmp 13), none, 0⟩,
      ⟨some 1, .mv (.tmp 93), none, 0⟩]) <|
    .keep [0, 1, 2, 3, 8, 9] <|
    .exit 1)
    (.skip)) <|
  .seq (.ops [
    ⟨some 95, .mv (.tmp 0), none, 0⟩,
    ⟨some 96, .mv (.tmp 1), none, 0⟩,
    ⟨some 97, .mv (.tmp 2), none, 0⟩,
    ⟨some 98, .mv (.tmp 11), none, 0⟩,
    ⟨some 99, .call k_slices_partitionOrdered_int64 [(.tmp 95), (.tmp 96), (.tmp 97), (.tmp 98)], none, 0⟩,
    ⟨some 94, .mv (.tmp 99), none, 0⟩,
    ⟨some 100, .ext (.tmp 94) 0, none, 0⟩,
    ⟨some 101, .ext (.tmp 94) 1, none, 0⟩,
    ⟨some 14, .mv (.tmp 100), none, 0⟩,
    ⟨some 15, .mv (.tmp 101), none, 0⟩]) <|
  .seq (.ops [
    ⟨some 102, .mv (.tmp 15), none, 0⟩,
    ⟨some 9, .mv (.tmp 102), none, 0⟩]) <|
  .seq (.ops [
    ⟨some 103, .mv (.tmp 14), none, 0⟩,
    ⟨some 104, .mv (.tmp 1), none, 0⟩,
    ⟨some 105, .bin .sub (.tmp 103) (.tmp 104), none, 0⟩,
    ⟨some 106, .mv (.tmp 2), none, 0⟩,
    ⟨some 107, .mv (.tmp 14), none, 0⟩,
    ⟨some 108, .bin .sub (.tmp 106) (.tmp 107), none, 0⟩,
    ⟨some 16, .mv (.tmp 105), none, 0⟩,
    ⟨some 17, .mv (.tmp 108), none, 0⟩]) <|
  .seq (.ops [
    ⟨some 109, .mv (.tmp 10), none, 0⟩,
    ⟨some 110, .bin .quo (.tmp 109) (.const (.int .i64 8)), none, 0⟩,
    ⟨some 18, .mv (.tmp 110), none, 0⟩]) <|
  .seq (.ops [
    ⟨some 111, .mv (.tmp 16), none, 0⟩,
    ⟨some 112, .mv (.tmp 17), none, 0⟩,
    ⟨some 113, .bin .lss (.tmp 111) (.tmp 112), none, 0⟩]) <|
  .cond (.tmp 113)
    (.seq (.ops [
      ⟨some 114, .mv (.tmp 16), none, 0⟩,
      ⟨some 115, .mv (.tmp 18), none, 0⟩,
      ⟨some 116, .bin .geq (.tmp 114) (.tmp 115), none, 0⟩,
      ⟨some 8, .mv (.tmp 116), none, 0⟩]) <|
    .seq (.ops [
      ⟨some 117, .mv (.tmp 0), none, 0⟩,
      ⟨some 118, .mv (.tmp 1), none, 0⟩,
      ⟨some 119, .mv (.tmp 14), none, 0⟩,
      ⟨some 120, .mv (.tmp 3), none, 0⟩,
      ⟨some 121, .call k_slices_pdqsortOrdered_int64 [(.tmp 117), (.tmp 118), (.tmp 119), (.tmp 120)], none, 0⟩]) <|
    .ops [
      ⟨some 122, .mv (.tmp 14), none, 0⟩,
      ⟨some 123, .bin .add (.tmp 122) (.const (.int .i64 1)), none, 0⟩,
      ⟨some 1, .mv (.tmp 123), none, 0⟩])
    (.seq (.ops [
      ⟨some 124, .mv (.tmp 17), none, 0⟩,
      ⟨some 125, .mv (.tmp 18), none, 0⟩,
      ⟨some 126, .bin .geq (.tmp 124) (.tmp 125), none, 0⟩,
      ⟨some 8, .mv (.tmp 126), none, 0⟩]) <|
    .seq (.ops [
      ⟨some 127, .mv (.tmp 0), none, 0⟩,
      ⟨some 128, .mv (.tmp 14), none, 0⟩,
      ⟨some 129, .bin .add (.tmp 128) (.const (.int .i64 1)), none, 0⟩,
      ⟨some 130, .mv (.tmp 2), none, 0⟩,
      ⟨some 131, .mv (.tmp 3), none, 0⟩,
      ⟨some 132, .call k_slices_pdqsortOrdered_int64 [(.tmp 127), (.tmp 129), (.tmp 130), (.tmp 131)], none, 0⟩]) <|
    .ops [
      ⟨some 133, .mv (.tmp 14), none, 0⟩,
      ⟨some 2, .mv (.tmp 133), none, 0⟩])
def i_slices_pdqsortOrdered_int64 : FF := ⟨134, [],
  .seq (.ops [
    ⟨some 8, .mv (.const (.bool true)), none, 0⟩]) <|
  .seq (.ops [
    ⟨some 9, .mv (.const (.bool true)), none, 0⟩]) <|
  .block 0 <|
  .loop [0, 1, 2, 3, 8, 9] i_slices_pdqsortOrdered_int64_B1⟩

theorem e_slices_pdqsortOrdered_int64 : EntOK Try.prog (compD Try.prog) k_slices_pdqsortOrdered_int64 i_slices_pdqsortOrdered_int64.vf :=
  ⟨Try.f60, Try.f60.body.getD .skip, Try.func60, by kernel_rfl, by kernel_rfl, by kernel_rfl, by kernel_rfl, by kernel_rfl⟩

/-- math/bits.Len -/
def i_math_bits_Len : FF := ⟨8, [.tmp 2],
  .seq (.ops [
    ⟨some 2, .mv (.const (.int .i64 0)), none, 0⟩]) <|
  .seq (.cond (.const (.bool false))
    (.seq (.ops [
      ⟨some 3, .mv (.tmp 0), none, 0⟩,
      ⟨some 4, .conv .u32 (.tmp 3), none, 0⟩,
      ⟨some 5, .call k_math_bits_Len32 [(.tmp 4)], none, 0⟩,
      ⟨some 2, .mv (.tmp 5), none, 0⟩]) <|
    .keep [2] <|
    .ret)
    (.skip)) <|
  .seq (.ops [
    ⟨some 6, .mv (.tmp 0), none, 0⟩,
    ⟨some 7, .call k_math_bits_Len64 [(.tmp 6)], none, 0⟩,
    ⟨some 2, .mv (.tmp 7), none, 0⟩]) <|
  .keep [2] <|
  .ret⟩

theorem e_math_bits_Len : EntOK Try.prog (compD Try.prog) k_math_bits_Len i_math_bits_Len.vf :=
  ⟨Try.f61, Try.f61.body.getD .skip, Try.func61, by kernel_rfl, by kernel_rfl, by kernel_rfl, by kernel_rfl, by kernel_rfl⟩

/-- slices.insertionSortOrdered[int64] -/
def i_slices_insertionSortOrdered_int64_B1 : FC :=
  .seq (.seq (.dops [
    ⟨some 16, .mv (.tmp 7), none, 0⟩,
    ⟨some 17, .mv (.tmp 1), none, 0⟩,
    ⟨some 18, .bin .gtr (.tmp 16) (.tmp 17), none, 0⟩,
    ⟨some 19, .mv (.tmp 18), none, 0⟩,
    ⟨some 20, .mv (.tmp 0), some (19, true), 0⟩,
    ⟨some 21, .mv (.tmp 7), some (19, true), 0⟩,
    ⟨some 22, .idx 1 (.tmp 20) (.tmp 21), some (19, true), 0⟩,
    ⟨some 23, .load false 1 (.tmp 22), some (19, true), 0⟩,
    ⟨some 24, .mv (.tmp 0), some (19, true), 0⟩,
    ⟨some 25, .mv (.tmp 7), some (19, true), 0⟩,
    ⟨some 26, .bin .sub (.tmp 25) (.const (.int .i64 1)), some (19, true), 0⟩,
    ⟨some 27, .idx 1 (.tmp 24) (.tmp 26), some (19, true), 0⟩,
    ⟨some 28, .load false 1 (.tmp 27), some (19, true), 0⟩,
    ⟨some 29, .call k_cmp_Less_int64 [(.tmp 23), (.tmp 28)], some (19, true), 0⟩,
    ⟨some 30, .pick (.tmp 19) (.tmp 29) (.const (.bool false)), none, 0⟩]) <|
  .cond (.tmp 30)
    (.skip)
    (.keep [0, 1, 2, 6] <|
    .exit 2)) <|
  .seq (.block 3 <|
  .dops [
    ⟨some 33, .mv (.tmp 0), none, 0⟩,
    ⟨some 34, .mv (.tmp 7), none, 0⟩,
    ⟨some 38, .mv (.tmp 0), none, 0⟩,
    ⟨some 39, .mv (.tmp 7), none, 0⟩,
    ⟨some 40, .bin .sub (.tmp 39) (.const (.int .i64 1)), none, 0⟩,
    ⟨some 41, .idx 1 (.tmp 38) (.tmp 40), none, 0⟩,
    ⟨some 42, .load false 1 (.tmp 41), none, 0⟩,
    ⟨some 43, .mv (.tmp 0), none, 0⟩,
    ⟨some 44, .mv (.tmp 7), none, 0⟩,
    ⟨some 45, .idx 1 (.tmp 43) (.tmp 44), none, 0⟩,
    ⟨some 46, .load false 1 (.tmp 45), none, 0⟩,
    ⟨some 47, .idx 1 (.tmp 33) (.tmp 34), none, 0⟩,
    ⟨none, .store 1 (.tmp 47) (.tmp 42), none, 0⟩,
    ⟨some 35, .mv (.tmp 0), none, 1⟩,
    ⟨some 36, .mv (.tmp 7), none, 1⟩,
    ⟨some 37, .bin .sub (.tmp 36) (.const (.int .i64 1)), none, 1⟩,
    ⟨some 48, .idx 1 (.tmp 35) (.tmp 37), none, 0⟩,
    ⟨none, .store 1 (.tmp 48) (.tmp 46), none, 0⟩]) <|
  .ops [
    ⟨some 31, .mv (.tmp 7), none, 0⟩,
    ⟨some 32, .bin .sub (.tmp 31) (.const (.int .i64 1)), none, 0⟩,
    ⟨some 7, .mv (.tmp 32), none, 0⟩]
def i_slices_insertionSortOrdered_int64_B2 : FC :=
  .seq (.seq (.ops [
    ⟨some 10, .mv (.tmp 6), none, 0⟩,
    ⟨some 11, .mv (.tmp 2), none, 0⟩,
    ⟨some 12, .bin .lss (.tmp 10) (.tmp 11), none, 0⟩]) <|
  .cond (.tmp 12)
    (.skip)
    (.keep [] <|
    .exit 0)) <|
  .seq (.block 1 <|
  .seq (.ops [
    ⟨some 15, .mv (.tmp 6), none, 0⟩,
    ⟨some 7, .mv (.tmp 15), none, 0⟩]) <|
  .block 2 <|
  .loop [0, 1, 2, 6, 7] i_slices_insertionSortOrdered_int64_B1) <|
  .ops [
    ⟨some 13, .mv (.tmp 6), none, 0⟩,
    ⟨some 14, .bin .add (.tmp 13) (.const (.int .i64 1)), none, 0⟩,
    ⟨some 6, .mv (.tmp 14), none, 0⟩]
def i_slices_insertionSortOrdered_int64 : FF := ⟨49, [],
  .seq (.ops [
    ⟨some 8, .mv (.tmp 1), none, 0⟩,
    ⟨some 9, .bin .add (.tmp 8) (.const (.int .i64 1)), none, 0⟩,
    ⟨some 6, .mv (.tmp 9), none, 0⟩]) <|
  .block 0 <|
  .loop [0, 1, 2, 6] i_slices_insertionSortOrdered_int64_B2⟩

theorem e_slices_insertionSortOrdered_int64 : EntOK Try.prog (compD Try.prog) k_slices_insertionSortOrdered_int64 i_slices_insertionSortOrdered_int64.vf :=
  ⟨Try.f62, Try.f62.body.getD .skip, Try.func62, by kernel_rfl, by kernel_rfl, by kernel_rfl, by kernel_rfl, by kernel_rfl⟩

/-- slices.heapSortOrdered[int64] -/
def i_slices_heapSortOrdered_int64_B1 : FC :=
  .seq (.seq (.ops [
    ⟨some 18, .mv (.tmp 9), none, 0⟩,
    ⟨some 19, .bin .geq (.tmp 18) (.const (.int .i64 0)), none, 0⟩]) <|
  .cond (.tmp 19)
    (.skip)
    (.keep [0, 6, 7, 8] <|
    .exit 0)) <|
  .seq (.block 1 <|
  .ops [
    ⟨some 22, .mv (.tmp 0), none, 0⟩,
    ⟨some 23, .mv (.tmp 9), none, 0⟩,
    ⟨some 24, .mv (.tmp 8), none, 0⟩,
    ⟨some 25, .mv (.tmp 6), none, 0⟩,
    ⟨some 26, .call k_slices_siftDownOrdered_int64 [(.tmp 22), (.tmp 23), (.tmp 24), (.tmp 25)], none, 0⟩]) <|
  .ops [
    ⟨some 20, .mv (.tmp 9), none, 0⟩,
    ⟨some 21, .bin .sub (.tmp 20) (.const (.int .i64 1)), none, 0⟩,
    ⟨some 9, .mv (.tmp 21), none, 0⟩]
def i_slices_heapSortOrdered_int64_B2 : FC :=
  .seq (.seq (.ops [
    ⟨some 29, .mv (.tmp 10), none, 0⟩,
    ⟨some 30, .bin .geq (.tmp 29) (.const (.int .i64 0)), none, 0⟩]) <|
  .cond (.tmp 30)
    (.skip)
    (.keep [] <|
    .exit 2)) <|
  .seq (.block 3 <|
  .seq (.dops [
    ⟨some 33, .mv (.tmp 0), none, 0⟩,
    ⟨some 34, .mv (.tmp 6), none, 0⟩,
    ⟨some 39, .mv (.tmp 0), none, 0⟩,
    ⟨some 40, .mv (.tmp 6), none, 0⟩,
    ⟨some 41, .mv (.tmp 10), none, 0⟩,
    ⟨some 42, .bin .add (.tmp 40) (.tmp 41), none, 0⟩,
    ⟨some 43, .idx 1 (.tmp 39) (.tmp 42), none, 0⟩,
    ⟨some 44, .load false 1 (.tmp 43), none, 0⟩,
    ⟨some 45, .mv (.tmp 0), none, 0⟩,
    ⟨some 46, .mv (.tmp 6), none, 0⟩,
    ⟨some 47, .idx 1 (.tmp 45) (.tmp 46), none, 0⟩,
    ⟨some 48, .load false 1 (.tmp 47), none, 0⟩,
    ⟨some 49, .idx 1 (.tmp 33) (.tmp 34), none, 0⟩,
    ⟨none, .store 1 (.tmp 49) (.tmp 44), none, 0⟩,
    ⟨some 35, .mv (.tmp 0), none, 1⟩,
    ⟨some 36, .mv (.tmp 6), none, 1⟩,
    ⟨some 37, .mv (.tmp 10), none, 1⟩,
    ⟨some 38, .bin .add (.tmp 36) (.tmp 37), none, 1⟩,
    ⟨some 50, .idx 1 (.tmp 35) (.tmp 38), none, 0⟩,
    ⟨none, .store 1 (.tmp 50) (.tmp 48), none, 0⟩]) <|
  .ops [
    ⟨some 51, .mv (.tmp 0), none, 0⟩,
    ⟨some 52, .mv (.tmp 7), none, 0⟩,
    ⟨some 53, .mv (.tmp 10), none, 0⟩,
    ⟨some 54, .mv (.tmp 6), none, 0⟩,
    ⟨some 55, .call k_slices_siftDownOrdered_int64 [(.tmp 51), (.tmp 52), (.tmp 53), (.tmp 54)], none, 0⟩]) <|
  .ops [
    ⟨some 31, .mv (.tmp 10), none, 0⟩,
    ⟨some 32, .bin .sub (.tmp 31) (.const (.int .i64 1)), none, 0⟩,
    ⟨some 10, .mv (.tmp 32), none, 0⟩]
def i_slices_heapSortOrdered_int64 : FF := ⟨56, [],
  .seq (.ops [
    ⟨some 11, .mv (.tmp 1), none, 0⟩,
    ⟨some 6, .mv (.tmp 11), none, 0⟩]) <|
  .seq (.ops [
    ⟨some 7, .mv (.const (.int .i64 0)), none, 0⟩]) <|
  .seq (.ops [
    ⟨some 12, .mv (.tmp 2), none, 0⟩,
    ⟨some 13, .mv (.tmp 1), none, 0⟩,
    ⟨some 14, .bin .sub (.tmp 12) (.tmp 13), none, 0⟩,
    ⟨some 8, .mv (.tmp 14), none, 0⟩]) <|
  .seq (.seq (.ops [
    ⟨some 15, .mv (.tmp 8), none, 0⟩,
    ⟨some 16, .bin .sub (.tmp 15) (.const (.int .i64 1)), none, 0⟩,
    ⟨some 17, .bin .quo (.tmp 16) (.const (.int .i64 2)), none, 0⟩,
    ⟨some 9, .mv (.tmp 17), none, 0⟩]) <|
  .block 0 <|
  .loop [0, 6, 7, 8, 9] i_slices_heapSortOrdered_int64_B1) <|
  .seq (.ops [
    ⟨some 27, .mv (.tmp 8), none, 0⟩,
    ⟨some 28, .bin .sub (.tmp 27) (.const (.int .i64 1)), none, 0⟩,
    ⟨some 10, .mv (.tmp 28), none, 0⟩]) <|
  .block 2 <|
  .loop [0, 6, 7, 10] i_slices_heapSortOrdered_int64_B2⟩

theorem e_slices_heapSortOrdered_int64 : EntOK Try.prog (compD Try.prog) k_slices_heapSortOrdered_int64 i_slices_heapSortOrdered_int64.vf :=
  ⟨Try.f63, Try.f63.body.getD .skip, Try.func63, by kernel_rfl, by kernel_rfl, by kernel_rfl, by kernel_rfl, by kernel_rfl⟩

/-- slices.breakPatternsOrdered[int64] -/
def i_slices_breakPatternsOrdered_int64_B1 : FC :=
  .seq (.seq (.ops [
    ⟨some 26, .mv (.tmp 9), none, 0⟩,
    ⟨some 27, .mv (.tmp 1), none, 0⟩,
    ⟨some 28, .mv (.tmp 6), none, 0⟩,
    ⟨some 29, .bin .quo (.tmp 28) (.const (.int .i64 4)), none, 0⟩,
    ⟨some 30, .bin .mul (.tmp 29) (.const (.int .i64 2)), none, 0⟩,
    ⟨some 31, .bin .add (.tmp 27) (.tmp 30), none, 0⟩,
    ⟨some 32, .bin .add (.tmp 31) (.const (.int .i64 1)), none, 0⟩,
    ⟨some 33, .bin .leq (.tmp 26) (.tmp 32), none, 0⟩]) <|
  .cond (.tmp 33)
    (.skip)
    (.keep [] <|
    .exit 0)) <|
  .seq (.block 1 <|
  .seq (.ops [
    ⟨some 36, .call k_slices_xorshift_Next [(.tmp 7)], none, 0⟩,
    ⟨some 37, .mv (.tmp 8), none, 0⟩,
    ⟨some 38, .bin .sub (.tmp 37) (.const (.int .u64 1)), none, 0⟩,
    ⟨some 39, .bin .and (.tmp 36) (.tmp 38), none, 0⟩,
    ⟨some 40, .conv .i64 (.tmp 39), none, 0⟩,
    ⟨some 10, .mv (.tmp 40), none, 0⟩]) <|
  .seq (.seq (.ops [
    ⟨some 41, .mv (.tmp 10), none, 0⟩,
    ⟨some 42, .mv (.tmp 6), none, 0⟩,
    ⟨some 43, .bin .geq (.tmp 41) (.tmp 42), none, 0⟩]) <|
  .cond (.tmp 43)
    (.ops [
      ⟨some 44, .mv (.tmp 10), none, 0⟩,
      ⟨some 45, .mv (.tmp 6), none, 0⟩,
      ⟨some 46, .bin .sub (.tmp 44) (.tmp 45), none, 0⟩,
      ⟨some 10, .mv (.tmp 46), none, 0⟩])
    (.skip)) <|
  .dops [
    ⟨some 47, .mv (.tmp 0), none, 0⟩,
    ⟨some 48, .mv (.tmp 9), none, 0⟩,
    ⟨some 53, .mv (.tmp 0), none, 0⟩,
    ⟨some 54, .mv (.tmp 1), none, 0⟩,
    ⟨some 55, .mv (.tmp 10), none, 0⟩,
    ⟨some 56, .bin .add (.tmp 54) (.tmp 55), none, 0⟩,
    ⟨some 57, .idx 1 (.tmp 53) (.tmp 56), none, 0⟩,
    ⟨some 58, .load false 1 (.tmp 57), none, 0⟩,
    ⟨some 59, .mv (.tmp 0), none, 0⟩,
    ⟨some 60, .mv (.tmp 9), none, 0⟩,
    ⟨some 61, .idx 1 (.tmp 59) (.tmp 60), none, 0⟩,
    ⟨some 62, .load false 1 (.tmp 61), none, 0⟩,
    ⟨some 63, .idx 1 (.tmp 47) (.tmp 48), none, 0⟩,
    ⟨none, .store 1 (.tmp 63) (.tmp 58), none, 0⟩,
    ⟨some 49, .mv (.tmp 0), none, 1⟩,
    ⟨some 50, .mv (.tmp 1), none, 1⟩,
    ⟨some 51, .mv (.tmp 10), none, 1⟩,
    ⟨some 52, .bin .add (.tmp 50) (.tmp 51), none, 1⟩,
    ⟨some 64, .idx 1 (.tmp 49) (.tmp 52), none, 0⟩,
    ⟨none, .store 1 (.tmp 64) (.tmp 62), none, 0⟩]) <|
  .ops [
    ⟨some 34, .mv (.tmp 9), none, 0⟩,
    ⟨some 35, .bin .add (.tmp 34) (.const (.int .i64 1)), none, 0⟩,
    ⟨some 9, .mv (.tmp 35), none, 0⟩]
def i_slices_breakPatternsOrdered_int64 : FF := ⟨65, [],
  .seq (.ops [
    ⟨some 11, .mv (.tmp 2), none, 0⟩,
    ⟨some 12, .mv (.tmp 1), none, 0⟩,
    ⟨some 13, .bin .sub (.tmp 11) (.tmp 12), none, 0⟩,
    ⟨some 6, .mv (.tmp 13), none, 0⟩]) <|
  .seq (.ops [
    ⟨some 14, .mv (.tmp 6), none, 0⟩,
    ⟨some 15, .bin .geq (.tmp 14) (.const (.int .i64 8)), none, 0⟩]) <|
  .cond (.tmp 15)
    (.seq (.ops [
      ⟨some 16, .mv (.tmp 6), none, 0⟩,
      ⟨some 17, .conv .u64 (.tmp 16), none, 0⟩,
      ⟨some 7, .alloc [.int .u64 0], none, 0⟩,
      ⟨none, .store 1 (.tmp 7) (.tmp 17), none, 0⟩]) <|
    .seq (.ops [
      ⟨some 18, .mv (.tmp 6), none, 0⟩,
      ⟨some 19, .call k_slices_nextPowerOfTwo [(.tmp 18)], none, 0⟩,
      ⟨some 8, .mv (.tmp 19), none, 0⟩]) <|
    .seq (.ops [
      ⟨some 20, .mv (.tmp 1), none, 0⟩,
      ⟨some 21, .mv (.tmp 6), none, 0⟩,
      ⟨some 22, .bin .quo (.tmp 21) (.const (.int .i64 4)), none, 0⟩,
      ⟨some 23, .bin .mul (.tmp 22) (.const (.int .i64 2)), none, 0⟩,
      ⟨some 24, .bin .add (.tmp 20) (.tmp 23), none, 0⟩,
      ⟨some 25, .bin .sub (.tmp 24) (.const (.int .i64 1)), none, 0⟩,
      ⟨some 9, .mv (.tmp 25), none, 0⟩]) <|
    .block 0 <|
    .loop [0, 1, 6, 7, 8, 9] i_slices_breakPatternsOrdered_int64_B1)
    (.skip)⟩

theorem e_slices_breakPatternsOrdered_int64 : EntOK Try.prog (compD Try.prog) k_slices_breakPatternsOrdered_int64 i_slices_breakPatternsOrdered_int64.vf :=
  ⟨Try.f64, Try.f64.body.getD .skip, Try.func64, by kernel_rfl, by kernel_rfl, by kernel_rfl, by kernel_rfl, by kernel_rfl⟩

/-- slices.choosePivotOrdered[int64] -/
def i_slices_choosePivotOrdered_int64 : FF := ⟨57, [.tmp 6, .tmp 7],
  .seq (.ops [
    ⟨some 6, .mv (.const (.int .i64 0)), none, 0⟩,
    ⟨some 7, .mv (.const (.int .i64 0)), none, 0⟩]) <|
  .seq (.ops [
    ⟨some 13, .mv (.tmp 2), none, 0⟩,
    ⟨some 14, .mv (.tmp 1), none, 0⟩,
    ⟨some 15, .bin .sub (.tmp 13) (.tmp 14), none, 0⟩,
    ⟨some 8, .mv (.tmp 15), none, 0⟩]) <|
  .seq (.ops [
    ⟨some 9, .alloc [.int .i64 0], none, 0⟩]) <|
  .seq (.ops [
    ⟨some 16, .mv (.tmp 1), none, 0⟩,
    ⟨some 17, .mv (.tmp 8), none, 0⟩,
    ⟨some 18, .bin .quo (.tmp 17) (.const (.int .i64 4)), none, 0⟩,
    ⟨some 19, .bin .mul (.tmp 18) (.const (.int .i64 1)), none, 0⟩,
    ⟨some 20, .bin .add (.tmp 16) (.tmp 19), none, 0⟩,
    ⟨some 10, .mv (.tmp 20), none, 0⟩]) <|
  .seq (.ops [
    ⟨some 21, .mv (.tmp 1), none, 0⟩,
    ⟨some 22, .mv (.tmp 8), none, 0⟩,
    ⟨some 23, .bin .quo (.tmp 22) (.const (.int .i64 4)), none, 0⟩,
    ⟨some 24, .bin .mul (.tmp 23) (.const (.int .i64 2)), none, 0⟩,
    ⟨some 25, .bin .add (.tmp 21) (.tmp 24), none, 0⟩,
    ⟨some 11, .mv (.tmp 25), none, 0⟩]) <|
  .seq (.ops [
    ⟨some 26, .mv (.tmp 1), none, 0⟩,
    ⟨some 27, .mv (.tmp 8), none, 0⟩,
    ⟨some 28, .bin .quo (.tmp 27) (.const (.int .i64 4)), none, 0⟩,
    ⟨some 29, .bin .mul (.tmp 28) (.const (.int .i64 3)), none, 0⟩,
    ⟨some 30, .bin .add (.tmp 26) (.tmp 29), none, 0⟩,
    ⟨some 12, .mv (.tmp 30), none, 0⟩]) <|
  .seq (.seq (.ops [
    ⟨some 31, .mv (.tmp 8), none, 0⟩,
    ⟨some 32, .bin .geq (.tmp 31) (.const (.int .i64 8)), none, 0⟩]) <|
  .cond (.tmp 32)
    (.seq (.seq (.ops [
      ⟨some 33, .mv (.tmp 8), none, 0⟩,
      ⟨some 34, .bin .geq (.tmp 33) (.const (.int .i64 50)), none, 0⟩]) <|
    .cond (.tmp 34)
      (.seq (.ops [
        ⟨some 35, .mv (.tmp 0), none, 0⟩,
        ⟨some 36, .mv (.tmp 10), none, 0⟩,
        ⟨some 37, .call k_slices_medianAdjacentOrdered_int64 [(.tmp 35), (.tmp 36), (.tmp 9)], none, 0⟩,
        ⟨some 10, .mv (.tmp 37), none, 0⟩]) <|
      .seq (.ops [
        ⟨some 38, .mv (.tmp 0), none, 0⟩,
        ⟨some 39, .mv (.tmp 11), none, 0⟩,
        ⟨some 40, .call k_slices_medianAdjacentOrdered_int64 [(.tmp 38), (.tmp 39), (.tmp 9)], none, 0⟩,
        ⟨some 11, .mv (.tmp 40), none, 0⟩]) <|
      .ops [
        ⟨some 41, .mv (.tmp 0), none, 0⟩,
        ⟨some 42, .mv (.tmp 12), none, 0⟩,
        ⟨some 43, .call k_slices_medianAdjacentOrdered_int64 [(.tmp 41), (.tmp 42), (.tmp 9)], none, 0⟩,
        ⟨some 12, .mv (.tmp 43), none, 0⟩])
      (.skip)) <|
    .ops [
      ⟨some 44, .mv (.tmp 0), none, 0⟩,
      ⟨some 45, .mv (.tmp 10), none, 0⟩,
      ⟨some 46, .mv (.tmp 11), none, 0⟩,
      ⟨some 47, .mv (.tmp 12), none, 0⟩,
      ⟨some 48, .call k_slices_medianOrdered_int64 [(.tmp 44), (.tmp 45), (.tmp 46), (.tmp 47), (.tmp 9)], none, 0⟩,
      ⟨some 11, .mv (.tmp 48), none, 0⟩])
    (.skip)) <|
  .seq (.ops [
    ⟨some 49, .load false 1 (.tmp 9), none, 0⟩]) <|
  .block 0 <|
  .seq (.ops [
    ⟨some 52, .bin .eql (.tmp 49) (.const (.int .i64 0)), none, 0⟩,
    ⟨some 51, .mv (.tmp 52), none, 0⟩]) <|
  .cond (.tmp 51)
    (.seq (.ops [
      ⟨some 53, .mv (.tmp 11), none, 0⟩,
      ⟨some 6, .mv (.tmp 53), none, 0⟩,
      ⟨some 7, .mv (.const (.int .i64 1)), none, 0⟩]) <|
    .keep [6, 7] <|
    .ret)
    (.seq (.ops [
      ⟨some 55, .bin .eql (.tmp 49) (.const (.int .i64 12)), none, 0⟩,
      ⟨some 54, .mv (.tmp 55), none, 0⟩]) <|
    .cond (.tmp 54)
      (.seq (.ops [
        ⟨some 56, .mv (.tmp 11), none, 0⟩,
        ⟨some 6, .mv (.tmp 56), none, 0⟩,
        ⟨some 7, .mv (.const (.int .i64 2)), none, 0⟩]) <|
      .keep [6, 7] <|
      .ret)
      (.seq (.ops [
        ⟨some 50, .mv (.tmp 11), none, 0⟩,
        ⟨some 6, .mv (.tmp 50), none, 0⟩,
        ⟨some 7, .mv (.const (.int .i64 0)), none, 0⟩]) <|
      .keep [6, 7] <|
      .ret))⟩

theorem e_slices_choosePivotOrdered_int64 : EntOK Try.prog (compD Try.prog) k_slices_choosePivotOrdered_int64 i_slices_choosePivotOrdered_int64.vf :=
  ⟨Try.f65, Try.f65.body.getD .skip, Try.func65, by kernel_rfl, by kernel_rfl, by kernel_rfl, by kernel_rfl, by kernel_rfl⟩

/-- slices.reverseRangeOrdered[int64] -/
def i_slices_reverseRangeOrdered_int64_B1 : FC :=
  .seq (.seq (.ops [
    ⟨some 11, .mv (.tmp 6), none, 0⟩,
    ⟨some 12, .mv (.tmp 7), none, 0⟩,
    ⟨some 13, .bin .lss (.tmp 11) (.tmp 12), none, 0⟩]) <|
  .cond (.tmp 13)
    (.skip)
    (.keep [] <|
    .exit 0)) <|
  .block 1 <|
  .seq (.dops [
    ⟨some 14, .mv (.tmp 0), none, 0⟩,
    ⟨some 15, .mv (.tmp 6), none, 0⟩,
    ⟨some 18, .mv (.tmp 0), none, 0⟩,
    ⟨some 19, .mv (.tmp 7), none, 0⟩,
    ⟨some 20, .idx 1 (.tmp 18) (.tmp 19), none, 0⟩,
    ⟨some 21, .load false 1 (.tmp 20), none, 0⟩,
    ⟨some 22, .mv (.tmp 0), none, 0⟩,
    ⟨some 23, .mv (.tmp 6), none, 0⟩,
    ⟨some 24, .idx 1 (.tmp 22) (.tmp 23), none, 0⟩,
    ⟨some 25, .load false 1 (.tmp 24), none, 0⟩,
    ⟨some 26, .idx 1 (.tmp 14) (.tmp 15), none, 0⟩,
    ⟨none, .store 1 (.tmp 26) (.tmp 21), none, 0⟩,
    ⟨some 16, .mv (.tmp 0), none, 1⟩,
    ⟨some 17, .mv (.tmp 7), none, 1⟩,
    ⟨some 27, .idx 1 (.tmp 16) (.tmp 17), none, 0⟩,
    ⟨none, .store 1 (.tmp 27) (.tmp 25), none, 0⟩]) <|
  .seq (.ops [
    ⟨some 28, .mv (.tmp 6), none, 0⟩,
    ⟨some 29, .bin .add (.tmp 28) (.const (.int .i64 1)), none, 0⟩,
    ⟨some 6, .mv (.tmp 29), none, 0⟩]) <|
  .ops [
    ⟨some 30, .mv (.tmp 7), none, 0⟩,
    ⟨some 31, .bin .sub (.tmp 30) (.const (.int .i64 1)), none, 0⟩,
    ⟨some 7, .mv (.tmp 31), none, 0⟩]
def i_slices_reverseRangeOrdered_int64 : FF := ⟨32, [],
  .seq (.ops [
    ⟨some 8, .mv (.tmp 1), none, 0⟩,
    ⟨some 6, .mv (.tmp 8), none, 0⟩]) <|
  .seq (.ops [
    ⟨some 9, .mv (.tmp 2), none, 0⟩,
    ⟨some 10, .bin .sub (.tmp 9) (.const (.int .i64 1)), none, 0⟩,
    ⟨some 7, .mv (.tmp 10), none, 0⟩]) <|
  .block 0 <|
  .loop [0, 6, 7] i_slices_reverseRangeOrdered_int64_B1⟩

theorem e_slices_reverseRangeOrdered_int64 : EntOK Try.prog (compD Try.prog) k_slices_reverseRangeOrdered_int64 i_slices_reverseRangeOrdered_int64.vf :=
  ⟨Try.f66, Try.f66.body.getD .skip, Try.func66, by kernel_rfl, by kernel_rfl, by kernel_rfl, by kernel_rfl, by kernel_rfl⟩

/-- slices.partialInsertionSortOrdered[int64] -/
def i_slices_partialInsertionSortOrdered_int64_B1 : FC :=
  .seq (.seq (.dops [
    ⟨some 17, .mv (.tmp 7), none, 0⟩,
    ⟨some 18, .mv (.tmp 2), none, 0⟩,
    ⟨some 19, .bin .lss (.tmp 17) (.tmp 18), none, 0⟩,
    ⟨some 20, .mv (.tmp 19), none, 0⟩,
    ⟨some 21, .mv (.tmp 0), some (20, true), 0⟩,
    ⟨some 22, .mv (.tmp 7), some (20, true), 0⟩,
    ⟨some 23, .idx 1 (.tmp 21) (.tmp 22), some (20, true), 0⟩,
    ⟨some 24, .load false 1 (.tmp 23), some (20, true), 0⟩,
    ⟨some 25, .mv (.tmp 0), some (20, true), 0⟩,
    ⟨some 26, .mv (.tmp 7), some (20, true), 0⟩,
    ⟨some 27, .bin .sub (.tmp 26) (.const (.int .i64 1)), some (20, true), 0⟩,
    ⟨some 28, .idx 1 (.tmp 25) (.tmp 27), some (20, true), 0⟩,
    ⟨some 29, .load false 1 (.tmp 28), some (20, true), 0⟩,
    ⟨some 30, .call k_cmp_Less_int64 [(.tmp 24), (.tmp 29)], some (20, true), 0⟩,
    ⟨some 31, .un .not (.tmp 30), some (20, true), 0⟩,
    ⟨some 32, .pick (.tmp 20) (.tmp 31) (.const (.bool false)), none, 0⟩]) <|
  .cond (.tmp 32)
    (.skip)
    (.keep [0, 1, 2, 7, 8] <|
    .exit 2)) <|
  .block 3 <|
  .ops [
    ⟨some 33, .mv (.tmp 7), none, 0⟩,
    ⟨some 34, .bin .add (.tmp 33) (.const (.int .i64 1)), none, 0⟩,
    ⟨some 7, .mv (.tmp 34), none, 0⟩]
def i_slices_partialInsertionSortOrdered_int64_B2 : FC :=
  .seq (.seq (.ops [
    ⟨some 64, .mv (.tmp 9), none, 0⟩,
    ⟨some 65, .bin .geq (.tmp 64) (.const (.int .i64 1)), none, 0⟩]) <|
  .cond (.tmp 65)
    (.skip)
    (.keep [0, 1, 2, 7, 8] <|
    .exit 4)) <|
  .seq (.block 5 <|
  .seq (.seq (.dops [
    ⟨some 68, .mv (.tmp 0), none, 0⟩,
    ⟨some 69, .mv (.tmp 9), none, 0⟩,
    ⟨some 70, .idx 1 (.tmp 68) (.tmp 69), none, 0⟩,
    ⟨some 71, .load false 1 (.tmp 70), none, 0⟩,
    ⟨some 72, .mv (.tmp 0), none, 0⟩,
    ⟨some 73, .mv (.tmp 9), none, 0⟩,
    ⟨some 74, .bin .sub (.tmp 73) (.const (.int .i64 1)), none, 0⟩,
    ⟨some 75, .idx 1 (.tmp 72) (.tmp 74), none, 0⟩,
    ⟨some 76, .load false 1 (.tmp 75), none, 0⟩,
    ⟨some 77, .call k_cmp_Less_int64 [(.tmp 71), (.tmp 76)], none, 0⟩,
    ⟨some 78, .un .not (.tmp 77), none, 0⟩]) <|
  .cond (.tmp 78)
    (.keep [0, 1, 2, 7, 8] <|
    .exit 4)
    (.skip)) <|
  .dops [
    ⟨some 79, .mv (.tmp 0), none, 0⟩,
    ⟨some 80, .mv (.tmp 9), none, 0⟩,
    ⟨some 84, .mv (.tmp 0), none, 0⟩,
    ⟨some 85, .mv (.tmp 9), none, 0⟩,
    ⟨some 86, .bin .sub (.tmp 85) (.const (.int .i64 1)), none, 0⟩,
    ⟨some 87, .idx 1 (.tmp 84) (.tmp 86), none, 0⟩,
    ⟨some 88, .load false 1 (.tmp 87), none, 0⟩,
    ⟨some 89, .mv (.tmp 0), none, 0⟩,
    ⟨some 90, .mv (.tmp 9), none, 0⟩,
    ⟨some 91, .idx 1 (.tmp 89) (.tmp 90), none, 0⟩,
    ⟨some 92, .load false 1 (.tmp 91), none, 0⟩,
    ⟨some 93, .idx 1 (.tmp 79) (.tmp 80), none, 0⟩,
    ⟨none, .store 1 (.tmp 93) (.tmp 88), none, 0⟩,
    ⟨some 81, .mv (.tmp 0), none, 1⟩,
    ⟨some 82, .mv (.tmp 9), none, 1⟩,
    ⟨some 83, .bin .sub (.tmp 82) (.const (.int .i64 1)), none, 1⟩,
    ⟨some 94, .idx 1 (.tmp 81) (.tmp 83), none, 0⟩,
    ⟨none, .store 1 (.tmp 94) (.tmp 92), none, 0⟩]) <|
  .ops [
    ⟨some 66, .mv (.tmp 9), none, 0⟩,
    ⟨some 67, .bin .sub (.tmp 66) (.const (.int .i64 1)), none, 0⟩,
    ⟨some 9, .mv (.tmp 67), none, 0⟩]
def i_slices_partialInsertionSortOrdered_int64_B3 : FC :=
  .seq (.seq (.ops [
    ⟨some 101, .mv (.tmp 10), none, 0⟩,
    ⟨some 102, .mv (.tmp 2), none, 0⟩,
    ⟨some 103, .bin .lss (.tmp 101) (.tmp 102), none, 0⟩]) <|
  .cond (.tmp 103)
    (.skip)
    (.keep [0, 1, 2, 7, 8] <|
    .exit 6)) <|
  .seq (.block 7 <|
  .seq (.seq (.dops [
    ⟨some 106, .mv (.tmp 0), none, 0⟩,
    ⟨some 107, .mv (.tmp 10), none, 0⟩,
    ⟨some 108, .idx 1 (.tmp 106) (.tmp 107), none, 0⟩,
    ⟨some 109, .load false 1 (.tmp 108), none, 0⟩,
    ⟨some 110, .mv (.tmp 0), none, 0⟩,
    ⟨some 111, .mv (.tmp 10), none, 0⟩,
    ⟨some 112, .bin .sub (.tmp 111) (.const (.int .i64 1)), none, 0⟩,
    ⟨some 113, .idx 1 (.tmp 110) (.tmp 112), none, 0⟩,
    ⟨some 114, .load false 1 (.tmp 113), none, 0⟩,
    ⟨some 115, .call k_cmp_Less_int64 [(.tmp 109), (.tmp 114)], none, 0⟩,
    ⟨some 116, .un .not (.tmp 115), none, 0⟩]) <|
  .cond (.tmp 116)
    (.keep [0, 1, 2, 7, 8] <|
    .exit 6)
    (.skip)) <|
  .dops [
    ⟨some 117, .mv (.tmp 0), none, 0⟩,
    ⟨some 118, .mv (.tmp 10), none, 0⟩,
    ⟨some 122, .mv (.tmp 0), none, 0⟩,
    ⟨some 123, .mv (.tmp 10), none, 0⟩,
    ⟨some 124, .bin .sub (.tmp 123) (.const (.int .i64 1)), none, 0⟩,
    ⟨some 125, .idx 1 (.tmp 122) (.tmp 124), none, 0⟩,
    ⟨some 126, .load false 1 (.tmp 125), none, 0⟩,
    ⟨some 127, .mv (.tmp 0), none, 0⟩,
    ⟨some 128, .mv (.tmp 10), none, 0⟩,
    ⟨some 129, .idx 1 (.tmp 127) (.tmp 128), none, 0⟩,
    ⟨some 130, .load false 1 (.tmp 129), none, 0⟩,
    ⟨some 131, .idx 1 (.tmp 117) (.tmp 118), none, 0⟩,
    ⟨none, .store 1 (.tmp 131) (.tmp 126), none, 0⟩,
    ⟨some 119, .mv (.tmp 0), none, 1⟩,
    ⟨some 120, .mv (.tmp 10), none, 1⟩,
    ⟨some 121, .bin .sub (.tmp 120) (.const (.int .i64 1)), none, 1⟩,
    ⟨some 132, .idx 1 (.tmp 119) (.tmp 121), none, 0⟩,
    ⟨none, .store 1 (.tmp 132) (.tmp 130), none, 0⟩]) <|
  .ops [
    ⟨some 104, .mv (.tmp 10), none, 0⟩,
    ⟨some 105, .bin .add (.tmp 104) (.const (.int .i64 1)), none, 0⟩,
    ⟨some 10, .mv (.tmp 105), none, 0⟩]
def i_slices_partialInsertionSortOrdered_int64_B4 : FC :=
  .seq (.seq (.ops [
    ⟨some 13, .mv (.tmp 8), none, 0⟩,
    ⟨some 14, .bin .lss (.tmp 13) (.const (.int .i64 5)), none, 0⟩]) <|
  .cond (.tmp 14)
    (.skip)
    (.keep [] <|
    .exit 0)) <|
  .seq (.block 1 <|
  .seq (.block 2 <|
  .loop [0, 1, 2, 7, 8] i_slices_partialInsertionSortOrdered_int64_B1) <|
  .seq (.seq (.ops [
    ⟨some 35, .mv (.tmp 7), none, 0⟩,
    ⟨some 36, .mv (.tmp 2), none, 0⟩,
    ⟨some 37, .bin .eql (.tmp 35) (.tmp 36), none, 0⟩]) <|
  .cond (.tmp 37)
    (.seq (.ops [
      ⟨some 6, .mv (.const (.bool true)), none, 0⟩]) <|
    .keep [6] <|
    .ret)
    (.skip)) <|
  .seq (.seq (.ops [
    ⟨some 38, .mv (.tmp 2), none, 0⟩,
    ⟨some 39, .mv (.tmp 1), none, 0⟩,
    ⟨some 40, .bin .sub (.tmp 38) (.tmp 39), none, 0⟩,
    ⟨some 41, .bin .lss (.tmp 40) (.const (.int .i64 50)), none, 0⟩]) <|
  .cond (.tmp 41)
    (.seq (.ops [
      ⟨some 6, .mv (.const (.bool false)), none, 0⟩]) <|
    .keep [6] <|
    .ret)
    (.skip)) <|
  .seq (.dops [
    ⟨some 42, .mv (.tmp 0), none, 0⟩,
    ⟨some 43, .mv (.tmp 7), none, 0⟩,
    ⟨some 47, .mv (.tmp 0), none, 0⟩,
    ⟨some 48, .mv (.tmp 7), none, 0⟩,
    ⟨some 49, .bin .sub (.tmp 48) (.const (.int .i64 1)), none, 0⟩,
    ⟨some 50, .idx 1 (.tmp 47) (.tmp 49), none, 0⟩,
    ⟨some 51, .load false 1 (.tmp 50), none, 0⟩,
    ⟨some 52, .mv (.tmp 0), none, 0⟩,
    ⟨some 53, .mv (.tmp 7), none, 0⟩,
    ⟨some 54, .idx 1 (.tmp 52) (.tmp 53), none, 0⟩,
    ⟨some 55, .load false 1 (.tmp 54), none, 0⟩,
    ⟨some 56, .idx 1 (.tmp 42) (.tmp 43), none, 0⟩,
    ⟨none, .store 1 (.tmp 56) (.tmp 51), none, 0⟩,
    ⟨some 44, .mv (.tmp 0), none, 1⟩,
    ⟨some 45, .mv (.tmp 7), none, 1⟩,
    ⟨some 46, .bin .sub (.tmp 45) (.const (.int .i64 1)), none, 1⟩,
    ⟨some 57, .idx 1 (.tmp 44) (.tmp 46), none, 0⟩,
    ⟨none, .store 1 (.tmp 57) (.tmp 55), none, 0⟩]) <|
  .seq (.seq (.ops [
    ⟨some 58, .mv (.tmp 7), none, 0⟩,
    ⟨some 59, .mv (.tmp 1), none, 0⟩,
    ⟨some 60, .bin .sub (.tmp 58) (.tmp 59), none, 0⟩,
    ⟨some 61, .bin .geq (.tmp 60) (.const (.int .i64 2)), none, 0⟩]) <|
  .cond (.tmp 61)
    (.seq (.ops [
      ⟨some 62, .mv (.tmp 7), none, 0⟩,
      ⟨some 63, .bin .sub (.tmp 62) (.const (.int .i64 1)), none, 0⟩,
      ⟨some 9, .mv (.tmp 63), none, 0⟩]) <|
    .block 4 <|
    .loop [0, 1, 2, 7, 8, 9] i_slices_partialInsertionSortOrdered_int64_B2)
    (.skip)) <|
  .seq (.ops [
    ⟨some 95, .mv (.tmp 2), none, 0⟩,
    ⟨some 96, .mv (.tmp 7), none, 0⟩,
    ⟨some 97, .bin .sub (.tmp 95) (.tmp 96), none, 0⟩,
    ⟨some 98, .bin .geq (.tmp 97) (.const (.int .i64 2)), none, 0⟩]) <|
  .cond (.tmp 98)
    (.seq (.ops [
      ⟨some 99, .mv (.tmp 7), none, 0⟩,
      ⟨some 100, .bin .add (.tmp 99) (.const (.int .i64 1)), none, 0⟩,
      ⟨some 10, .mv (.tmp 100), none, 0⟩]) <|
    .block 6 <|
    .loop [0, 1, 2, 7, 8, 10] i_slices_partialInsertionSortOrdered_int64_B3)
    (.skip)) <|
  .ops [
    ⟨some 15, .mv (.tmp 8), none, 0⟩,
    ⟨some 16, .bin .add (.tmp 15) (.const (.int .i64 1)), none, 0⟩,
    ⟨some 8, .mv (.tmp 16), none, 0⟩]
def i_slices_partialInsertionSortOrdered_int64 : FF := ⟨133, [.tmp 6],
  .seq (.ops [
    ⟨some 6, .mv (.const (.bool false)), none, 0⟩]) <|
  .seq (.ops [
    ⟨some 11, .mv (.tmp 1), none, 0⟩,
    ⟨some 12, .bin .add (.tmp 11) (.const (.int .i64 1)), none, 0⟩,
    ⟨some 7, .mv (.tmp 12), none, 0⟩]) <|
  .seq (.seq (.ops [
    ⟨some 8, .mv (.const (.int .i64 0)), none, 0⟩]) <|
  .block 0 <|
  .loop [0, 1, 2, 7, 8] i_slices_partialInsertionSortOrdered_int64_B4) <|
  .seq (.ops [
    ⟨some 6, .mv (.const (.bool false)), none, 0⟩]) <|
  .keep [6] <|
  .ret⟩

theorem e_slices_partialInsertionSortOrdered_int64 : EntOK Try.prog (compD Try.prog) k_slices_partialInsertionSortOrdered_int64 i_slices_partialInsertionSortOrdered_int64.vf :=
  ⟨Try.f67, Try.f67.body.getD .skip, Try.func67, by kernel_rfl, by kernel_rfl, by kernel_rfl, by kernel_rfl, by kernel_rfl⟩

/-- cmp.Less[int64] -/
def i_cmp_Less_int64 : FF := ⟨17, [.tmp 4],
  .seq (.ops [
    ⟨some 4, .mv (.const (.bool false)), none, 0⟩]) <|
  .seq (.ops [
    ⟨some 5, .mv (.tmp 0), none, 0⟩,
    ⟨some 6, .call k_cmp_isNaN_int64 [(.tmp 5)], none, 0⟩,
    ⟨some 7, .mv (.tmp 6), none, 0⟩,
    ⟨some 8, .mv (.tmp 1), some (7, true), 0⟩,
    ⟨some 9, .call k_cmp_isNaN_int64 [(.tmp 8)], some (7, true), 0⟩,
    ⟨some 10, .un .not (.tmp 9), some (7, true), 0⟩,
    ⟨some 11, .pick (.tmp 7) (.tmp 10) (.const (.bool false)), none, 0⟩,
    ⟨some 12, .mv (.tmp 11), none, 0⟩,
    ⟨some 13, .mv (.tmp 0), some (12, false), 0⟩,
    ⟨some 14, .mv (.tmp 1), some (12, false), 0⟩,
    ⟨some 15, .bin .lss (.tmp 13) (.tmp 14), some (12, false), 0⟩,
    ⟨some 16, .pick (.tmp 12) (.const (.bool true)) (.tmp 15), none, 0⟩,
    ⟨some 4, .mv (.tmp 16), none, 0⟩]) <|
  .keep [4] <|
  .ret⟩

theorem e_cmp_Less_int64 : EntOK Try.prog (compD Try.prog) k_cmp_Less_int64 i_cmp_Less_int64.vf :=
  ⟨Try.f68, Try.f68.body.getD .skip, Try.func68, by kernel_rfl, by kernel_rfl, by kernel_rfl, by kernel_rfl, by kernel_rfl⟩

/-- slices.partitionEqualOrdered[int64] -/
def i_slices_partitionEqualOrdered_int64_B1 : FC :=
  .seq (.seq (.dops [
    ⟨some 29, .mv (.tmp 9), none, 0⟩,
    ⟨some 30, .mv (.tmp 10), none, 0⟩,
    ⟨some 31, .bin .leq (.tmp 29) (.tmp 30), none, 0⟩,
    ⟨some 32, .mv (.tmp 31), none, 0⟩,
    ⟨some 33, .mv (.tmp 0), some (32, true), 0⟩,
    ⟨some 34, .mv (.tmp 1), some (32, true), 0⟩,
    ⟨some 35, .idx 1 (.tmp 33) (.tmp 34), some (32, true), 0⟩,
    ⟨some 36, .load false 1 (.tmp 35), some (32, true), 0⟩,
    ⟨some 37, .mv (.tmp 0), some (32, true), 0⟩,
    ⟨some 38, .mv (.tmp 9), some (32, true), 0⟩,
    ⟨some 39, .idx 1 (.tmp 37) (.tmp 38), some (32, true), 0⟩,
    ⟨some 40, .load false 1 (.tmp 39), some (32, true), 0⟩,
    ⟨some 41, .call k_cmp_Less_int64 [(.tmp 36), (.tmp 40)], some (32, true), 0⟩,
    ⟨some 42, .un .not (.tmp 41), some (32, true), 0⟩,
    ⟨some 43, .pick (.tmp 32) (.tmp 42) (.const (.bool false)), none, 0⟩]) <|
  .cond (.tmp 43)
    (.skip)
    (.keep [0, 1, 9, 10] <|
    .exit 2)) <|
  .block 3 <|
  .ops [
    ⟨some 44, .mv (.tmp 9), none, 0⟩,
    ⟨some 45, .bin .add (.tmp 44) (.const (.int .i64 1)), none, 0⟩,
    ⟨some 9, .mv (.tmp 45), none, 0⟩]
def i_slices_partitionEqualOrdered_int64_B2 : FC :=
  .seq (.seq (.dops [
    ⟨some 46, .mv (.tmp 9), none, 0⟩,
    ⟨some 47, .mv (.tmp 10), none, 0⟩,
    ⟨some 48, .bin .leq (.tmp 46) (.tmp 47), none, 0⟩,
    ⟨some 49, .mv (.tmp 48), none, 0⟩,
    ⟨some 50, .mv (.tmp 0), some (49, true), 0⟩,
    ⟨some 51, .mv (.tmp 1), some (49, true), 0⟩,
    ⟨some 52, .idx 1 (.tmp 50) (.tmp 51), some (49, true), 0⟩,
    ⟨some 53, .load false 1 (.tmp 52), some (49, true), 0⟩,
    ⟨some 54, .mv (.tmp 0), some (49, true), 0⟩,
    ⟨some 55, .mv (.tmp 10), some (49, true), 0⟩,
    ⟨some 56, .idx 1 (.tmp 54) (.tmp 55), some (49, true), 0⟩,
    ⟨some 57, .load false 1 (.tmp 56), some (49, true), 0⟩,
    ⟨some 58, .call k_cmp_Less_int64 [(.tmp 53), (.tmp 57)], some (49, true), 0⟩,
    ⟨some 59, .pick (.tmp 49) (.tmp 58) (.const (.bool false)), none, 0⟩]) <|
  .cond (.tmp 59)
    (.skip)
    (.keep [0, 1, 9, 10] <|
    .exit 4)) <|
  .block 5 <|
  .ops [
    ⟨some 60, .mv (.tmp 10), none, 0⟩,
    ⟨some 61, .bin .sub (.tmp 60) (.const (.int .i64 1)), none, 0⟩,
    ⟨some 10, .mv (.tmp 61), none, 0⟩]
def i_slices_partitionEqualOrdered_int64_B3 : FC :=
  .block 1 <|
  .seq (.block 2 <|
  .loop [0, 1, 9, 10] i_slices_partitionEqualOrdered_int64_B1) <|
  .seq (.block 4 <|
  .loop [0, 1, 9, 10] i_slices_partitionEqualOrdered_int64_B2) <|
  .seq (.seq (.ops [
    ⟨some 62, .mv (.tmp 9), none, 0⟩,
    ⟨some 63, .mv (.tmp 10), none, 0⟩,
    ⟨some 64, .bin .gtr (.tmp 62) (.tmp 63), none, 0⟩]) <|
  .cond (.tmp 64)
    (.keep [9] <|
    .exit 0)
    (.skip)) <|
  .seq (.dops [
    ⟨some 65, .mv (.tmp 0), none, 0⟩,
    ⟨some 66, .mv (.tmp 9), none, 0⟩,
    ⟨some 69, .mv (.tmp 0), none, 0⟩,
    ⟨some 70, .mv (.tmp 10), none, 0⟩,
    ⟨some 71, .idx 1 (.tmp 69) (.tmp 70), none, 0⟩,
    ⟨some 72, .load false 1 (.tmp 71), none, 0⟩,
    ⟨some 73, .mv (.tmp 0), none, 0⟩,
    ⟨some 74, .mv (.tmp 9), none, 0⟩,
    ⟨some 75, .idx 1 (.tmp 73) (.tmp 74), none, 0⟩,
    ⟨some 76, .load false 1 (.tmp 75), none, 0⟩,
    ⟨some 77, .idx 1 (.tmp 65) (.tmp 66), none, 0⟩,
    ⟨none, .store 1 (.tmp 77) (.tmp 72), none, 0⟩,
    ⟨some 67, .mv (.tmp 0), none, 1⟩,
    ⟨some 68, .mv (.tmp 10), none, 1⟩,
    ⟨some 78, .idx 1 (.tmp 67) (.tmp 68), none, 0⟩,
    ⟨none, .store 1 (.tmp 78) (.tmp 76), none, 0⟩]) <|
  .seq (.ops [
    ⟨some 79, .mv (.tmp 9), none, 0⟩,
    ⟨some 80, .bin .add (.tmp 79) (.const (.int .i64 1)), none, 0⟩,
    ⟨some 9, .mv (.tmp 80), none, 0⟩]) <|
  .ops [
    ⟨some 81, .mv (.tmp 10), none, 0⟩,
    ⟨some 82, .bin .sub (.tmp 81) (.const (.int .i64 1)), none, 0⟩,
    ⟨some 10, .mv (.tmp 82), none, 0⟩]
def i_slices_partitionEqualOrdered_int64 : FF := ⟨84, [.tmp 8],
  .seq (.ops [
    ⟨some 8, .mv (.const (.int .i64 0)), none, 0⟩]) <|
  .seq (.dops [
    ⟨some 11, .mv (.tmp 0), none, 0⟩,
    ⟨some 12, .mv (.tmp 1), none, 0⟩,
    ⟨some 15, .mv (.tmp 0), none, 0⟩,
    ⟨some 16, .mv (.tmp 3), none, 0⟩,
    ⟨some 17, .idx 1 (.tmp 15) (.tmp 16), none, 0⟩,
    ⟨some 18, .load false 1 (.tmp 17), none, 0⟩,
    ⟨some 19, .mv (.tmp 0), none, 0⟩,
    ⟨some 20, .mv (.tmp 1), none, 0⟩,
    ⟨some 21, .idx 1 (.tmp 19) (.tmp 20), none, 0⟩,
    ⟨some 22, .load false 1 (.tmp 21), none, 0⟩,
    ⟨some 23, .idx 1 (.tmp 11) (.tmp 12), none, 0⟩,
    ⟨none, .store 1 (.tmp 23) (.tmp 18), none, 0⟩,
    ⟨some 13, .mv (.tmp 0), none, 1⟩,
    ⟨some 14, .mv (.tmp 3), none, 1⟩,
    ⟨some 24, .idx 1 (.tmp 13) (.tmp 14), none, 0⟩,
    ⟨none, .store 1 (.tmp 24) (.tmp 22), none, 0⟩]) <|
  .seq (.ops [
    ⟨some 25, .mv (.tmp 1), none, 0⟩,
    ⟨some 26, .bin .add (.tmp 25) (.const (.int .i64 1)), none, 0⟩,
    ⟨some 27, .mv (.tmp 2), none, 0⟩,
    ⟨some 28, .bin .sub (.tmp 27) (.const (.int .i64 1)), none, 0⟩,
    ⟨some 9, .mv (.tmp 26), none, 0⟩,
    ⟨some 10, .mv (.tmp 28), none, 0⟩]) <|
  .seq (.block 0 <|
  .loop [0, 1, 9, 10] i_slices_partitionEqualOrdered_int64_B3) <|
  .seq (.ops [
    ⟨some 83, .mv (.tmp 9), none, 0⟩,
    ⟨some 8, .mv (.tmp 83), none, 0⟩]) <|
  .keep [8] <|
  .ret⟩

theorem e_slices_partitionEqualOrdered_int64 : EntOK Try.prog (compD Try.prog) k_slices_partitionEqualOrdered_int64 i_slices_partitionEqualOrdered_int64.vf :=
  ⟨Try.f69, Try.f69.body.getD .skip, Try.func69, by kernel_rfl, by kernel_rfl, by kernel_rfl, by kernel_rfl, by kernel_rfl⟩

/-- slices.partitionOrdered[int64] -/
def i_slices_partitionOrdered_int64_B1 : FC :=
  .seq (.seq (.dops [
    ⟨some 30, .mv (.tmp 10), none, 0⟩,
    ⟨some 31, .mv (.tmp 11), none, 0⟩,
    ⟨some 32, .bin .leq (.tmp 30) (.tmp 31), none, 0⟩,
    ⟨some 33, .mv (.tmp 32), none, 0⟩,
    ⟨some 34, .mv (.tmp 0), some (33, true), 0⟩,
    ⟨some 35, .mv (.tmp 10), some (33, true), 0⟩,
    ⟨some 36, .idx 1 (.tmp 34) (.tmp 35), some (33, true), 0⟩,
    ⟨some 37, .load false 1 (.tmp 36), some (33, true), 0⟩,
    ⟨some 38, .mv (.tmp 0), some (33, true), 0⟩,
    ⟨some 39, .mv (.tmp 1), some (33, true), 0⟩,
    ⟨some 40, .idx 1 (.tmp 38) (.tmp 39), some (33, true), 0⟩,
    ⟨some 41, .load false 1 (.tmp 40), some (33, true), 0⟩,
    ⟨some 42, .call k_cmp_Less_int64 [(.tmp 37), (.tmp 41)], some (33, true), 0⟩,
    ⟨some 43, .pick (.tmp 33) (.tmp 42) (.const (.bool false)), none, 0⟩]) <|
  .cond (.tmp 43)
    (.skip)
    (.keep [0, 1, 10, 11] <|
    .exit 0)) <|
  .block 1 <|
  .ops [
    ⟨some 44, .mv (.tmp 10), none, 0⟩,
    ⟨some 45, .bin .add (.tmp 44) (.const (.int .i64 1)), none, 0⟩,
    ⟨some 10, .mv (.tmp 45), none, 0⟩]
def i_slices_partitionOrdered_int64_B2 : FC :=
  .seq (.seq (.dops [
    ⟨some 46, .mv (.tmp 10), none, 0⟩,
    ⟨some 47, .mv (.tmp 11), none, 0⟩,
    ⟨some 48, .bin .leq (.tmp 46) (.tmp 47), none, 0⟩,
    ⟨some 49, .mv (.tmp 48), none, 0⟩,
    ⟨some 50, .mv (.tmp 0), some (49, true), 0⟩,
    ⟨some 51, .mv (.tmp 11), some (49, true), 0⟩,
    ⟨some 52, .idx 1 (.tmp 50) (.tmp 51), some (49, true), 0⟩,
    ⟨some 53, .load false 1 (.tmp 52), some (49, true), 0⟩,
    ⟨some 54, .mv (.tmp 0), some (49, true), 0⟩,
    ⟨some 55, .mv (.tmp 1), some (49, true), 0⟩,
    ⟨some 56, .idx 1 (.tmp 54) (.tmp 55), some (49, true), 0⟩,
    ⟨some 57, .load false 1 (.tmp 56), some (49, true), 0⟩,
    ⟨some 58, .call k_cmp_Less_int64 [(.tmp 53), (.tmp 57)], some (49, true), 0⟩,
    ⟨some 59, .un .not (.tmp 58), some (49, true), 0⟩,
    ⟨some 60, .pick (.tmp 49) (.tmp 59) (.const (.bool false)), none, 0⟩]) <|
  .cond (.tmp 60)
    (.skip)
    (.keep [0, 1, 10, 11] <|
    .exit 2)) <|
  .block 3 <|
  .ops [
    ⟨some 61, .mv (.tmp 11), none, 0⟩,
    ⟨some 62, .bin .sub (.tmp 61) (.const (.int .i64 1)), none, 0⟩,
    ⟨some 11, .mv (.tmp 62), none, 0⟩]
def i_slices_partitionOrdered_int64_B3 : FC :=
  .seq (.seq (.dops [
    ⟨some 99, .mv (.tmp 10), none, 0⟩,
    ⟨some 100, .mv (.tmp 11), none, 0⟩,
    ⟨some 101, .bin .leq (.tmp 99) (.tmp 100), none, 0⟩,
    ⟨some 102, .mv (.tmp 101), none, 0⟩,
    ⟨some 103, .mv (.tmp 0), some (102, true), 0⟩,
    ⟨some 104, .mv (.tmp 10), some (102, true), 0⟩,
    ⟨some 105, .idx 1 (.tmp 103) (.tmp 104), some (102, true), 0⟩,
    ⟨some 106, .load false 1 (.tmp 105), some (102, true), 0⟩,
    ⟨some 107, .mv (.tmp 0), some (102, true), 0⟩,
    ⟨some 108, .mv (.tmp 1), some (102, true), 0⟩,
    ⟨some 109, .idx 1 (.tmp 107) (.tmp 108), some (102, true), 0⟩,
    ⟨some 110, .load false 1 (.tmp 109), some (102, true), 0⟩,
    ⟨some 111, .call k_cmp_Less_int64 [(.tmp 106), (.tmp 110)], some (102, true), 0⟩,
    ⟨some 112, .pick (.tmp 102) (.tmp 111) (.const (.bool false)), none, 0⟩]) <|
  .cond (.tmp 112)
    (.skip)
    (.keep [0, 1, 10, 11] <|
    .exit 6)) <|
  .block 7 <|
  .ops [
    ⟨some 113, .mv (.tmp 10), none, 0⟩,
    ⟨some 114, .bin .add (.tmp 113) (.const (.int .i64 1)), none, 0⟩,
    ⟨some 10, .mv (.tmp 114), none, 0⟩]
def i_slices_partitionOrdered_int64_B4 : FC :=
  .seq (.seq (.dops [
    ⟨some 115, .mv (.tmp 10), none, 0⟩,
    ⟨some 116, .mv (.tmp 11), none, 0⟩,
    ⟨some 117, .bin .leq (.tmp 115) (.tmp 116), none, 0⟩,
    ⟨some 118, .mv (.tmp 117), none, 0⟩,
    ⟨some 119, .mv (.tmp 0), some (118, true), 0⟩,
    ⟨some 120, .mv (.tmp 11), some (118, true), 0⟩,
    ⟨some 121, .idx 1 (.tmp 119) (.tmp 120), some (118, true), 0⟩,
    ⟨some 122, .load false 1 (.tmp 121), some (118, true), 0⟩,
    ⟨some 123, .mv (.tmp 0), some (118, true), 0⟩,
    ⟨some 124, .mv (.tmp 1), some (118, true), 0⟩,
    ⟨some 125, .idx 1 (.tmp 123) (.tmp 124), some (118, true), 0⟩,
    ⟨some 126, .load false 1 (.tmp 125), some (118, true), 0⟩,
    ⟨some 127, .call k_cmp_Less_int64 [(.tmp 122), (.tmp 126)], some (118, true), 0⟩,
    ⟨some 128, .un .not (.tmp 127), some (118, true), 0⟩,
    ⟨some 129, .pick (.tmp 118) (.tmp 128) (.const (.bool false)), none, 0⟩]) <|
  .cond (.tmp 129)
    (.skip)
    (.keep [0, 1, 10, 11] <|
    .exit 8)) <|
  .block 9 <|
  .ops [
    ⟨some 130, .mv (.tmp 11), none, 0⟩,
    ⟨some 131, .bin .sub (.tmp 130) (.const (.int .i64 1)), none, 0⟩,
    ⟨some 11, .mv (.tmp 131), none, 0⟩]
def i_slices_partitionOrdered_int64_B5 : FC :=
  .block 5 <|
  .seq (.block 6 <|
  .loop [0, 1, 10, 11] i_slices_partitionOrdered_int64_B3) <|
  .seq (.block 8 <|
  .loop [0, 1, 10, 11] i_slices_partitionOrdered_int64_B4) <|
  .seq (.seq (.ops [
    ⟨some 132, .mv (.tmp 10), none, 0⟩,
    ⟨some 133, .mv (.tmp 11), none, 0⟩,
    ⟨some 134, .bin .gtr (.tmp 132) (.tmp 133), none, 0⟩]) <|
  .cond (.tmp 134)
    (.keep [0, 1, 11] <|
    .exit 4)
    (.skip)) <|
  .seq (.dops [
    ⟨some 135, .mv (.tmp 0), none, 0⟩,
    ⟨some 136, .mv (.tmp 10), none, 0⟩,
    ⟨some 139, .mv (.tmp 0), none, 0⟩,
    ⟨some 140, .mv (.tmp 11), none, 0⟩,
    ⟨some 141, .idx 1 (.tmp 139) (.tmp 140), none, 0⟩,
    ⟨some 142, .load false 1 (.tmp 141), none, 0⟩,
    ⟨some 143, .mv (.tmp 0), none, 0⟩,
    ⟨some 144, .mv (.tmp 10), none, 0⟩,
    ⟨some 145, .idx 1 (.tmp 143) (.tmp 144), none, 0⟩,
    ⟨some 146, .load false 1 (.tmp 145), none, 0⟩,
    ⟨some 147, .idx 1 (.tmp 135) (.tmp 136), none, 0⟩,
    ⟨none, .store 1 (.tmp 147) (.tmp 142), none, 0⟩,
    ⟨some 137, .mv (.tmp 0), none, 1⟩,
    ⟨some 138, .mv (.tmp 11), none, 1⟩,
    ⟨some 148, .idx 1 (.tmp 137) (.tmp 138), none, 0⟩,
    ⟨none, .store 1 (.tmp 148) (.tmp 146), none, 0⟩]) <|
  .seq (.ops [
    ⟨some 149, .mv (.tmp 10), none, 0⟩,
    ⟨some 150, .bin .add (.tmp 149) (.const (.int .i64 1)), none, 0⟩,
    ⟨some 10, .mv (.tmp 150), none, 0⟩]) <|
  .ops [
    ⟨some 151, .mv (.tmp 11), none, 0⟩,
    ⟨some 152, .bin .sub (.tmp 151) (.const (.int .i64 1)), none, 0⟩,
    ⟨some 11, .mv (.tmp 152), none, 0⟩]
def i_slices_partitionOrdered_int64 : FF := ⟨168, [.tmp 8, .tmp 9],
  .seq (.ops [
    ⟨some 8, .mv (.const (.int .i64 0)), none, 0⟩,
    ⟨some 9, .mv (.const (.bool false)), none, 0⟩]) <|
  .seq (.dops [
    ⟨some 12, .mv (.tmp 0), none, 0⟩,
    ⟨some 13, .mv (.tmp 1), none, 0⟩,
    ⟨some 16, .mv (.tmp 0), none, 0⟩,
    ⟨some 17, .mv (.tmp 3), none, 0⟩,
    ⟨some 18, .idx 1 (.tmp 16) (.tmp 17), none, 0⟩,
    ⟨some 19, .load false 1 (.tmp 18), none, 0⟩,
    ⟨some 20, .mv (.tmp 0), none, 0⟩,
    ⟨some 21, .mv (.tmp 1), none, 0⟩,
    ⟨some 22, .idx 1 (.tmp 20) (.tmp 21), none, 0⟩,
    ⟨some 23, .load false 1 (.tmp 22), none, 0⟩,
    ⟨some 24, .idx 1 (.tmp 12) (.tmp 13), none, 0⟩,
    ⟨none, .store 1 (.tmp 24) (.tmp 19), none, 0⟩,
    ⟨some 14, .mv (.tmp 0), none, 1⟩,
    ⟨some 15, .mv (.tmp 3), none, 1⟩,
    ⟨some 25, .idx 1 (.tmp 14) (.tmp 15), none, 0⟩,
    ⟨none, .store 1 (.tmp 25) (.tmp 23), none, 0⟩]) <|
  .seq (.ops [
    ⟨some 26, .mv (.tmp 1), none, 0⟩,
    ⟨some 27, .bin .add (.tmp 26) (.const (.int .i64 1)), none, 0⟩,
    ⟨some 28, .mv (.tmp 2), none, 0⟩,
    ⟨some 29, .bin .sub (.tmp 28) (.const (.int .i64 1)), none, 0⟩,
    ⟨some 10, .mv (.tmp 27), none, 0⟩,
    ⟨some 11, .mv (.tmp 29), none, 0⟩]) <|
  .seq (.block 0 <|
  .loop [0, 1, 10, 11] i_slices_partitionOrdered_int64_B1) <|
  .seq (.block 2 <|
  .loop [0, 1, 10, 11] i_slices_partitionOrdered_int64_B2) <|
  .seq (.seq (.ops [
    ⟨some 63, .mv (.tmp 10), none, 0⟩,
    ⟨some 64, .mv (.tmp 11), none, 0⟩,
    ⟨some 65, .bin .gtr (.tmp 63) (.tmp 64), none, 0⟩]) <|
  .cond (.tmp 65)
    (.seq (.dops [
      ⟨some 66, .mv (.tmp 0), none, 0⟩,
      ⟨some 67, .mv (.tmp 11), none, 0⟩,
      ⟨some 70, .mv (.tmp 0), none, 0⟩,
      ⟨some 71, .mv (.tmp 1), none, 0⟩,
      ⟨some 72, .idx 1 (.tmp 70) (.tmp 71), none, 0⟩,
      ⟨some 73, .load false 1 (.tmp 72), none, 0⟩,
      ⟨some 74, .mv (.tmp 0), none, 0⟩,
      ⟨some 75, .mv (.tmp 11), none, 0⟩,
      ⟨some 76, .idx 1 (.tmp 74) (.tmp 75), none, 0⟩,
      ⟨some 77, .load false 1 (.tmp 76), none, 0⟩,
      ⟨some 78, .idx 1 (.tmp 66) (.tmp 67), none, 0⟩,
      ⟨none, .store 1 (.tmp 78) (.tmp 73), none, 0⟩,
      ⟨some 68, .mv (.tmp 0), none, 1⟩,
      ⟨some 69, .mv (.tmp 1), none, 1⟩,
      ⟨some 79, .idx 1 (.tmp 68) (.tmp 69), none, 0⟩,
      ⟨none, .store 1 (.tmp 79) (.tmp 77), none, 0⟩]) <|
    .seq (.ops [
      ⟨some 80, .mv (.tmp 11), none, 0⟩,
      ⟨some 8, .mv (.tmp 80), none, 0⟩,
      ⟨some 9, .mv (.const (.bool true)), none, 0⟩]) <|
    .keep [8, 9] <|
    .ret)
    (.skip)) <|
  .seq (.dops [
    ⟨some 81, .mv (.tmp 0), none, 0⟩,
    ⟨some 82, .mv (.tmp 10), none, 0⟩,
    ⟨some 85, .mv (.tmp 0), none, 0⟩,
    ⟨some 86, .mv (.tmp 11), none, 0⟩,
    ⟨some 87, .idx 1 (.tmp 85) (.tmp 86), none, 0⟩,
    ⟨some 88, .load false 1 (.tmp 87), none, 0⟩,
    ⟨some 89, .mv (.tmp 0), none, 0⟩,
    ⟨some 90, .mv (.tmp 10), none, 0⟩,
    ⟨some 91, .idx 1 (.tmp 89) (.tmp 90), none, 0⟩,
    ⟨some 92, .load false 1 (.tmp 91), none, 0⟩,
    ⟨some 93, .idx 1 (.tmp 81) (.tmp 82), none, 0⟩,
    ⟨none, .store 1 (.tmp 93) (.tmp 88), none, 0⟩,
    ⟨some 83, .mv (.tmp 0), none, 1⟩,
    ⟨some 84, .mv (.tmp 11), none, 1⟩,
    ⟨some 94, .idx 1 (.tmp 83) (.tmp 84), none, 0⟩,
    ⟨none, .store 1 (.tmp 94) (.tmp 92), none, 0⟩]) <|
  .seq (.ops [
    ⟨some 95, .mv (.tmp 10), none, 0⟩,
    ⟨some 96, .bin .add (.tmp 95) (.const (.int .i64 1)), none, 0⟩,
    ⟨some 10, .mv (.tmp 96), none, 0⟩]) <|
  .seq (.ops [
    ⟨some 97, .mv (.tmp 11), none, 0⟩,
    ⟨some 98, .bin .sub (.tmp 97) (.const (.int .i64 1)), none, 0⟩,
    ⟨some 11, .mv (.tmp 98), none, 0⟩]) <|
  .seq (.block 4 <|
  .loop [0, 1, 10, 11] i_slices_partitionOrdered_int64_B5) <|
  .seq (.dops [
    ⟨some 153, .mv (.tmp 0), none, 0⟩,
    ⟨some 154, .mv (.tmp 11), none, 0⟩,
    ⟨some 157, .mv (.tmp 0), none, 0⟩,
    ⟨some 158, .mv (.tmp 1), none, 0⟩,
    ⟨some 159, .idx 1 (.tmp 157) (.tmp 158), none, 0⟩,
    ⟨some 160, .load false 1 (.tmp 159), none, 0⟩,
    ⟨some 161, .mv (.tmp 0), none, 0⟩,
    ⟨some 162, .mv (.tmp 11), none, 0⟩,
    ⟨some 163, .idx 1 (.tmp 161) (.tmp 162), none, 0⟩,
    ⟨some 164, .load false 1 (.tmp 163), none, 0⟩,
    ⟨some 165, .idx 1 (.tmp 153) (.tmp 154), none, 0⟩,
    ⟨none, .store 1 (.tmp 165) (.tmp 160), none, 0⟩,
    ⟨some 155, .mv (.tmp 0), none, 1⟩,
    ⟨some 156, .mv (.tmp 1), none, 1⟩,
    ⟨some 166, .idx 1 (.tmp 155) (.tmp 156), none, 0⟩,
    ⟨none, .store 1 (.tmp 166) (.tmp 164), none, 0⟩]) <|
  .seq (.ops [
    ⟨some 167, .mv (.tmp 11), none, 0⟩,
    ⟨some 8, .mv (.tmp 167), none, 0⟩,
    ⟨some 9, .mv (.const (.bool false)), none, 0⟩]) <|
  .keep [8, 9] <|
  .ret⟩

theorem e_slices_partitionOrdered_int64 : EntOK Try.prog (compD Try.prog) k_slices_partitionOrdered_int64 i_slices_partitionOrdered_int64.vf :=
  ⟨Try.f70, Try.f70.body.getD .skip, Try.func70, by kernel_rfl, by kernel_rfl, by kernel_rfl, by kernel_rfl, by kernel_rfl⟩


end Go.Proofs.Ytbilmoahcnllmaa.Zv

