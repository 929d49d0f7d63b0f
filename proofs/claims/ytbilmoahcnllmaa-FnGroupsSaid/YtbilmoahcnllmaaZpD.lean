/- Part D of the proof: ZwIr, ZvSym, ZvNum, ZvSl, ZvEnd, ZvRow, ZwRowA, ZwRow0, ZwLaws, ZvTz, ZwSrc, ZwRowB, ZwSeqs, ZwUp, ZwGp1, ZwGraph, ZwAdj, ZwCover, ZwMark, ZwEdge, ZwLL, ZwTab, ZwFrom, ZwBound, ZwMoore, ZwSort. Conditions: none. -/
import Derived.Below
import Derived.ChangeOld
import Derived.IntWalk
import Derived.Lib.SmallJoins
import Derived.OpenShut
import Derived.ProofKit
import Derived.ShutString
import Derived.SizedLaws
import Derived.Test.YtbilmoahcnllmaaRows
import Derived.Test.YtbilmoahcnllmaaZpB
import Derived.Test.YtbilmoahcnllmaaZpC
set_option linter.unusedSimpArgs false
set_option linter.unusedVariables false
/- The functions' intermediate form. -/
namespace Go.Proofs.Ytbilmoahcnllmaa.Zv
open Go
/-- math/bits.Len32 -/
def i_math_bits_Len32 : FF := ⟨19, [.tmp 2],
  .seq (.ops [
    ⟨some 2, .mv (.const (.int .i64 0)), none, 0⟩]) <|
  .seq (.seq (.ops [
    ⟨some 3, .mv (.tmp 0), none, 0⟩,
    ⟨some 4, .bin .geq (.tmp 3) (.const (.int .u32 65536)), none, 0⟩]) <|
  .cond (.tmp 4)
    (.seq (.ops [
      ⟨some 5, .mv (.tmp 0), none, 0⟩,
      ⟨some 6, .bin .shr (.tmp 5) (.const (.int .u64 16)), none, 0⟩,
      ⟨some 0, .mv (.tmp 6), none, 0⟩]) <|
    .ops [
      ⟨some 2, .mv (.const (.int .i64 16)), none, 0⟩])
    (.skip)) <|
  .seq (.seq (.ops [
    ⟨some 7, .mv (.tmp 0), none, 0⟩,
    ⟨some 8, .bin .geq (.tmp 7) (.const (.int .u32 256)), none, 0⟩]) <|
  .cond (.tmp 8)
    (.seq (.ops [
      ⟨some 9, .mv (.tmp 0), none, 0⟩,
      ⟨some 10, .bin .shr (.tmp 9) (.const (.int .u64 8)), none, 0⟩,
      ⟨some 0, .mv (.tmp 10), none, 0⟩]) <|
    .ops [
      ⟨some 11, .mv (.tmp 2), none, 0⟩,
      ⟨some 12, .bin .add (.tmp 11) (.const (.int .i64 8)), none, 0⟩,
      ⟨some 2, .mv (.tmp 12), none, 0⟩])
    (.skip)) <|
  .seq (.ops [
    ⟨some 13, .mv (.tmp 2), none, 0⟩,
    ⟨some 14, .mv (.tmp 0), none, 0⟩,
    ⟨some 15, .conv .u8 (.tmp 14), none, 0⟩,
    ⟨some 16, .idxStr (.const (.string ⟨#[0, 1, 2, 2, 3, 3, 3, 3, 4, 4, 4, 4, 4, 4, 4, 4, 5, 5, 5, 5, 5, 5, 5, 5, 5, 5, 5, 5, 5, 5, 5, 5, 6, 6, 6, 6, 6, 6, 6, 6, 6, 6, 6, 6, 6, 6, 6, 6, 6, 6, 6, 6, 6, 6, 6, 6, 6, 6, 6, 6, 6, 6, 6, 6, 7, 7, 7, 7, 7, 7, 7, 7, 7, 7, 7, 7, 7, 7, 7, 7, 7, 7, 7, 7, 7, 7, 7, 7, 7, 7, 7, 7, 7, 7, 7, 7, 7, 7, 7, 7, 7, 7, 7, 7, 7, 7, 7, 7, 7, 7, 7, 7, 7, 7, 7, 7, 7, 7, 7, 7, 7, 7, 7, 7, 7, 7, 7, 7, 8, 8, 8, 8, 8, 8, 8, 8, 8, 8, 8, 8, 8, 8, 8, 8, 8, 8, 8, 8, 8, 8, 8, 8, 8, 8, 8, 8, 8, 8, 8, 8, 8, 8, 8, 8, 8, 8, 8, 8, 8, 8, 8, 8, 8, 8, 8, 8, 8, 8, 8, 8, 8, 8, 8, 8, 8, 8, 8, 8, 8, 8, 8, 8, 8, 8, 8, 8, 8, 8, 8, 8, 8, 8, 8, 8, 8, 8, 8, 8, 8, 8, 8, 8, 8, 8, 8, 8, 8, 8, 8, 8, 8, 8, 8, 8, 8, 8, 8, 8, 8, 8, 8, 8, 8, 8, 8, 8, 8, 8, 8, 8, 8, 8, 8, 8, 8, 8, 8, 8, 8, 8, 8, 8, 8, 8, 8, 8]⟩)) (.tmp 15), none, 0⟩,
    ⟨some 17, .conv .i64 (.tmp 16), none, 0⟩,
    ⟨some 18, .bin .add (.tmp 13) (.tmp 17), none, 0⟩,
    ⟨some 2, .mv (.tmp 18), none, 0⟩]) <|
  .keep [2] <|
  .ret⟩

theorem e_math_bits_Len32 : EntOK Try.prog (compD Try.prog) k_math_bits_Len32 i_math_bits_Len32.vf :=
  ⟨Try.f71, Try.f71.body.getD .skip, Try.func71, by kernel_rfl, by kernel_rfl, by kernel_rfl, by kernel_rfl, by kernel_rfl⟩

/-- math/bits.Len64 -/
def i_math_bits_Len64 : FF := ⟨25, [.tmp 2],
  .seq (.ops [
    ⟨some 2, .mv (.const (.int .i64 0)), none, 0⟩]) <|
  .seq (.seq (.ops [
    ⟨some 3, .mv (.tmp 0), none, 0⟩,
    ⟨some 4, .bin .geq (.tmp 3) (.const (.int .u64 4294967296)), none, 0⟩]) <|
  .cond (.tmp 4)
    (.seq (.ops [
      ⟨some 5, .mv (.tmp 0), none, 0⟩,
      ⟨some 6, .bin .shr (.tmp 5) (.const (.int .u64 32)), none, 0⟩,
      ⟨some 0, .mv (.tmp 6), none, 0⟩]) <|
    .ops [
      ⟨some 2, .mv (.const (.int .i64 32)), none, 0⟩])
    (.skip)) <|
  .seq (.seq (.ops [
    ⟨some 7, .mv (.tmp 0), none, 0⟩,
    ⟨some 8, .bin .geq (.tmp 7) (.const (.int .u64 65536)), none, 0⟩]) <|
  .cond (.tmp 8)
    (.seq (.ops [
      ⟨some 9, .mv (.tmp 0), none, 0⟩,
      ⟨some 10, .bin .shr (.tmp 9) (.const (.int .u64 16)), none, 0⟩,
      ⟨some 0, .mv (.tmp 10), none, 0⟩]) <|
    .ops [
      ⟨some 11, .mv (.tmp 2), none, 0⟩,
      ⟨some 12, .bin .add (.tmp 11) (.const (.int .i64 16)), none, 0⟩,
      ⟨some 2, .mv (.tmp 12), none, 0⟩])
    (.skip)) <|
  .seq (.seq (.ops [
    ⟨some 13, .mv (.tmp 0), none, 0⟩,
    ⟨some 14, .bin .geq (.tmp 13) (.const (.int .u64 256)), none, 0⟩]) <|
  .cond (.tmp 14)
    (.seq (.ops [
      ⟨some 15, .mv (.tmp 0), none, 0⟩,
      ⟨some 16, .bin .shr (.tmp 15) (.const (.int .u64 8)), none, 0⟩,
      ⟨some 0, .mv (.tmp 16), none, 0⟩]) <|
    .ops [
      ⟨some 17, .mv (.tmp 2), none, 0⟩,
      ⟨some 18, .bin .add (.tmp 17) (.const (.int .i64 8)), none, 0⟩,
      ⟨some 2, .mv (.tmp 18), none, 0⟩])
    (.skip)) <|
  .seq (.ops [
    ⟨some 19, .mv (.tmp 2), none, 0⟩,
    ⟨some 20, .mv (.tmp 0), none, 0⟩,
    ⟨some 21, .conv .u8 (.tmp 20), none, 0⟩,
    ⟨some 22, .idxStr (.const (.string ⟨#[0, 1, 2, 2, 3, 3, 3, 3, 4, 4, 4, 4, 4, 4, 4, 4, 5, 5, 5, 5, 5, 5, 5, 5, 5, 5, 5, 5, 5, 5, 5, 5, 6, 6, 6, 6, 6, 6, 6, 6, 6, 6, 6, 6, 6, 6, 6, 6, 6, 6, 6, 6, 6, 6, 6, 6, 6, 6, 6, 6, 6, 6, 6, 6, 7, 7, 7, 7, 7, 7, 7, 7, 7, 7, 7, 7, 7, 7, 7, 7, 7, 7, 7, 7, 7, 7, 7, 7, 7, 7, 7, 7, 7, 7, 7, 7, 7, 7, 7, 7, 7, 7, 7, 7, 7, 7, 7, 7, 7, 7, 7, 7, 7, 7, 7, 7, 7, 7, 7, 7, 7, 7, 7, 7, 7, 7, 7, 7, 8, 8, 8, 8, 8, 8, 8, 8, 8, 8, 8, 8, 8, 8, 8, 8, 8, 8, 8, 8, 8, 8, 8, 8, 8, 8, 8, 8, 8, 8, 8, 8, 8, 8, 8, 8, 8, 8, 8, 8, 8, 8, 8, 8, 8, 8, 8, 8, 8, 8, 8, 8, 8, 8, 8, 8, 8, 8, 8, 8, 8, 8, 8, 8, 8, 8, 8, 8, 8, 8, 8, 8, 8, 8, 8, 8, 8, 8, 8, 8, 8, 8, 8, 8, 8, 8, 8, 8, 8, 8, 8, 8, 8, 8, 8, 8, 8, 8, 8, 8, 8, 8, 8, 8, 8, 8, 8, 8, 8, 8, 8, 8, 8, 8, 8, 8, 8, 8, 8, 8, 8, 8, 8, 8, 8, 8, 8, 8]⟩)) (.tmp 21), none, 0⟩,
    ⟨some 23, .conv .i64 (.tmp 22), none, 0⟩,
    ⟨some 24, .bin .add (.tmp 19) (.tmp 23), none, 0⟩,
    ⟨some 2, .mv (.tmp 24), none, 0⟩]) <|
  .keep [2] <|
  .ret⟩

theorem e_math_bits_Len64 : EntOK Try.prog (compD Try.prog) k_math_bits_Len64 i_math_bits_Len64.vf :=
  ⟨Try.f72, Try.f72.body.getD .skip, Try.func72, by kernel_rfl, by kernel_rfl, by kernel_rfl, by kernel_rfl, by kernel_rfl⟩

/-- slices.siftDownOrdered[int64] -/
def i_slices_siftDownOrdered_int64_B1 : FC :=
  .block 1 <|
  .seq (.ops [
    ⟨some 11, .mv (.tmp 8), none, 0⟩,
    ⟨some 12, .bin .mul (.const (.int .i64 2)) (.tmp 11), none, 0⟩,
    ⟨some 13, .bin .add (.tmp 12) (.const (.int .i64 1)), none, 0⟩,
    ⟨some 9, .mv (.tmp 13), none, 0⟩]) <|
  .seq (.seq (.ops [
    ⟨some 14, .mv (.tmp 9), none, 0⟩,
    ⟨some 15, .mv (.tmp 2), none, 0⟩,
    ⟨some 16, .bin .geq (.tmp 14) (.tmp 15), none, 0⟩]) <|
  .cond (.tmp 16)
    (.keep [] <|
    .exit 0)
    (.skip)) <|
  .seq (.seq (.dops [
    ⟨some 17, .mv (.tmp 9), none, 0⟩,
    ⟨some 18, .bin .add (.tmp 17) (.const (.int .i64 1)), none, 0⟩,
    ⟨some 19, .mv (.tmp 2), none, 0⟩,
    ⟨some 20, .bin .lss (.tmp 18) (.tmp 19), none, 0⟩,
    ⟨some 21, .mv (.tmp 20), none, 0⟩,
    ⟨some 22, .mv (.tmp 0), some (21, true), 0⟩,
    ⟨some 23, .mv (.tmp 3), some (21, true), 0⟩,
    ⟨some 24, .mv (.tmp 9), some (21, true), 0⟩,
    ⟨some 25, .bin .add (.tmp 23) (.tmp 24), some (21, true), 0⟩,
    ⟨some 26, .idx 1 (.tmp 22) (.tmp 25), some (21, true), 0⟩,
    ⟨some 27, .load false 1 (.tmp 26), some (21, true), 0⟩,
    ⟨some 28, .mv (.tmp 0), some (21, true), 0⟩,
    ⟨some 29, .mv (.tmp 3), some (21, true), 0⟩,
    ⟨some 30, .mv (.tmp 9), some (21, true), 0⟩,
    ⟨some 31, .bin .add (.tmp 29) (.tmp 30), some (21, true), 0⟩,
    ⟨some 32, .bin .add (.tmp 31) (.const (.int .i64 1)), some (21, true), 0⟩,
    ⟨some 33, .idx 1 (.tmp 28) (.tmp 32), some (21, true), 0⟩,
    ⟨some 34, .load false 1 (.tmp 33), some (21, true), 0⟩,
    ⟨some 35, .call k_cmp_Less_int64 [(.tmp 27), (.tmp 34)], some (21, true), 0⟩,
    ⟨some 36, .pick (.tmp 21) (.tmp 35) (.const (.bool false)), none, 0⟩]) <|
  .cond (.tmp 36)
    (.ops [
      ⟨some 37, .mv (.tmp 9), none, 0⟩,
      ⟨some 38, .bin .add (.tmp 37) (.const (.int .i64 1)), none, 0⟩,
      ⟨some 9, .mv (.tmp 38), none, 0⟩])
    (.skip)) <|
  .seq (.seq (.dops [
    ⟨some 39, .mv (.tmp 0), none, 0⟩,
    ⟨some 40, .mv (.tmp 3), none, 0⟩,
    ⟨some 41, .mv (.tmp 8), none, 0⟩,
    ⟨some 42, .bin .add (.tmp 40) (.tmp 41), none, 0⟩,
    ⟨some 43, .idx 1 (.tmp 39) (.tmp 42), none, 0⟩,
    ⟨some 44, .load false 1 (.tmp 43), none, 0⟩,
    ⟨some 45, .mv (.tmp 0), none, 0⟩,
    ⟨some 46, .mv (.tmp 3), none, 0⟩,
    ⟨some 47, .mv (.tmp 9), none, 0⟩,
    ⟨some 48, .bin .add (.tmp 46) (.tmp 47), none, 0⟩,
    ⟨some 49, .idx 1 (.tmp 45) (.tmp 48), none, 0⟩,
    ⟨some 50, .load false 1 (.tmp 49), none, 0⟩,
    ⟨some 51, .call k_cmp_Less_int64 [(.tmp 44), (.tmp 50)], none, 0⟩,
    ⟨some 52, .un .not (.tmp 51), none, 0⟩]) <|
  .cond (.tmp 52)
    (.keep [] <|
    .ret)
    (.skip)) <|
  .seq (.dops [
    ⟨some 53, .mv (.tmp 0), none, 0⟩,
    ⟨some 54, .mv (.tmp 3), none, 0⟩,
    ⟨some 55, .mv (.tmp 8), none, 0⟩,
    ⟨some 56, .bin .add (.tmp 54) (.tmp 55), none, 0⟩,
    ⟨some 61, .mv (.tmp 0), none, 0⟩,
    ⟨some 62, .mv (.tmp 3), none, 0⟩,
    ⟨some 63, .mv (.tmp 9), none, 0⟩,
    ⟨some 64, .bin .add (.tmp 62) (.tmp 63), none, 0⟩,
    ⟨some 65, .idx 1 (.tmp 61) (.tmp 64), none, 0⟩,
    ⟨some 66, .load false 1 (.tmp 65), none, 0⟩,
    ⟨some 67, .mv (.tmp 0), none, 0⟩,
    ⟨some 68, .mv (.tmp 3), none, 0⟩,
    ⟨some 69, .mv (.tmp 8), none, 0⟩,
    ⟨some 70, .bin .add (.tmp 68) (.tmp 69), none, 0⟩,
    ⟨some 71, .idx 1 (.tmp 67) (.tmp 70), none, 0⟩,
    ⟨some 72, .load false 1 (.tmp 71), none, 0⟩,
    ⟨some 73, .idx 1 (.tmp 53) (.tmp 56), none, 0⟩,
    ⟨none, .store 1 (.tmp 73) (.tmp 66), none, 0⟩,
    ⟨some 57, .mv (.tmp 0), none, 1⟩,
    ⟨some 58, .mv (.tmp 3), none, 1⟩,
    ⟨some 59, .mv (.tmp 9), none, 1⟩,
    ⟨some 60, .bin .add (.tmp 58) (.tmp 59), none, 1⟩,
    ⟨some 74, .idx 1 (.tmp 57) (.tmp 60), none, 0⟩,
    ⟨none, .store 1 (.tmp 74) (.tmp 72), none, 0⟩]) <|
  .ops [
    ⟨some 75, .mv (.tmp 9), none, 0⟩,
    ⟨some 8, .mv (.tmp 75), none, 0⟩]
def i_slices_siftDownOrdered_int64 : FF := ⟨76, [],
  .seq (.ops [
    ⟨some 10, .mv (.tmp 1), none, 0⟩,
    ⟨some 8, .mv (.tmp 10), none, 0⟩]) <|
  .block 0 <|
  .loop [0, 2, 3, 8] i_slices_siftDownOrdered_int64_B1⟩

theorem e_slices_siftDownOrdered_int64 : EntOK Try.prog (compD Try.prog) k_slices_siftDownOrdered_int64 i_slices_siftDownOrdered_int64.vf :=
  ⟨Try.f73, Try.f73.body.getD .skip, Try.func73, by kernel_rfl, by kernel_rfl, by kernel_rfl, by kernel_rfl, by kernel_rfl⟩

/-- slices.nextPowerOfTwo -/
def i_slices_nextPowerOfTwo : FF := ⟨7, [.tmp 2],
  .seq (.ops [
    ⟨some 2, .mv (.const (.int .u64 0)), none, 0⟩]) <|
  .seq (.ops [
    ⟨some 3, .mv (.tmp 0), none, 0⟩,
    ⟨some 4, .conv .u64 (.tmp 3), none, 0⟩,
    ⟨some 5, .call k_math_bits_Len [(.tmp 4)], none, 0⟩,
    ⟨some 6, .bin .shl (.const (.int .u64 1)) (.tmp 5), none, 0⟩,
    ⟨some 2, .mv (.tmp 6), none, 0⟩]) <|
  .keep [2] <|
  .ret⟩

theorem e_slices_nextPowerOfTwo : EntOK Try.prog (compD Try.prog) k_slices_nextPowerOfTwo i_slices_nextPowerOfTwo.vf :=
  ⟨Try.f74, Try.f74.body.getD .skip, Try.func74, by kernel_rfl, by kernel_rfl, by kernel_rfl, by kernel_rfl, by kernel_rfl⟩

/-- (*slices.xorshift).Next -/
def i_slices_xorshift_Next : FF := ⟨33, [.tmp 2],
  .seq (.ops [
    ⟨some 2, .mv (.const (.int .u64 0)), none, 0⟩]) <|
  .seq (.dops [
    ⟨some 3, .mv (.tmp 0), none, 0⟩,
    ⟨some 4, .nilchk (.tmp 3), none, 0⟩,
    ⟨some 5, .load false 1 (.tmp 4), none, 0⟩,
    ⟨some 6, .mv (.tmp 0), none, 0⟩,
    ⟨some 7, .nilchk (.tmp 6), none, 0⟩,
    ⟨some 8, .load false 1 (.tmp 7), none, 0⟩,
    ⟨some 9, .bin .shl (.tmp 8) (.const (.int .u64 13)), none, 0⟩,
    ⟨some 10, .bin .xor (.tmp 5) (.tmp 9), none, 0⟩,
    ⟨some 11, .nilchk (.tmp 3), none, 0⟩,
    ⟨none, .store 1 (.tmp 11) (.tmp 10), none, 0⟩]) <|
  .seq (.dops [
    ⟨some 12, .mv (.tmp 0), none, 0⟩,
    ⟨some 13, .nilchk (.tmp 12), none, 0⟩,
    ⟨some 14, .load false 1 (.tmp 13), none, 0⟩,
    ⟨some 15, .mv (.tmp 0), none, 0⟩,
    ⟨some 16, .nilchk (.tmp 15), none, 0⟩,
    ⟨some 17, .load false 1 (.tmp 16), none, 0⟩,
    ⟨some 18, .bin .shr (.tmp 17) (.const (.int .u64 7)), none, 0⟩,
    ⟨some 19, .bin .xor (.tmp 14) (.tmp 18), none, 0⟩,
    ⟨some 20, .nilchk (.tmp 12), none, 0⟩,
    ⟨none, .store 1 (.tmp 20) (.tmp 19), none, 0⟩]) <|
  .seq (.dops [
    ⟨some 21, .mv (.tmp 0), none, 0⟩,
    ⟨some 22, .nilchk (.tmp 21), none, 0⟩,
    ⟨some 23, .load false 1 (.tmp 22), none, 0⟩,
    ⟨some 24, .mv (.tmp 0), none, 0⟩,
    ⟨some 25, .nilchk (.tmp 24), none, 0⟩,
    ⟨some 26, .load false 1 (.tmp 25), none, 0⟩,
    ⟨some 27, .bin .shl (.tmp 26) (.const (.int .u64 17)), none, 0⟩,
    ⟨some 28, .bin .xor (.tmp 23) (.tmp 27), none, 0⟩,
    ⟨some 29, .nilchk (.tmp 21), none, 0⟩,
    ⟨none, .store 1 (.tmp 29) (.tmp 28), none, 0⟩]) <|
  .seq (.ops [
    ⟨some 30, .mv (.tmp 0), none, 0⟩,
    ⟨some 31, .nilchk (.tmp 30), none, 0⟩,
    ⟨some 32, .load false 1 (.tmp 31), none, 0⟩,
    ⟨some 2, .mv (.tmp 32), none, 0⟩]) <|
  .keep [2] <|
  .ret⟩

theorem e_slices_xorshift_Next : EntOK Try.prog (compD Try.prog) k_slices_xorshift_Next i_slices_xorshift_Next.vf :=
  ⟨Try.f75, Try.f75.body.getD .skip, Try.func75, by kernel_rfl, by kernel_rfl, by kernel_rfl, by kernel_rfl, by kernel_rfl⟩

/-- slices.medianAdjacentOrdered[int64] -/
def i_slices_medianAdjacentOrdered_int64 : FF := ⟨15, [.tmp 6],
  .seq (.ops [
    ⟨some 6, .mv (.const (.int .i64 0)), none, 0⟩]) <|
  .seq (.ops [
    ⟨some 7, .mv (.tmp 0), none, 0⟩,
    ⟨some 8, .mv (.tmp 1), none, 0⟩,
    ⟨some 9, .bin .sub (.tmp 8) (.const (.int .i64 1)), none, 0⟩,
    ⟨some 10, .mv (.tmp 1), none, 0⟩,
    ⟨some 11, .mv (.tmp 1), none, 0⟩,
    ⟨some 12, .bin .add (.tmp 11) (.const (.int .i64 1)), none, 0⟩,
    ⟨some 13, .mv (.tmp 2), none, 0⟩,
    ⟨some 14, .call k_slices_medianOrdered_int64 [(.tmp 7), (.tmp 9), (.tmp 10), (.tmp 12), (.tmp 13)], none, 0⟩,
    ⟨some 6, .mv (.tmp 14), none, 0⟩]) <|
  .keep [6] <|
  .ret⟩

theorem e_slices_medianAdjacentOrdered_int64 : EntOK Try.prog (compD Try.prog) k_slices_medianAdjacentOrdered_int64 i_slices_medianAdjacentOrdered_int64.vf :=
  ⟨Try.f76, Try.f76.body.getD .skip, Try.func76, by kernel_rfl, by kernel_rfl, by kernel_rfl, by kernel_rfl, by kernel_rfl⟩

/-- slices.medianOrdered[int64] -/
def i_slices_medianOrdered_int64 : FF := ⟨36, [.tmp 10],
  .seq (.ops [
    ⟨some 10, .mv (.const (.int .i64 0)), none, 0⟩]) <|
  .seq (.ops [
    ⟨some 12, .mv (.tmp 0), none, 0⟩,
    ⟨some 13, .mv (.tmp 1), none, 0⟩,
    ⟨some 14, .mv (.tmp 2), none, 0⟩,
    ⟨some 15, .mv (.tmp 4), none, 0⟩,
    ⟨some 16, .call k_slices_order2Ordered_int64 [(.tmp 12), (.tmp 13), (.tmp 14), (.tmp 15)], none, 0⟩,
    ⟨some 11, .mv (.tmp 16), none, 0⟩,
    ⟨some 17, .ext (.tmp 11) 0, none, 0⟩,
    ⟨some 18, .ext (.tmp 11) 1, none, 0⟩,
    ⟨some 1, .mv (.tmp 17), none, 0⟩,
    ⟨some 2, .mv (.tmp 18), none, 0⟩]) <|
  .seq (.ops [
    ⟨some 20, .mv (.tmp 0), none, 0⟩,
    ⟨some 21, .mv (.tmp 2), none, 0⟩,
    ⟨some 22, .mv (.tmp 3), none, 0⟩,
    ⟨some 23, .mv (.tmp 4), none, 0⟩,
    ⟨some 24, .call k_slices_order2Ordered_int64 [(.tmp 20), (.tmp 21), (.tmp 22), (.tmp 23)], none, 0⟩,
    ⟨some 19, .mv (.tmp 24), none, 0⟩,
    ⟨some 25, .ext (.tmp 19) 0, none, 0⟩,
    ⟨some 26, .ext (.tmp 19) 1, none, 0⟩,
    ⟨some 2, .mv (.tmp 25), none, 0⟩,
    ⟨some 3, .mv (.tmp 26), none, 0⟩]) <|
  .seq (.ops [
    ⟨some 28, .mv (.tmp 0), none, 0⟩,
    ⟨some 29, .mv (.tmp 1), none, 0⟩,
    ⟨some 30, .mv (.tmp 2), none, 0⟩,
    ⟨some 31, .mv (.tmp 4), none, 0⟩,
    ⟨some 32, .call k_slices_order2Ordered_int64 [(.tmp 28), (.tmp 29), (.tmp 30), (.tmp 31)], none, 0⟩,
    ⟨some 27, .mv (.tmp 32), none, 0⟩,
    ⟨some 33, .ext (.tmp 27) 0, none, 0⟩,
    ⟨some 34, .ext (.tmp 27) 1, none, 0⟩,
    ⟨some 1, .mv (.tmp 33), none, 0⟩,
    ⟨some 2, .mv (.tmp 34), none, 0⟩]) <|
  .seq (.ops [
    ⟨some 35, .mv (.tmp 2), none, 0⟩,
    ⟨some 10, .mv (.tmp 35), none, 0⟩]) <|
  .keep [10] <|
  .ret⟩

theorem e_slices_medianOrdered_int64 : EntOK Try.prog (compD Try.prog) k_slices_medianOrdered_int64 i_slices_medianOrdered_int64.vf :=
  ⟨Try.f77, Try.f77.body.getD .skip, Try.func77, by kernel_rfl, by kernel_rfl, by kernel_rfl, by kernel_rfl, by kernel_rfl⟩

/-- cmp.isNaN[int64] -/
def i_cmp_isNaN_int64 : FF := ⟨6, [.tmp 2],
  .seq (.ops [
    ⟨some 2, .mv (.const (.bool false)), none, 0⟩]) <|
  .seq (.ops [
    ⟨some 3, .mv (.tmp 0), none, 0⟩,
    ⟨some 4, .mv (.tmp 0), none, 0⟩,
    ⟨some 5, .bin .neq (.tmp 3) (.tmp 4), none, 0⟩,
    ⟨some 2, .mv (.tmp 5), none, 0⟩]) <|
  .keep [2] <|
  .ret⟩

theorem e_cmp_isNaN_int64 : EntOK Try.prog (compD Try.prog) k_cmp_isNaN_int64 i_cmp_isNaN_int64.vf :=
  ⟨Try.f78, Try.f78.body.getD .skip, Try.func78, by kernel_rfl, by kernel_rfl, by kernel_rfl, by kernel_rfl, by kernel_rfl⟩

/-- slices.order2Ordered[int64] -/
def i_slices_order2Ordered_int64 : FF := ⟨28, [.tmp 8, .tmp 9],
  .seq (.ops [
    ⟨some 8, .mv (.const (.int .i64 0)), none, 0⟩,
    ⟨some 9, .mv (.const (.int .i64 0)), none, 0⟩]) <|
  .seq (.seq (.dops [
    ⟨some 10, .mv (.tmp 0), none, 0⟩,
    ⟨some 11, .mv (.tmp 2), none, 0⟩,
    ⟨some 12, .idx 1 (.tmp 10) (.tmp 11), none, 0⟩,
    ⟨some 13, .load false 1 (.tmp 12), none, 0⟩,
    ⟨some 14, .mv (.tmp 0), none, 0⟩,
    ⟨some 15, .mv (.tmp 1), none, 0⟩,
    ⟨some 16, .idx 1 (.tmp 14) (.tmp 15), none, 0⟩,
    ⟨some 17, .load false 1 (.tmp 16), none, 0⟩,
    ⟨some 18, .call k_cmp_Less_int64 [(.tmp 13), (.tmp 17)], none, 0⟩]) <|
  .cond (.tmp 18)
    (.seq (.ops [
      ⟨some 19, .mv (.tmp 3), none, 0⟩,
      ⟨some 20, .nilchk (.tmp 19), none, 0⟩,
      ⟨some 21, .load false 1 (.tmp 20), none, 0⟩,
      ⟨some 22, .bin .add (.tmp 21) (.const (.int .i64 1)), none, 0⟩,
      ⟨some 23, .nilchk (.tmp 19), none, 0⟩,
      ⟨none, .store 1 (.tmp 23) (.tmp 22), none, 0⟩]) <|
    .seq (.ops [
      ⟨some 24, .mv (.tmp 2), none, 0⟩,
      ⟨some 25, .mv (.tmp 1), none, 0⟩,
      ⟨some 8, .mv (.tmp 24), none, 0⟩,
      ⟨some 9, .mv (.tmp 25), none, 0⟩]) <|
    .keep [8, 9] <|
    .ret)
    (.skip)) <|
  .seq (.ops [
    ⟨some 26, .mv (.tmp 1), none, 0⟩,
    ⟨some 27, .mv (.tmp 2), none, 0⟩,
    ⟨some 8, .mv (.tmp 26), none, 0⟩,
    ⟨some 9, .mv (.tmp 27), none, 0⟩]) <|
  .keep [8, 9] <|
  .ret⟩

theorem e_slices_order2Ordered_int64 : EntOK Try.prog (compD Try.prog) k_slices_order2Ordered_int64 i_slices_order2Ordered_int64.vf :=
  ⟨Try.f79, Try.f79.body.getD .skip, Try.func79, by kernel_rfl, by kernel_rfl, by kernel_rfl, by kernel_rfl, by kernel_rfl⟩

def tab : List (Nat × FF) := [(k_laws_FnGroups, i_laws_FnGroups), (k_laws_big, i_laws_big), (k_spec_DrawProductIn, i_spec_DrawProductIn), (k_impl_ProductIn, i_impl_ProductIn), (k_spec_ProductIn, i_spec_ProductIn), (k_impl_IsGroup, i_impl_IsGroup), (k_spec_IsGroup, i_spec_IsGroup), (k_impl_InverseIn, i_impl_InverseIn), (k_impl_OrderOf, i_impl_OrderOf), (k_impl_OrderOfGroup, i_impl_OrderOfGroup), (k_impl_GeneratedBy, i_impl_GeneratedBy), (k_spec_DrawGeneratedBy, i_spec_DrawGeneratedBy), (k_spec_GeneratedBy, i_spec_GeneratedBy), (k_laws_likeInts, i_laws_likeInts), (k_spec_DrawClosedSet, i_spec_DrawClosedSet), (k_impl_ClosedSet, i_impl_ClosedSet), (k_spec_ClosedSet, i_spec_ClosedSet), (k_impl_IsConnectionSet, i_impl_IsConnectionSet), (k_spec_DrawIsConnectionSet, i_spec_DrawIsConnectionSet), (k_spec_IsConnectionSet, i_spec_IsConnectionSet), (k_spec_DrawInverseIn, i_spec_DrawInverseIn), (k_spec_InverseIn, i_spec_InverseIn), (k_spec_DrawOrderOf, i_spec_DrawOrderOf), (k_spec_OrderOf, i_spec_OrderOf), (k_spec_DrawOrderOfGroup, i_spec_DrawOrderOfGroup), (k_spec_OrderOfGroup, i_spec_OrderOfGroup), (k_spec_l01From, i_spec_l01From), (k_spec_l05DrawOf, i_spec_l05DrawOf), (k_spec_l01Near, i_spec_l01Near), (k_spec_l05Order, i_spec_l05Order), (k_spec_l05Bad, i_spec_l05Bad), (k_impl_groupCode, i_impl_groupCode), (k_impl_Group_product, i_impl_Group_product), (k_spec_l05Elements, i_spec_l05Elements), (k_spec_l05Times, i_spec_l05Times), (k_impl_isPrime, i_impl_isPrime), (k_spec_l05Is, i_spec_l05Is), (k_impl_Group_inverse, i_impl_Group_inverse), (k_impl_Group_order, i_impl_Group_order), (k_impl_fewCode, i_impl_fewCode), (k_slices_Contains_int64_int64, i_slices_Contains_int64_int64), (k_slices_Sort_int64_int64, i_slices_Sort_int64_int64), (k_spec_l05DrawList, i_spec_l05DrawList), (k_spec_l05List, i_spec_l05List), (k_spec_l05Generated, i_spec_l05Generated), (k_slices_Compact_int64_int64, i_slices_Compact_int64_int64), (k_spec_l05Closed, i_spec_l05Closed), (k_impl_Group_isConnection, i_impl_Group_isConnection), (k_spec_l05DrawSet, i_spec_l05DrawSet), (k_spec_l05Set, i_spec_l05Set), (k_spec_l05With, i_spec_l05With), (k_spec_l05Inverse, i_spec_l05Inverse), (k_spec_l01Next, i_spec_l01Next), (k_spec_l01Pick, i_spec_l01Pick), (k_spec_l01In, i_spec_l01In), (k_spec_l05Prime, i_spec_l05Prime), (k_slices_Index_int64_int64, i_slices_Index_int64_int64), (k_slices_pdqsortOrdered_int64, i_slices_pdqsortOrdered_int64), (k_math_bits_Len, i_math_bits_Len), (k_slices_insertionSortOrdered_int64, i_slices_insertionSortOrdered_int64), (k_slices_heapSortOrdered_int64, i_slices_heapSortOrdered_int64), (k_slices_breakPatternsOrdered_int64, i_slices_breakPatternsOrdered_int64), (k_slices_choosePivotOrdered_int64, i_slices_choosePivotOrdered_int64), (k_slices_reverseRangeOrdered_int64, i_slices_reverseRangeOrdered_int64), (k_slices_partialInsertionSortOrdered_int64, i_slices_partialInsertionSortOrdered_int64), (k_cmp_Less_int64, i_cmp_Less_int64), (k_slices_partitionEqualOrdered_int64, i_slices_partitionEqualOrdered_int64), (k_slices_partitionOrdered_int64, i_slices_partitionOrdered_int64), (k_math_bits_Len32, i_math_bits_Len32), (k_math_bits_Len64, i_math_bits_Len64), (k_slices_siftDownOrdered_int64, i_slices_siftDownOrdered_int64), (k_slices_nextPowerOfTwo, i_slices_nextPowerOfTwo), (k_slices_xorshift_Next, i_slices_xorshift_Next), (k_slices_medianAdjacentOrdered_int64, i_slices_medianAdjacentOrdered_int64), (k_slices_medianOrdered_int64, i_slices_medianOrdered_int64), (k_cmp_isNaN_int64, i_cmp_isNaN_int64), (k_slices_order2Ordered_int64, i_slices_order2Ordered_int64)]
theorem tabOK : ∀ p ∈ tab, EntOK Try.prog (compD Try.prog) p.1 p.2.vf := by
  intro p hp
  simp only [tab, List.mem_cons, List.not_mem_nil, or_false] at hp
  rcases hp with rfl | rfl | rfl | rfl | rfl | rfl | rfl | rfl | rfl | rfl | rfl | rfl | rfl | rfl | rfl | rfl | rfl | rfl | rfl | rfl | rfl | rfl | rfl | rfl | rfl | rfl | rfl | rfl | rfl | rfl | rfl | rfl | rfl | rfl | rfl | rfl | rfl | rfl | rfl | rfl | rfl | rfl | rfl | rfl | rfl | rfl | rfl | rfl | rfl | rfl | rfl | rfl | rfl | rfl | rfl | rfl | rfl | rfl | rfl | rfl | rfl | rfl | rfl | rfl | rfl | rfl | rfl | rfl | rfl | rfl | rfl | rfl | rfl | rfl | rfl | rfl | rfl
  · exact e_laws_FnGroups
  · exact e_laws_big
  · exact e_spec_DrawProductIn
  · exact e_impl_ProductIn
  · exact e_spec_ProductIn
  · exact e_impl_IsGroup
  · exact e_spec_IsGroup
  · exact e_impl_InverseIn
  · exact e_impl_OrderOf
  · exact e_impl_OrderOfGroup
  · exact e_impl_GeneratedBy
  · exact e_spec_DrawGeneratedBy
  · exact e_spec_GeneratedBy
  · exact e_laws_likeInts
  · exact e_spec_DrawClosedSet
  · exact e_impl_ClosedSet
  · exact e_spec_ClosedSet
  · exact e_impl_IsConnectionSet
  · exact e_spec_DrawIsConnectionSet
  · exact e_spec_IsConnectionSet
  · exact e_spec_DrawInverseIn
  · exact e_spec_InverseIn
  · exact e_spec_DrawOrderOf
  · exact e_spec_OrderOf
  · exact e_spec_DrawOrderOfGroup
  · exact e_spec_OrderOfGroup
  · exact e_spec_l01From
  · exact e_spec_l05DrawOf
  · exact e_spec_l01Near
  · exact e_spec_l05Order
  · exact e_spec_l05Bad
  · exact e_impl_groupCode
  · exact e_impl_Group_product
  · exact e_spec_l05Elements
  · exact e_spec_l05Times
  · exact e_impl_isPrime
  · exact e_spec_l05Is
  · exact e_impl_Group_inverse
  · exact e_impl_Group_order
  · exact e_impl_fewCode
  · exact e_slices_Contains_int64_int64
  · exact e_slices_Sort_int64_int64
  · exact e_spec_l05DrawList
  · exact e_spec_l05List
  · exact e_spec_l05Generated
  · exact e_slices_Compact_int64_int64
  · exact e_spec_l05Closed
  · exact e_impl_Group_isConnection
  · exact e_spec_l05DrawSet
  · exact e_spec_l05Set
  · exact e_spec_l05With
  · exact e_spec_l05Inverse
  · exact e_spec_l01Next
  · exact e_spec_l01Pick
  · exact e_spec_l01In
  · exact e_spec_l05Prime
  · exact e_slices_Index_int64_int64
  · exact e_slices_pdqsortOrdered_int64
  · exact e_math_bits_Len
  · exact e_slices_insertionSortOrdered_int64
  · exact e_slices_heapSortOrdered_int64
  · exact e_slices_breakPatternsOrdered_int64
  · exact e_slices_choosePivotOrdered_int64
  · exact e_slices_reverseRangeOrdered_int64
  · exact e_slices_partialInsertionSortOrdered_int64
  · exact e_cmp_Less_int64
  · exact e_slices_partitionEqualOrdered_int64
  · exact e_slices_partitionOrdered_int64
  · exact e_math_bits_Len32
  · exact e_math_bits_Len64
  · exact e_slices_siftDownOrdered_int64
  · exact e_slices_nextPowerOfTwo
  · exact e_slices_xorshift_Next
  · exact e_slices_medianAdjacentOrdered_int64
  · exact e_slices_medianOrdered_int64
  · exact e_cmp_isNaN_int64
  · exact e_slices_order2Ordered_int64

def F (n : Nat) : Option Ent := (tab.lookup n).map fun f => .ir f.vf
theorem v_laws_FnGroups {nro : Nat} {args : List Value} {h : VH} {r : Value × VH} (ha : args.length ≤ i_laws_FnGroups.ntmps) (hr : fbody (vcall F nro) nro i_laws_FnGroups args h = some r) : vcall F nro k_laws_FnGroups args h = some r := vcall_f (by kernel_rfl) (by kernel_rfl) ha hr
theorem v_laws_big {nro : Nat} {args : List Value} {h : VH} {r : Value × VH} (ha : args.length ≤ i_laws_big.ntmps) (hr : fbody (vcall F nro) nro i_laws_big args h = some r) : vcall F nro k_laws_big args h = some r := vcall_f (by kernel_rfl) (by kernel_rfl) ha hr
theorem v_spec_DrawProductIn {nro : Nat} {args : List Value} {h : VH} {r : Value × VH} (ha : args.length ≤ i_spec_DrawProductIn.ntmps) (hr : fbody (vcall F nro) nro i_spec_DrawProductIn args h = some r) : vcall F nro k_spec_DrawProductIn args h = some r := vcall_f (by kernel_rfl) (by kernel_rfl) ha hr
theorem v_impl_ProductIn {nro : Nat} {args : List Value} {h : VH} {r : Value × VH} (ha : args.length ≤ i_impl_ProductIn.ntmps) (hr : fbody (vcall F nro) nro i_impl_ProductIn args h = some r) : vcall F nro k_impl_ProductIn args h = some r := vcall_f (by kernel_rfl) (by kernel_rfl) ha hr
theorem v_spec_ProductIn {nro : Nat} {args : List Value} {h : VH} {r : Value × VH} (ha : args.length ≤ i_spec_ProductIn.ntmps) (hr : fbody (vcall F nro) nro i_spec_ProductIn args h = some r) : vcall F nro k_spec_ProductIn args h = some r := vcall_f (by kernel_rfl) (by kernel_rfl) ha hr
theorem v_impl_IsGroup {nro : Nat} {args : List Value} {h : VH} {r : Value × VH} (ha : args.length ≤ i_impl_IsGroup.ntmps) (hr : fbody (vcall F nro) nro i_impl_IsGroup args h = some r) : vcall F nro k_impl_IsGroup args h = some r := vcall_f (by kernel_rfl) (by kernel_rfl) ha hr
theorem v_spec_IsGroup {nro : Nat} {args : List Value} {h : VH} {r : Value × VH} (ha : args.length ≤ i_spec_IsGroup.ntmps) (hr : fbody (vcall F nro) nro i_spec_IsGroup args h = some r) : vcall F nro k_spec_IsGroup args h = some r := vcall_f (by kernel_rfl) (by kernel_rfl) ha hr
theorem v_impl_InverseIn {nro : Nat} {args : List Value} {h : VH} {r : Value × VH} (ha : args.length ≤ i_impl_InverseIn.ntmps) (hr : fbody (vcall F nro) nro i_impl_InverseIn args h = some r) : vcall F nro k_impl_InverseIn args h = some r := vcall_f (by kernel_rfl) (by kernel_rfl) ha hr
theorem v_impl_OrderOf {nro : Nat} {args : List Value} {h : VH} {r : Value × VH} (ha : args.length ≤ i_impl_OrderOf.ntmps) (hr : fbody (vcall F nro) nro i_impl_OrderOf args h = some r) : vcall F nro k_impl_OrderOf args h = some r := vcall_f (by kernel_rfl) (by kernel_rfl) ha hr
theorem v_impl_OrderOfGroup {nro : Nat} {args : List Value} {h : VH} {r : Value × VH} (ha : args.length ≤ i_impl_OrderOfGroup.ntmps) (hr : fbody (vcall F nro) nro i_impl_OrderOfGroup args h = some r) : vcall F nro k_impl_OrderOfGroup args h = some r := vcall_f (by kernel_rfl) (by kernel_rfl) ha hr
theorem v_impl_GeneratedBy {nro : Nat} {args : List Value} {h : VH} {r : Value × VH} (ha : args.length ≤ i_impl_GeneratedBy.ntmps) (hr : fbody (vcall F nro) nro i_impl_GeneratedBy args h = some r) : vcall F nro k_impl_GeneratedBy args h = some r := vcall_f (by kernel_rfl) (by kernel_rfl) ha hr
theorem v_spec_DrawGeneratedBy {nro : Nat} {args : List Value} {h : VH} {r : Value × VH} (ha : args.length ≤ i_spec_DrawGeneratedBy.ntmps) (hr : fbody (vcall F nro) nro i_spec_DrawGeneratedBy args h = some r) : vcall F nro k_spec_DrawGeneratedBy args h = some r := vcall_f (by kernel_rfl) (by kernel_rfl) ha hr
theorem v_spec_GeneratedBy {nro : Nat} {args : List Value} {h : VH} {r : Value × VH} (ha : args.length ≤ i_spec_GeneratedBy.ntmps) (hr : fbody (vcall F nro) nro i_spec_GeneratedBy args h = some r) : vcall F nro k_spec_GeneratedBy args h = some r := vcall_f (by kernel_rfl) (by kernel_rfl) ha hr
theorem v_laws_likeInts {nro : Nat} {args : List Value} {h : VH} {r : Value × VH} (ha : args.length ≤ i_laws_likeInts.ntmps) (hr : fbody (vcall F nro) nro i_laws_likeInts args h = some r) : vcall F nro k_laws_likeInts args h = some r := vcall_f (by kernel_rfl) (by kernel_rfl) ha hr
theorem v_spec_DrawClosedSet {nro : Nat} {args : List Value} {h : VH} {r : Value × VH} (ha : args.length ≤ i_spec_DrawClosedSet.ntmps) (hr : fbody (vcall F nro) nro i_spec_DrawClosedSet args h = some r) : vcall F nro k_spec_DrawClosedSet args h = some r := vcall_f (by kernel_rfl) (by kernel_rfl) ha hr
theorem v_impl_ClosedSet {nro : Nat} {args : List Value} {h : VH} {r : Value × VH} (ha : args.length ≤ i_impl_ClosedSet.ntmps) (hr : fbody (vcall F nro) nro i_impl_ClosedSet args h = some r) : vcall F nro k_impl_ClosedSet args h = some r := vcall_f (by kernel_rfl) (by kernel_rfl) ha hr
theorem v_spec_ClosedSet {nro : Nat} {args : List Value} {h : VH} {r : Value × VH} (ha : args.length ≤ i_spec_ClosedSet.ntmps) (hr : fbody (vcall F nro) nro i_spec_ClosedSet args h = some r) : vcall F nro k_spec_ClosedSet args h = some r := vcall_f (by kernel_rfl) (by kernel_rfl) ha hr
theorem v_impl_IsConnectionSet {nro : Nat} {args : List Value} {h : VH} {r : Value × VH} (ha : args.length ≤ i_impl_IsConnectionSet.ntmps) (hr : fbody (vcall F nro) nro i_impl_IsConnectionSet args h = some r) : vcall F nro k_impl_IsConnectionSet args h = some r := vcall_f (by kernel_rfl) (by kernel_rfl) ha hr
theorem v_spec_DrawIsConnectionSet {nro : Nat} {args : List Value} {h : VH} {r : Value × VH} (ha : args.length ≤ i_spec_DrawIsConnectionSet.ntmps) (hr : fbody (vcall F nro) nro i_spec_DrawIsConnectionSet args h = some r) : vcall F nro k_spec_DrawIsConnectionSet args h = some r := vcall_f (by kernel_rfl) (by kernel_rfl) ha hr
theorem v_spec_IsConnectionSet {nro : Nat} {args : List Value} {h : VH} {r : Value × VH} (ha : args.length ≤ i_spec_IsConnectionSet.ntmps) (hr : fbody (vcall F nro) nro i_spec_IsConnectionSet args h = some r) : vcall F nro k_spec_IsConnectionSet args h = some r := vcall_f (by kernel_rfl) (by kernel_rfl) ha hr
theorem v_spec_DrawInverseIn {nro : Nat} {args : List Value} {h : VH} {r : Value × VH} (ha : args.length ≤ i_spec_DrawInverseIn.ntmps) (hr : fbody (vcall F nro) nro i_spec_DrawInverseIn args h = some r) : vcall F nro k_spec_DrawInverseIn args h = some r := vcall_f (by kernel_rfl) (by kernel_rfl) ha hr
theorem v_spec_InverseIn {nro : Nat} {args : List Value} {h : VH} {r : Value × VH} (ha : args.length ≤ i_spec_InverseIn.ntmps) (hr : fbody (vcall F nro) nro i_spec_InverseIn args h = some r) : vcall F nro k_spec_InverseIn args h = some r := vcall_f (by kernel_rfl) (by kernel_rfl) ha hr
theorem v_spec_DrawOrderOf {nro : Nat} {args : List Value} {h : VH} {r : Value × VH} (ha : args.length ≤ i_spec_DrawOrderOf.ntmps) (hr : fbody (vcall F nro) nro i_spec_DrawOrderOf args h = some r) : vcall F nro k_spec_DrawOrderOf args h = some r := vcall_f (by kernel_rfl) (by kernel_rfl) ha hr
theorem v_spec_OrderOf {nro : Nat} {args : List Value} {h : VH} {r : Value × VH} (ha : args.length ≤ i_spec_OrderOf.ntmps) (hr : fbody (vcall F nro) nro i_spec_OrderOf args h = some r) : vcall F nro k_spec_OrderOf args h = some r := vcall_f (by kernel_rfl) (by kernel_rfl) ha hr
theorem v_spec_DrawOrderOfGroup {nro : Nat} {args : List Value} {h : VH} {r : Value × VH} (ha : args.length ≤ i_spec_DrawOrderOfGroup.ntmps) (hr : fbody (vcall F nro) nro i_spec_DrawOrderOfGroup args h = some r) : vcall F nro k_spec_DrawOrderOfGroup args h = some r := vcall_f (by kernel_rfl) (by kernel_rfl) ha hr
theorem v_spec_OrderOfGroup {nro : Nat} {args : List Value} {h : VH} {r : Value × VH} (ha : args.length ≤ i_spec_OrderOfGroup.ntmps) (hr : fbody (vcall F nro) nro i_spec_OrderOfGroup args h = some r) : vcall F nro k_spec_OrderOfGroup args h = some r := vcall_f (by kernel_rfl) (by kernel_rfl) ha hr
theorem v_spec_l01From {nro : Nat} {args : List Value} {h : VH} {r : Value × VH} (ha : args.length ≤ i_spec_l01From.ntmps) (hr : fbody (vcall F nro) nro i_spec_l01From args h = some r) : vcall F nro k_spec_l01From args h = some r := vcall_f (by kernel_rfl) (by kernel_rfl) ha hr
theorem v_spec_l05DrawOf {nro : Nat} {args : List Value} {h : VH} {r : Value × VH} (ha : args.length ≤ i_spec_l05DrawOf.ntmps) (hr : fbody (vcall F nro) nro i_spec_l05DrawOf args h = some r) : vcall F nro k_spec_l05DrawOf args h = some r := vcall_f (by kernel_rfl) (by kernel_rfl) ha hr
theorem v_spec_l01Near {nro : Nat} {args : List Value} {h : VH} {r : Value × VH} (ha : args.length ≤ i_spec_l01Near.ntmps) (hr : fbody (vcall F nro) nro i_spec_l01Near args h = some r) : vcall F nro k_spec_l01Near args h = some r := vcall_f (by kernel_rfl) (by kernel_rfl) ha hr
theorem v_spec_l05Order {nro : Nat} {args : List Value} {h : VH} {r : Value × VH} (ha : args.length ≤ i_spec_l05Order.ntmps) (hr : fbody (vcall F nro) nro i_spec_l05Order args h = some r) : vcall F nro k_spec_l05Order args h = some r := vcall_f (by kernel_rfl) (by kernel_rfl) ha hr
theorem v_spec_l05Bad {nro : Nat} {args : List Value} {h : VH} {r : Value × VH} (ha : args.length ≤ i_spec_l05Bad.ntmps) (hr : fbody (vcall F nro) nro i_spec_l05Bad args h = some r) : vcall F nro k_spec_l05Bad args h = some r := vcall_f (by kernel_rfl) (by kernel_rfl) ha hr
theorem v_impl_groupCode {nro : Nat} {args : List Value} {h : VH} {r : Value × VH} (ha : args.length ≤ i_impl_groupCode.ntmps) (hr : fbody (vcall F nro) nro i_impl_groupCode args h = some r) : vcall F nro k_impl_groupCode args h = some r := vcall_f (by kernel_rfl) (by kernel_rfl) ha hr
theorem v_impl_Group_product {nro : Nat} {args : List Value} {h : VH} {r : Value × VH} (ha : args.length ≤ i_impl_Group_product.ntmps) (hr : fbody (vcall F nro) nro i_impl_Group_product args h = some r) : vcall F nro k_impl_Group_product args h = some r := vcall_f (by kernel_rfl) (by kernel_rfl) ha hr
theorem v_spec_l05Elements {nro : Nat} {args : List Value} {h : VH} {r : Value × VH} (ha : args.length ≤ i_spec_l05Elements.ntmps) (hr : fbody (vcall F nro) nro i_spec_l05Elements args h = some r) : vcall F nro k_spec_l05Elements args h = some r := vcall_f (by kernel_rfl) (by kernel_rfl) ha hr
theorem v_spec_l05Times {nro : Nat} {args : List Value} {h : VH} {r : Value × VH} (ha : args.length ≤ i_spec_l05Times.ntmps) (hr : fbody (vcall F nro) nro i_spec_l05Times args h = some r) : vcall F nro k_spec_l05Times args h = some r := vcall_f (by kernel_rfl) (by kernel_rfl) ha hr
theorem v_impl_isPrime {nro : Nat} {args : List Value} {h : VH} {r : Value × VH} (ha : args.length ≤ i_impl_isPrime.ntmps) (hr : fbody (vcall F nro) nro i_impl_isPrime args h = some r) : vcall F nro k_impl_isPrime args h = some r := vcall_f (by kernel_rfl) (by kernel_rfl) ha hr
theorem v_spec_l05Is {nro : Nat} {args : List Value} {h : VH} {r : Value × VH} (ha : args.length ≤ i_spec_l05Is.ntmps) (hr : fbody (vcall F nro) nro i_spec_l05Is args h = some r) : vcall F nro k_spec_l05Is args h = some r := vcall_f (by kernel_rfl) (by kernel_rfl) ha hr
theorem v_impl_Group_inverse {nro : Nat} {args : List Value} {h : VH} {r : Value × VH} (ha : args.length ≤ i_impl_Group_inverse.ntmps) (hr : fbody (vcall F nro) nro i_impl_Group_inverse args h = some r) : vcall F nro k_impl_Group_inverse args h = some r := vcall_f (by kernel_rfl) (by kernel_rfl) ha hr
theorem v_impl_Group_order {nro : Nat} {args : List Value} {h : VH} {r : Value × VH} (ha : args.length ≤ i_impl_Group_order.ntmps) (hr : fbody (vcall F nro) nro i_impl_Group_order args h = some r) : vcall F nro k_impl_Group_order args h = some r := vcall_f (by kernel_rfl) (by kernel_rfl) ha hr
theorem v_impl_fewCode {nro : Nat} {args : List Value} {h : VH} {r : Value × VH} (ha : args.length ≤ i_impl_fewCode.ntmps) (hr : fbody (vcall F nro) nro i_impl_fewCode args h = some r) : vcall F nro k_impl_fewCode args h = some r := vcall_f (by kernel_rfl) (by kernel_rfl) ha hr
theorem v_slices_Contains_int64_int64 {nro : Nat} {args : List Value} {h : VH} {r : Value × VH} (ha : args.length ≤ i_slices_Contains_int64_int64.ntmps) (hr : fbody (vcall F nro) nro i_slices_Contains_int64_int64 args h = some r) : vcall F nro k_slices_Contains_int64_int64 args h = some r := vcall_f (by kernel_rfl) (by kernel_rfl) ha hr
theorem v_slices_Sort_int64_int64 {nro : Nat} {args : List Value} {h : VH} {r : Value × VH} (ha : args.length ≤ i_slices_Sort_int64_int64.ntmps) (hr : fbody (vcall F nro) nro i_slices_Sort_int64_int64 args h = some r) : vcall F nro k_slices_Sort_int64_int64 args h = some r := vcall_f (by kernel_rfl) (by kernel_rfl) ha hr
theorem v_spec_l05DrawList {nro : Nat} {args : List Value} {h : VH} {r : Value × VH} (ha : args.length ≤ i_spec_l05DrawList.ntmps) (hr : fbody (vcall F nro) nro i_spec_l05DrawList args h = some r) : vcall F nro k_spec_l05DrawList args h = some r := vcall_f (by kernel_rfl) (by kernel_rfl) ha hr
theorem v_spec_l05List {nro : Nat} {args : List Value} {h : VH} {r : Value × VH} (ha : args.length ≤ i_spec_l05List.ntmps) (hr : fbody (vcall F nro) nro i_spec_l05List args h = some r) : vcall F nro k_spec_l05List args h = some r := vcall_f (by kernel_rfl) (by kernel_rfl) ha hr
theorem v_spec_l05Generated {nro : Nat} {args : List Value} {h : VH} {r : Value × VH} (ha : args.length ≤ i_spec_l05Generated.ntmps) (hr : fbody (vcall F nro) nro i_spec_l05Generated args h = some r) : vcall F nro k_spec_l05Generated args h = some r := vcall_f (by kernel_rfl) (by kernel_rfl) ha hr
theorem v_slices_Compact_int64_int64 {nro : Nat} {args : List Value} {h : VH} {r : Value × VH} (ha : args.length ≤ i_slices_Compact_int64_int64.ntmps) (hr : fbody (vcall F nro) nro i_slices_Compact_int64_int64 args h = some r) : vcall F nro k_slices_Compact_int64_int64 args h = some r := vcall_f (by kernel_rfl) (by kernel_rfl) ha hr
theorem v_spec_l05Closed {nro : Nat} {args : List Value} {h : VH} {r : Value × VH} (ha : args.length ≤ i_spec_l05Closed.ntmps) (hr : fbody (vcall F nro) nro i_spec_l05Closed args h = some r) : vcall F nro k_spec_l05Closed args h = some r := vcall_f (by kernel_rfl) (by kernel_rfl) ha hr
theorem v_impl_Group_isConnection {nro : Nat} {args : List Value} {h : VH} {r : Value × VH} (ha : args.length ≤ i_impl_Group_isConnection.ntmps) (hr : fbody (vcall F nro) nro i_impl_Group_isConnection args h = some r) : vcall F nro k_impl_Group_isConnection args h = some r := vcall_f (by kernel_rfl) (by kernel_rfl) ha hr
theorem v_spec_l05DrawSet {nro : Nat} {args : List Value} {h : VH} {r : Value × VH} (ha : args.length ≤ i_spec_l05DrawSet.ntmps) (hr : fbody (vcall F nro) nro i_spec_l05DrawSet args h = some r) : vcall F nro k_spec_l05DrawSet args h = some r := vcall_f (by kernel_rfl) (by kernel_rfl) ha hr
theorem v_spec_l05Set {nro : Nat} {args : List Value} {h : VH} {r : Value × VH} (ha : args.length ≤ i_spec_l05Set.ntmps) (hr : fbody (vcall F nro) nro i_spec_l05Set args h = some r) : vcall F nro k_spec_l05Set args h = some r := vcall_f (by kernel_rfl) (by kernel_rfl) ha hr
theorem v_spec_l05With {nro : Nat} {args : List Value} {h : VH} {r : Value × VH} (ha : args.length ≤ i_spec_l05With.ntmps) (hr : fbody (vcall F nro) nro i_spec_l05With args h = some r) : vcall F nro k_spec_l05With args h = some r := vcall_f (by kernel_rfl) (by kernel_rfl) ha hr
theorem v_spec_l05Inverse {nro : Nat} {args : List Value} {h : VH} {r : Value × VH} (ha : args.length ≤ i_spec_l05Inverse.ntmps) (hr : fbody (vcall F nro) nro i_spec_l05Inverse args h = some r) : vcall F nro k_spec_l05Inverse args h = some r := vcall_f (by kernel_rfl) (by kernel_rfl) ha hr
theorem v_spec_l01Next {nro : Nat} {args : List Value} {h : VH} {r : Value × VH} (ha : args.length ≤ i_spec_l01Next.ntmps) (hr : fbody (vcall F nro) nro i_spec_l01Next args h = some r) : vcall F nro k_spec_l01Next args h = some r := vcall_f (by kernel_rfl) (by kernel_rfl) ha hr
theorem v_spec_l01Pick {nro : Nat} {args : List Value} {h : VH} {r : Value × VH} (ha : args.length ≤ i_spec_l01Pick.ntmps) (hr : fbody (vcall F nro) nro i_spec_l01Pick args h = some r) : vcall F nro k_spec_l01Pick args h = some r := vcall_f (by kernel_rfl) (by kernel_rfl) ha hr
theorem v_spec_l01In {nro : Nat} {args : List Value} {h : VH} {r : Value × VH} (ha : args.length ≤ i_spec_l01In.ntmps) (hr : fbody (vcall F nro) nro i_spec_l01In args h = some r) : vcall F nro k_spec_l01In args h = some r := vcall_f (by kernel_rfl) (by kernel_rfl) ha hr
theorem v_spec_l05Prime {nro : Nat} {args : List Value} {h : VH} {r : Value × VH} (ha : args.length ≤ i_spec_l05Prime.ntmps) (hr : fbody (vcall F nro) nro i_spec_l05Prime args h = some r) : vcall F nro k_spec_l05Prime args h = some r := vcall_f (by kernel_rfl) (by kernel_rfl) ha hr
theorem v_slices_Index_int64_int64 {nro : Nat} {args : List Value} {h : VH} {r : Value × VH} (ha : args.length ≤ i_slices_Index_int64_int64.ntmps) (hr : fbody (vcall F nro) nro i_slices_Index_int64_int64 args h = some r) : vcall F nro k_slices_Index_int64_int64 args h = some r := vcall_f (by kernel_rfl) (by kernel_rfl) ha hr
theorem v_slices_pdqsortOrdered_int64 {nro : Nat} {args : List Value} {h : VH} {r : Value × VH} (ha : args.length ≤ i_slices_pdqsortOrdered_int64.ntmps) (hr : fbody (vcall F nro) nro i_slices_pdqsortOrdered_int64 args h = some r) : vcall F nro k_slices_pdqsortOrdered_int64 args h = some r := vcall_f (by kernel_rfl) (by kernel_rfl) ha hr
theorem v_math_bits_Len {nro : Nat} {args : List Value} {h : VH} {r : Value × VH} (ha : args.length ≤ i_math_bits_Len.ntmps) (hr : fbody (vcall F nro) nro i_math_bits_Len args h = some r) : vcall F nro k_math_bits_Len args h = some r := vcall_f (by kernel_rfl) (by kernel_rfl) ha hr
theorem v_slices_insertionSortOrdered_int64 {nro : Nat} {args : List Value} {h : VH} {r : Value × VH} (ha : args.length ≤ i_slices_insertionSortOrdered_int64.ntmps) (hr : fbody (vcall F nro) nro i_slices_insertionSortOrdered_int64 args h = some r) : vcall F nro k_slices_insertionSortOrdered_int64 args h = some r := vcall_f (by kernel_rfl) (by kernel_rfl) ha hr
theorem v_slices_heapSortOrdered_int64 {nro : Nat} {args : List Value} {h : VH} {r : Value × VH} (ha : args.length ≤ i_slices_heapSortOrdered_int64.ntmps) (hr : fbody (vcall F nro) nro i_slices_heapSortOrdered_int64 args h = some r) : vcall F nro k_slices_heapSortOrdered_int64 args h = some r := vcall_f (by kernel_rfl) (by kernel_rfl) ha hr
theorem v_slices_breakPatternsOrdered_int64 {nro : Nat} {args : List Value} {h : VH} {r : Value × VH} (ha : args.length ≤ i_slices_breakPatternsOrdered_int64.ntmps) (hr : fbody (vcall F nro) nro i_slices_breakPatternsOrdered_int64 args h = some r) : vcall F nro k_slices_breakPatternsOrdered_int64 args h = some r := vcall_f (by kernel_rfl) (by kernel_rfl) ha hr
theorem v_slices_choosePivotOrdered_int64 {nro : Nat} {args : List Value} {h : VH} {r : Value × VH} (ha : args.length ≤ i_slices_choosePivotOrdered_int64.ntmps) (hr : fbody (vcall F nro) nro i_slices_choosePivotOrdered_int64 args h = some r) : vcall F nro k_slices_choosePivotOrdered_int64 args h = some r := vcall_f (by kernel_rfl) (by kernel_rfl) ha hr
theorem v_slices_reverseRangeOrdered_int64 {nro : Nat} {args : List Value} {h : VH} {r : Value × VH} (ha : args.length ≤ i_slices_reverseRangeOrdered_int64.ntmps) (hr : fbody (vcall F nro) nro i_slices_reverseRangeOrdered_int64 args h = some r) : vcall F nro k_slices_reverseRangeOrdered_int64 args h = some r := vcall_f (by kernel_rfl) (by kernel_rfl) ha hr
theorem v_slices_partialInsertionSortOrdered_int64 {nro : Nat} {args : List Value} {h : VH} {r : Value × VH} (ha : args.length ≤ i_slices_partialInsertionSortOrdered_int64.ntmps) (hr : fbody (vcall F nro) nro i_slices_partialInsertionSortOrdered_int64 args h = some r) : vcall F nro k_slices_partialInsertionSortOrdered_int64 args h = some r := vcall_f (by kernel_rfl) (by kernel_rfl) ha hr
theorem v_cmp_Less_int64 {nro : Nat} {args : List Value} {h : VH} {r : Value × VH} (ha : args.length ≤ i_cmp_Less_int64.ntmps) (hr : fbody (vcall F nro) nro i_cmp_Less_int64 args h = some r) : vcall F nro k_cmp_Less_int64 args h = some r := vcall_f (by kernel_rfl) (by kernel_rfl) ha hr
theorem v_slices_partitionEqualOrdered_int64 {nro : Nat} {args : List Value} {h : VH} {r : Value × VH} (ha : args.length ≤ i_slices_partitionEqualOrdered_int64.ntmps) (hr : fbody (vcall F nro) nro i_slices_partitionEqualOrdered_int64 args h = some r) : vcall F nro k_slices_partitionEqualOrdered_int64 args h = some r := vcall_f (by kernel_rfl) (by kernel_rfl) ha hr
theorem v_slices_partitionOrdered_int64 {nro : Nat} {args : List Value} {h : VH} {r : Value × VH} (ha : args.length ≤ i_slices_partitionOrdered_int64.ntmps) (hr : fbody (vcall F nro) nro i_slices_partitionOrdered_int64 args h = some r) : vcall F nro k_slices_partitionOrdered_int64 args h = some r := vcall_f (by kernel_rfl) (by kernel_rfl) ha hr
theorem v_math_bits_Len32 {nro : Nat} {args : List Value} {h : VH} {r : Value × VH} (ha : args.length ≤ i_math_bits_Len32.ntmps) (hr : fbody (vcall F nro) nro i_math_bits_Len32 args h = some r) : vcall F nro k_math_bits_Len32 args h = some r := vcall_f (by kernel_rfl) (by kernel_rfl) ha hr
theorem v_math_bits_Len64 {nro : Nat} {args : List Value} {h : VH} {r : Value × VH} (ha : args.length ≤ i_math_bits_Len64.ntmps) (hr : fbody (vcall F nro) nro i_math_bits_Len64 args h = some r) : vcall F nro k_math_bits_Len64 args h = some r := vcall_f (by kernel_rfl) (by kernel_rfl) ha hr
theorem v_slices_siftDownOrdered_int64 {nro : Nat} {args : List Value} {h : VH} {r : Value × VH} (ha : args.length ≤ i_slices_siftDownOrdered_int64.ntmps) (hr : fbody (vcall F nro) nro i_slices_siftDownOrdered_int64 args h = some r) : vcall F nro k_slices_siftDownOrdered_int64 args h = some r := vcall_f (by kernel_rfl) (by kernel_rfl) ha hr
theorem v_slices_nextPowerOfTwo {nro : Nat} {args : List Value} {h : VH} {r : Value × VH} (ha : args.length ≤ i_slices_nextPowerOfTwo.ntmps) (hr : fbody (vcall F nro) nro i_slices_nextPowerOfTwo args h = some r) : vcall F nro k_slices_nextPowerOfTwo args h = some r := vcall_f (by kernel_rfl) (by kernel_rfl) ha hr
theorem v_slices_xorshift_Next {nro : Nat} {args : List Value} {h : VH} {r : Value × VH} (ha : args.length ≤ i_slices_xorshift_Next.ntmps) (hr : fbody (vcall F nro) nro i_slices_xorshift_Next args h = some r) : vcall F nro k_slices_xorshift_Next args h = some r := vcall_f (by kernel_rfl) (by kernel_rfl) ha hr
theorem v_slices_medianAdjacentOrdered_int64 {nro : Nat} {args : List Value} {h : VH} {r : Value × VH} (ha : args.length ≤ i_slices_medianAdjacentOrdered_int64.ntmps) (hr : fbody (vcall F nro) nro i_slices_medianAdjacentOrdered_int64 args h = some r) : vcall F nro k_slices_medianAdjacentOrdered_int64 args h = some r := vcall_f (by kernel_rfl) (by kernel_rfl) ha hr
theorem v_slices_medianOrdered_int64 {nro : Nat} {args : List Value} {h : VH} {r : Value × VH} (ha : args.length ≤ i_slices_medianOrdered_int64.ntmps) (hr : fbody (vcall F nro) nro i_slices_medianOrdered_int64 args h = some r) : vcall F nro k_slices_medianOrdered_int64 args h = some r := vcall_f (by kernel_rfl) (by kernel_rfl) ha hr
theorem v_cmp_isNaN_int64 {nro : Nat} {args : List Value} {h : VH} {r : Value × VH} (ha : args.length ≤ i_cmp_isNaN_int64.ntmps) (hr : fbody (vcall F nro) nro i_cmp_isNaN_int64 args h = some r) : vcall F nro k_cmp_isNaN_int64 args h = some r := vcall_f (by kernel_rfl) (by kernel_rfl) ha hr
theorem v_slices_order2Ordered_int64 {nro : Nat} {args : List Value} {h : VH} {r : Value × VH} (ha : args.length ≤ i_slices_order2Ordered_int64.ntmps) (hr : fbody (vcall F nro) nro i_slices_order2Ordered_int64 args h = some r) : vcall F nro k_slices_order2Ordered_int64 args h = some r := vcall_f (by kernel_rfl) (by kernel_rfl) ha hr

end Go.Proofs.Ytbilmoahcnllmaa.Zv

/- Symbolic steps: what simp needs to walk through code. -/
namespace Go.Proofs.Ytbilmoahcnllmaa.Zv
open Go

section
variable {call : VCall} {nro : Nat}

/-! ### places -/
@[simp] theorem fput_some (e : FE) (d t : Nat) (v : Value) : fput e (some d) v t = if t = d then v else e t := rfl
@[simp] theorem fput_none (e : FE) (v : Value) : fput e none v = e := rfl
@[simp] theorem fl_cons (i : Nat) (v : Value) (r : List (Nat × Value)) (t : Nat) : fl ((i, v) :: r) t = if t = i then v else fl r t := rfl
@[simp] theorem fargs_cons (a : Value) (r : List Value) : fargs (a :: r) 0 = a := rfl
@[simp] theorem fargs_succ (a : Value) (r : List Value) (t : Nat) : fargs (a :: r) (t + 1) = fargs r t := rfl
@[simp] theorem fev_tmp (e : FE) (t : Nat) : fev e (.tmp t) = e t := rfl
@[simp] theorem fev_const (e : FE) (v : Value) : fev e (.const v) = v := rfl
@[simp] theorem fev_func (e : FE) (f : Nat) : fev e (.func f) = .func (.func f) #[] #[] := rfl

/-! ### a region -/
def kops (call : VCall) (nro : Nat) (d : Option Nat) (os : List VOper) (e : FE) : Option (Value × VH) → Option (FE × VH)
  | some (v, h) => fops call nro os (fput e d v) h
  | none => none
theorem fput_self (e : FE) (g : Nat) (v : Value) (h : e g = v) : fput e (some g) v = e := by
  funext t
  simp only [fput_some]
  split
  · rename_i ht; rw [ht, h]
  · rfl
def kguard (call : VCall) (nro : Nat) (g : Nat) (b : Bool) (d : Option Nat) (op : VOp) (os : List VOper) (e : FE) (h : VH) : Value → Option (FE × VH)
  | .bool c => if c = b then kops call nro d os (fput e (some g) (.bool b)) (vop call nro (fev (fput e (some g) (.bool b))) h op) else fops call nro os (fput (fput e (some g) (.bool !b)) d undef) h
  | .tuple vs => if vs.size = 0 then fops call nro os (fput e d undef) h else none
  | _ => none
@[simp] theorem fops_nil (e : FE) (h : VH) : fops call nro [] e h = some (e, h) := rfl
@[simp] theorem fops_cons (d : Option Nat) (op : VOp) (k : Nat) (os : List VOper) (e : FE) (h : VH) : fops call nro (⟨d, op, none, k⟩ :: os) e h = kops call nro d os e (vop call nro (fev e) h op) := by
  simp only [fops, fwanted]
  cases vop call nro (fev e) h op <;> rfl
@[simp] theorem fops_guard (d : Option Nat) (op : VOp) (g : Nat) (b : Bool) (k : Nat) (os : List VOper) (e : FE) (h : VH) : fops call nro (⟨d, op, some (g, b), k⟩ :: os) e h = kguard call nro g b d op os e h (e g) := by
  simp only [fops, fwanted]
  generalize hg : e g = x
  cases x with
  | bool c =>
    simp only [kguard]
    cases c <;> cases b <;> simp [kops, fput_self _ _ _ hg] <;> cases vop call nro (fev e) h op <;> rfl
  | tuple vs => simp only [kguard]; split <;> simp_all
  | _ => rfl
@[simp] theorem kops_some (d : Option Nat) (os : List VOper) (e : FE) (v : Value) (h : VH) : kops call nro d os e (some (v, h)) = fops call nro os (fput e d v) h := rfl
@[simp] theorem kops_none (d : Option Nat) (os : List VOper) (e : FE) : kops call nro d os e none = none := rfl
@[simp] theorem kops_ite (d : Option Nat) (os : List VOper) (e : FE) (c : Prop) [Decidable c] (x y : Option (Value × VH)) : kops call nro d os e (if c then x else y) = if c then kops call nro d os e x else kops call nro d os e y := by split <;> rfl
@[simp] theorem kguard_bool (g : Nat) (b c : Bool) (d : Option Nat) (op : VOp) (os : List VOper) (e : FE) (h : VH) : kguard call nro g b d op os e h (.bool c) = if c = b then kops call nro d os (fput e (some g) (.bool b)) (vop call nro (fev (fput e (some g) (.bool b))) h op) else fops call nro os (fput (fput e (some g) (.bool !b)) d undef) h := rfl
@[simp] theorem kguard_undef (g : Nat) (b : Bool) (d : Option Nat) (op : VOp) (os : List VOper) (e : FE) (h : VH) : kguard call nro g b d op os e h undef = fops call nro os (fput e d undef) h := rfl

/-! ### a region whose order is open -/
open Classical in
noncomputable def kdops (call : VCall) (nro : Nat) (d : Option Nat) (op : VOp) (k : Nat) (os : List VOper) (e : FE) (h : VH) (hs : List VH) : Option (Value × VH) → Option (FE × VH)
  | some (v, h') => if op.eff = true then fdops call nro os (fput e d v) h' (h :: hs) else if ∀ g ∈ hs.take k, vop call nro (fev e) g op = some (v, g) then fdops call nro os (fput e d v) h' hs else none
  | none => none
noncomputable def kdguard (call : VCall) (nro : Nat) (g : Nat) (b : Bool) (d : Option Nat) (op : VOp) (k : Nat) (os : List VOper) (e : FE) (h : VH) (hs : List VH) : Value → Option (FE × VH)
  | .bool c => if c = b then kdops call nro d op k os (fput e (some g) (.bool b)) h hs (vop call nro (fev (fput e (some g) (.bool b))) h op) else fdops call nro os (fput (fput e (some g) (.bool !b)) d undef) h (if op.eff = true then h :: hs else hs)
  | .tuple vs => if vs.size = 0 then fdops call nro os (fput e d undef) h (if op.eff = true then h :: hs else hs) else none
  | _ => none
@[simp] theorem fdops_nil (e : FE) (h : VH) (hs : List VH) : fdops call nro [] e h hs = some (e, h) := rfl
@[simp] theorem fdops_cons (d : Option Nat) (op : VOp) (k : Nat) (os : List VOper) (e : FE) (h : VH) (hs : List VH) : fdops call nro (⟨d, op, none, k⟩ :: os) e h hs = kdops call nro d op k os e h hs (vop call nro (fev e) h op) := by
  simp only [fdops, fwanted]
  cases vop call nro (fev e) h op <;> rfl
@[simp] theorem fdops_guard (d : Option Nat) (op : VOp) (g : Nat) (b : Bool) (k : Nat) (os : List VOper) (e : FE) (h : VH) (hs : List VH) : fdops call nro (⟨d, op, some (g, b), k⟩ :: os) e h hs = kdguard call nro g b d op k os e h hs (e g) := by
  simp only [fdops, fwanted]
  generalize hg : e g = x
  cases x with
  | bool c =>
    simp only [kdguard]
    by_cases hcb : c = b
    · subst hcb
      rw [if_pos rfl, fput_self _ _ _ hg]
      simp only [beq_self_eq_true]
      cases vop call nro (fev e) h op <;> rfl
    · have h1 : (c == b) = false := by simpa using hcb
      have h2 : (!b) = c := by cases c <;> cases b <;> simp_all
      rw [if_neg hcb, h1, h2, fput_self _ _ _ hg]
  | tuple vs => simp only [kdguard]; split <;> simp_all
  | _ => rfl
open Classical in
@[simp] theorem kdops_some (d : Option Nat) (op : VOp) (k : Nat) (os : List VOper) (e : FE) (h : VH) (hs : List VH) (v : Value) (h' : VH) : kdops call nro d op k os e h hs (some (v, h')) = if op.eff = true then fdops call nro os (fput e d v) h' (h :: hs) else if ∀ g ∈ hs.take k, vop call nro (fev e) g op = some (v, g) then fdops call nro os (fput e d v) h' hs else none := rfl
@[simp] theorem kdops_none (d : Option Nat) (op : VOp) (k : Nat) (os : List VOper) (e : FE) (h : VH) (hs : List VH) : kdops call nro d op k os e h hs none = none := rfl
@[simp] theorem kdops_ite (d : Option Nat) (op : VOp) (k : Nat) (os : List VOper) (e : FE) (h : VH) (hs : List VH) (c : Prop) [Decidable c] (x y : Option (Value × VH)) : kdops call nro d op k os e h hs (if c then x else y) = if c then kdops call nro d op k os e h hs x else kdops call nro d op k os e h hs y := by split <;> rfl
@[simp] theorem kdguard_bool (g : Nat) (b c : Bool) (d : Option Nat) (op : VOp) (k : Nat) (os : List VOper) (e : FE) (h : VH) (hs : List VH) : kdguard call nro g b d op k os e h hs (.bool c) = if c = b then kdops call nro d op k os (fput e (some g) (.bool b)) h hs (vop call nro (fev (fput e (some g) (.bool b))) h op) else fdops call nro os (fput (fput e (some g) (.bool !b)) d undef) h (if op.eff = true then h :: hs else hs) := rfl
@[simp] theorem kdguard_undef (g : Nat) (b : Bool) (d : Option Nat) (op : VOp) (k : Nat) (os : List VOper) (e : FE) (h : VH) (hs : List VH) : kdguard call nro g b d op k os e h hs undef = fdops call nro os (fput e d undef) h (if op.eff = true then h :: hs else hs) := rfl

/-! ### code -/
/-- Garbage dropped. -/
noncomputable def kclean (h0 : VH) (vs : List Value) (h : VH) : List Value × VH := cleanup h0.length h0 vs h
def kn : Option (FE × VH) → Option (VX × FE × VH)
  | some (e, h) => some (.normal, e, h)
  | none => none
@[simp] theorem kn_some (e : FE) (h : VH) : kn (some (e, h)) = some (.normal, e, h) := rfl
@[simp] theorem kn_none : kn none = none := rfl
@[simp] theorem kn_ite (c : Prop) [Decidable c] (x y : Option (FE × VH)) : kn (if c then x else y) = if c then kn x else kn y := by split <;> rfl

noncomputable def kseq (call : VCall) (nro : Nat) (b : FC) : Option (VX × FE × VH) → Option (VX × FE × VH)
  | some (.normal, e, h) => fcode call nro b e h
  | r => r
@[simp] theorem kseq_normal (b : FC) (e : FE) (h : VH) : kseq call nro b (some (.normal, e, h)) = fcode call nro b e h := rfl
@[simp] theorem kseq_ret (b : FC) (e : FE) (h : VH) : kseq call nro b (some (.ret, e, h)) = some (.ret, e, h) := rfl
@[simp] theorem kseq_exit (b : FC) (i : Nat) (e : FE) (h : VH) : kseq call nro b (some (.exit i, e, h)) = some (.exit i, e, h) := rfl
@[simp] theorem kseq_none (b : FC) : kseq call nro b none = none := rfl
@[simp] theorem kseq_ite (b : FC) (c : Prop) [Decidable c] (x y : Option (VX × FE × VH)) : kseq call nro b (if c then x else y) = if c then kseq call nro b x else kseq call nro b y := by split <;> rfl

noncomputable def kcond (call : VCall) (nro : Nat) (a b : FC) (e : FE) (h : VH) : Value → Option (VX × FE × VH)
  | .bool true => fcode call nro a e h
  | .bool false => fcode call nro b e h
  | _ => none
@[simp] theorem kcond_bool (a b : FC) (e : FE) (h : VH) (c : Bool) : kcond call nro a b e h (.bool c) = if c = true then fcode call nro a e h else fcode call nro b e h := by cases c <;> rfl

def kblock (id : Nat) : Option (VX × FE × VH) → Option (VX × FE × VH)
  | some (.exit i, e, h) => if i = id then some (.normal, e, h) else some (.exit i, e, h)
  | r => r
@[simp] theorem kblock_normal (id : Nat) (e : FE) (h : VH) : kblock id (some (.normal, e, h)) = some (.normal, e, h) := rfl
@[simp] theorem kblock_ret (id : Nat) (e : FE) (h : VH) : kblock id (some (.ret, e, h)) = some (.ret, e, h) := rfl
@[simp] theorem kblock_exit (id i : Nat) (e : FE) (h : VH) : kblock id (some (.exit i, e, h)) = if i = id then some (.normal, e, h) else some (.exit i, e, h) := rfl
@[simp] theorem kblock_none (id : Nat) : kblock id none = none := rfl
@[simp] theorem kblock_ite (id : Nat) (c : Prop) [Decidable c] (x y : Option (VX × FE × VH)) : kblock id (if c then x else y) = if c then kblock id x else kblock id y := by split <;> rfl

/-- A loop from its head: the places that live there, the heap before the loop, and the heap now. -/
noncomputable def floop (call : VCall) (nro : Nat) (live : List Nat) (c : FC) (h0 : VH) (vs : List Value) (h : VH) : Option (VX × FE × VH) :=
  iter (fun s : List Value × VH => match fcode call nro c (fl (live.zip s.1)) s.2 with
      | some (.normal, e', h') => some (.inl (cleanup h0.length h0 (live.map e') h'))
      | some r => some (.inr r)
      | none => none) (vs, h)

noncomputable def kloop (call : VCall) (nro : Nat) (live : List Nat) (c : FC) (h0 : VH) (p : List Value × VH) : Option (VX × FE × VH) := floop call nro live c h0 p.1 p.2
@[simp] theorem kloop_mk (live : List Nat) (c : FC) (h0 : VH) (vs : List Value) (h : VH) : kloop call nro live c h0 (vs, h) = floop call nro live c h0 vs h := rfl
noncomputable def kback (call : VCall) (nro : Nat) (live : List Nat) (c : FC) (h0 : VH) : Option (VX × FE × VH) → Option (VX × FE × VH)
  | some (.normal, e, h) => kloop call nro live c h0 (kclean h0 (live.map e) h)
  | r => r
@[simp] theorem kback_normal (live : List Nat) (c : FC) (h0 : VH) (e : FE) (h : VH) : kback call nro live c h0 (some (.normal, e, h)) = kloop call nro live c h0 (kclean h0 (live.map e) h) := rfl
@[simp] theorem kback_exit (live : List Nat) (c : FC) (h0 : VH) (i : Nat) (e : FE) (h : VH) : kback call nro live c h0 (some (.exit i, e, h)) = some (.exit i, e, h) := rfl
@[simp] theorem kback_ret (live : List Nat) (c : FC) (h0 : VH) (e : FE) (h : VH) : kback call nro live c h0 (some (.ret, e, h)) = some (.ret, e, h) := rfl
@[simp] theorem kback_none (live : List Nat) (c : FC) (h0 : VH) : kback call nro live c h0 none = none := rfl
@[simp] theorem kback_ite (live : List Nat) (b : FC) (h0 : VH) (c : Prop) [Decidable c] (x y : Option (VX × FE × VH)) : kback call nro live b h0 (if c then x else y) = if c then kback call nro live b h0 x else kback call nro live b h0 y := by split <;> rfl

/-- One time round a loop. -/
theorem floop_eq (live : List Nat) (c : FC) (h0 : VH) (vs : List Value) (h : VH) : floop call nro live c h0 vs h = kback call nro live c h0 (fcode call nro c (fl (live.zip vs)) h) := by
  unfold floop
  rw [iter]
  dsimp only
  generalize fcode call nro c (fl (live.zip vs)) h = q
  match q with
  | none => rfl
  | some (.normal, e, h') => rfl
  | some (.exit i, e, h') => rfl
  | some (.ret, e, h') => rfl

/-- The same, the loop's code shown inside alone. -/
theorem floop_at {c c' : FC} (e : c = c') (live : List Nat) (h0 : VH) (vs : List Value) (h : VH) : floop call nro live c h0 vs h = kback call nro live c h0 (fcode call nro c' (fl (live.zip vs)) h) := by
  rw [floop_eq, ← e]

@[simp] theorem fcode_skip (e : FE) (h : VH) : fcode call nro .skip e h = some (.normal, e, h) := rfl
@[simp] theorem fcode_ops (os : List VOper) (e : FE) (h : VH) : fcode call nro (.ops os) e h = kn (fops call nro os e h) := by
  simp only [fcode]; cases fops call nro os e h <;> rfl
@[simp] theorem fcode_dops (os : List VOper) (e : FE) (h : VH) : fcode call nro (.dops os) e h = kn (fdops call nro os e h []) := by
  simp only [fcode]; cases fdops call nro os e h [] <;> rfl
@[simp] theorem fcode_seq (a b : FC) (e : FE) (h : VH) : fcode call nro (.seq a b) e h = kseq call nro b (fcode call nro a e h) := by
  simp only [fcode]
  generalize fcode call nro a e h = q
  match q with
  | none => rfl
  | some (.normal, e, h') => rfl
  | some (.exit i, e, h') => rfl
  | some (.ret, e, h') => rfl
@[simp] theorem fcode_cond (x : Operand) (a b : FC) (e : FE) (h : VH) : fcode call nro (.cond x a b) e h = kcond call nro a b e h (fev e x) := by
  simp only [fcode]
  generalize fev e x = v
  unfold kcond
  split <;> simp_all
@[simp] theorem fcode_block (id : Nat) (c : FC) (e : FE) (h : VH) : fcode call nro (.block id c) e h = kblock id (fcode call nro c e h) := by
  simp only [fcode]
  generalize fcode call nro c e h = q
  match q with
  | none => rfl
  | some (.normal, e, h') => rfl
  | some (.exit i, e, h') => rfl
  | some (.ret, e, h') => rfl
@[simp] theorem fcode_loop (live : List Nat) (c : FC) (e : FE) (h : VH) : fcode call nro (.loop live c) e h = floop call nro live c h (live.map e) h := rfl
@[simp] theorem fcode_keep (live : List Nat) (c : FC) (e : FE) (h : VH) : fcode call nro (.keep live c) e h = fcode call nro c (fl (live.zip (live.map e))) h := rfl
@[simp] theorem fcode_exit (i : Nat) (e : FE) (h : VH) : fcode call nro (.exit i) e h = some (.exit i, e, h) := rfl
@[simp] theorem fcode_ret (e : FE) (h : VH) : fcode call nro .ret e h = some (.ret, e, h) := rfl

/-! ### a function's end -/
noncomputable def kfin (p : List Value × VH) : Option (Value × VH) := some (p.1.getD 0 undef, p.2)
@[simp] theorem kfin_mk (v : Value) (h : VH) : kfin ([v], h) = some (v, h) := rfl
noncomputable def kret (res : List VR) (h : VH) : Option (VX × FE × VH) → Option (Value × VH)
  | some (.exit _, _, _) => none
  | some (_, e, h') => fend h (fresults e h' res) h'
  | none => none
@[simp] theorem kret_ret (res : List VR) (h : VH) (e : FE) (h' : VH) : kret res h (some (.ret, e, h')) = fend h (fresults e h' res) h' := rfl
@[simp] theorem kret_normal (res : List VR) (h : VH) (e : FE) (h' : VH) : kret res h (some (.normal, e, h')) = fend h (fresults e h' res) h' := rfl
@[simp] theorem kret_none (res : List VR) (h : VH) : kret res h none = none := rfl
@[simp] theorem kret_ite (res : List VR) (h : VH) (c : Prop) [Decidable c] (x y : Option (VX × FE × VH)) : kret res h (if c then x else y) = if c then kret res h x else kret res h y := by split <;> rfl
@[simp] theorem fend_some (h : VH) (v : Value) (h' : VH) : fend h (some v) h' = kfin (kclean h [v] h') := rfl
theorem fbody_eq (fn : FF) (args : List Value) (h : VH) : fbody call nro fn args h = kret fn.res h (fcode call nro fn.body (fargs args) h) := by
  unfold fbody
  generalize fcode call nro fn.body (fargs args) h = q
  match q with
  | none => rfl
  | some (.normal, e, h') => rfl
  | some (.exit i, e, h') => rfl
  | some (.ret, e, h') => rfl
@[simp] theorem fresults1 (e : FE) (h : VH) (t : Nat) : fresults e h [.tmp t] = some (e t) := rfl
@[simp] theorem fresults2 (e : FE) (h : VH) (t s : Nat) : fresults e h [.tmp t, .tmp s] = if notTup (e t) = true ∧ notTup (e s) = true then some (.tuple #[e t, e s]) else none := by
  simp [fresults, fresL, fres1]
@[simp] theorem fresults3 (e : FE) (h : VH) (t s u : Nat) : fresults e h [.tmp t, .tmp s, .tmp u] = if notTup (e t) = true ∧ notTup (e s) = true ∧ notTup (e u) = true then some (.tuple #[e t, e s, e u]) else none := by
  simp [fresults, fresL, fres1]
@[simp] theorem fresultsN (e : FE) (h : VH) : fresults e h [] = some (.tuple #[]) := rfl
attribute [simp] notTup

/-! ### what lies in the elder part -/
def Old (n : Nat) (v : Value) : Prop := ∀ r ∈ trefs v, r < n
theorem Old.le {n m : Nat} {v : Value} (h : Old n v) (hm : n ≤ m) : Old m v := fun r hr => Nat.lt_of_lt_of_le (h r hr) hm
@[simp] theorem old_int (n : Nat) (k : IntKind) (i : Int) : Old n (.int k i) := fun r hr => by simp [trefs, vrefs, crefs, arefs] at hr
@[simp] theorem old_bool (n : Nat) (b : Bool) : Old n (.bool b) := fun r hr => by simp [trefs, vrefs, crefs, arefs] at hr
@[simp] theorem old_str (n : Nat) (b : ByteArray) : Old n (.string b) := fun r hr => by simp [trefs, vrefs, crefs, arefs] at hr
@[simp] theorem old_junk (n : Nat) : Old n junk := fun r hr => by simp [junk, trefs, vrefs, crefs, arefs] at hr
@[simp] theorem old_undef (n : Nat) : Old n undef := fun r hr => by simp [undef, trefs] at hr
@[simp] theorem old_slN (n a b : Nat) : Old n (.slice none a b) := fun r hr => by simp [trefs, vrefs, crefs, arefs] at hr
@[simp] theorem old_ptrN (n : Nat) : Old n (.pointer none) := fun r hr => by simp [trefs, vrefs, crefs, arefs] at hr
@[simp] theorem old_nilF (n : Nat) : Old n .nilFunc := fun r hr => by simp [trefs, vrefs, crefs, arefs] at hr
@[simp] theorem old_sl (n : Nat) (a : Addr) (k t : Nat) : Old n (.slice (some a) k t) ↔ a.block < n := by simp [Old, trefs, vrefs, crefs, arefs]
@[simp] theorem old_ptr (n : Nat) (a : Addr) : Old n (.pointer (some a)) ↔ a.block < n := by simp [Old, trefs, vrefs, crefs, arefs]
/-- The same of a cell. -/
def OldC (n : Nat) (v : Value) : Prop := ∀ r ∈ crefs v, r < n
theorem old_all (n : Nat) (vs : List Value) : (∀ r ∈ vs.flatMap trefs, r < n) ↔ ∀ v ∈ vs, Old n v := by
  simp only [List.mem_flatMap, Old]
  constructor
  · intro h v hv r hr
    exact h r ⟨v, hv, hr⟩
  · rintro h r ⟨v, hv, hr⟩
    exact h v hv r hr

def flatO (n : Nat) (o : VO) : Prop := ∀ r ∈ orefs o, r < n

theorem keepL_nil {base : Nat} {vs : List Value} (h : ∀ v ∈ vs, Old base v) : keepL base vs = [] := by
  unfold keepL
  rw [List.filter_eq_nil_iff.mpr]
  · rfl
  · intro r hr
    have := (old_all base vs).mpr h r hr
    simp; omega

theorem tren_old {n : Nat} {v : Value} (h : Old n v) {r : Nat → Nat} (hr : ∀ i, i < n → r i = i) : tren r v = v := by
  have ha : ∀ v : Value, (∀ i ∈ arefs v, i < n) → aren r v = v := by
    intro v hv
    unfold aren
    split
    · rename_i a
      rw [hr a.block (hv _ (by simp [arefs]))]
    · rename_i a k c
      rw [hr a.block (hv _ (by simp [arefs]))]
    · rfl
  have hmap : ∀ (f : Value → Value) (vs : Array Value), (∀ v ∈ vs, f v = v) → vs.map f = vs := by
    intro f vs h
    exact (Array.map_congr_left (g := id) h).trans (Array.map_id _)
  have hc : ∀ v : Value, (∀ i ∈ crefs v, i < n) → cren r v = v := by
    intro v hv
    unfold cren
    split
    · rename_i f a c
      simp only [crefs, List.mem_append, List.mem_flatMap] at hv
      rw [hmap _ a fun v h => ha v fun i hi => hv i (.inl ⟨v, by simpa using h, hi⟩), hmap _ c fun v h => ha v fun i hi => hv i (.inr ⟨v, by simpa using h, hi⟩)]
    · rename_i hne
      refine ha v fun i hi => hv i ?_
      unfold crefs
      split
      · exact absurd rfl (hne _ _ _)
      · exact hi
  have hvv : ∀ v : Value, (∀ i ∈ vrefs v, i < n) → vren r v = v := by
    intro v hv
    unfold vren
    split
    · rename_i cs
      simp only [vrefs, List.mem_flatMap] at hv
      rw [hmap _ cs fun v h => hc v fun i hi => hv i ⟨v, by simpa using h, hi⟩]
    · rename_i hne
      refine hc v fun i hi => hv i ?_
      unfold vrefs
      split
      · exact absurd rfl (hne _)
      · exact hi
  unfold tren
  split
  · rename_i vs
    unfold Old at h
    simp only [trefs, List.mem_flatMap] at h
    rw [hmap _ vs fun v hv => hvv v fun i hi => h i ⟨v, by simpa using hv, hi⟩]
  · rename_i hne
    refine hvv v fun i hi => h i ?_
    unfold trefs
    split
    · exact absurd rfl (hne _)
    · exact hi

theorem okT_app {h0 L : VH} {L0 : VH} (hL : ∀ o ∈ L, flatO (h0.length + L0.length) o) : okT (h0 ++ L0).length (h0 ++ L0) (h0 ++ L) := by
  intro i o ho
  by_cases hi : i < h0.length
  · left
    rw [List.getElem?_append_left hi] at ho ⊢
    exact ho
  · right
    rw [List.getElem?_append_right (by omega)] at ho
    have := hL o (List.mem_of_getElem? ho)
    simpa [flatO] using this

/-- At the end of a time round: what is fresh and not led to is dropped. -/
@[simp] theorem cleanup_app {h0 L0 L : VH} {vs : List Value} (hv : ∀ v ∈ vs, Old (h0 ++ L0).length v) (hf : ∀ o ∈ L.take L0.length, flatO (h0.length + L0.length) o) :
    kclean (h0 ++ L0) vs (h0 ++ L) = (vs, h0 ++ L.take L0.length) := by
  have htake : (h0 ++ L).take (h0 ++ L0).length = h0 ++ L.take L0.length := by
    rw [List.length_append, List.take_append]
    simp [List.take_of_length_le]
  have hc : okT (h0 ++ L0).length (h0 ++ L0) ((h0 ++ L).take (h0 ++ L0).length) ∧ flatL (h0 ++ L0).length [] (h0 ++ L) := by
    refine ⟨?_, fun i hi => by cases hi⟩
    rw [htake]
    exact okT_app hf
  unfold kclean cleanup
  rw [keepL_nil hv, if_pos hc, htake]
  simp only [List.filterMap_nil, List.append_nil, Prod.mk.injEq, and_true]
  have : ∀ v ∈ vs, tren (renOf (h0 ++ L0).length []) v = v := fun v h => tren_old (hv v h) fun i hi => by simp only [renOf, if_pos hi]
  exact (List.map_congr_left this).trans (by simp)

@[simp] theorem cleanup_drop {h L : VH} {vs : List Value} (hv : ∀ v ∈ vs, Old h.length v) : kclean h vs (h ++ L) = (vs, h) := by
  have := cleanup_app (h0 := h) (L0 := []) (L := L) (vs := vs) (by simpa using hv) (by simp)
  simpa using this

@[simp] theorem cleanup_same {h : VH} {vs : List Value} (hv : ∀ v ∈ vs, Old h.length v) : kclean h vs h = (vs, h) := by
  have := cleanup_drop (h := h) (L := []) hv
  simpa using this

/-- What is fresh and led to is kept. -/
theorem cleanup_keep {h L : VH} {vs : List Value} {ks : List Nat} (hk : keepL h.length vs = ks) (hf : flatL h.length ks (h ++ L)) :
    kclean h vs (h ++ L) = (vs.map (tren (renOf h.length ks)), h ++ ks.filterMap fun i => (h ++ L)[i]?) := by
  have hc : okT h.length h ((h ++ L).take h.length) ∧ flatL h.length ks (h ++ L) := by
    refine ⟨fun i o ho => ?_, hf⟩
    left
    rw [List.getElem?_take] at ho
    split at ho
    · rename_i hi
      rw [List.getElem?_append_left hi] at ho
      exact ho
    · cases ho
  unfold kclean cleanup
  rw [hk, if_pos hc]
  simp

/-! ### the heap -/
@[simp] theorem hget0 (h L : VH) : (h ++ L)[h.length]? = L[0]? := by rw [List.getElem?_append_right (Nat.le_refl _)]; simp
@[simp] theorem hgetk (h L : VH) (k : Nat) : (h ++ L)[h.length + k]? = L[k]? := by rw [List.getElem?_append_right (by omega)]; congr 1; omega
@[simp] theorem hset0 (h L : VH) (o : VO) : (h ++ L).set h.length o = h ++ L.set 0 o := by rw [List.set_append_right _ _ (Nat.le_refl _)]; simp
@[simp] theorem hsetk (h L : VH) (k : Nat) (o : VO) : (h ++ L).set (h.length + k) o = h ++ L.set k o := by rw [List.set_append_right _ _ (by omega)]; congr 2; omega

/-! ### operations, in parts -/
def vlen (h : VH) : Value → Option (Value × VH)
  | .slice none 0 0 => some (.int .i64 0, h)
  | .slice none 0 1 => some (.int .i64 0, h)
  | .slice (some a) n tot => match h[a.block]? with
    | some o => if tot = o.cells.length then some (.int .i64 n, h) else none
    | none => none
  | _ => none
def vidx (sz : Nat) (h : VH) : Value → Value → Option (Value × VH)
  | .slice (some a) n tot, .int _ j =>
    match h[a.block]? with
    | some o => if o.sz = sz ∧ tot = o.cells.length ∧ 0 ≤ j ∧ j < n then some (.pointer (some ⟨a.block, a.off + j.toNat * sz, some tot⟩), h) else none
    | none => none
  | _, _ => none
def vpick (c a b : Value) (h : VH) : Option (Value × VH) := match c with
  | .bool t => some (if t then a else b, h)
  | _ => none
def vext (h : VH) (i : Nat) : Value → Option (Value × VH)
  | .tuple vs => match vs[i]? with
      | some v => some (v, h)
      | none => none
  | _ => none
def vconv (k : IntKind) (h : VH) : Value → Option (Value × VH)
  | .int _ n => some (.int k (k.wrap n), h)
  | _ => none
def vfld (off : Nat) (h : VH) : Value → Option (Value × VH)
  | .pointer (some a) => if vlive h a = true then some (.pointer (some { a with off := a.off + off }), h) else none
  | _ => none
def vfieldv (agg : Bool) (off n : Nat) (h : VH) : Value → Option (Value × VH)
  | .agg cs => if off + n ≤ cs.size then (if agg then some (.agg (cs.extract off (off + n)), h) else match cs[off]? with
      | some v => some (v, h)
      | none => none) else none
  | _ => none
def vmk (sz : Nat) (zero : List Value) (bytes : Nat) (h : VH) : Value → Value → Option (Value × VH)
  | .int .i64 n, .int .i64 m => if n = m ∧ 0 ≤ n ∧ bytes * n ≤ 2 ^ 47 ∧ n ≤ 2 ^ 47 then some (.slice (some ⟨h.length, 0, none⟩) n.toNat (n.toNat * sz), h ++ [⟨sz, (List.replicate n.toNat zero).flatten⟩]) else none
  | _, _ => none
def vbox (n : Nat) (h : VH) (x : Value) : Option (Value × VH) := if (vcells x).length = n ∧ isJunk x = false then some (.pointer (some ⟨h.length, 0, some n⟩), h ++ [⟨0, vcells x⟩]) else none
def vnil (h : VH) : Value → Option (Value × VH)
  | .pointer (some a) => if vlive h a = true then some (.pointer (some a), h) else none
  | .func (.func f) a c => some (.func (.func f) a c, h)
  | _ => none
def vlenStr (h : VH) : Value → Option (Value × VH)
  | .string s => some (.int .i64 s.size, h)
  | _ => none
def vmvStr (h : VH) : Value → Option (Value × VH)
  | .string s => some (.string s, h)
  | _ => none
def veqnilS (neg : Bool) (h : VH) : Value → Option (Value × VH)
  | .slice none 0 0 => some (.bool !neg, h)
  | .slice (some a) _ tot => match h[a.block]? with
      | some o => if tot = o.cells.length then some (.bool neg, h) else none
      | none => none
  | _ => none
def veqnilF (neg : Bool) (h : VH) : Value → Option (Value × VH)
  | .nilFunc => some (.bool !neg, h)
  | .func .. => some (.bool neg, h)
  | _ => none
def vcallv (call : VCall) (h : VH) (f : Value) (args : List Value) : Option (Value × VH) := match f with
  | .func (.func g) first caps => call g (first.toList ++ args ++ caps.toList) h
  | _ => none

variable (ev : Operand → Value) (h : VH)
@[simp] theorem vop_mv (x : Operand) : vop call nro ev h (.mv x) = some (ev x, h) := rfl
@[simp] theorem vop_pick (c a b : Operand) : vop call nro ev h (.pick c a b) = vpick (ev c) (ev a) (ev b) h := rfl
@[simp] theorem vop_bin (o : BinOp) (x y : Operand) : vop call nro ev h (.bin o x y) = (vbin o (ev x) (ev y)).map (·, h) := rfl
@[simp] theorem vop_beq (n : Bool) (x y : Operand) : vop call nro ev h (.beq n x y) = (vbeq n (ev x) (ev y)).map (·, h) := rfl
@[simp] theorem vop_un (o : UnOp) (x : Operand) : vop call nro ev h (.un o x) = (vun o (ev x)).map (·, h) := rfl
@[simp] theorem vop_conv (k : IntKind) (x : Operand) : vop call nro ev h (.conv k x) = vconv k h (ev x) := rfl
@[simp] theorem vop_box (n : Nat) (x : Operand) : vop call nro ev h (.box n x) = vbox n h (ev x) := rfl
@[simp] theorem vop_alloc (z : List Value) : vop call nro ev h (.alloc z) = some (.pointer (some ⟨h.length, 0, some z.length⟩), h ++ [⟨0, z⟩]) := rfl
@[simp] theorem vop_build (z : List Value) (ps : List (Nat × Nat × Operand)) : vop call nro ev h (.build z ps) = (vfill z (ps.map fun p => (p.1, p.2.1, ev p.2.2))).map fun cs => (.agg cs.toArray, h) := rfl
@[simp] theorem vop_buildSl (sz : Nat) (z : List Value) (ps : List (Nat × Nat × Operand)) (n : Nat) : vop call nro ev h (.buildSl sz z ps n) = (vfill z (ps.map fun p => (p.1, p.2.1, ev p.2.2))).map fun cs => (.slice (some ⟨h.length, 0, none⟩) n z.length, h ++ [⟨sz, cs⟩]) := rfl
@[simp] theorem vop_load (g : Bool) (n : Nat) (p : Operand) : vop call nro ev h (.load g n p) = (vload g n h (ev p)).map (·, h) := rfl
@[simp] theorem vop_store (n : Nat) (p x : Operand) : vop call nro ev h (.store n p x) = (vstore nro n h (ev p) (ev x)).map (undef, ·) := rfl
@[simp] theorem vop_nilchk (x : Operand) : vop call nro ev h (.nilchk x) = vnil h (ev x) := rfl
@[simp] theorem vop_fld (n : Nat) (p : Operand) : vop call nro ev h (.fld n p) = vfld n h (ev p) := rfl
@[simp] theorem vop_fieldv (g : Bool) (o n : Nat) (x : Operand) : vop call nro ev h (.fieldv g o n x) = vfieldv g o n h (ev x) := rfl
@[simp] theorem vop_idx (n : Nat) (s i : Operand) : vop call nro ev h (.idx n s i) = vidx n h (ev s) (ev i) := rfl
@[simp] theorem vop_mkSl (sz : Nat) (z : List Value) (b : Nat) (l c : Operand) : vop call nro ev h (.mkSl sz z b l c) = vmk sz z b h (ev l) (ev c) := rfl
@[simp] theorem vop_slc (sz : Nat) (x : Operand) (lo hi : Option Operand) : vop call nro ev h (.slc sz x lo hi) = (vslice sz h (ev x) (lo.map ev) (hi.map ev)).map (·, h) := rfl
@[simp] theorem vop_slcStr (x : Operand) (lo hi : Option Operand) : vop call nro ev h (.slcStr x lo hi) = (vsliceStr (ev x) (lo.map ev) (hi.map ev)).map (·, h) := rfl
@[simp] theorem vop_ext (x : Operand) (i : Nat) : vop call nro ev h (.ext x i) = vext h i (ev x) := rfl
@[simp] theorem vop_len (x : Operand) : vop call nro ev h (.len x) = vlen h (ev x) := rfl
@[simp] theorem vop_lenStr (x : Operand) : vop call nro ev h (.lenStr x) = vlenStr h (ev x) := rfl
@[simp] theorem vop_mvStr (x : Operand) : vop call nro ev h (.mvStr x) = vmvStr h (ev x) := rfl
@[simp] theorem vop_eqnilS (n : Bool) (x : Operand) : vop call nro ev h (.eqnilS n x) = veqnilS n h (ev x) := rfl
@[simp] theorem vop_eqnilF (n : Bool) (x : Operand) : vop call nro ev h (.eqnilF n x) = veqnilF n h (ev x) := rfl
@[simp] theorem vop_app (sz b : Nat) (z : List Value) (s x : Operand) : vop call nro ev h (.app sz b z s x) = vappend nro sz b h (ev s) (ev x) := rfl
@[simp] theorem vop_minmax (m : Bool) (xs : List Operand) : vop call nro ev h (.minmax m xs) = (vminmax m (xs.map ev)).map (·, h) := rfl
@[simp] theorem vop_call (f : Nat) (xs : List Operand) : vop call nro ev h (.call f xs) = call f (xs.map ev) h := rfl
@[simp] theorem vop_callv (f : Operand) (xs : List Operand) : vop call nro ev h (.callv f xs) = vcallv call h (ev f) (xs.map ev) := rfl
@[simp] theorem vop_clr (sz : Nat) (z : List Value) (x : Operand) : vop call nro ev h (.clr sz z x) = vclear nro sz z h (ev x) := rfl
@[simp] theorem vop_cpy (sz : Nat) (x y : Operand) : vop call nro ev h (.cpy sz x y) = vcopy nro sz h (ev x) (ev y) := rfl
@[simp] theorem vop_stop : vop call nro ev h .stop = none := rfl
@[simp] theorem vop_mkfn (f : Nat) (a b : List Operand) : vop call nro ev h (.mkfn f a b) = if (a.map ev).all isAtom && (b.map ev).all isAtom then some (.func (.func f) (a.map ev).toArray (b.map ev).toArray, h) else none := rfl
attribute [simp] VOp.eff
@[simp] theorem vpick_bool (c : Bool) (a b : Value) : vpick (.bool c) a b h = some (if c = true then a else b, h) := rfl
@[simp] theorem vconv_int (k k' : IntKind) (n : Int) : vconv k h (.int k' n) = some (.int k (k.wrap n), h) := rfl
@[simp] theorem vlenStr_str (s : ByteArray) : vlenStr h (.string s) = some (.int .i64 s.size, h) := rfl
@[simp] theorem vmvStr_str (s : ByteArray) : vmvStr h (.string s) = some (.string s, h) := rfl
@[simp] theorem vlen_nil : vlen h (.slice none 0 0) = some (.int .i64 0, h) := rfl
@[simp] theorem vlen_ref (a : Addr) (n tot : Nat) : vlen h (.slice (some a) n tot) = match h[a.block]? with
    | some o => if tot = o.cells.length then some (.int .i64 n, h) else none
    | none => none := rfl
@[simp] theorem vidx_ref (sz : Nat) (a : Addr) (n tot : Nat) (k : IntKind) (j : Int) : vidx sz h (.slice (some a) n tot) (.int k j) = match h[a.block]? with
    | some o => if o.sz = sz ∧ tot = o.cells.length ∧ 0 ≤ j ∧ j < n then some (.pointer (some ⟨a.block, a.off + j.toNat * sz, some tot⟩), h) else none
    | none => none := rfl
@[simp] theorem vext_tup (vs : Array Value) (i : Nat) : vext h i (.tuple vs) = match vs[i]? with
      | some v => some (v, h)
      | none => none := rfl
@[simp] theorem vfld_ref (off : Nat) (a : Addr) : vfld off h (.pointer (some a)) = if vlive h a = true then some (.pointer (some { a with off := a.off + off }), h) else none := rfl
@[simp] theorem vfieldv_agg (g : Bool) (off n : Nat) (cs : Array Value) : vfieldv g off n h (.agg cs) = if off + n ≤ cs.size then (if g then some (.agg (cs.extract off (off + n)), h) else match cs[off]? with
      | some v => some (v, h)
      | none => none) else none := rfl
@[simp] theorem vmk_int (sz : Nat) (z : List Value) (b : Nat) (n m : Int) : vmk sz z b h (.int .i64 n) (.int .i64 m) = if n = m ∧ 0 ≤ n ∧ b * n ≤ 2 ^ 47 ∧ n ≤ 2 ^ 47 then some (.slice (some ⟨h.length, 0, none⟩) n.toNat (n.toNat * sz), h ++ [⟨sz, (List.replicate n.toNat z).flatten⟩]) else none := rfl
@[simp] theorem vnil_ref (a : Addr) : vnil h (.pointer (some a)) = if vlive h a = true then some (.pointer (some a), h) else none := rfl
@[simp] theorem vnil_func (f : Nat) (a c : Array Value) : vnil h (.func (.func f) a c) = some (.func (.func f) a c, h) := rfl
@[simp] theorem veqnilS_nil (n : Bool) : veqnilS n h (.slice none 0 0) = some (.bool !n, h) := rfl
@[simp] theorem veqnilS_ref (n : Bool) (a : Addr) (k tot : Nat) : veqnilS n h (.slice (some a) k tot) = match h[a.block]? with
      | some o => if tot = o.cells.length then some (.bool n, h) else none
      | none => none := rfl
@[simp] theorem vcallv_func (f : Nat) (first caps : Array Value) (args : List Value) : vcallv call h (.func (.func f) first caps) args = call f (first.toList ++ args ++ caps.toList) h := rfl
attribute [simp] vbox vget vlive vfill isJunk vminmax vminmaxL vminmax2 vsliceStr
@[simp] theorem vload_ref (g : Bool) (n : Nat) (a : Addr) : vload g n h (.pointer (some a)) = match vget h a n with
    | some cs => if g then some (.agg cs.toArray) else match cs with
      | [v] => some v
      | _ => none
    | none => none := rfl
@[simp] theorem vstore_ref (nro n : Nat) (a : Addr) (x : Value) : vstore nro n h (.pointer (some a)) x = match h[a.block]? with
    | some o =>
      if nro ≤ a.block ∧ a.spot = some o.cells.length ∧ a.off + n ≤ o.cells.length ∧ (vcells x).length = n ∧ (vcells x).all (fun v => !isJunk v) = true then
        some (h.set a.block { o with cells := splice a.off (vcells x) o.cells })
      else none
    | none => none := rfl
@[simp] theorem splice_zero (v : Value) (vs : List Value) (c : Value) (cs : List Value) : splice 0 (v :: vs) (c :: cs) = v :: vs ++ cs.drop vs.length := by simp [splice]
@[simp] theorem splice_succ (k : Nat) (vs : List Value) (c : Value) (cs : List Value) : splice (k + 1) vs (c :: cs) = c :: splice k vs cs := by
  simp [splice, Nat.add_right_comm]
@[simp] theorem vsrc_nil (sz : Nat) : vsrc sz h (.slice none 0 0) = some ([], 0) := rfl
@[simp] theorem vsrc_ref (sz : Nat) (a : Addr) (n tot : Nat) : vsrc sz h (.slice (some a) n tot) = match h[a.block]? with
    | some o => if o.sz = sz ∧ tot = o.cells.length ∧ a.off + n * sz ≤ tot then some ((o.cells.drop a.off).take (n * sz), n) else none
    | none => none := rfl
/-- An append, once its source is known. -/
def vapp (nro sz bytes : Nat) (h : VH) (s : Value) : Option (List Value × Nat) → Option (Value × VH)
  | none => none
  | some (cs, m) =>
    if cs.all (fun v => !isJunk v) = true ∧ 1 ≤ sz then
      match s with
      | .slice none 0 0 =>
        if m = 0 then some (.slice none 0 0, h)
        else if m * bytes ≤ 2 ^ 40 ∧ m ≤ 2 ^ 40 then some (.slice (some ⟨h.length, 0, none⟩) m cs.length, h ++ [⟨sz, cs⟩]) else none
      | .slice (some a) n tot =>
        match h[a.block]? with
        | some o =>
          if nro ≤ a.block ∧ o.sz = sz ∧ tot = o.cells.length ∧ a.off = 0 ∧ n * sz = tot ∧ (n + m) * bytes ≤ 2 ^ 40 ∧ n + m ≤ 2 ^ 40 then
            some (.slice (some a) (n + m) (tot + cs.length), h.set a.block { o with cells := o.cells ++ cs })
          else none
        | none => none
      | _ => none
    else none
@[simp] theorem vappend_eq (nro sz b : Nat) (s x : Value) : vappend nro sz b h s x = vapp nro sz b h s (vsrc sz h x) := by
  unfold vappend vapp
  cases vsrc sz h x <;> rfl
@[simp] theorem vapp_nil (nro sz b : Nat) (cs : List Value) (m : Nat) : vapp nro sz b h (.slice none 0 0) (some (cs, m)) = if cs.all (fun v => !isJunk v) = true ∧ 1 ≤ sz then (if m = 0 then some (.slice none 0 0, h) else if m * b ≤ 2 ^ 40 ∧ m ≤ 2 ^ 40 then some (.slice (some ⟨h.length, 0, none⟩) m cs.length, h ++ [⟨sz, cs⟩]) else none) else none := rfl
@[simp] theorem vapp_ref (nro sz b : Nat) (a : Addr) (n tot : Nat) (cs : List Value) (m : Nat) : vapp nro sz b h (.slice (some a) n tot) (some (cs, m)) = if cs.all (fun v => !isJunk v) = true ∧ 1 ≤ sz then (match h[a.block]? with
        | some o =>
          if nro ≤ a.block ∧ o.sz = sz ∧ tot = o.cells.length ∧ a.off = 0 ∧ n * sz = tot ∧ (n + m) * b ≤ 2 ^ 40 ∧ n + m ≤ 2 ^ 40 then
            some (.slice (some a) (n + m) (tot + cs.length), h.set a.block { o with cells := o.cells ++ cs })
          else none
        | none => none) else none := rfl
@[simp] theorem vslice_nil (sz : Nat) (lo hi : Option Value) : vslice sz h (.slice none 0 0) lo hi = match lo.getD (.int .i64 0), hi.getD (.int .i64 0) with
    | .int _ 0, .int _ 0 => some (.slice none 0 0)
    | _, _ => none := rfl
@[simp] theorem vslice_ref (sz : Nat) (a : Addr) (n tot : Nat) (lo hi : Option Value) : vslice sz h (.slice (some a) n tot) lo hi = match h[a.block]? with
    | some o =>
      if o.sz = sz ∧ tot = o.cells.length then
        match lo.getD (.int .i64 0), hi.getD (.int .i64 n) with
        | .int _ l, .int _ u => if 0 ≤ l ∧ l ≤ u ∧ u ≤ n then some (.slice (some { a with off := a.off + l.toNat * sz }) (u.toNat - l.toNat) tot) else none
        | _, _ => none
      else none
    | none => none := rfl
@[simp] theorem vcells_agg (cs : Array Value) : vcells (.agg cs) = cs.toList := rfl
@[simp] theorem vcells_int (k : IntKind) (n : Int) : vcells (.int k n) = [.int k n] := rfl
@[simp] theorem vcells_bool (b : Bool) : vcells (.bool b) = [.bool b] := rfl
@[simp] theorem vcells_str (b : ByteArray) : vcells (.string b) = [.string b] := rfl
@[simp] theorem vcells_sl (a : Option Addr) (n c : Nat) : vcells (.slice a n c) = [.slice a n c] := rfl
@[simp] theorem vcells_ptr (a : Option Addr) : vcells (.pointer a) = [.pointer a] := rfl
end
end Go.Proofs.Ytbilmoahcnllmaa.Zv

/- Numbers: the operations on integers, and bits. -/
namespace Go.Proofs.Ytbilmoahcnllmaa.Zv
open Go

theorem wrap64 {n : Int} (h1 : -9223372036854775808 ≤ n) (h2 : n ≤ 9223372036854775807) : IntKind.i64.wrap n = n := IntWalk.i64_in n ⟨h1, h2⟩
theorem wrapu64 {n : Int} (h1 : 0 ≤ n) (h2 : n ≤ 18446744073709551615) : IntKind.u64.wrap n = n := IntWalk.u64_in n ⟨h1, h2⟩
theorem wrapu8 {n : Int} (h1 : 0 ≤ n) (h2 : n ≤ 255) : IntKind.u8.wrap n = n := IntWalk.u8_in n ⟨h1, h2⟩

/-! The operations on bits are hidden from the kernel's eyes: it would else compare them bit by bit. -/
theorem ex_eq {α : Type} (a : α) : ∃ b, b = a := ⟨a, rfl⟩
noncomputable def iand : IntKind → Int → Int → Int := Classical.choose (ex_eq fun (k : IntKind) (a b : Int) => (k.wrap (BitVec.ofInt k.bits a &&& BitVec.ofInt k.bits b).toNat : Int))
theorem iand_eq (k : IntKind) (a b : Int) : iand k a b = k.wrap (BitVec.ofInt k.bits a &&& BitVec.ofInt k.bits b).toNat := congrFun (congrFun (congrFun (Classical.choose_spec (ex_eq fun (k : IntKind) (a b : Int) => (k.wrap (BitVec.ofInt k.bits a &&& BitVec.ofInt k.bits b).toNat : Int))) k) a) b
noncomputable def ior : IntKind → Int → Int → Int := Classical.choose (ex_eq fun (k : IntKind) (a b : Int) => (k.wrap (BitVec.ofInt k.bits a ||| BitVec.ofInt k.bits b).toNat : Int))
theorem ior_eq (k : IntKind) (a b : Int) : ior k a b = k.wrap (BitVec.ofInt k.bits a ||| BitVec.ofInt k.bits b).toNat := congrFun (congrFun (congrFun (Classical.choose_spec (ex_eq fun (k : IntKind) (a b : Int) => (k.wrap (BitVec.ofInt k.bits a ||| BitVec.ofInt k.bits b).toNat : Int))) k) a) b
noncomputable def ixor : IntKind → Int → Int → Int := Classical.choose (ex_eq fun (k : IntKind) (a b : Int) => (k.wrap (BitVec.ofInt k.bits a ^^^ BitVec.ofInt k.bits b).toNat : Int))
theorem ixor_eq (k : IntKind) (a b : Int) : ixor k a b = k.wrap (BitVec.ofInt k.bits a ^^^ BitVec.ofInt k.bits b).toNat := congrFun (congrFun (congrFun (Classical.choose_spec (ex_eq fun (k : IntKind) (a b : Int) => (k.wrap (BitVec.ofInt k.bits a ^^^ BitVec.ofInt k.bits b).toNat : Int))) k) a) b
noncomputable def iandNot : IntKind → Int → Int → Int := Classical.choose (ex_eq fun (k : IntKind) (a b : Int) => (k.wrap (BitVec.ofInt k.bits a &&& ~~~ BitVec.ofInt k.bits b).toNat : Int))
theorem iandNot_eq (k : IntKind) (a b : Int) : iandNot k a b = k.wrap (BitVec.ofInt k.bits a &&& ~~~ BitVec.ofInt k.bits b).toNat := congrFun (congrFun (congrFun (Classical.choose_spec (ex_eq fun (k : IntKind) (a b : Int) => (k.wrap (BitVec.ofInt k.bits a &&& ~~~ BitVec.ofInt k.bits b).toNat : Int))) k) a) b
noncomputable def ishl : IntKind → Int → Int → Int := Classical.choose (ex_eq fun (k : IntKind) (a b : Int) => (k.wrap (a * 2 ^ (min b.toNat k.bits)) : Int))
theorem ishl_eq (k : IntKind) (a b : Int) : ishl k a b = k.wrap (a * 2 ^ (min b.toNat k.bits)) := congrFun (congrFun (congrFun (Classical.choose_spec (ex_eq fun (k : IntKind) (a b : Int) => (k.wrap (a * 2 ^ (min b.toNat k.bits)) : Int))) k) a) b
noncomputable def ishr : IntKind → Int → Int → Int := Classical.choose (ex_eq fun (k : IntKind) (a b : Int) => (a.fdiv (2 ^ (min b.toNat k.bits)) : Int))
theorem ishr_eq (k : IntKind) (a b : Int) : ishr k a b = a.fdiv (2 ^ (min b.toNat k.bits)) := congrFun (congrFun (congrFun (Classical.choose_spec (ex_eq fun (k : IntKind) (a b : Int) => (a.fdiv (2 ^ (min b.toNat k.bits)) : Int))) k) a) b

section
variable (k : IntKind) (a b : Int)
@[simp] theorem vbin_add : vbin .add (.int k a) (.int k b) = some (.int k (k.wrap (a + b))) := by simp [vbin]
@[simp] theorem vbin_sub : vbin .sub (.int k a) (.int k b) = some (.int k (k.wrap (a - b))) := by simp [vbin]
@[simp] theorem vbin_mul : vbin .mul (.int k a) (.int k b) = some (.int k (k.wrap (a * b))) := by simp [vbin]
@[simp] theorem vbin_quo (hb : b ≠ 0) : vbin .quo (.int k a) (.int k b) = some (.int k (k.wrap (a.tdiv b))) := by simp [vbin, hb]
@[simp] theorem vbin_rem (hb : b ≠ 0) : vbin .rem (.int k a) (.int k b) = some (.int k (a.tmod b)) := by simp [vbin, hb]
@[simp] theorem vbin_and : vbin .and (.int k a) (.int k b) = some (.int k (iand k a b)) := by simp [vbin, iand_eq]
@[simp] theorem vbin_or : vbin .or (.int k a) (.int k b) = some (.int k (ior k a b)) := by simp [vbin, ior_eq]
@[simp] theorem vbin_xor : vbin .xor (.int k a) (.int k b) = some (.int k (ixor k a b)) := by simp [vbin, ixor_eq]
@[simp] theorem vbin_andNot : vbin .andNot (.int k a) (.int k b) = some (.int k (iandNot k a b)) := by simp [vbin, iandNot_eq]
@[simp] theorem vbin_shl (k' : IntKind) (hb : 0 ≤ b) : vbin .shl (.int k a) (.int k' b) = some (.int k (ishl k a b)) := by
  have : ¬ b < 0 := by omega
  simp [vbin, ishl_eq, this]
@[simp] theorem vbin_shr (k' : IntKind) (hb : 0 ≤ b) : vbin .shr (.int k a) (.int k' b) = some (.int k (ishr k a b)) := by
  have : ¬ b < 0 := by omega
  simp [vbin, ishr_eq, this]
@[simp] theorem vbin_eql : vbin .eql (.int k a) (.int k b) = some (.bool (decide (a = b))) := by simp [vbin]; rfl
@[simp] theorem vbin_neq : vbin .neq (.int k a) (.int k b) = some (.bool (decide (a ≠ b))) := by
  simp [vbin]
  by_cases h : a = b <;> simp [h]
@[simp] theorem vbin_lss : vbin .lss (.int k a) (.int k b) = some (.bool (decide (a < b))) := by simp [vbin]
@[simp] theorem vbin_leq : vbin .leq (.int k a) (.int k b) = some (.bool (decide (a ≤ b))) := by simp [vbin]
@[simp] theorem vbin_gtr : vbin .gtr (.int k a) (.int k b) = some (.bool (decide (b < a))) := by simp [vbin]
@[simp] theorem vbin_geq : vbin .geq (.int k a) (.int k b) = some (.bool (decide (b ≤ a))) := by simp [vbin]
@[simp] theorem vbeq_bool (n : Bool) (x y : Bool) : vbeq n (.bool x) (.bool y) = some (.bool (if n = true then !(x == y) else x == y)) := rfl
@[simp] theorem vun_not (x : Bool) : vun .not (.bool x) = some (.bool !x) := rfl
@[simp] theorem vun_neg : vun .neg (.int k a) = some (.int k (k.wrap (0 - a))) := rfl
end

/-! ### bits of what is not negative -/
end Go.Proofs.Ytbilmoahcnllmaa.Zv

/- Slices that are read: what a slice's value tells of a list. -/
namespace Go.Proofs.Ytbilmoahcnllmaa.Zv
open Go

/-- A slice of elements of one cell each reads as a list. -/
def Sl (h : VH) (v : Value) (cs : List Value) : Prop := vsrc 1 h v = some (cs, cs.length)

/-- The place of an element. -/
def vptr (s : Value) (j : Nat) : Value := match s with
  | .slice (some a) _ tot => .pointer (some ⟨a.block, a.off + j, some tot⟩)
  | _ => junk

def ints (xs : List Int) : List Value := xs.map (Value.int .i64)
@[simp] theorem ints_length (xs : List Int) : (ints xs).length = xs.length := by simp [ints]
@[simp] theorem ints_nil : ints [] = [] := rfl
@[simp] theorem ints_cons (x : Int) (xs : List Int) : ints (x :: xs) = .int .i64 x :: ints xs := rfl
theorem ints_set (xs : List Int) (j : Nat) (x : Int) : (ints xs).set j (.int .i64 x) = ints (xs.set j x) := by simp [ints, List.map_set]

theorem Sl.inv {h : VH} {v : Value} {cs : List Value} (hs : Sl h v cs) :
    (v = .slice none 0 0 ∧ cs = []) ∨ (v = .slice none 0 1 ∧ cs = []) ∨
    ∃ a n tot o, v = .slice (some a) n tot ∧ h[a.block]? = some o ∧ o.sz = 1 ∧ tot = o.cells.length ∧ a.off + n ≤ tot ∧ n = cs.length ∧ ∀ j, j < n → o.cells[a.off + j]? = cs[j]? := by
  unfold Sl vsrc at hs
  split at hs
  · left; simp at hs; exact ⟨rfl, hs.1⟩
  · right; left; simp at hs; exact ⟨rfl, hs.1⟩
  · rename_i a n tot
    split at hs
    · rename_i o ho
      split at hs
      · rename_i hc
        simp only [Nat.mul_one, Option.some.injEq, Prod.mk.injEq] at hs
        refine .inr (.inr ⟨a, n, tot, o, rfl, ho, hc.1, hc.2.1, by simpa using hc.2.2, hs.2, fun j hj => ?_⟩)
        rw [← hs.1, List.getElem?_take, if_pos hj, List.getElem?_drop]
      · cases hs
    · cases hs
  · cases hs

@[simp] theorem flatO_ints (n k : Nat) (xs : List Int) : flatO n ⟨k, ints xs⟩ := by
  intro r hr
  simp only [orefs, ints, List.flatMap_map, List.mem_flatMap] at hr
  obtain ⟨x, _, hx⟩ := hr
  simp [crefs, arefs] at hx
@[simp] theorem ints_all (xs : List Int) : (ints xs).all (fun v => !isJunk v) = true := by simp [ints]
theorem splice_ints {xs : List Int} {j : Nat} {v : Int} (hj : j < xs.length) : splice j [.int .i64 v] (ints xs) = ints (xs.set j v) := by
  rw [← ints_set]
  unfold splice
  rw [List.set_eq_take_append_cons_drop, if_pos (by simpa using hj)]
  simp
theorem take1_ints {xs : List Int} {j : Nat} (hj : j < xs.length) : List.take 1 (List.drop j (ints xs)) = [.int .i64 xs[j]] := by
  rw [List.drop_eq_getElem_cons (by simpa using hj)]
  simp [ints]
@[simp] theorem ints_rep (n : Nat) (x : Int) : List.replicate n (Value.int .i64 x) = ints (List.replicate n x) := by simp [ints]
@[simp] theorem ints_rep' (n : Nat) (x : Int) : (List.replicate n [Value.int .i64 x]).flatten = ints (List.replicate n x) := by
  induction n with
  | zero => rfl
  | succ n ih => simp only [List.replicate_succ, List.flatten_cons, ih, ints_cons]; rfl

attribute [simp] Nat.add_one_le_iff

section
variable {h : VH} {v : Value} {cs : List Value}

theorem Sl.app (hs : Sl h v cs) (L : VH) : Sl (h ++ L) v cs := by
  unfold Sl at hs ⊢
  unfold vsrc at hs ⊢
  split at hs
  · exact hs
  · exact hs
  · rename_i a n tot
    split at hs
    · rename_i o ho
      have : (h ++ L)[a.block]? = some o := by rw [List.getElem?_append_left (List.getElem?_eq_some_iff.mp ho).1]; exact ho
      simp only [this]
      exact hs
    · cases hs
  · cases hs

theorem Sl.old (hs : Sl h v cs) : Old h.length v := by
  rcases hs.inv with ⟨rfl, _⟩ | ⟨rfl, _⟩ | ⟨a, n, tot, o, rfl, ho, _⟩
  · simp
  · simp
  · rw [old_sl]; exact (List.getElem?_eq_some_iff.mp ho).1

theorem Sl.vlen (hs : Sl h v cs) : vlen h v = some (.int .i64 cs.length, h) := by
  rcases hs.inv with ⟨rfl, rfl⟩ | ⟨rfl, rfl⟩ | ⟨a, n, tot, o, rfl, ho, _, ht, _, hn, _⟩
  · rfl
  · rfl
  · simp [ho, ht, hn]

theorem Sl.vidx (hs : Sl h v cs) {k : IntKind} {j : Int} (h0 : 0 ≤ j) (hj : j < cs.length) : vidx 1 h v (.int k j) = some (vptr v j.toNat, h) := by
  rcases hs.inv with ⟨rfl, rfl⟩ | ⟨rfl, rfl⟩ | ⟨a, n, tot, o, rfl, ho, hz, ht, _, hn, _⟩
  · simp at hj; omega
  · simp at hj; omega
  · simp only [vidx_ref, ho, hz, ht, vptr, Nat.mul_one]
    rw [if_pos ⟨trivial, trivial, h0, by omega⟩]

theorem Sl.vload (hs : Sl h v cs) {j : Nat} (hj : j < cs.length) : vload false 1 h (vptr v j) = some cs[j] := by
  rcases hs.inv with ⟨rfl, rfl⟩ | ⟨rfl, rfl⟩ | ⟨a, n, tot, o, rfl, ho, hz, ht, hle, hn, hg⟩
  · simp at hj
  · simp at hj
  · have h1 := hg j (by omega)
    rw [List.getElem?_eq_getElem hj] at h1
    have h2 : a.off + j < o.cells.length := by omega
    have h3 : (o.cells.drop (a.off + j)).take 1 = [cs[j]] := by
      rw [List.getElem?_eq_getElem h2, Option.some.injEq] at h1
      rw [List.drop_eq_getElem_cons h2, h1]
      rfl
    simp only [vptr, Zv.vload, vget, ho]
    rw [if_pos ⟨by simp [ht], by omega⟩, h3]
    rfl

theorem Sl.vlive (hs : Sl h v cs) {j : Nat} (hj : j < cs.length) : ∃ a, vptr v j = .pointer (some a) ∧ vlive h a = true := by
  rcases hs.inv with ⟨rfl, rfl⟩ | ⟨rfl, rfl⟩ | ⟨a, n, tot, o, rfl, ho, hz, ht, hle, hn, hg⟩
  · simp at hj
  · simp at hj
  · exact ⟨_, rfl, by simp [ho, ht]⟩

/-! with more above the heap, as simp needs them -/
variable {L : VH}
theorem Sl.vlen' (hs : Sl h v cs) : Zv.vlen (h ++ L) v = some (.int .i64 cs.length, h ++ L) := (hs.app _).vlen
theorem Sl.vidx' (hs : Sl h v cs) {k : IntKind} {j : Int} (h0 : 0 ≤ j) (hj : j < cs.length) : Zv.vidx 1 (h ++ L) v (.int k j) = some (vptr v j.toNat, h ++ L) := (hs.app _).vidx h0 hj
theorem Sl.vload' (hs : Sl h v cs) {j : Nat} (hj : j < cs.length) : Zv.vload false 1 (h ++ L) (vptr v j) = some cs[j] := (hs.app _).vload hj
end

/-! ### slices of integers -/
def Sli (h : VH) (v : Value) (xs : List Int) : Prop := Sl h v (ints xs)
section
variable {h : VH} {v : Value} {xs : List Int}
theorem Sli.app (hs : Sli h v xs) (L : VH) : Sli (h ++ L) v xs := Sl.app hs L
theorem Sli.old (hs : Sli h v xs) : Old h.length v := Sl.old hs
theorem Sli.oldk (hs : Sli h v xs) {k : Nat} : Old (h.length + k) v := hs.old.le (Nat.le_add_right _ _)
theorem Sli.vlen (hs : Sli h v xs) : Zv.vlen h v = some (.int .i64 xs.length, h) := by rw [Sl.vlen hs, ints_length]
theorem Sli.vidx (hs : Sli h v xs) {k : IntKind} {j : Int} (h0 : 0 ≤ j) (hj : j < xs.length) : Zv.vidx 1 h v (.int k j) = some (vptr v j.toNat, h) := Sl.vidx hs h0 (by rw [ints_length]; exact hj)
theorem Sli.vload (hs : Sli h v xs) {j : Nat} (hj : j < xs.length) : Zv.vload false 1 h (vptr v j) = some (.int .i64 xs[j]) := by
  rw [Sl.vload hs (by rw [ints_length]; exact hj)]
  simp [ints]
variable {L : VH}
theorem Sli.vlen' (hs : Sli h v xs) : Zv.vlen (h ++ L) v = some (.int .i64 xs.length, h ++ L) := (hs.app _).vlen
theorem Sli.vidx' (hs : Sli h v xs) {k : IntKind} {j : Int} (h0 : 0 ≤ j) (hj : j < xs.length) : Zv.vidx 1 (h ++ L) v (.int k j) = some (vptr v j.toNat, h ++ L) := (hs.app _).vidx h0 hj
theorem Sli.vload' (hs : Sli h v xs) {j : Nat} (hj : j < xs.length) : Zv.vload false 1 (h ++ L) (vptr v j) = some (.int .i64 xs[j]) := (hs.app _).vload hj
end

/-! ### the same, as a function: for simp -/
def unint : Value → Int
  | .int _ n => n
  | _ => 0
def unints (cs : List Value) : List Int := cs.map unint
def isI64 : Value → Bool
  | .int .i64 _ => true
  | _ => false
@[simp] theorem unints_ints (xs : List Int) : unints (ints xs) = xs := by simp [unints, ints, unint, Function.comp_def]
@[simp] theorem all_ints (xs : List Int) : (ints xs).all isI64 = true := by simp [ints, isI64]
@[simp] theorem take_ints (xs : List Int) : List.take xs.length (ints xs) = ints xs := List.take_of_length_le (by simp)
/-- What a slice of integers reads as. -/
def rd (h : VH) (v : Value) : List Int := match vsrc 1 h v with
  | some (cs, _) => unints cs
  | none => []
def isSli (h : VH) (v : Value) : Prop := match vsrc 1 h v with
  | some (cs, n) => cs.length = n ∧ cs.all isI64 = true
  | none => False
theorem Sli.rd {h : VH} {v : Value} {xs : List Int} (hs : Sli h v xs) : rd h v = xs := by
  unfold Sli Sl at hs
  unfold Zv.rd
  rw [hs]
  exact unints_ints xs
@[simp] theorem rd_nil (h : VH) : rd h (.slice none 0 0) = [] := by simp [rd, unints]
@[simp] theorem isSli_nil (h : VH) : isSli h (.slice none 0 0) := ⟨rfl, rfl⟩
@[simp] theorem rd_ref (h : VH) (a : Addr) (n tot : Nat) : rd h (.slice (some a) n tot) = match h[a.block]? with
    | some o => if o.sz = 1 ∧ tot = o.cells.length ∧ a.off + n ≤ tot then unints ((o.cells.drop a.off).take n) else []
    | none => [] := by
  unfold rd
  rw [vsrc_ref]
  cases h[a.block]? with
  | none => rfl
  | some o =>
    simp only [Nat.mul_one]
    by_cases hc : o.sz = 1 ∧ tot = o.cells.length ∧ a.off + n ≤ tot
    · rw [if_pos hc, if_pos hc]
    · rw [if_neg hc, if_neg hc]
@[simp] theorem isSli_ref (h : VH) (a : Addr) (n tot : Nat) : isSli h (.slice (some a) n tot) ↔ match h[a.block]? with
    | some o => o.sz = 1 ∧ tot = o.cells.length ∧ a.off + n ≤ tot ∧ ((o.cells.drop a.off).take n).all isI64 = true
    | none => False := by
  unfold isSli
  rw [vsrc_ref]
  cases h[a.block]? with
  | none => exact Iff.rfl
  | some o =>
    simp only [Nat.mul_one]
    by_cases hc : o.sz = 1 ∧ tot = o.cells.length ∧ a.off + n ≤ tot
    · have : ((o.cells.drop a.off).take n).length = n := by simp; omega
      rw [if_pos hc]
      simp [hc, this]
      intro _
      omega
    · rw [if_neg hc]
      constructor
      · exact False.elim
      · rintro ⟨h1, h2, h3, _⟩; exact hc ⟨h1, h2, h3⟩
end Go.Proofs.Ytbilmoahcnllmaa.Zv

/- At a function's end: one fresh object is handed out. -/
namespace Go.Proofs.Ytbilmoahcnllmaa.Zv
open Go

theorem cleanup_one {h L : VH} {v : Value} {k : Nat} {o : VO} (hv : trefs v = [h.length + k]) (hk : L[k]? = some o) (hf : flatO h.length o) :
    kclean h [v] (h ++ L) = ([tren (renOf h.length [h.length + k]) v], h ++ [o]) := by
  have e : keepL h.length [v] = [h.length + k] := by
    unfold keepL
    simp [hv, dedup]
  have hg : (h ++ L)[h.length + k]? = some o := by rw [hgetk]; exact hk
  rw [cleanup_keep e fun i hi => ⟨o, ?_, hf⟩]
  · simp [hk]
  · simp only [List.mem_singleton] at hi
    rw [hi]
    exact hg
theorem renOf_one (n k : Nat) : renOf n [n + k] (n + k) = n := by simp [renOf]; omega
theorem renOf_one0 (n : Nat) : renOf n [n] n = n := by simp [renOf]
@[simp] theorem clean_slk (h L : VH) (k : Nat) (off n t : Nat) (hk : k < L.length) (hf : flatO h.length (L.getD k ⟨0, []⟩)) :
    kclean h [.slice (some ⟨h.length + k, off, none⟩) n t] (h ++ L) = ([.slice (some ⟨h.length, off, none⟩) n t], h ++ [L.getD k ⟨0, []⟩]) := by
  rw [cleanup_one (k := k) (o := L.getD k ⟨0, []⟩) (by simp [trefs, vrefs, crefs, arefs]) (by simp [List.getD_eq_getElem?_getD, hk]) hf]
  simp [tren, vren, cren, aren, renOf_one]
@[simp] theorem clean_sl0 (h L : VH) (off n t : Nat) (o : VO) (hf : flatO h.length o) :
    kclean h [.slice (some ⟨h.length, off, none⟩) n t] (h ++ o :: L) = ([.slice (some ⟨h.length, off, none⟩) n t], h ++ [o]) := by
  rw [cleanup_one (k := 0) (o := o) (by simp [trefs, vrefs, crefs, arefs]) (by simp) hf]
  simp [tren, vren, cren, aren, renOf_one0]
@[simp] theorem clean_aggk (h L : VH) (k : Nat) (off n t : Nat) (k1 : IntKind) (x : Int) (hk : k < L.length) (hf : flatO h.length (L.getD k ⟨0, []⟩)) :
    kclean h [.agg #[.int k1 x, .slice (some ⟨h.length + k, off, none⟩) n t]] (h ++ L) = ([.agg #[.int k1 x, .slice (some ⟨h.length, off, none⟩) n t]], h ++ [L.getD k ⟨0, []⟩]) := by
  rw [cleanup_one (k := k) (o := L.getD k ⟨0, []⟩) (by simp [trefs, vrefs, crefs, arefs]) (by simp [List.getD_eq_getElem?_getD, hk]) hf]
  simp [tren, vren, cren, aren, renOf_one]
@[simp] theorem clean_agg0 (h L : VH) (off n t : Nat) (k1 : IntKind) (x : Int) (o : VO) (hf : flatO h.length o) :
    kclean h [.agg #[.int k1 x, .slice (some ⟨h.length, off, none⟩) n t]] (h ++ o :: L) = ([.agg #[.int k1 x, .slice (some ⟨h.length, off, none⟩) n t]], h ++ [o]) := by
  rw [cleanup_one (k := 0) (o := o) (by simp [trefs, vrefs, crefs, arefs]) (by simp) hf]
  simp [tren, vren, cren, aren, renOf_one0]
@[simp] theorem clean_taggk (h L : VH) (k : Nat) (off n t : Nat) (k1 : IntKind) (x : Int) (k2 : IntKind) (y : Int) (hk : k < L.length) (hf : flatO h.length (L.getD k ⟨0, []⟩)) :
    kclean h [.tuple #[.agg #[.int k1 x, .slice (some ⟨h.length + k, off, none⟩) n t], .int k2 y]] (h ++ L) = ([.tuple #[.agg #[.int k1 x, .slice (some ⟨h.length, off, none⟩) n t], .int k2 y]], h ++ [L.getD k ⟨0, []⟩]) := by
  rw [cleanup_one (k := k) (o := L.getD k ⟨0, []⟩) (by simp [trefs, vrefs, crefs, arefs]) (by simp [List.getD_eq_getElem?_getD, hk]) hf]
  simp [tren, vren, cren, aren, renOf_one]
@[simp] theorem clean_tagg0 (h L : VH) (off n t : Nat) (k1 : IntKind) (x : Int) (k2 : IntKind) (y : Int) (o : VO) (hf : flatO h.length o) :
    kclean h [.tuple #[.agg #[.int k1 x, .slice (some ⟨h.length, off, none⟩) n t], .int k2 y]] (h ++ o :: L) = ([.tuple #[.agg #[.int k1 x, .slice (some ⟨h.length, off, none⟩) n t], .int k2 y]], h ++ [o]) := by
  rw [cleanup_one (k := 0) (o := o) (by simp [trefs, vrefs, crefs, arefs]) (by simp) hf]
  simp [tren, vren, cren, aren, renOf_one0]
@[simp] theorem clean_tslk (h L : VH) (k : Nat) (off n t : Nat) (k2 : IntKind) (y : Int) (hk : k < L.length) (hf : flatO h.length (L.getD k ⟨0, []⟩)) :
    kclean h [.tuple #[.slice (some ⟨h.length + k, off, none⟩) n t, .int k2 y]] (h ++ L) = ([.tuple #[.slice (some ⟨h.length, off, none⟩) n t, .int k2 y]], h ++ [L.getD k ⟨0, []⟩]) := by
  rw [cleanup_one (k := k) (o := L.getD k ⟨0, []⟩) (by simp [trefs, vrefs, crefs, arefs]) (by simp [List.getD_eq_getElem?_getD, hk]) hf]
  simp [tren, vren, cren, aren, renOf_one]
@[simp] theorem clean_tsl0 (h L : VH) (off n t : Nat) (k2 : IntKind) (y : Int) (o : VO) (hf : flatO h.length o) :
    kclean h [.tuple #[.slice (some ⟨h.length, off, none⟩) n t, .int k2 y]] (h ++ o :: L) = ([.tuple #[.slice (some ⟨h.length, off, none⟩) n t, .int k2 y]], h ++ [o]) := by
  rw [cleanup_one (k := 0) (o := o) (by simp [trefs, vrefs, crefs, arefs]) (by simp) hf]
  simp [tren, vren, cren, aren, renOf_one0]
@[simp] theorem clean_tslbk (h L : VH) (k : Nat) (off n t : Nat) (y2 : Bool) (hk : k < L.length) (hf : flatO h.length (L.getD k ⟨0, []⟩)) :
    kclean h [.tuple #[.slice (some ⟨h.length + k, off, none⟩) n t, .bool y2]] (h ++ L) = ([.tuple #[.slice (some ⟨h.length, off, none⟩) n t, .bool y2]], h ++ [L.getD k ⟨0, []⟩]) := by
  rw [cleanup_one (k := k) (o := L.getD k ⟨0, []⟩) (by simp [trefs, vrefs, crefs, arefs]) (by simp [List.getD_eq_getElem?_getD, hk]) hf]
  simp [tren, vren, cren, aren, renOf_one]
@[simp] theorem clean_tslb0 (h L : VH) (off n t : Nat) (y2 : Bool) (o : VO) (hf : flatO h.length o) :
    kclean h [.tuple #[.slice (some ⟨h.length, off, none⟩) n t, .bool y2]] (h ++ o :: L) = ([.tuple #[.slice (some ⟨h.length, off, none⟩) n t, .bool y2]], h ++ [o]) := by
  rw [cleanup_one (k := 0) (o := o) (by simp [trefs, vrefs, crefs, arefs]) (by simp) hf]
  simp [tren, vren, cren, aren, renOf_one0]
@[simp] theorem clean_taggbk (h L : VH) (k : Nat) (off n t : Nat) (k1 : IntKind) (x : Int) (y2 : Bool) (hk : k < L.length) (hf : flatO h.length (L.getD k ⟨0, []⟩)) :
    kclean h [.tuple #[.agg #[.int k1 x, .slice (some ⟨h.length + k, off, none⟩) n t], .bool y2]] (h ++ L) = ([.tuple #[.agg #[.int k1 x, .slice (some ⟨h.length, off, none⟩) n t], .bool y2]], h ++ [L.getD k ⟨0, []⟩]) := by
  rw [cleanup_one (k := k) (o := L.getD k ⟨0, []⟩) (by simp [trefs, vrefs, crefs, arefs]) (by simp [List.getD_eq_getElem?_getD, hk]) hf]
  simp [tren, vren, cren, aren, renOf_one]
@[simp] theorem clean_taggb0 (h L : VH) (off n t : Nat) (k1 : IntKind) (x : Int) (y2 : Bool) (o : VO) (hf : flatO h.length o) :
    kclean h [.tuple #[.agg #[.int k1 x, .slice (some ⟨h.length, off, none⟩) n t], .bool y2]] (h ++ o :: L) = ([.tuple #[.agg #[.int k1 x, .slice (some ⟨h.length, off, none⟩) n t], .bool y2]], h ++ [o]) := by
  rw [cleanup_one (k := 0) (o := o) (by simp [trefs, vrefs, crefs, arefs]) (by simp) hf]
  simp [tren, vren, cren, aren, renOf_one0]
@[simp] theorem old_agg2 (n : Nat) (k : IntKind) (x : Int) (s : Value) (hs : isAtom s = true) : Old n (.agg #[.int k x, s]) ↔ Old n s := by
  unfold Old trefs vrefs
  cases s <;> simp_all [crefs, arefs, isAtom]

/-! ### objects that were changed in place -/
def Upd (h h' : VH) : Prop := h'.length = h.length ∧ okT h.length h h'
theorem Upd.rfl' (h : VH) : Upd h h := ⟨rfl, fun _ _ ho => .inl ho⟩
theorem Upd.set' {h h' : VH} (hu : Upd h h') {b : Nat} {o : VO} (ho : flatO h.length o) : Upd h (h'.set b o) := by
  refine ⟨by rw [List.length_set]; exact hu.1, fun i p hp => ?_⟩
  rw [List.getElem?_set] at hp
  split at hp
  · split at hp
    · cases hp; exact .inr ho
    · cases hp
  · exact hu.2 i p hp
@[simp] theorem upd_rfl (h : VH) : Upd h h := Upd.rfl' h
@[simp] theorem upd_set (h : VH) (b k : Nat) (xs : List Int) : Upd h (h.set b ⟨k, ints xs⟩) := (Upd.rfl' h).set' (flatO_ints _ _ _)
theorem cleanup_upd {h h' L : VH} {vs : List Value} (hu : Upd h h') (hv : ∀ v ∈ vs, Old h.length v) : kclean h vs (h' ++ L) = (vs, h') := by
  have htake : (h' ++ L).take h.length = h' := by rw [← hu.1]; simp
  have hc : okT h.length h ((h' ++ L).take h.length) ∧ flatL h.length [] (h' ++ L) := by
    refine ⟨?_, fun i hi => by cases hi⟩
    rw [htake]
    exact hu.2
  unfold kclean cleanup
  rw [keepL_nil hv, if_pos hc, htake]
  simp only [List.filterMap_nil, List.append_nil, Prod.mk.injEq, and_true]
  have : ∀ v ∈ vs, tren (renOf h.length []) v = v := fun v h => tren_old (hv v h) fun i hi => by simp only [renOf, if_pos hi]
  exact (List.map_congr_left this).trans (by simp)
@[simp] theorem cleanup_set {h L : VH} {b k : Nat} {xs : List Int} {vs : List Value} (hv : ∀ v ∈ vs, Old h.length v) : kclean h vs (h.set b ⟨k, ints xs⟩ ++ L) = (vs, h.set b ⟨k, ints xs⟩) := cleanup_upd (upd_set h b k xs) hv
@[simp] theorem cleanup_set0 {h : VH} {b k : Nat} {xs : List Int} {vs : List Value} (hv : ∀ v ∈ vs, Old h.length v) : kclean h vs (h.set b ⟨k, ints xs⟩) = (vs, h.set b ⟨k, ints xs⟩) := by
  have := cleanup_set (h := h) (L := []) (b := b) (k := k) (xs := xs) hv
  simpa using this
theorem hset_self {h : VH} {b : Nat} {o : VO} (hb : h[b]? = some o) : h.set b o = h := by
  obtain ⟨h1, h2⟩ := List.getElem?_eq_some_iff.mp hb
  rw [← h2]; exact List.set_getElem_self h1

/-! ### objects whose cells are written out -/
@[simp] theorem flatO_nil (n k : Nat) : flatO n ⟨k, []⟩ := fun r hr => by simp [orefs] at hr
@[simp] theorem flatO_cons (n k : Nat) (v : Value) (cs : List Value) : flatO n ⟨k, v :: cs⟩ ↔ OldC n v ∧ flatO n ⟨k, cs⟩ := by
  unfold flatO OldC orefs
  simp only [List.flatMap_cons, List.mem_append]
  exact ⟨fun h => ⟨fun r hr => h r (.inl hr), fun r hr => h r (.inr hr)⟩, fun h r hr => hr.elim (h.1 r) (h.2 r)⟩
@[simp] theorem oldC_int (n : Nat) (k : IntKind) (i : Int) : OldC n (.int k i) := fun r hr => by simp [crefs, arefs] at hr
@[simp] theorem oldC_bool (n : Nat) (b : Bool) : OldC n (.bool b) := fun r hr => by simp [crefs, arefs] at hr
@[simp] theorem oldC_str (n : Nat) (b : ByteArray) : OldC n (.string b) := fun r hr => by simp [crefs, arefs] at hr
@[simp] theorem oldC_slN (n a b : Nat) : OldC n (.slice none a b) := fun r hr => by simp [crefs, arefs] at hr
@[simp] theorem oldC_ptrN (n : Nat) : OldC n (.pointer none) := fun r hr => by simp [crefs, arefs] at hr
@[simp] theorem oldC_nilF (n : Nat) : OldC n .nilFunc := fun r hr => by simp [crefs, arefs] at hr
@[simp] theorem oldC_sl (n : Nat) (a : Addr) (k t : Nat) : OldC n (.slice (some a) k t) ↔ a.block < n := by simp [OldC, crefs, arefs]
@[simp] theorem oldC_ptr (n : Nat) (a : Addr) : OldC n (.pointer (some a)) ↔ a.block < n := by simp [OldC, crefs, arefs]
theorem OldC.le {n m : Nat} {v : Value} (h : OldC n v) (hm : n ≤ m) : OldC m v := fun r hr => Nat.lt_of_lt_of_le (h r hr) hm
@[simp] theorem old_tagg_nil (n : Nat) (k k2 : IntKind) (x y : Int) (a b : Nat) : Old n (.tuple #[.agg #[.int k x, .slice none a b], .int k2 y]) := by
  intro r hr
  simp [trefs, vrefs, crefs, arefs] at hr
@[simp] theorem old_agg_nil (n : Nat) (k : IntKind) (x : Int) (a b : Nat) : Old n (.agg #[.int k x, .slice none a b]) := by
  intro r hr
  simp [trefs, vrefs, crefs, arefs] at hr
@[simp] theorem old_tsl_nil (n : Nat) (k : IntKind) (x : Int) (a b : Nat) : Old n (.tuple #[.slice none a b, .int k x]) := by
  intro r hr
  simp [trefs, vrefs, crefs, arefs] at hr
@[simp] theorem old_tup2 (k : Nat) (a b : Value) (ha : ∀ vs, a ≠ .tuple vs) (hb : ∀ vs, b ≠ .tuple vs) : Old k (.tuple #[a, b]) ↔ Old k a ∧ Old k b := by
  have e : ∀ v : Value, (∀ vs, v ≠ .tuple vs) → trefs v = vrefs v := by
    intro v hv
    unfold trefs
    split
    · exact absurd rfl (hv _)
    · rfl
  unfold Old
  rw [e a ha, e b hb]
  simp only [trefs, List.flatMap_cons, List.flatMap_nil, List.append_nil, List.mem_append]
  exact ⟨fun h => ⟨fun r hr => h r (.inl hr), fun r hr => h r (.inr hr)⟩, fun h r hr => hr.elim (h.1 r) (h.2 r)⟩

end Go.Proofs.Ytbilmoahcnllmaa.Zv

/- A row's arguments: what they are to the virtual interpreter; and a law that it tells true. -/
namespace Go.Proofs.Ytbilmoahcnllmaa.Zv
open Go Go.ChangeShapes Go.WideShapes Go.ChangeAt Go.RowKit

/-- What is known of a slice of integers that came in. -/
def IsRow (k : IntKind) (w : World) (a : Option Addr) (len cap : Nat) (zs : List Int) : Prop :=
  (a = none ∧ len = 0 ∧ cap = 0 ∧ zs = []) ∨
  ∃ x, a = some x ∧ len ≤ cap ∧ cap ≤ maxLen ∧ zs.length = cap ∧ (∀ i, i < zs.length → w.cell? (x.add i) = some (.int k (zs.getD i 0))) ∧ ∀ n ∈ zs, (Lit.int k n).wf = true

theorem IsRow.of {H : Type} {enc : TypeId × Value → H} {P : Program} {W : World} {held : Bool} {t e : TypeId} {k : IntKind} {fuel : Nat} {v : Value} {x : DataW H × List MemPlace} (ht : P.underlying t = some (.slice e)) (he : P.underlying e = some (.int k)) (hc : P.cellsOf e = 1)
    (h : DataW.trod enc P W 0 (fun _ => true) held fuel t [v] = some x) : ∃ a len cap zs, v = .slice a len cap ∧ IsRow k W a len cap zs := by
  rcases open_ints ht he hc h with ⟨hcs, _⟩ | ⟨x, l, c, zs, hcs, _, hl, hm, hz, _, hcell, hwz⟩
  · simp at hcs
    exact ⟨none, 0, 0, [], hcs, .inl ⟨rfl, rfl, rfl, rfl⟩⟩
  · simp at hcs
    exact ⟨some x, l, c, zs, hcs, .inr ⟨x, rfl, hl, hm, by simpa using hz, hcell, hwz⟩⟩

/-- Arguments so far: all objects are read alone. -/
def RA (φ : Em) (h : VH) (W : World) : Prop := RH h.length φ (VH.ph h) W
theorem RA.nil (W : World) (hg : ∀ b C, globTab b = some C → ∃ ty fz, W.heap[b]? = some (.cells C ty fz)) : RA (fun _ => ⟨0, 0, 0⟩) [] W :=
  ⟨fun i o h => by simp [VH.ph] at h, fun i j h => by simp [VH.ph] at h, fun b C hb => ⟨hg b C hb, fun i h => by simp [VH.ph] at h⟩⟩

theorem Grow.refl (φ : Em) (L : PH) : Grow φ L φ L := fun _ o h => ⟨o, h, rfl, Nat.le_refl _, fun _ => rfl⟩

theorem RA.slice {k : IntKind} {φ : Em} {h : VH} {W : World} {a : Option Addr} {len cap : Nat} {zs : List Int} (hR : RA φ h W) (hr : IsRow k W a len cap zs) :
    ∃ φ' L v, RA φ' (h ++ L) W ∧ Grow φ (VH.ph h) φ' (VH.ph (h ++ L)) ∧ AtomR φ' (VH.ph (h ++ L)) v (.slice a len cap) ∧ Sl (h ++ L) v ((zs.take len).map (.int k)) := by
  rcases hr with ⟨rfl, rfl, rfl, rfl⟩ | ⟨x, rfl, hl, hm, hz, hcell, hw⟩
  · exact ⟨φ, [], .slice none 0 0, by simpa using hR, by simpa using Grow.refl _ _, .slN, rfl⟩
  · by_cases h0 : len = 0
    · subst h0
      exact ⟨φ, [], .slice none 0 1, by simpa using hR, by simpa using Grow.refl _ _, .slE x cap, by simp [Sl, vsrc]⟩
    · have hlen : len ≤ zs.length := by omega
      have hspot : x.spot = none := by
        have := World.cell?_spot (hcell 0 (by omega))
        simpa [Addr.add] using this
      -- the cells lie in a block
      have hcl : ∀ j, j < zs.length → ∃ C ty fz, W.heap[x.block]? = some (.cells C ty fz) ∧ C[x.off + j]? = some (.int k (zs.getD j 0)) := by
        intro j hj
        have h1 := hcell j hj
        unfold World.cell? at h1
        have hb : (x.add j).block = x.block := by unfold Addr.add; split <;> rfl
        have ho : (x.add j).off = x.off + j := by
          unfold Addr.add
          split
          · rename_i h; subst h; rfl
          · rfl
        rw [hb] at h1
        split at h1
        · rename_i C ty fz hC
          split at h1
          · cases h1
          · rw [ho] at h1
            exact ⟨C, ty, fz, hC, h1⟩
        · cases h1
      let φ' : Em := fun i => if i = h.length then ⟨x.block, x.off, cap⟩ else φ i
      let ob : VO := ⟨1, (zs.take len).map (.int k)⟩
      have hlook : ∀ i o, VH.ph (h ++ [ob]) i = some o → (i < h.length ∧ VH.ph h i = some o) ∨ (i = h.length ∧ o = ob) := by
        intro i o hi
        simp only [VH.ph] at hi ⊢
        rcases Nat.lt_trichotomy i h.length with hlt | e | hgt
        · left
          rw [List.getElem?_append_left hlt] at hi
          exact ⟨hlt, hi⟩
        · right
          subst e
          rw [hget0] at hi
          simp at hi
          exact ⟨rfl, hi.symm⟩
        · rw [List.getElem?_append_right (by omega)] at hi
          rw [List.getElem?_eq_none (by simp; omega)] at hi
          cases hi
      have hg : Grow φ (VH.ph h) φ' (VH.ph (h ++ [ob])) := by
        intro i o hi
        have hlt : i < h.length := (List.getElem?_eq_some_iff.mp hi).1
        refine ⟨o, ?_, rfl, Nat.le_refl _, fun _ => ?_⟩
        · simp only [VH.ph] at hi ⊢
          rw [List.getElem?_append_left hlt]; exact hi
        · simp only [φ']; rw [if_neg (by omega)]
      refine ⟨φ', [ob], .slice (some ⟨h.length, 0, none⟩) len len, ?_, hg, ?_, ?_⟩
      · refine ⟨fun i o hi => ?_, fun i j hi _ hn => ?_, fun b C hb => ⟨(hR.glob b C hb).1, fun i hi hn => ?_⟩⟩
        · rcases hlook i o hi with ⟨hlt, hi'⟩ | ⟨rfl, rfl⟩
          · obtain ⟨C, ty, fz, h1, h2, _⟩ := hR.cells i o hi'
            have e : φ' i = φ i := by simp only [φ']; rw [if_neg (by omega)]
            rw [e]
            refine ⟨C, ty, fz, h1, fun j v hj => ?_, fun hn => by simp at hn; omega⟩
            obtain ⟨v', h3, h4⟩ := h2 j v hj
            exact ⟨v', h3, h4.grow hg⟩
          · obtain ⟨C, ty, fz, h1, _⟩ := hcl 0 (by omega)
            have e : φ' h.length = ⟨x.block, x.off, cap⟩ := by simp [φ']
            rw [e]
            refine ⟨C, ty, fz, h1, fun j v hj => ?_, fun hn => by simp at hn⟩
            simp only [ob, List.getElem?_map] at hj
            have hjl : j < len := by
              rcases Nat.lt_or_ge j len with h' | h'
              · exact h'
              · rw [List.getElem?_eq_none (by simp; omega)] at hj; cases hj
            obtain ⟨C', ty', fz', h1', h2'⟩ := hcl j (by omega)
            rw [h1] at h1'
            simp only [Option.some.injEq, Obj.cells.injEq] at h1'
            obtain ⟨rfl, _, _⟩ := h1'
            refine ⟨_, h2', ?_⟩
            rw [List.getElem?_take, if_pos hjl, List.getElem?_eq_getElem (by omega)] at hj
            simp only [Option.map_some, Option.some.injEq] at hj
            subst hj
            rw [List.getD_eq_getElem?_getD, List.getElem?_eq_getElem (by omega)]
            exact .atom (.int _ _)
        · exfalso
          have : i < (h ++ [ob]).length := by
            simp only [VH.ph] at hi
            rcases Nat.lt_or_ge i (h ++ [ob]).length with h' | h'
            · exact h'
            · rw [List.getElem?_eq_none h'] at hi; cases hi
          omega
        · exfalso
          have : i < (h ++ [ob]).length := by
            simp only [VH.ph] at hi
            rcases Nat.lt_or_ge i (h ++ [ob]).length with h' | h'
            · exact h'
            · rw [List.getElem?_eq_none h'] at hi; cases hi
          omega
      · have hL : VH.ph (h ++ [ob]) h.length = some ob := by simp [VH.ph]
        have e : φ' h.length = ⟨x.block, x.off, cap⟩ := by simp [φ']
        refine .sl (c := cap) hL (by simp [ob]; omega) (by simp [ob]) (by simp [ob]) hl (by rw [e]; simp [ob]) (.inr ?_)
        rw [e]
        obtain ⟨b, off, sp⟩ := x
        simp at hspot ⊢
        exact hspot
      · simp only [Sl, vsrc_ref, hget0, ob]
        have e : (List.map (Value.int k) (List.take len zs)).length = len := by simp; omega
        simp only [List.getElem?_cons_zero, e, Nat.zero_add, Nat.mul_one, List.drop_zero, Nat.le_refl, and_self, if_true]
        rw [List.take_of_length_le (by omega)]

/-- A law that the virtual interpreter tells true is true. -/
theorem law_true {P : Program} {call : VCall} {f : Nat} {φ : Em} {h : VH} {W : World} {vs : List Value} {vs' : List Value} (hS : CallSound P h.length call) (hR : RA φ h W) (ha : All2 (TopR φ (VH.ph h)) vs vs') {h' : VH}
    (hc : call f vs h = some (.bool true, h')) : Calls P f vs'.toArray W fun e W' => e = .returned (.bool true) ∧ Below W.heap.size W W' := by
  obtain ⟨_, hcalls⟩ := hS f vs h _ _ hc φ W vs' (Nat.le_refl _) hR ha
  refine hcalls.mono fun e W' ⟨φ', v', he, _, hX, hv⟩ => ?_
  have hb := hv.inv_bool
  subst hb
  refine ⟨he, hX.rest.1, hX.rest.2.1, hX.rest.2.2, hX.size, fun b hb => hX.frame b hb fun i hi hn => ?_⟩
  exfalso
  simp only [VH.ph] at hi
  rw [List.getElem?_eq_none hn] at hi
  cases hi
end Go.Proofs.Ytbilmoahcnllmaa.Zv

/- A row's arguments, opened: graphs, lists, numbers, desks. -/
namespace Go.Proofs.Ytbilmoahcnllmaa.Zv
open Go Go.ChangeShapes Go.WideShapes Go.ChangeAt Go.RowKit

/-- A row is well-formed: its numbers are 64-bit numbers. -/
theorem IsRow.len {k : IntKind} {W : World} {a : Option Addr} {len cap : Nat} {zs : List Int} (h : IsRow k W a len cap zs) : (zs.take len).length ≤ 9223372036854775807 := by
  rcases h with ⟨_, _, _, rfl⟩ | ⟨x, _, hl, hm, hz, _⟩
  · simp
  · have : maxLen = 9223372036854775807 := rfl
    simp; omega

variable {H : Type} {enc : TypeId × Value → H} {P : Program} {W : World} {held : Bool}

end Go.Proofs.Ytbilmoahcnllmaa.Zv

/- What all rows of the seat share. -/
namespace Go.Proofs.Ytbilmoahcnllmaa.Zv
open Go Go.ChangeShapes Go.WideShapes Go.ChangeAt Go.RowKit
open Go.Proofs.Ytbilmoahcnllmaa

theorem own : ownKnob Try.prog.godebug = none := by kernel_rfl
theorem laidOut : laidOutB Try.prog = true := by kernel_rfl
theorem mixed : Try.prog.follows .mixedOrders = true := by kernel_rfl

theorem F_ir : ∀ f fn, F f = some (.ir fn) → EntOK Try.prog (compD Try.prog) f fn := by
  intro f fn hf
  unfold F at hf
  cases hl : tab.lookup f with
  | none => rw [hl] at hf; cases hf
  | some g =>
    rw [hl] at hf
    simp only [Option.map_some, Option.some.injEq, Ent.ir.injEq] at hf
    subst hf
    have hm : (f, g) ∈ tab := by
      have h2 : ∀ (l : List (Nat × FF)), l.lookup f = some g → (f, g) ∈ l := by
        intro l
        induction l with
        | nil => intro h; cases h
        | cons p l ih =>
          intro h
          obtain ⟨a, b⟩ := p
          simp only [List.lookup] at h
          split at h
          · rename_i e
            have e2 : f = a := by simpa using e
            cases h
            rw [e2]
            exact .head _
          · exact .tail _ (ih h)
      exact h2 tab hl
    exact tabOK (f, g) hm

theorem F_ext : ∀ f g, F f = some (.ext g) → ∀ nro, ExtOK Try.prog nro f g := by
  intro f g hf
  unfold F at hf
  cases hl : tab.lookup f <;> rw [hl] at hf <;> cases hf

theorem allSound (nro : Nat) : CallSound Try.prog nro (vcall F nro) := sound mixed F F_ir fun f g h => F_ext f g h nro

/-- No table is read. -/
theorem no_glob (W : World) : ∀ b C, globTab b = some C → ∃ ty fz, W.heap[b]? = some (.cells C ty fz) := fun _ _ h => by cases h
end Go.Proofs.Ytbilmoahcnllmaa.Zv

/- What the laws' own small functions compute. -/
namespace Go.Proofs.Ytbilmoahcnllmaa.Zv
open Go

open Classical in
/-- A loop that looks for something bad. -/
theorem search {α : Type} (f : Int → α) (bad : Int → Prop) (r d : α) (n lo : Int) (hstep : ∀ i, lo ≤ i → i < n → (bad i → f i = r) ∧ (¬ bad i → f i = f (i + 1))) (hend : ∀ i, lo ≤ i → ¬ i < n → f i = d) (i : Int) (hi : lo ≤ i) :
    f i = if ∃ j, i ≤ j ∧ j < n ∧ bad j then r else d := by
  by_cases hlt : i < n
  · by_cases hb : bad i
    · rw [(hstep i hi hlt).1 hb, if_pos ⟨i, Int.le_refl _, hlt, hb⟩]
    · rw [(hstep i hi hlt).2 hb, search f bad r d n lo hstep hend (i + 1) (by omega)]
      have : (∃ j, i + 1 ≤ j ∧ j < n ∧ bad j) ↔ ∃ j, i ≤ j ∧ j < n ∧ bad j := by
        constructor
        · rintro ⟨j, h1, h2, h3⟩; exact ⟨j, by omega, h2, h3⟩
        · rintro ⟨j, h1, h2, h3⟩
          refine ⟨j, ?_, h2, h3⟩
          have : j ≠ i := fun e => hb (e ▸ h3)
          omega
      simp only [this]
  · rw [hend i hi hlt, if_neg]
    rintro ⟨j, h1, h2, _⟩
    omega
 termination_by (n - i).toNat

theorem getD_at (xs : List Int) {i : Nat} (hi : i < xs.length) : xs.getD i 0 = xs[i] := by
  rw [List.getD_eq_getElem?_getD, List.getElem?_eq_getElem hi]; rfl

variable {nro : Nat}

/-- A graph's value. -/
abbrev gv (n : Int) (s : Value) : Value := .agg #[.int .i64 n, s]

end Go.Proofs.Ytbilmoahcnllmaa.Zv

namespace Go.Proofs.Ytbilmoahcnllmaa.Zv
end Go.Proofs.Ytbilmoahcnllmaa.Zv

/- Numbers that follow from a code. -/
namespace Go.Proofs.Ytbilmoahcnllmaa.Zv
open Go
variable {nro : Nat}

/-- Bytes. -/
def bys (xs : List Int) : List Value := xs.map (.int .u8)
@[simp] theorem bys_length (xs : List Int) : (bys xs).length = xs.length := by simp [bys]
theorem bys_get {xs : List Int} {j : Nat} (h : j < (bys xs).length) : (bys xs)[j] = .int .u8 (xs.getD j 0) := by
  have : j < xs.length := by simpa using h
  simp [bys, List.getD_eq_getElem?_getD, this]
/-- Where a source stands. -/
structure SS where
  pos : Nat
  hash : Int
def srcO (cd : Value) (s : SS) : VO := ⟨0, [cd, .int .i64 s.pos, .int .u64 s.hash]⟩
noncomputable def hsN (s : SS) : Int := IntKind.u64.wrap (IntKind.u64.wrap (s.hash * 6364136223846793005) + 1442695040888963407)
noncomputable def hsX (s : SS) : Int := IntKind.i64.wrap (iand .u64 (ishr .u64 (hsN s) 33) 16777215)
noncomputable def srcS (xs : List Int) (s : SS) (n : Int) : SS := if n < 1 then s else ⟨if s.pos < xs.length then s.pos + 1 else s.pos, hsN s⟩
noncomputable def srcN (xs : List Int) (s : SS) (n : Int) : Int := if n < 1 then 0 else (hsX s + if s.pos < xs.length then xs.getD s.pos 0 else 0).tmod n
theorem crefs_sub {v : Value} {r : Nat} (h : r ∈ crefs v) : r ∈ trefs v := by
  cases v <;> simp_all [crefs, arefs, trefs, vrefs]
theorem flatO_src {n : Nat} {cd : Value} (h : Old n cd) (s : SS) : flatO n (srcO cd s) := by
  intro r hr
  simp only [orefs, srcO, List.flatMap_cons, List.flatMap_nil, List.mem_append] at hr
  rcases hr with hr | hr | hr | hr
  · exact h r (crefs_sub hr)
  · simp [crefs, arefs] at hr
  · simp [crefs, arefs] at hr
  · cases hr
/-- A code. -/
structure Code' (xs : List Int) : Prop where
  len : xs.length ≤ 9223372036854775807
  byte : ∀ x ∈ xs, 0 ≤ x ∧ x ≤ 255
/-- The place is one of the code's. -/
def SOK (xs : List Int) (s : SS) : Prop := s.pos ≤ xs.length
theorem hsX_ok (s : SS) : 0 ≤ hsX s ∧ hsX s ≤ 16777215 := by
  unfold hsX
  rw [iand_eq]
  have h1 : ∀ x : BitVec IntKind.u64.bits, (x &&& BitVec.ofInt IntKind.u64.bits 16777215).toNat ≤ 16777215 := fun x => by
    rw [BitVec.toNat_and]
    exact Nat.le_trans Nat.and_le_right (by decide)
  obtain ⟨y, hy⟩ : ∃ y, y = (BitVec.ofInt IntKind.u64.bits (ishr IntKind.u64 (hsN s) 33) &&& BitVec.ofInt IntKind.u64.bits 16777215).toNat := ⟨_, rfl⟩
  have h2 := h1 (BitVec.ofInt IntKind.u64.bits (ishr IntKind.u64 (hsN s) 33))
  rw [← hy] at h2 ⊢
  rw [wrapu64 (n := (y : Int)) (by omega) (by omega), wrap64 (by omega) (by omega)]
  omega
theorem Code'.at {xs : List Int} (h : Code' xs) (i : Nat) : 0 ≤ xs.getD i 0 ∧ xs.getD i 0 ≤ 255 := by
  rw [List.getD_eq_getElem?_getD]
  by_cases hi : i < xs.length
  · rw [List.getElem?_eq_getElem hi]; exact h.byte _ (List.getElem_mem hi)
  · rw [List.getElem?_eq_none (by omega)]; simp
theorem srcN_ok {xs : List Int} (h : Code' xs) (s : SS) (n : Int) : 0 ≤ srcN xs s n ∧ (1 ≤ n → srcN xs s n < n) ∧ (n < 1 → srcN xs s n = 0) := by
  unfold srcN
  by_cases hn : n < 1
  · rw [if_pos hn]; exact ⟨by omega, fun _ => by omega, fun _ => rfl⟩
  · rw [if_neg hn]
    have h1 := hsX_ok s
    have h2 := h.at s.pos
    obtain ⟨y, hy⟩ : ∃ y, y = hsX s + if s.pos < xs.length then xs.getD s.pos 0 else 0 := ⟨_, rfl⟩
    have hy0 : 0 ≤ y := by rw [hy]; split <;> omega
    rw [← hy]
    exact ⟨Int.tmod_nonneg n hy0, fun _ => Int.tmod_lt_of_pos y (by omega), fun h => by omega⟩
theorem srcS_ok {xs : List Int} {s : SS} (h : SOK xs s) (n : Int) : SOK xs (srcS xs s n) := by
  unfold srcS SOK at *
  split
  · exact h
  · dsimp only; split <;> omega

theorem c_spec_l01Next (H : VH) (b : Nat) (cd : Value) (xs : List Int) (s : SS) (n : Int) (hb : H[b]? = some (srcO cd s)) (hnb : nro ≤ b) (hx : Code' xs) (hs : SOK xs s) (hcd : ∀ o, Sl (H.set b o) cd (bys xs)) (h1 : n ≤ 9223372036854775807) :
    vcall F nro k_spec_l01Next [.pointer (some ⟨b, 0, some 3⟩), .int .i64 n] H = some (.int .i64 (srcN xs s n), H.set b (srcO cd (srcS xs s n))) := by
  refine v_spec_l01Next (by simp [i_spec_l01Next]) ?_
  rw [fbody_eq]
  have hself : H.set b (srcO cd s) = H := by
    apply List.ext_getElem?
    intro j
    rw [List.getElem?_set]
    split
    · rename_i e
      subst e
      split
      · exact hb.symm
      · rename_i h; rw [List.getElem?_eq_none (by omega)] at hb; cases hb
    · rfl
  have hlt : b < H.length := (List.getElem?_eq_some_iff.mp hb).1
  have hg : ∀ o, (H.set b o)[b]? = some o := fun o => by simp [hlt]
  have hss : ∀ o o2, (H.set b o).set b o2 = H.set b o2 := fun o o2 => by simp
  have hcl : ∀ (p : Nat) (a : Int) (x : Int), kclean H [.int .i64 x] (H.set b ⟨0, [cd, .int .i64 p, .int .u64 a]⟩) = ([.int .i64 x], H.set b ⟨0, [cd, .int .i64 p, .int .u64 a]⟩) := fun p a x => by
    have hf : flatO H.length (srcO cd ⟨p, a⟩) := flatO_src (by
      have := (hcd (srcO cd s)).old
      rwa [hself] at this) _
    have := cleanup_upd (L := []) (vs := [.int .i64 x]) ((Upd.rfl' H).set' (b := b) hf) (by simp)
    rwa [List.append_nil] at this
  have hN : IntKind.u64.wrap (IntKind.u64.wrap (s.hash * 6364136223846793005) + 1442695040888963407) = hsN s := rfl
  have hX : IntKind.i64.wrap (iand .u64 (ishr .u64 (hsN s) 33) 16777215) = hsX s := rfl
  unfold srcN srcS
  by_cases hn : n < 1
  · rw [if_pos hn, if_pos hn, hself]
    simp (disch := first | assumption | omega | (simp [*] <;> omega) | fail) [i_spec_l01Next, hn]
  · rw [if_neg hn, if_neg hn]
    unfold srcO at hb ⊢
    have hx1 := hsX_ok s
    have hx2 := hx.at s.pos
    obtain ⟨A, hA⟩ : ∃ A, A = hsX s := ⟨_, rfl⟩
    obtain ⟨B, hB⟩ : ∃ B, B = hsN s := ⟨_, rfl⟩
    by_cases hp : s.pos < xs.length
    · have hl := hx.len
      have e1 := fun o => (hcd o).vlen
      have e2 := fun o => (hcd o).vidx (k := .i64) (j := (s.pos : Int)) (by omega) (by rw [bys_length]; omega)
      have e3 := fun o => (hcd o).vload (j := s.pos) (by rw [bys_length]; omega)
      simp only [bys_get] at e3
      rw [if_pos hp, if_pos hp]
      obtain ⟨y, hy⟩ : ∃ y, y = xs.getD s.pos 0 := ⟨_, rfl⟩
      rw [← hy] at e3 hx2 ⊢
      rw [← hA] at hX hx1 ⊢
      rw [← hB] at hN hX ⊢
      have w1 : IntKind.i64.wrap y = y := wrap64 (by omega) (by omega)
      have w2 : IntKind.i64.wrap (A + y) = A + y := wrap64 (by omega) (by omega)
      have w3 : IntKind.i64.wrap ((s.pos : Int) + 1) = ((s.pos + 1 : Nat) : Int) := by rw [wrap64 (by omega) (by omega)]; omega
      have w4 : IntKind.i64.wrap ((A + y).tmod n) = (A + y).tmod n := by
        have h1 := Int.tmod_nonneg n (show 0 ≤ A + y by omega)
        have h2 := Int.tmod_lt_of_pos (A + y) (show 0 < n by omega)
        exact wrap64 (by omega) (by omega)
      obtain ⟨p, hp2⟩ : ∃ p, p = s.pos + 1 := ⟨_, rfl⟩
      have hn0 : ¬ n = 0 := by omega
      have hp3 : (s.pos : Int) < xs.length := by omega
      obtain ⟨u, hu⟩ : ∃ u, u = (A + y).tmod n := ⟨_, rfl⟩
      rw [← hp2] at w3 ⊢
      rw [← hu] at w4 ⊢
      have hu2 := hu.symm
      clear hu hA hB hp2 hy hself
      simp (disch := first | assumption | omega | (simp [*] <;> omega) | fail) [-getElem?_pos, List.getElem?_cons_zero, List.getElem?_cons_succ, i_spec_l01Next, hn, hn0, hb, hg, hss, hlt, hnb, e1, e2, e3, hp, hp3, hN, hX, w1, w2, w3, w4, hu2, hcl]
    · have e1 := fun o => (hcd o).vlen
      have hp3 : ¬ (s.pos : Int) < xs.length := by omega
      rw [if_neg hp, if_neg hp, Int.add_zero]
      have hn0 : ¬ n = 0 := by omega
      rw [← hA] at hX hx1 ⊢
      rw [← hB] at hN hX ⊢
      have w4 : IntKind.i64.wrap (A.tmod n) = A.tmod n := by
        have h1 := Int.tmod_nonneg n (show 0 ≤ A by omega)
        have h2 := Int.tmod_lt_of_pos A (show 0 < n by omega)
        exact wrap64 (by omega) (by omega)
      obtain ⟨u, hu⟩ : ∃ u, u = A.tmod n := ⟨_, rfl⟩
      rw [← hu] at w4 ⊢
      have hu2 := hu.symm
      clear hu hA hB hself
      simp (disch := first | assumption | omega | (simp [*] <;> omega) | fail) [-getElem?_pos, List.getElem?_cons_zero, List.getElem?_cons_succ, i_spec_l01Next, hn, hn0, hb, hg, hss, hlt, hnb, e1, hp, hp3, hN, hX, w4, hu2, hcl]

/-! ### the source in a heap -/
structure Srce (nro : Nat) (H : VH) (b : Nat) (cd : Value) (xs : List Int) (s : SS) : Prop where
  at' : H[b]? = some (srcO cd s)
  nr : nro ≤ b
  code : Code' xs
  ok : SOK xs s
  sl : ∀ o, Sl (H.set b o) cd (bys xs)
section
variable {H : VH} {b : Nat} {cd : Value} {xs : List Int} {s : SS} (S : Srce nro H b cd xs s)
include S
theorem Srce.lt : b < H.length := (List.getElem?_eq_some_iff.mp S.at').1
theorem Srce.set {s' : SS} (h : SOK xs s') (L : VH) : Srce nro (H.set b (srcO cd s') ++ L) b cd xs s' := by
  have hlt := S.lt
  refine ⟨?_, S.nr, S.code, h, fun o => ?_⟩
  · rw [List.getElem?_append_left (by simpa using hlt)]; simp [hlt]
  · rw [List.set_append_left _ _ (by simpa using hlt), List.set_set]
    exact (S.sl o).app L
theorem Srce.next (n : Int) (h1 : n ≤ 9223372036854775807) : vcall F nro k_spec_l01Next [.pointer (some ⟨b, 0, some 3⟩), .int .i64 n] H = some (.int .i64 (srcN xs s n), H.set b (srcO cd (srcS xs s n))) :=
  c_spec_l01Next H b cd xs s n S.at' S.nr S.code S.ok S.sl h1
theorem Srce.nextA {s' : SS} (h : SOK xs s') (L : VH) (n : Int) (h1 : n ≤ 9223372036854775807) : vcall F nro k_spec_l01Next [.pointer (some ⟨b, 0, some 3⟩), .int .i64 n] (H.set b (srcO cd s') ++ L) = some (.int .i64 (srcN xs s' n), H.set b (srcO cd (srcS xs s' n)) ++ L) := by
  have := (S.set h L).next n h1
  rw [this, List.set_append_left _ _ (by simpa using S.lt), List.set_set]
theorem Srce.clean {s' : SS} (L : VH) {vs : List Value} (hv : ∀ v ∈ vs, Old H.length v) : kclean H vs (H.set b (srcO cd s') ++ L) = (vs, H.set b (srcO cd s')) := by
  have hself : H.set b (srcO cd s) = H := hset_self S.at'
  have hf : flatO H.length (srcO cd s') := flatO_src (by
    have := (S.sl (srcO cd s)).old
    rwa [hself] at this) _
  exact cleanup_upd ((Upd.rfl' H).set' (b := b) hf) hv
theorem Srce.clean0 {s' : SS} {vs : List Value} (hv : ∀ v ∈ vs, Old H.length v) : kclean H vs (H.set b (srcO cd s')) = (vs, H.set b (srcO cd s')) := by
  have := S.clean (s' := s') [] hv
  rwa [List.append_nil] at this

/-- One of some numbers. -/
theorem Srce.pick (q : Value) (ys : List Int) (hq : ∀ o, Sli (H.set b o) q ys) (h0 : 1 ≤ ys.length) (h1 : ys.length ≤ 100) :
    vcall F nro k_spec_l01Pick [.pointer (some ⟨b, 0, some 3⟩), q] H = some (.int .i64 (ys.getD (srcN xs s ys.length).toNat 0), H.set b (srcO cd (srcS xs s ys.length))) := by
  have hlt := S.lt
  have hself : H.set b (srcO cd s) = H := hset_self S.at'
  refine v_spec_l01Pick (by simp [i_spec_l01Pick]) ?_
  rw [fbody_eq]
  have e0 := (hq (srcO cd s)).vlen
  rw [hself] at e0
  have hn := S.next ys.length (by omega)
  obtain ⟨a1, a2, _⟩ := srcN_ok S.code s ys.length
  have a3 := a2 (by omega)
  obtain ⟨x, hx⟩ : ∃ x, x = srcN xs s ys.length := ⟨_, rfl⟩
  obtain ⟨s', hs'⟩ : ∃ s', s' = srcS xs s ys.length := ⟨_, rfl⟩
  rw [← hx] at hn a1 a3 ⊢
  rw [← hs'] at hn ⊢
  have e1 := (hq (srcO cd s')).vidx (k := .i64) (j := x) a1 a3
  have e2 := (hq (srcO cd s')).vload (j := x.toNat) (by omega)
  have e3 : ys[x.toNat]'(by omega) = ys.getD x.toNat 0 := by rw [List.getD_eq_getElem?_getD, List.getElem?_eq_getElem (by omega)]; rfl
  rw [e3] at e2
  have hc := fun vs => S.clean0 (s' := s') (vs := vs)
  obtain ⟨y, hy⟩ : ∃ y, y = ys.getD x.toNat 0 := ⟨_, rfl⟩
  rw [← hy] at e2 ⊢
  clear hy e3 hs' hself
  simp (disch := first | assumption | omega | (simp [*] <;> omega) | fail) [-getElem?_pos, List.getElem?_cons_zero, List.getElem?_cons_succ, i_spec_l01Pick, e0, hn, e1, e2, hc]
end
end Go.Proofs.Ytbilmoahcnllmaa.Zv

/- A row's arguments, opened: codes. -/
namespace Go.Proofs.Ytbilmoahcnllmaa.Zv
open Go Go.ChangeShapes Go.WideShapes Go.ChangeAt Go.RowKit

theorem IsRow.code {W : World} {a : Option Addr} {len cap : Nat} {zs : List Int} (h : IsRow .u8 W a len cap zs) : Code' (zs.take len) := by
  refine ⟨h.len, fun x hx => ?_⟩
  have hx := List.mem_of_mem_take hx
  rcases h with ⟨_, _, _, rfl⟩ | ⟨_, _, _, _, _, _, hw⟩
  · cases hx
  · have := hw x hx
    simp [Lit.wf, IntKind.min, IntKind.max, IntKind.signed, IntKind.bits] at this
    omega

theorem in_bytes {H : Type} {enc : TypeId × Value → H} {P : Program} {W : World} {held : Bool} {t e : TypeId} {base : Nat} {v : Value} {d : DataW H} {p : List MemPlace} (ht : P.underlying t = some (.slice e)) (he : P.underlying e = some (.int .u8)) (hc : P.cellsOf e = 1) (hv : Value.okWide P W .any base t v) (h : DataW.Trod enc P W 0 (fun _ => true) held t v d p) :
    ∃ a len cap zs, v = .slice a len cap ∧ IsRow .u8 W a len cap zs := by
  obtain ⟨a2, l2, cp2, rfl⟩ := okWide_slice ht hv
  obtain ⟨m1, hm1⟩ := h
  obtain ⟨a2', l2', cp2', z2, e2, w2⟩ := IsRow.of ht he hc (v := .slice a2 l2 cp2) (by simpa [Value.cells] using hm1)
  exact ⟨_, _, _, z2, e2, w2⟩
end Go.Proofs.Ytbilmoahcnllmaa.Zv

/- A function in parts, one after the other. -/
namespace Go.Proofs.Ytbilmoahcnllmaa.Zv
open Go

/-- The first parts of a sequence, and the others. -/
def takeS : Nat → FC → FC
  | 0, .seq a _ => a
  | k + 1, .seq a b => .seq a (takeS k b)
  | _, c => c
def dropS : Nat → FC → FC
  | 0, c => c
  | k + 1, .seq _ b => dropS k b
  | _ + 1, c => c
def nseq : FC → Nat
  | .seq _ b => nseq b + 1
  | _ => 0
theorem kseq_kseq (call : VCall) (nro : Nat) (a b : FC) (r : Option (VX × FE × VH)) : kseq call nro (.seq a b) r = kseq call nro b (kseq call nro a r) := by
  match r with
  | none => rfl
  | some (.normal, e, h) => rw [kseq_normal, fcode_seq, kseq_normal]
  | some (.ret, e, h) => rfl
  | some (.exit i, e, h) => rfl
theorem kseq_parts (call : VCall) (nro : Nat) : ∀ (k : Nat) (c : FC) (r : Option (VX × FE × VH)), k + 1 ≤ nseq c → kseq call nro c r = kseq call nro (dropS (k + 1) c) (kseq call nro (takeS k c) r)
  | 0, .seq a b, r, _ => kseq_kseq call nro a b r
  | k + 1, .seq a b, r, h => by
    have h2 : k + 1 ≤ nseq b := by simp [nseq] at h; omega
    rw [kseq_kseq, kseq_parts call nro k b _ h2]
    show _ = kseq call nro (dropS (k + 1) b) (kseq call nro (.seq a (takeS k b)) r)
    rw [kseq_kseq]
theorem fcode_parts (call : VCall) (nro : Nat) (k : Nat) (c : FC) (e : FE) (h : VH) (hk : k + 1 ≤ nseq c) : fcode call nro c e h = kseq call nro (dropS (k + 1) c) (fcode call nro (takeS k c) e h) := by
  have := kseq_parts call nro k c (some (.normal, e, h)) hk
  rwa [kseq_normal, kseq_normal] at this
end Go.Proofs.Ytbilmoahcnllmaa.Zv

/- Loops that count up, told once. -/
namespace Go.Proofs.Ytbilmoahcnllmaa.Zv
open Go

/-- Folding over i, i + 1, .., n - 1. -/
def upF {α : Type} (f : Nat → α → α) (n i : Nat) (a : α) : α := if i < n then upF f n (i + 1) (f i a) else a
 termination_by n - i
theorem upF_end {α : Type} {f : Nat → α → α} {n i : Nat} {a : α} (h : ¬ i < n) : upF f n i a = a := by rw [upF, if_neg h]
theorem upF_step {α : Type} {f : Nat → α → α} {n i : Nat} {a : α} (h : i < n) : upF f n i a = upF f n (i + 1) (f i a) := by conv => lhs; rw [upF, if_pos h]
theorem upF_inv {α : Type} {f : Nat → α → α} {n : Nat} (I : Nat → α → Prop) (hs : ∀ i a, i < n → I i a → I (i + 1) (f i a)) (i : Nat) (a : α) (hi : i ≤ n) (h : I i a) : I n (upF f n i a) := by
  by_cases hlt : i < n
  · rw [upF_step hlt]
    exact upF_inv I hs (i + 1) (f i a) hlt (hs i a hlt h)
  · rw [upF_end hlt]
    have : i = n := by omega
    rw [← this]; exact h
 termination_by n - i
theorem upF_congr {α : Type} {f g : Nat → α → α} {n : Nat} (I : Nat → α → Prop) (hs : ∀ i a, i < n → I i a → I (i + 1) (f i a)) (hfg : ∀ i a, i < n → I i a → f i a = g i a) (i : Nat) (a : α) (h : I i a) : upF f n i a = upF g n i a := by
  by_cases hlt : i < n
  · rw [upF_step hlt, upF_step hlt, ← hfg i a hlt h]
    exact upF_congr I hs hfg (i + 1) (f i a) (hs i a hlt h)
  · rw [upF_end hlt, upF_end hlt]
 termination_by n - i
section
variable {call : VCall} {nro : Nat} {live : List Nat} {c : FC} {h0 : VH} {n : Nat}

/-- A loop that counts up to n. -/
theorem for_up {α : Type} (V : Nat → α → List Value) (H : Nat → α → VH) (f : Nat → α → α) (I : Nat → α → Prop) (R : α → Option (VX × FE × VH))
    (step : ∀ i a, i < n → (i : Int) < n → I i a → I (i + 1) (f i a) ∧ floop call nro live c h0 (V i a) (H i a) = floop call nro live c h0 (V (i + 1) (f i a)) (H (i + 1) (f i a)))
    (stop : ∀ a, I n a → floop call nro live c h0 (V n a) (H n a) = R a) (i : Nat) (a : α) (hi : i ≤ n) (h : I i a) :
    floop call nro live c h0 (V i a) (H i a) = R (upF f n i a) ∧ I n (upF f n i a) := by
  by_cases hlt : i < n
  · obtain ⟨h1, h2⟩ := step i a hlt (by omega) h
    rw [h2, upF_step hlt]
    exact for_up V H f I R step stop (i + 1) (f i a) hlt h1
  · have : i = n := by omega
    subst this
    rw [upF_end hlt]
    exact ⟨stop a h, h⟩
 termination_by n - i

open Classical in
/-- A loop that looks for something bad. -/
theorem for_find (V : Nat → List Value) (h : VH) (bad : Nat → Prop) (r d : Option (VX × FE × VH))
    (step : ∀ i, i < n → (i : Int) < n → (bad i → floop call nro live c h0 (V i) h = r) ∧ (¬ bad i → floop call nro live c h0 (V i) h = floop call nro live c h0 (V (i + 1)) h))
    (stop : floop call nro live c h0 (V n) h = d) (i : Nat) (hi : i ≤ n) :
    floop call nro live c h0 (V i) h = if ∃ j, i ≤ j ∧ j < n ∧ bad j then r else d := by
  by_cases hlt : i < n
  · obtain ⟨h1, h2⟩ := step i hlt (by omega)
    by_cases hb : bad i
    · rw [h1 hb, if_pos ⟨i, Nat.le_refl _, hlt, hb⟩]
    · rw [h2 hb, for_find V h bad r d step stop (i + 1) hlt]
      have : (∃ j, i + 1 ≤ j ∧ j < n ∧ bad j) ↔ ∃ j, i ≤ j ∧ j < n ∧ bad j := by
        constructor
        · rintro ⟨j, h1, h2, h3⟩; exact ⟨j, by omega, h2, h3⟩
        · rintro ⟨j, h1, h2, h3⟩
          refine ⟨j, ?_, h2, h3⟩
          have : j ≠ i := fun e => hb (e ▸ h3)
          omega
      simp only [this]
  · have : i = n := by omega
    subst this
    rw [stop, if_neg]
    rintro ⟨j, h1, h2, _⟩
    omega
 termination_by n - i

/-- The same, the state being found. -/
theorem for_upR {α : Type} (V : Nat → α → List Value) (H : Nat → α → VH) (I : Nat → α → Prop) (R : α → Option (VX × FE × VH))
    (step : ∀ i a, i < n → (i : Int) < n → I i a → ∃ a', I (i + 1) a' ∧ floop call nro live c h0 (V i a) (H i a) = floop call nro live c h0 (V (i + 1) a') (H (i + 1) a'))
    (stop : ∀ a, I n a → floop call nro live c h0 (V n a) (H n a) = R a) (i : Nat) (a : α) (hi : i ≤ n) (h : I i a) :
    ∃ a', I n a' ∧ floop call nro live c h0 (V i a) (H i a) = R a' := by
  by_cases hlt : i < n
  · obtain ⟨a', h1, h2⟩ := step i a hlt (by omega) h
    rw [h2]
    exact for_upR V H I R step stop (i + 1) a' hlt h1
  · have : i = n := by omega
    subst this
    exact ⟨a, h, stop a h⟩
 termination_by n - i
end
end Go.Proofs.Ytbilmoahcnllmaa.Zv

/- Groups as the program has them: sums, turns with mirrors, lines. What their products obey, in plain numbers. -/
namespace Go.Proofs.Ytbilmoahcnllmaa.Zv
open Go

/-- The product of two elements. -/
def gmul (k n x y : Nat) : Nat :=
  if k = 0 then (x + y) % n
  else if k = 1 then (x / n + y / n) % 2 * n + (if x < n then (x + y % n) % n else (x % n + n - y % n) % n)
  else ((x / n + 1) * (y / n + 1) % n - 1) * n + ((x / n + 1) * (y % n) + x % n) % n
/-- The number of elements. -/
def gord (k n : Nat) : Nat := if k = 0 then n else if k = 1 then 2 * n else n * (n - 1)
/-- The groups. -/
def isGp (k n : Nat) : Prop := (k = 0 ∧ 1 ≤ n ∧ n ≤ 62) ∨ (k = 1 ∧ 1 ≤ n ∧ n ≤ 31) ∨ (k = 2 ∧ (n = 2 ∨ n = 3 ∨ n = 5 ∨ n = 7))

/-- What is needed of a product with the one 0. -/
structure GL (N : Nat) (m : Nat → Nat → Nat) : Prop where
  pos : 0 < N
  le : N ≤ 62
  lt : ∀ x y, x < N → y < N → m x y < N
  as3 : ∀ x y z, x < N → y < N → z < N → m (m x y) z = m x (m y z)
  zl : ∀ x, x < N → m 0 x = x
  zr : ∀ x, x < N → m x 0 = x
  inv : ∀ x, x < N → ∃ y, y < N ∧ m x y = 0 ∧ m y x = 0

theorem md_two {a n : Nat} (h : a < 2 * n) : (a < n ∧ a % n = a) ∨ (n ≤ a ∧ a % n = a - n) := by
  by_cases c : a < n
  · exact .inl ⟨c, Nat.mod_eq_of_lt c⟩
  · refine .inr ⟨by omega, ?_⟩
    rw [Nat.mod_eq_sub_mod (by omega), Nat.mod_eq_of_lt (by omega)]
theorem md_tw {a n r : Nat} (h : a < 2 * n) (e : a % n = r) : (a < n ∧ r = a) ∨ (n ≤ a ∧ r = a - n) := by
  rcases md_two h with ⟨h1, h2⟩ | ⟨h1, h2⟩
  · exact .inl ⟨h1, by omega⟩
  · exact .inr ⟨h1, by omega⟩
theorem gl_pair {n e i : Nat} (hi : i < n) : (e * n + i) / n = e ∧ (e * n + i) % n = i := by
  have : 0 < n := by omega
  refine ⟨?_, ?_⟩
  · rw [Nat.mul_comm, Nat.mul_add_div this, Nat.div_eq_of_lt hi, Nat.add_zero]
  · rw [Nat.mul_comm, Nat.mul_add_mod, Nat.mod_eq_of_lt hi]
theorem gl_split (n x : Nat) : x = x / n * n + x % n := by
  have := Nat.div_add_mod x n
  rw [Nat.mul_comm] at this; exact this.symm

theorem gl_zero {n : Nat} (h1 : 1 ≤ n) (h2 : n ≤ 62) : GL n (gmul 0 n) where
  pos := h1
  le := h2
  lt x y hx hy := by simp only [gmul, if_pos]; exact Nat.mod_lt _ (by omega)
  as3 x y z hx hy hz := by
    simp only [gmul, if_pos]
    rw [Nat.mod_add_mod, Nat.add_mod_mod, Nat.add_assoc]
  zl x hx := by simp only [gmul, if_pos, Nat.zero_add]; exact Nat.mod_eq_of_lt hx
  zr x hx := by simp only [gmul, if_pos, Nat.add_zero]; exact Nat.mod_eq_of_lt hx
  inv x hx := by
    refine ⟨(n - x) % n, Nat.mod_lt _ (by omega), ?_, ?_⟩ <;> simp only [gmul, if_pos]
    · rw [Nat.add_mod_mod, show x + (n - x) = n by omega, Nat.mod_self]
    · rw [Nat.mod_add_mod, show n - x + x = n by omega, Nat.mod_self]

theorem gl_one {n : Nat} (h1 : 1 ≤ n) (h2 : n ≤ 31) : GL (2 * n) (gmul 1 n) := by
  have key : ∀ x y, gmul 1 n x y = (x / n + y / n) % 2 * n + (if x < n then (x + y % n) % n else (x % n + n - y % n) % n) := fun x y => by simp [gmul]
  have hI : ∀ x y, (if x < n then (x + y % n) % n else (x % n + n - y % n) % n) < n := fun x y => by
    split <;> exact Nat.mod_lt _ (by omega)
  have hE : ∀ x, x < 2 * n → (x < n ∧ x / n = 0 ∧ x % n = x) ∨ (n ≤ x ∧ x / n = 1 ∧ x % n = x - n) := fun x hx => by
    by_cases c : x < n
    · exact .inl ⟨c, Nat.div_eq_of_lt c, Nat.mod_eq_of_lt c⟩
    · refine .inr ⟨by omega, ?_, ?_⟩
      · rw [Nat.div_eq_sub_div (by omega) (by omega), Nat.div_eq_of_lt (by omega)]
      · rw [Nat.mod_eq_sub_mod (by omega), Nat.mod_eq_of_lt (by omega)]
  have h00 : ∀ x y, x < n → y < n → gmul 1 n x y = (x + y) % n := fun x y hx hy => by
    rw [key, Nat.div_eq_of_lt hx, Nat.div_eq_of_lt hy, if_pos hx, Nat.mod_eq_of_lt hy]; simp
  have h01 : ∀ x y, x < n → y < n → gmul 1 n x (n + y) = n + (x + y) % n := fun x y hx hy => by
    rw [key, Nat.div_eq_of_lt hx, Nat.add_div_left _ (by omega), Nat.div_eq_of_lt hy, if_pos hx, Nat.add_mod_left, Nat.mod_eq_of_lt hy]; simp
  have h10 : ∀ x y, x < n → y < n → gmul 1 n (n + x) y = n + (x + n - y) % n := fun x y hx hy => by
    rw [key, Nat.div_eq_of_lt hy, Nat.add_div_left _ (by omega), Nat.div_eq_of_lt hx, if_neg (by omega), Nat.add_mod_left, Nat.mod_eq_of_lt hy, Nat.mod_eq_of_lt hx]; simp
  have h11 : ∀ x y, x < n → y < n → gmul 1 n (n + x) (n + y) = (x + n - y) % n := fun x y hx hy => by
    rw [key, Nat.add_div_left _ (by omega), Nat.div_eq_of_lt hx, Nat.add_div_left _ (by omega), Nat.div_eq_of_lt hy, if_neg (by omega), Nat.add_mod_left, Nat.mod_eq_of_lt hx, Nat.add_mod_left, Nat.mod_eq_of_lt hy]; simp
  have cs : ∀ x, x < 2 * n → ∃ i, i < n ∧ (x = i ∨ x = n + i) := fun x hx => by
    by_cases c : x < n
    · exact ⟨x, c, .inl rfl⟩
    · exact ⟨x - n, by omega, .inr (by omega)⟩
  have ml : ∀ a, a % n < n := fun a => Nat.mod_lt _ (by omega)
  refine ⟨by omega, by omega, ?_, ?_, ?_, ?_, ?_⟩
  · intro x y hx hy
    obtain ⟨i, hi, rfl | rfl⟩ := cs x hx <;> obtain ⟨j, hj, rfl | rfl⟩ := cs y hy
    · rw [h00 _ _ hi hj]; have := ml (x + y); omega
    · rw [h01 _ _ hi hj]; have := ml (x + j); omega
    · rw [h10 _ _ hi hj]; have := ml (i + n - y); omega
    · rw [h11 _ _ hi hj]; have := ml (i + n - j); omega
  · intro x y z hx hy hz
    obtain ⟨i, hi, rfl | rfl⟩ := cs x hx <;> obtain ⟨j, hj, rfl | rfl⟩ := cs y hy <;> obtain ⟨k, hk, rfl | rfl⟩ := cs z hz
    · rw [h00 _ _ hi hj, h00 _ _ (ml _) hk, h00 _ _ hj hk, h00 _ _ hi (ml _), Nat.mod_add_mod, Nat.add_mod_mod, Nat.add_assoc]
    · rw [h00 _ _ hi hj, h01 _ _ (ml _) hk, h01 _ _ hj hk, h01 _ _ hi (ml _), Nat.mod_add_mod, Nat.add_mod_mod, Nat.add_assoc]
    · rw [h01 _ _ hi hj, h10 _ _ (ml _) hk, h10 _ _ hj hk, h01 _ _ hi (ml _)]
      generalize e1 : (x + j) % n = r1
      generalize e2 : (j + n - z) % n = r2
      have d1 := md_tw (by omega) e1
      have d2 := md_tw (by omega) e2
      generalize e3 : (r1 + n - z) % n = r3
      generalize e4 : (x + r2) % n = r4
      have d3 := md_tw (by omega) e3
      have d4 := md_tw (by omega) e4
      clear e1 e2 e3 e4 hE hI h00 h01 h10 h11 cs ml key
      omega
    · rw [h01 _ _ hi hj, h11 _ _ (ml _) hk, h11 _ _ hj hk, h00 _ _ hi (ml _)]
      generalize e1 : (x + j) % n = r1
      generalize e2 : (j + n - k) % n = r2
      have d1 := md_tw (by omega) e1
      have d2 := md_tw (by omega) e2
      generalize e3 : (r1 + n - k) % n = r3
      generalize e4 : (x + r2) % n = r4
      have d3 := md_tw (by omega) e3
      have d4 := md_tw (by omega) e4
      clear e1 e2 e3 e4 hE hI h00 h01 h10 h11 cs ml key
      omega
    · rw [h10 _ _ hi hj, h10 _ _ (ml _) hk, h00 _ _ hj hk, h10 _ _ hi (ml _)]
      generalize e1 : (i + n - y) % n = r1
      generalize e2 : (y + z) % n = r2
      have d1 := md_tw (by omega) e1
      have d2 := md_tw (by omega) e2
      generalize e3 : (r1 + n - z) % n = r3
      generalize e4 : (i + n - r2) % n = r4
      have d3 := md_tw (by omega) e3
      have d4 := md_tw (by omega) e4
      clear e1 e2 e3 e4 hE hI h00 h01 h10 h11 cs ml key
      omega
    · rw [h10 _ _ hi hj, h11 _ _ (ml _) hk, h01 _ _ hj hk, h11 _ _ hi (ml _)]
      generalize e1 : (i + n - y) % n = r1
      generalize e2 : (y + k) % n = r2
      have d1 := md_tw (by omega) e1
      have d2 := md_tw (by omega) e2
      generalize e3 : (r1 + n - k) % n = r3
      generalize e4 : (i + n - r2) % n = r4
      have d3 := md_tw (by omega) e3
      have d4 := md_tw (by omega) e4
      clear e1 e2 e3 e4 hE hI h00 h01 h10 h11 cs ml key
      omega
    · rw [h11 _ _ hi hj, h00 _ _ (ml _) hk, h10 _ _ hj hk, h11 _ _ hi (ml _)]
      generalize e1 : (i + n - j) % n = r1
      generalize e2 : (j + n - z) % n = r2
      have d1 := md_tw (by omega) e1
      have d2 := md_tw (by omega) e2
      generalize e3 : (r1 + z) % n = r3
      generalize e4 : (i + n - r2) % n = r4
      have d3 := md_tw (by omega) e3
      have d4 := md_tw (by omega) e4
      clear e1 e2 e3 e4 hE hI h00 h01 h10 h11 cs ml key
      omega
    · rw [h11 _ _ hi hj, h01 _ _ (ml _) hk, h11 _ _ hj hk, h10 _ _ hi (ml _)]
      generalize e1 : (i + n - j) % n = r1
      generalize e2 : (j + n - k) % n = r2
      have d1 := md_tw (by omega) e1
      have d2 := md_tw (by omega) e2
      generalize e3 : (r1 + k) % n = r3
      generalize e4 : (i + n - r2) % n = r4
      have d3 := md_tw (by omega) e3
      have d4 := md_tw (by omega) e4
      clear e1 e2 e3 e4 hE hI h00 h01 h10 h11 cs ml key
      omega
  · intro x hx
    obtain ⟨i, hi, rfl | rfl⟩ := cs x hx
    · rw [h00 _ _ (by omega) hi, Nat.zero_add, Nat.mod_eq_of_lt hi]
    · rw [h01 _ _ (by omega) hi, Nat.zero_add, Nat.mod_eq_of_lt hi]
  · intro x hx
    obtain ⟨i, hi, rfl | rfl⟩ := cs x hx
    · rw [h00 _ _ hi (by omega), Nat.add_zero, Nat.mod_eq_of_lt hi]
    · rw [h10 _ _ hi (by omega), Nat.sub_zero, Nat.add_mod_right, Nat.mod_eq_of_lt hi]
  · intro x hx
    obtain ⟨i, hi, rfl | rfl⟩ := cs x hx
    · refine ⟨(n - x) % n, by have := ml (n - x); omega, ?_, ?_⟩
      · rw [h00 _ _ hi (ml _), Nat.add_mod_mod, show x + (n - x) = n by omega, Nat.mod_self]
      · rw [h00 _ _ (ml _) hi, Nat.mod_add_mod, show n - x + x = n by omega, Nat.mod_self]
    · refine ⟨n + i, hx, ?_, ?_⟩ <;> rw [h11 _ _ hi hi, show i + n - i = n by omega, Nat.mod_self]

theorem gl_two {n : Nat} (hn : n = 2 ∨ n = 3 ∨ n = 5 ∨ n = 7) : GL (n * (n - 1)) (gmul 2 n) := by
  have key : ∀ x y, gmul 2 n x y = ((x / n + 1) * (y / n + 1) % n - 1) * n + ((x / n + 1) * (y % n) + x % n) % n := fun x y => by simp [gmul]
  have n1 : 1 < n := by omega
  have nz : ∀ a, a < n → ∀ c, c < n → a ≠ 0 → c ≠ 0 → a * c % n ≠ 0 := by
    rcases hn with rfl | rfl | rfl | rfl <;> decide
  have iv : ∀ x, x < n * (n - 1) → ∃ y, y < n * (n - 1) ∧ gmul 2 n x y = 0 ∧ gmul 2 n y x = 0 := by
    rcases hn with rfl | rfl | rfl | rfl <;> decide +kernel
  have cs : ∀ x, x < n * (n - 1) → ∃ a b, 0 < a ∧ a < n ∧ b < n ∧ x = (a - 1) * n + b := fun x hx => by
    refine ⟨x / n + 1, x % n, Nat.succ_pos _, ?_, Nat.mod_lt _ (by omega), ?_⟩
    · have : x / n < n - 1 := Nat.div_lt_of_lt_mul hx
      omega
    · simpa using gl_split n x
  have pr : ∀ a b c d, 0 < a → a < n → b < n → 0 < c → c < n → d < n → gmul 2 n ((a - 1) * n + b) ((c - 1) * n + d) = (a * c % n - 1) * n + (a * d + b) % n := fun a b c d a0 a1 b1 c0 c1 d1 => by
    rw [key, (gl_pair b1).1, (gl_pair b1).2, (gl_pair d1).1, (gl_pair d1).2, show a - 1 + 1 = a by omega, show c - 1 + 1 = c by omega]
  have bd : ∀ a b, 0 < a → a < n → b < n → (a - 1) * n + b < n * (n - 1) := fun a b a0 a1 b1 => by
    have : (a - 1) * n + n ≤ n * (n - 1) := by
      rw [show (a - 1) * n + n = (a - 1 + 1) * n by rw [Nat.add_mul, Nat.one_mul], Nat.mul_comm n]
      exact Nat.mul_le_mul_right _ (by omega)
    omega
  have ml : ∀ a, a % n < n := fun a => Nat.mod_lt _ (by omega)
  have nz' : ∀ a c, 0 < a → a < n → 0 < c → c < n → 0 < a * c % n := fun a c h1 h2 h3 h4 => Nat.pos_of_ne_zero (nz a h2 c h4 (by omega) (by omega))
  refine ⟨?_, ?_, ?_, ?_, ?_, ?_, iv⟩
  · rcases hn with rfl | rfl | rfl | rfl <;> decide
  · rcases hn with rfl | rfl | rfl | rfl <;> decide
  · intro x y hx hy
    obtain ⟨a, b, a0, a1, b1, rfl⟩ := cs x hx
    obtain ⟨c, d, c0, c1, d1, rfl⟩ := cs y hy
    rw [pr a b c d a0 a1 b1 c0 c1 d1]
    exact bd _ _ (nz' a c a0 a1 c0 c1) (ml _) (ml _)
  · intro x y z hx hy hz
    obtain ⟨a, b, a0, a1, b1, rfl⟩ := cs x hx
    obtain ⟨c, d, c0, c1, d1, rfl⟩ := cs y hy
    obtain ⟨e, f, e0, e1, f1, rfl⟩ := cs z hz
    rw [pr a b c d a0 a1 b1 c0 c1 d1, pr _ _ e f (nz' a c a0 a1 c0 c1) (ml _) (ml _) e0 e1 f1, pr c d e f c0 c1 d1 e0 e1 f1, pr a b _ _ a0 a1 b1 (nz' c e c0 c1 e0 e1) (ml _) (ml _)]
    congr 1
    · congr 2
      rw [Nat.mod_mul_mod, Nat.mul_mod_mod, Nat.mul_assoc]
    · have q1 : (a * c % n * f + (a * d + b) % n) % n = (a * c * f + (a * d + b)) % n := by
        rw [Nat.add_mod_mod, Nat.add_mod, Nat.mod_mul_mod, ← Nat.add_mod]
      have q2 : (a * ((c * f + d) % n) + b) % n = (a * (c * f + d) + b) % n := by
        rw [Nat.add_mod, Nat.mul_mod_mod, ← Nat.add_mod]
      rw [q1, q2, Nat.mul_add, Nat.mul_assoc, Nat.add_assoc]
  · intro x hx
    obtain ⟨c, d, c0, c1, d1, rfl⟩ := cs x hx
    have := pr 1 0 c d (by omega) n1 (by omega) c0 c1 d1
    simp only [Nat.sub_self, Nat.zero_mul, Nat.zero_add, Nat.one_mul, Nat.add_zero] at this
    rw [this, Nat.mod_eq_of_lt c1, Nat.mod_eq_of_lt d1]
  · intro x hx
    obtain ⟨a, b, a0, a1, b1, rfl⟩ := cs x hx
    have := pr a b 1 0 a0 a1 b1 (by omega) n1 (by omega)
    simp only [Nat.sub_self, Nat.zero_mul, Nat.zero_add, Nat.mul_one, Nat.mul_zero, Nat.add_zero] at this
    rw [this, Nat.mod_eq_of_lt a1, Nat.mod_eq_of_lt b1]
theorem isGp.gl {k n : Nat} (h : isGp k n) : GL (gord k n) (gmul k n) := by
  rcases h with ⟨rfl, h1, h2⟩ | ⟨rfl, h1, h2⟩ | ⟨rfl, h1⟩
  · exact gl_zero h1 h2
  · exact gl_one h1 h2
  · exact gl_two h1
end Go.Proofs.Ytbilmoahcnllmaa.Zv

/- What a graph is, and what the two tests for it compute. -/
namespace Go.Proofs.Ytbilmoahcnllmaa.Zv
open Go
variable {nro : Nat}

theorem c_spec_l01In (n lo hi : Int) (h : VH) : vcall F nro k_spec_l01In [.int .i64 n, .int .i64 lo, .int .i64 hi] h = some (.bool (decide (lo ≤ n ∧ n ≤ hi)), h) := by
  refine v_spec_l01In (by simp [i_spec_l01In]) ?_
  rw [fbody_eq]
  simp [i_spec_l01In]
  split <;> simp <;> omega

/-- The heap with a graph's value in a box of its own. -/
abbrev bx (h : VH) (n : Int) (s : Value) : VH := h ++ [⟨0, [.int .i64 n, s]⟩]
abbrev bp (h : VH) : Value := .pointer (some ⟨h.length, 0, some 2⟩)

end Go.Proofs.Ytbilmoahcnllmaa.Zv

/- Rows of bits that are filled in: edges put in. -/
namespace Go.Proofs.Ytbilmoahcnllmaa.Zv
open Go
variable {nro : Nat}

/-- Bit b of row a is set. -/
noncomputable def set1 (r : List Int) (a b : Int) : List Int := r.set a.toNat (ior .i64 (r.getD a.toNat 0) (ishl .i64 1 b))
noncomputable def put2 (r : List Int) (a b : Int) : List Int := set1 (set1 r a b) b a
@[simp] theorem set1_length (r : List Int) (a b : Int) : (set1 r a b).length = r.length := by simp [set1]
@[simp] theorem put2_length (r : List Int) (a b : Int) : (put2 r a b).length = r.length := by simp [put2]

/-! ### the functions that put an edge -/
@[simp] theorem old_tup0 (n : Nat) : Old n (.tuple #[]) := old_undef n


/-- A graph and the code 0, or no graph and another code. -/
abbrev GAns := (Int × List Int) ⊕ Int
def gres (h : VH) : GAns → Value × VH
  | .inl (m, r) => (.tuple #[gv m (.slice (some ⟨h.length, 0, none⟩) r.length r.length), .int .i64 0], h ++ [⟨1, ints r⟩])
  | .inr c => (.tuple #[gv 0 (.slice none 0 0), .int .i64 c], h)
@[simp] theorem gres_inl (h : VH) (m : Int) (r : List Int) : gres h (.inl (m, r)) = (.tuple #[gv m (.slice (some ⟨h.length, 0, none⟩) r.length r.length), .int .i64 0], h ++ [⟨1, ints r⟩]) := rfl
@[simp] theorem gres_inr (h : VH) (c : Int) : gres h (.inr c) = (.tuple #[gv 0 (.slice none 0 0), .int .i64 c], h) := rfl
end Go.Proofs.Ytbilmoahcnllmaa.Zv

/- Neighbours, vertices that are in range, covers. -/
namespace Go.Proofs.Ytbilmoahcnllmaa.Zv
open Go
variable {nro : Nat}

/-! ### how many bits -/
theorem sli_at {h : VH} {b : Nat} {xs : List Int} (hb : h[b]? = some ⟨1, ints xs⟩) : Sli h (.slice (some ⟨b, 0, none⟩) xs.length xs.length) xs := by simp [Sli, Sl, hb]

/-! ### vertices in range -/
/-! ### neighbours -/
end Go.Proofs.Ytbilmoahcnllmaa.Zv

/- Marks: what is written into a graph's rows, and what is held there. -/
namespace Go.Proofs.Ytbilmoahcnllmaa.Zv
open Go
variable {nro : Nat}

/-- k, k + 1, .. -/
def cnt (k : Int) (n : Nat) : List Int := (List.range n).map fun (i : Nat) => k + (i : Int)
@[simp] theorem cnt_length (k : Int) (n : Nat) : (cnt k n).length = n := by simp [cnt]
@[simp] theorem take_cnt (k : Int) (n : Nat) : List.take n (ints (cnt k n)) = ints (cnt k n) := List.take_of_length_le (by simp)

@[simp] theorem cnt_zero (k : Int) : cnt k 0 = [] := rfl

end Go.Proofs.Ytbilmoahcnllmaa.Zv

/- Edges put in and taken out: PutEdge, TakeEdge. -/
namespace Go.Proofs.Ytbilmoahcnllmaa.Zv
open Go
variable {nro : Nat}

/-! ### copies -/
/-! ### an edge less -/
/-- Bit b of row a is cleared. -/
def cut1 (r : List Int) (a b : Int) : List Int := r.set a.toNat (r.getD a.toNat 0 - 2 ^ b.toNat)
def cut2 (r : List Int) (a b : Int) : List Int := cut1 (cut1 r a b) b a
@[simp] theorem cut1_length (r : List Int) (a b : Int) : (cut1 r a b).length = r.length := by simp [cut1]
@[simp] theorem cut2_length (r : List Int) (a b : Int) : (cut2 r a b).length = r.length := by simp [cut2]

end Go.Proofs.Ytbilmoahcnllmaa.Zv

/- Lists of lists in new memory. -/
namespace Go.Proofs.Ytbilmoahcnllmaa.Zv
open Go
variable {nro : Nat}

/-! ### lists of lists that are read -/
/-! ### marks -/
def tot : List (List Int) → Nat
  | [] => 0
  | e :: es => e.length + tot es
/-- A function's end that hands on nothing new. -/
theorem kclean_take {h H : VH} {vs : List Value} (ht : H.take h.length = h) (hv : ∀ v ∈ vs, Old h.length v) : kclean h vs H = (vs, h) := by
  have e : H = h ++ H.drop h.length := by
    conv => lhs; rw [← List.take_append_drop h.length H, ht]
  rw [e]
  exact cleanup_drop hv

end Go.Proofs.Ytbilmoahcnllmaa.Zv

/- Lists that are told by functions; sums. -/
namespace Go.Proofs.Ytbilmoahcnllmaa.Zv
open Go

/-- The list of a function's values. -/
def tbl (n : Nat) (g : Nat → Int) : List Int := (List.range n).map g
def upd (g : Nat → Int) (u : Nat) (x : Int) : Nat → Int := fun j => if j = u then x else g j
@[simp] theorem tbl_length (n : Nat) (g : Nat → Int) : (tbl n g).length = n := by simp [tbl]
/-- A sum. -/
def sumF (f : Nat → Int) : Nat → Int
  | 0 => 0
  | k + 1 => sumF f k + f k
theorem sumF_congr {f g : Nat → Int} : ∀ {n : Nat}, (∀ i, i < n → f i = g i) → sumF f n = sumF g n
  | 0, _ => rfl
  | n + 1, h => by rw [sumF, sumF, sumF_congr (fun i hi => h i (by omega)), h n (by omega)]
theorem sumF_add (f g : Nat → Int) : ∀ n, sumF (fun i => f i + g i) n = sumF f n + sumF g n
  | 0 => rfl
  | n + 1 => by rw [sumF, sumF, sumF, sumF_add f g n]; omega
theorem sumF_zero : ∀ n, sumF (fun _ => 0) n = 0
  | 0 => rfl
  | n + 1 => by rw [sumF, sumF_zero n]; rfl
theorem sumF_swap (f : Nat → Nat → Int) (m : Nat) : ∀ n, sumF (fun i => sumF (f i) m) n = sumF (fun j => sumF (fun i => f i j) n) m
  | 0 => by simp only [sumF]; exact (sumF_zero m).symm
  | n + 1 => by
    rw [sumF, sumF_swap f m n, ← sumF_add]
    exact sumF_congr fun j _ => rfl
theorem sumF_one {f : Nat → Int} {k : Nat} : ∀ {n : Nat}, k < n → (∀ i, i < n → i ≠ k → f i = 0) → sumF f n = f k
  | 0, h, _ => by omega
  | n + 1, h, h0 => by
    rw [sumF]
    by_cases e : k = n
    · subst e
      have : sumF f k = sumF (fun _ => 0) k := sumF_congr fun i hi => h0 i (by omega) (by omega)
      rw [this, sumF_zero]; omega
    · rw [sumF_one (k := k) (n := n) (by omega) (fun i hi hne => h0 i (by omega) hne), h0 n (by omega) (fun e2 => e e2.symm)]; omega
theorem sumF_le {f g : Nat → Int} : ∀ {n : Nat}, (∀ i, i < n → f i ≤ g i) → sumF f n ≤ sumF g n
  | 0, _ => Int.le_refl _
  | n + 1, h => by
    have h1 := sumF_le (f := f) (g := g) (n := n) (fun i hi => h i (by omega))
    have h2 := h n (by omega)
    rw [sumF, sumF]; omega
end Go.Proofs.Ytbilmoahcnllmaa.Zv

/- The reference's search for distances: a queue. -/
namespace Go.Proofs.Ytbilmoahcnllmaa.Zv
open Go
variable {nro : Nat}

/-! ### the search, without memory -/
/-! ### the code -/
/-- The start. -/
def b0 (v : Nat) : (Nat → Int) × List Int := (upd (fun _ => -1) v 0, [(v : Int)])
end Go.Proofs.Ytbilmoahcnllmaa.Zv

/- The sums of powers, and the girth bound. -/
namespace Go.Proofs.Ytbilmoahcnllmaa.Zv
open Go
variable {nro : Nat}

/-- The powers, and their sums, as far as they are told. -/
def pw (q : Int) : Nat → Int
  | 0 => 1
  | i + 1 => min (pw q i * q) 1000000000001
def pS (q : Int) : Nat → Int
  | 0 => 0
  | i + 1 => min (pS q i + pw q i) 1000000000001
/-- The least number of vertices. -/
def gB (k : Int) (c : Nat) : Int := if c % 2 = 1 then 1 + k * pS (k - 1) ((c - 1) / 2) else 2 * pS (k - 1) (c / 2)
end Go.Proofs.Ytbilmoahcnllmaa.Zv

/- A regular graph without short cycles has many vertices. -/
namespace Go.Proofs.Ytbilmoahcnllmaa.Zv
open Go
open Classical

/-! ### counts -/
noncomputable def oneIf (p : Prop) : Int := if p then 1 else 0
theorem one_pos {p : Prop} (h : p) : oneIf p = 1 := if_pos h
theorem one_neg {p : Prop} (h : ¬ p) : oneIf p = 0 := if_neg h
theorem one_le (p : Prop) : oneIf p ≤ 1 := by unfold oneIf; split <;> omega
/-- At most one. -/
theorem sumF_most {P : Nat → Prop} : ∀ {n : Nat}, (∀ i j, i < n → j < n → P i → P j → i = j) → sumF (fun i => oneIf (P i)) n ≤ 1
  | 0, _ => by simp [sumF]
  | n + 1, h => by
    rw [sumF]
    by_cases hp : P n
    · have : sumF (fun i => oneIf (P i)) n = sumF (fun _ => 0) n := sumF_congr fun i hi => one_neg fun hi2 => by
        have := h i n (by omega) (by omega) hi2 hp
        omega
      rw [this, sumF_zero]
      have := one_le (P n)
      omega
    · rw [one_neg hp]
      have := sumF_most (P := P) (n := n) fun i j hi hj => h i j (by omega) (by omega)
      omega
end Go.Proofs.Ytbilmoahcnllmaa.Zv

/- Sorting: by insertion. -/
namespace Go.Proofs.Ytbilmoahcnllmaa.Zv
open Go
variable {nro : Nat}

theorem c_cmp_Less (x y : Int) (h : VH) : vcall F nro k_cmp_Less_int64 [.int .i64 x, .int .i64 y] h = some (.bool (decide (x < y)), h) := by
  have e : ∀ z : Int, vcall F nro k_cmp_isNaN_int64 [.int .i64 z] h = some (.bool false, h) := fun z => by
    refine v_cmp_isNaN_int64 (by simp [i_cmp_isNaN_int64]) ?_
    rw [fbody_eq]
    simp (disch := first | assumption | omega | (simp [*] <;> omega) | fail) [i_cmp_isNaN_int64]
  refine v_cmp_Less_int64 (by simp [i_cmp_Less_int64]) ?_
  rw [fbody_eq]
  simp (disch := first | assumption | omega | (simp [*] <;> omega) | fail) [i_cmp_Less_int64, e]

/-- The elements of i and j exchanged. -/
def swp (xs : List Int) (i j : Nat) : List Int := (xs.set i (xs.getD j 0)).set j (xs.getD i 0)
@[simp] theorem swp_length (xs : List Int) (i j : Nat) : (swp xs i j).length = xs.length := by simp [swp]
/-- An element brought down to its place. -/
def insD (a : Nat) : Nat → List Int → List Int
  | 0, xs => xs
  | j + 1, xs => if a < j + 1 ∧ xs.getD (j + 1) 0 < xs.getD j 0 then insD a j (swp xs (j + 1) j) else xs
@[simp] theorem insD_length (a : Nat) : ∀ (j : Nat) (xs : List Int), (insD a j xs).length = xs.length
  | 0, _ => rfl
  | j + 1, xs => by
    rw [insD]
    split
    · rw [insD_length a j, swp_length]
    · rfl
/-- Insertion sort of the elements from a to b - 1. -/
def insS (a b : Nat) (xs : List Int) : List Int := upF (fun i xs => insD a i xs) b (a + 1) xs
theorem upF_len {f : Nat → List Int → List Int} (hf : ∀ i xs, (f i xs).length = xs.length) (n i : Nat) (xs : List Int) : (upF f n i xs).length = xs.length := by
  by_cases h : i < n
  · rw [upF_step h, upF_len hf n (i + 1), hf]
  · rw [upF_end h]
 termination_by n - i
@[simp] theorem insS_length (a b : Nat) (xs : List Int) : (insS a b xs).length = xs.length := upF_len (fun i xs => insD_length a i xs) b (a + 1) xs

/-- A list that is changed in its place. -/
structure Inp (nro : Nat) (h0 G : VH) (blk : Nat) (xs : List Int) : Prop where
  at' : G[blk]? = some ⟨1, ints xs⟩
  nr : nro ≤ blk
  upd : Upd h0 G
  len : xs.length ≤ 100000
def ws (blk N : Nat) : Value := .slice (some ⟨blk, 0, none⟩) N N

theorem Inp.lt {h0 G : VH} {blk : Nat} {xs : List Int} (I : Inp nro h0 G blk xs) : blk < G.length := (List.getElem?_eq_some_iff.mp I.at').1
theorem Inp.set {h0 G : VH} {blk : Nat} {xs ys : List Int} (I : Inp nro h0 G blk xs) (hl : ys.length = xs.length) : Inp nro h0 (G.set blk ⟨1, ints ys⟩) blk ys :=
  ⟨by simp [I.lt], I.nr, I.upd.set' (flatO_ints _ _ _), by rw [hl]; exact I.len⟩
theorem Inp.clean {h0 G : VH} {blk : Nat} {xs : List Int} (I : Inp nro h0 G blk xs) {vs : List Value} (hv : ∀ v ∈ vs, Old h0.length v) : kclean h0 vs G = (vs, G) := by
  have := cleanup_upd (L := []) I.upd hv
  rwa [List.append_nil] at this

end Go.Proofs.Ytbilmoahcnllmaa.Zv

