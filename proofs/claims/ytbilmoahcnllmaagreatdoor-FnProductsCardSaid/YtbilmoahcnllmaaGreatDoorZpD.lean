/- Part D of the proof: ZwIr, ZvSym, ZvNum, ZwTz, ZvSl. Conditions: none. -/
import Derived.IntWalk
import Derived.Laws.Pointers
import Derived.Lib.Hide
import Derived.RegionTactic
import Derived.StillTactics
import Derived.Tactics
import Derived.Tactics2
import Derived.Test.YtbilmoahcnllmaaGreatDoorProg
import Derived.Test.YtbilmoahcnllmaaGreatDoorZpB
import Derived.Test.YtbilmoahcnllmaaGreatDoorZpC
set_option linter.unusedSimpArgs false
set_option linter.unusedVariables false
set_option linter.unusedSectionVars false
namespace Go.Proofs.YtbilmoahcnllmaaGreatDoor.Zv
/- The functions' intermediate form. -/
section
open Go
/-- slices.breakPatternsOrdered[int64] -/
def i_zz3_B1 : FC :=
 .seq (.seq (.ops [
 ⟨some 26, .mv (.tmp 9), none, 0⟩,
 ⟨some 27, .mv (.tmp 1), none, 0⟩,
 ⟨some 28, .mv (.tmp 6), none, 0⟩,
 ⟨some 29, .bin .quo (.tmp 28) (.const (.int .i64 4)), none, 0⟩,
 ⟨some 30, .bin .mul (.tmp 29) (.const (.int .i64 2)), none, 0⟩,
 ⟨some 31, .bin .add (.tmp 27) (.tmp 30), none, 0⟩,
 ⟨some 32, .bin .add (.tmp 31) (.const (.int .i64 1)), none, 0⟩,
 ⟨some 33, .bin .leq (.tmp 26) (.tmp 32), none, 0⟩]) <|
 .cond (.tmp 33)
 (.skip)
 (.keep [] <|
 .exit 0)) <|
 .seq (.block 1 <|
 .seq (.ops [
 ⟨some 36, .call k_zz24 [(.tmp 7)], none, 0⟩,
 ⟨some 37, .mv (.tmp 8), none, 0⟩,
 ⟨some 38, .bin .sub (.tmp 37) (.const (.int .u64 1)), none, 0⟩,
 ⟨some 39, .bin .and (.tmp 36) (.tmp 38), none, 0⟩,
 ⟨some 40, .conv .i64 (.tmp 39), none, 0⟩,
 ⟨some 10, .mv (.tmp 40), none, 0⟩]) <|
 .seq (.seq (.ops [
 ⟨some 41, .mv (.tmp 10), none, 0⟩,
 ⟨some 42, .mv (.tmp 6), none, 0⟩,
 ⟨some 43, .bin .geq (.tmp 41) (.tmp 42), none, 0⟩]) <|
 .cond (.tmp 43)
 (.ops [
 ⟨some 44, .mv (.tmp 10), none, 0⟩,
 ⟨some 45, .mv (.tmp 6), none, 0⟩,
 ⟨some 46, .bin .sub (.tmp 44) (.tmp 45), none, 0⟩,
 ⟨some 10, .mv (.tmp 46), none, 0⟩])
 (.skip)) <|
 .dops [
 ⟨some 47, .mv (.tmp 0), none, 0⟩,
 ⟨some 48, .mv (.tmp 9), none, 0⟩,
 ⟨some 53, .mv (.tmp 0), none, 0⟩,
 ⟨some 54, .mv (.tmp 1), none, 0⟩,
 ⟨some 55, .mv (.tmp 10), none, 0⟩,
 ⟨some 56, .bin .add (.tmp 54) (.tmp 55), none, 0⟩,
 ⟨some 57, .idx 1 (.tmp 53) (.tmp 56), none, 0⟩,
 ⟨some 58, .load false 1 (.tmp 57), none, 0⟩,
 ⟨some 59, .mv (.tmp 0), none, 0⟩,
 ⟨some 60, .mv (.tmp 9), none, 0⟩,
 ⟨some 61, .idx 1 (.tmp 59) (.tmp 60), none, 0⟩,
 ⟨some 62, .load false 1 (.tmp 61), none, 0⟩,
 ⟨some 63, .idx 1 (.tmp 47) (.tmp 48), none, 0⟩,
 ⟨none, .store 1 (.tmp 63) (.tmp 58), none, 0⟩,
 ⟨some 49, .mv (.tmp 0), none, 1⟩,
 ⟨some 50, .mv (.tmp 1), none, 1⟩,
 ⟨some 51, .mv (.tmp 10), none, 1⟩,
 ⟨some 52, .bin .add (.tmp 50) (.tmp 51), none, 1⟩,
 ⟨some 64, .idx 1 (.tmp 49) (.tmp 52), none, 0⟩,
 ⟨none, .store 1 (.tmp 64) (.tmp 62), none, 0⟩]) <|
 .ops [
 ⟨some 34, .mv (.tmp 9), none, 0⟩,
 ⟨some 35, .bin .add (.tmp 34) (.const (.int .i64 1)), none, 0⟩,
 ⟨some 9, .mv (.tmp 35), none, 0⟩]
def i_zz3 : FF := ⟨65, [],
 .seq (.ops [
 ⟨some 11, .mv (.tmp 2), none, 0⟩,
 ⟨some 12, .mv (.tmp 1), none, 0⟩,
 ⟨some 13, .bin .sub (.tmp 11) (.tmp 12), none, 0⟩,
 ⟨some 6, .mv (.tmp 13), none, 0⟩]) <|
 .seq (.ops [
 ⟨some 14, .mv (.tmp 6), none, 0⟩,
 ⟨some 15, .bin .geq (.tmp 14) (.const (.int .i64 8)), none, 0⟩]) <|
 .cond (.tmp 15)
 (.seq (.ops [
 ⟨some 16, .mv (.tmp 6), none, 0⟩,
 ⟨some 17, .conv .u64 (.tmp 16), none, 0⟩,
 ⟨some 7, .alloc [.int .u64 0], none, 0⟩,
 ⟨none, .store 1 (.tmp 7) (.tmp 17), none, 0⟩]) <|
 .seq (.ops [
 ⟨some 18, .mv (.tmp 6), none, 0⟩,
 ⟨some 19, .call k_zz20 [(.tmp 18)], none, 0⟩,
 ⟨some 8, .mv (.tmp 19), none, 0⟩]) <|
 .seq (.ops [
 ⟨some 20, .mv (.tmp 1), none, 0⟩,
 ⟨some 21, .mv (.tmp 6), none, 0⟩,
 ⟨some 22, .bin .quo (.tmp 21) (.const (.int .i64 4)), none, 0⟩,
 ⟨some 23, .bin .mul (.tmp 22) (.const (.int .i64 2)), none, 0⟩,
 ⟨some 24, .bin .add (.tmp 20) (.tmp 23), none, 0⟩,
 ⟨some 25, .bin .sub (.tmp 24) (.const (.int .i64 1)), none, 0⟩,
 ⟨some 9, .mv (.tmp 25), none, 0⟩]) <|
 .block 0 <|
 .loop [0, 1, 6, 7, 8, 9] i_zz3_B1)
 (.skip)⟩
theorem e_zz3 : EntOK Tryz.prog (compD Tryz.prog) k_zz3 i_zz3.vf :=
 ⟨Tryz.f122, Tryz.f122.body.getD .skip, Tryz.func122, by kernel_rfl, by kernel_rfl, by kernel_rfl, by kernel_rfl, by kernel_rfl⟩
/-- slices.choosePivotOrdered[int64] -/
def i_zz6 : FF := ⟨57, [.tmp 6, .tmp 7],
 .seq (.ops [
 ⟨some 6, .mv (.const (.int .i64 0)), none, 0⟩,
 ⟨some 7, .mv (.const (.int .i64 0)), none, 0⟩]) <|
 .seq (.ops [
 ⟨some 13, .mv (.tmp 2), none, 0⟩,
 ⟨some 14, .mv (.tmp 1), none, 0⟩,
 ⟨some 15, .bin .sub (.tmp 13) (.tmp 14), none, 0⟩,
 ⟨some 8, .mv (.tmp 15), none, 0⟩]) <|
 .seq (.ops [
 ⟨some 9, .alloc [.int .i64 0], none, 0⟩]) <|
 .seq (.ops [
 ⟨some 16, .mv (.tmp 1), none, 0⟩,
 ⟨some 17, .mv (.tmp 8), none, 0⟩,
 ⟨some 18, .bin .quo (.tmp 17) (.const (.int .i64 4)), none, 0⟩,
 ⟨some 19, .bin .mul (.tmp 18) (.const (.int .i64 1)), none, 0⟩,
 ⟨some 20, .bin .add (.tmp 16) (.tmp 19), none, 0⟩,
 ⟨some 10, .mv (.tmp 20), none, 0⟩]) <|
 .seq (.ops [
 ⟨some 21, .mv (.tmp 1), none, 0⟩,
 ⟨some 22, .mv (.tmp 8), none, 0⟩,
 ⟨some 23, .bin .quo (.tmp 22) (.const (.int .i64 4)), none, 0⟩,
 ⟨some 24, .bin .mul (.tmp 23) (.const (.int .i64 2)), none, 0⟩,
 ⟨some 25, .bin .add (.tmp 21) (.tmp 24), none, 0⟩,
 ⟨some 11, .mv (.tmp 25), none, 0⟩]) <|
 .seq (.ops [
 ⟨some 26, .mv (.tmp 1), none, 0⟩,
 ⟨some 27, .mv (.tmp 8), none, 0⟩,
 ⟨some 28, .bin .quo (.tmp 27) (.const (.int .i64 4)), none, 0⟩,
 ⟨some 29, .bin .mul (.tmp 28) (.const (.int .i64 3)), none, 0⟩,
 ⟨some 30, .bin .add (.tmp 26) (.tmp 29), none, 0⟩,
 ⟨some 12, .mv (.tmp 30), none, 0⟩]) <|
 .seq (.seq (.ops [
 ⟨some 31, .mv (.tmp 8), none, 0⟩,
 ⟨some 32, .bin .geq (.tmp 31) (.const (.int .i64 8)), none, 0⟩]) <|
 .cond (.tmp 32)
 (.seq (.seq (.ops [
 ⟨some 33, .mv (.tmp 8), none, 0⟩,
 ⟨some 34, .bin .geq (.tmp 33) (.const (.int .i64 50)), none, 0⟩]) <|
 .cond (.tmp 34)
 (.seq (.ops [
 ⟨some 35, .mv (.tmp 0), none, 0⟩,
 ⟨some 36, .mv (.tmp 10), none, 0⟩,
 ⟨some 37, .call k_zz1 [(.tmp 35), (.tmp 36), (.tmp 9)], none, 0⟩,
 ⟨some 10, .mv (.tmp 37), none, 0⟩]) <|
 .seq (.ops [
 ⟨some 38, .mv (.tmp 0), none, 0⟩,
 ⟨some 39, .mv (.tmp 11), none, 0⟩,
 ⟨some 40, .call k_zz1 [(.tmp 38), (.tmp 39), (.tmp 9)], none, 0⟩,
 ⟨some 11, .mv (.tmp 40), none, 0⟩]) <|
 .ops [
 ⟨some 41, .mv (.tmp 0), none, 0⟩,
 ⟨some 42, .mv (.tmp 12), none, 0⟩,
 ⟨some 43, .call k_zz1 [(.tmp 41), (.tmp 42), (.tmp 9)], none, 0⟩,
 ⟨some 12, .mv (.tmp 43), none, 0⟩])
 (.skip)) <|
 .ops [
 ⟨some 44, .mv (.tmp 0), none, 0⟩,
 ⟨some 45, .mv (.tmp 10), none, 0⟩,
 ⟨some 46, .mv (.tmp 11), none, 0⟩,
 ⟨some 47, .mv (.tmp 12), none, 0⟩,
 ⟨some 48, .call k_zz13 [(.tmp 44), (.tmp 45), (.tmp 46), (.tmp 47), (.tmp 9)], none, 0⟩,
 ⟨some 11, .mv (.tmp 48), none, 0⟩])
 (.skip)) <|
 .seq (.ops [
 ⟨some 49, .load false 1 (.tmp 9), none, 0⟩]) <|
 .block 0 <|
 .seq (.ops [
 ⟨some 52, .bin .eql (.tmp 49) (.const (.int .i64 0)), none, 0⟩,
 ⟨some 51, .mv (.tmp 52), none, 0⟩]) <|
 .cond (.tmp 51)
 (.seq (.ops [
 ⟨some 53, .mv (.tmp 11), none, 0⟩,
 ⟨some 6, .mv (.tmp 53), none, 0⟩,
 ⟨some 7, .mv (.const (.int .i64 1)), none, 0⟩]) <|
 .keep [6, 7] <|
 .ret)
 (.seq (.ops [
 ⟨some 55, .bin .eql (.tmp 49) (.const (.int .i64 12)), none, 0⟩,
 ⟨some 54, .mv (.tmp 55), none, 0⟩]) <|
 .cond (.tmp 54)
 (.seq (.ops [
 ⟨some 56, .mv (.tmp 11), none, 0⟩,
 ⟨some 6, .mv (.tmp 56), none, 0⟩,
 ⟨some 7, .mv (.const (.int .i64 2)), none, 0⟩]) <|
 .keep [6, 7] <|
 .ret)
 (.seq (.ops [
 ⟨some 50, .mv (.tmp 11), none, 0⟩,
 ⟨some 6, .mv (.tmp 50), none, 0⟩,
 ⟨some 7, .mv (.const (.int .i64 0)), none, 0⟩]) <|
 .keep [6, 7] <|
 .ret))⟩
theorem e_zz6 : EntOK Tryz.prog (compD Tryz.prog) k_zz6 i_zz6.vf :=
 ⟨Tryz.f123, Tryz.f123.body.getD .skip, Tryz.func123, by kernel_rfl, by kernel_rfl, by kernel_rfl, by kernel_rfl, by kernel_rfl⟩
/-- slices.reverseRangeOrdered[int64] -/
def i_zz5_B1 : FC :=
 .seq (.seq (.ops [
 ⟨some 11, .mv (.tmp 6), none, 0⟩,
 ⟨some 12, .mv (.tmp 7), none, 0⟩,
 ⟨some 13, .bin .lss (.tmp 11) (.tmp 12), none, 0⟩]) <|
 .cond (.tmp 13)
 (.skip)
 (.keep [] <|
 .exit 0)) <|
 .block 1 <|
 .seq (.dops [
 ⟨some 14, .mv (.tmp 0), none, 0⟩,
 ⟨some 15, .mv (.tmp 6), none, 0⟩,
 ⟨some 18, .mv (.tmp 0), none, 0⟩,
 ⟨some 19, .mv (.tmp 7), none, 0⟩,
 ⟨some 20, .idx 1 (.tmp 18) (.tmp 19), none, 0⟩,
 ⟨some 21, .load false 1 (.tmp 20), none, 0⟩,
 ⟨some 22, .mv (.tmp 0), none, 0⟩,
 ⟨some 23, .mv (.tmp 6), none, 0⟩,
 ⟨some 24, .idx 1 (.tmp 22) (.tmp 23), none, 0⟩,
 ⟨some 25, .load false 1 (.tmp 24), none, 0⟩,
 ⟨some 26, .idx 1 (.tmp 14) (.tmp 15), none, 0⟩,
 ⟨none, .store 1 (.tmp 26) (.tmp 21), none, 0⟩,
 ⟨some 16, .mv (.tmp 0), none, 1⟩,
 ⟨some 17, .mv (.tmp 7), none, 1⟩,
 ⟨some 27, .idx 1 (.tmp 16) (.tmp 17), none, 0⟩,
 ⟨none, .store 1 (.tmp 27) (.tmp 25), none, 0⟩]) <|
 .seq (.ops [
 ⟨some 28, .mv (.tmp 6), none, 0⟩,
 ⟨some 29, .bin .add (.tmp 28) (.const (.int .i64 1)), none, 0⟩,
 ⟨some 6, .mv (.tmp 29), none, 0⟩]) <|
 .ops [
 ⟨some 30, .mv (.tmp 7), none, 0⟩,
 ⟨some 31, .bin .sub (.tmp 30) (.const (.int .i64 1)), none, 0⟩,
 ⟨some 7, .mv (.tmp 31), none, 0⟩]
def i_zz5 : FF := ⟨32, [],
 .seq (.ops [
 ⟨some 8, .mv (.tmp 1), none, 0⟩,
 ⟨some 6, .mv (.tmp 8), none, 0⟩]) <|
 .seq (.ops [
 ⟨some 9, .mv (.tmp 2), none, 0⟩,
 ⟨some 10, .bin .sub (.tmp 9) (.const (.int .i64 1)), none, 0⟩,
 ⟨some 7, .mv (.tmp 10), none, 0⟩]) <|
 .block 0 <|
 .loop [0, 6, 7] i_zz5_B1⟩
theorem e_zz5 : EntOK Tryz.prog (compD Tryz.prog) k_zz5 i_zz5.vf :=
 ⟨Tryz.f124, Tryz.f124.body.getD .skip, Tryz.func124, by kernel_rfl, by kernel_rfl, by kernel_rfl, by kernel_rfl, by kernel_rfl⟩
/-- slices.partialInsertionSortOrdered[int64] -/
def i_zz0_B1 : FC :=
 .seq (.seq (.dops [
 ⟨some 17, .mv (.tmp 7), none, 0⟩,
 ⟨some 18, .mv (.tmp 2), none, 0⟩,
 ⟨some 19, .bin .lss (.tmp 17) (.tmp 18), none, 0⟩,
 ⟨some 20, .mv (.tmp 19), none, 0⟩,
 ⟨some 21, .mv (.tmp 0), some (20, true), 0⟩,
 ⟨some 22, .mv (.tmp 7), some (20, true), 0⟩,
 ⟨some 23, .idx 1 (.tmp 21) (.tmp 22), some (20, true), 0⟩,
 ⟨some 24, .load false 1 (.tmp 23), some (20, true), 0⟩,
 ⟨some 25, .mv (.tmp 0), some (20, true), 0⟩,
 ⟨some 26, .mv (.tmp 7), some (20, true), 0⟩,
 ⟨some 27, .bin .sub (.tmp 26) (.const (.int .i64 1)), some (20, true), 0⟩,
 ⟨some 28, .idx 1 (.tmp 25) (.tmp 27), some (20, true), 0⟩,
 ⟨some 29, .load false 1 (.tmp 28), some (20, true), 0⟩,
 ⟨some 30, .call k_zz50 [(.tmp 24), (.tmp 29)], some (20, true), 0⟩,
 ⟨some 31, .un .not (.tmp 30), some (20, true), 0⟩,
 ⟨some 32, .pick (.tmp 20) (.tmp 31) (.const (.bool false)), none, 0⟩]) <|
 .cond (.tmp 32)
 (.skip)
 (.keep [0, 1, 2, 7, 8] <|
 .exit 2)) <|
 .block 3 <|
 .ops [
 ⟨some 33, .mv (.tmp 7), none, 0⟩,
 ⟨some 34, .bin .add (.tmp 33) (.const (.int .i64 1)), none, 0⟩,
 ⟨some 7, .mv (.tmp 34), none, 0⟩]
def i_zz0_B2 : FC :=
 .seq (.seq (.ops [
 ⟨some 64, .mv (.tmp 9), none, 0⟩,
 ⟨some 65, .bin .geq (.tmp 64) (.const (.int .i64 1)), none, 0⟩]) <|
 .cond (.tmp 65)
 (.skip)
 (.keep [0, 1, 2, 7, 8] <|
 .exit 4)) <|
 .seq (.block 5 <|
 .seq (.seq (.dops [
 ⟨some 68, .mv (.tmp 0), none, 0⟩,
 ⟨some 69, .mv (.tmp 9), none, 0⟩,
 ⟨some 70, .idx 1 (.tmp 68) (.tmp 69), none, 0⟩,
 ⟨some 71, .load false 1 (.tmp 70), none, 0⟩,
 ⟨some 72, .mv (.tmp 0), none, 0⟩,
 ⟨some 73, .mv (.tmp 9), none, 0⟩,
 ⟨some 74, .bin .sub (.tmp 73) (.const (.int .i64 1)), none, 0⟩,
 ⟨some 75, .idx 1 (.tmp 72) (.tmp 74), none, 0⟩,
 ⟨some 76, .load false 1 (.tmp 75), none, 0⟩,
 ⟨some 77, .call k_zz50 [(.tmp 71), (.tmp 76)], none, 0⟩,
 ⟨some 78, .un .not (.tmp 77), none, 0⟩]) <|
 .cond (.tmp 78)
 (.keep [0, 1, 2, 7, 8] <|
 .exit 4)
 (.skip)) <|
 .dops [
 ⟨some 79, .mv (.tmp 0), none, 0⟩,
 ⟨some 80, .mv (.tmp 9), none, 0⟩,
 ⟨some 84, .mv (.tmp 0), none, 0⟩,
 ⟨some 85, .mv (.tmp 9), none, 0⟩,
 ⟨some 86, .bin .sub (.tmp 85) (.const (.int .i64 1)), none, 0⟩,
 ⟨some 87, .idx 1 (.tmp 84) (.tmp 86), none, 0⟩,
 ⟨some 88, .load false 1 (.tmp 87), none, 0⟩,
 ⟨some 89, .mv (.tmp 0), none, 0⟩,
 ⟨some 90, .mv (.tmp 9), none, 0⟩,
 ⟨some 91, .idx 1 (.tmp 89) (.tmp 90), none, 0⟩,
 ⟨some 92, .load false 1 (.tmp 91), none, 0⟩,
 ⟨some 93, .idx 1 (.tmp 79) (.tmp 80), none, 0⟩,
 ⟨none, .store 1 (.tmp 93) (.tmp 88), none, 0⟩,
 ⟨some 81, .mv (.tmp 0), none, 1⟩,
 ⟨some 82, .mv (.tmp 9), none, 1⟩,
 ⟨some 83, .bin .sub (.tmp 82) (.const (.int .i64 1)), none, 1⟩,
 ⟨some 94, .idx 1 (.tmp 81) (.tmp 83), none, 0⟩,
 ⟨none, .store 1 (.tmp 94) (.tmp 92), none, 0⟩]) <|
 .ops [
 ⟨some 66, .mv (.tmp 9), none, 0⟩,
 ⟨some 67, .bin .sub (.tmp 66) (.const (.int .i64 1)), none, 0⟩,
 ⟨some 9, .mv (.tmp 67), none, 0⟩]
def i_zz0_B3 : FC :=
 .seq (.seq (.ops [
 ⟨some 101, .mv (.tmp 10), none, 0⟩,
 ⟨some 102, .mv (.tmp 2), none, 0⟩,
 ⟨some 103, .bin .lss (.tmp 101) (.tmp 102), none, 0⟩]) <|
 .cond (.tmp 103)
 (.skip)
 (.keep [0, 1, 2, 7, 8] <|
 .exit 6)) <|
 .seq (.block 7 <|
 .seq (.seq (.dops [
 ⟨some 106, .mv (.tmp 0), none, 0⟩,
 ⟨some 107, .mv (.tmp 10), none, 0⟩,
 ⟨some 108, .idx 1 (.tmp 106) (.tmp 107), none, 0⟩,
 ⟨some 109, .load false 1 (.tmp 108), none, 0⟩,
 ⟨some 110, .mv (.tmp 0), none, 0⟩,
 ⟨some 111, .mv (.tmp 10), none, 0⟩,
 ⟨some 112, .bin .sub (.tmp 111) (.const (.int .i64 1)), none, 0⟩,
 ⟨some 113, .idx 1 (.tmp 110) (.tmp 112), none, 0⟩,
 ⟨some 114, .load false 1 (.tmp 113), none, 0⟩,
 ⟨some 115, .call k_zz50 [(.tmp 109), (.tmp 114)], none, 0⟩,
 ⟨some 116, .un .not (.tmp 115), none, 0⟩]) <|
 .cond (.tmp 116)
 (.keep [0, 1, 2, 7, 8] <|
 .exit 6)
 (.skip)) <|
 .dops [
 ⟨some 117, .mv (.tmp 0), none, 0⟩,
 ⟨some 118, .mv (.tmp 10), none, 0⟩,
 ⟨some 122, .mv (.tmp 0), none, 0⟩,
 ⟨some 123, .mv (.tmp 10), none, 0⟩,
 ⟨some 124, .bin .sub (.tmp 123) (.const (.int .i64 1)), none, 0⟩,
 ⟨some 125, .idx 1 (.tmp 122) (.tmp 124), none, 0⟩,
 ⟨some 126, .load false 1 (.tmp 125), none, 0⟩,
 ⟨some 127, .mv (.tmp 0), none, 0⟩,
 ⟨some 128, .mv (.tmp 10), none, 0⟩,
 ⟨some 129, .idx 1 (.tmp 127) (.tmp 128), none, 0⟩,
 ⟨some 130, .load false 1 (.tmp 129), none, 0⟩,
 ⟨some 131, .idx 1 (.tmp 117) (.tmp 118), none, 0⟩,
 ⟨none, .store 1 (.tmp 131) (.tmp 126), none, 0⟩,
 ⟨some 119, .mv (.tmp 0), none, 1⟩,
 ⟨some 120, .mv (.tmp 10), none, 1⟩,
 ⟨some 121, .bin .sub (.tmp 120) (.const (.int .i64 1)), none, 1⟩,
 ⟨some 132, .idx 1 (.tmp 119) (.tmp 121), none, 0⟩,
 ⟨none, .store 1 (.tmp 132) (.tmp 130), none, 0⟩]) <|
 .ops [
 ⟨some 104, .mv (.tmp 10), none, 0⟩,
 ⟨some 105, .bin .add (.tmp 104) (.const (.int .i64 1)), none, 0⟩,
 ⟨some 10, .mv (.tmp 105), none, 0⟩]
def i_zz0_B4 : FC :=
 .seq (.seq (.ops [
 ⟨some 13, .mv (.tmp 8), none, 0⟩,
 ⟨some 14, .bin .lss (.tmp 13) (.const (.int .i64 5)), none, 0⟩]) <|
 .cond (.tmp 14)
 (.skip)
 (.keep [] <|
 .exit 0)) <|
 .seq (.block 1 <|
 .seq (.block 2 <|
 .loop [0, 1, 2, 7, 8] i_zz0_B1) <|
 .seq (.seq (.ops [
 ⟨some 35, .mv (.tmp 7), none, 0⟩,
 ⟨some 36, .mv (.tmp 2), none, 0⟩,
 ⟨some 37, .bin .eql (.tmp 35) (.tmp 36), none, 0⟩]) <|
 .cond (.tmp 37)
 (.seq (.ops [
 ⟨some 6, .mv (.const (.bool true)), none, 0⟩]) <|
 .keep [6] <|
 .ret)
 (.skip)) <|
 .seq (.seq (.ops [
 ⟨some 38, .mv (.tmp 2), none, 0⟩,
 ⟨some 39, .mv (.tmp 1), none, 0⟩,
 ⟨some 40, .bin .sub (.tmp 38) (.tmp 39), none, 0⟩,
 ⟨some 41, .bin .lss (.tmp 40) (.const (.int .i64 50)), none, 0⟩]) <|
 .cond (.tmp 41)
 (.seq (.ops [
 ⟨some 6, .mv (.const (.bool false)), none, 0⟩]) <|
 .keep [6] <|
 .ret)
 (.skip)) <|
 .seq (.dops [
 ⟨some 42, .mv (.tmp 0), none, 0⟩,
 ⟨some 43, .mv (.tmp 7), none, 0⟩,
 ⟨some 47, .mv (.tmp 0), none, 0⟩,
 ⟨some 48, .mv (.tmp 7), none, 0⟩,
 ⟨some 49, .bin .sub (.tmp 48) (.const (.int .i64 1)), none, 0⟩,
 ⟨some 50, .idx 1 (.tmp 47) (.tmp 49), none, 0⟩,
 ⟨some 51, .load false 1 (.tmp 50), none, 0⟩,
 ⟨some 52, .mv (.tmp 0), none, 0⟩,
 ⟨some 53, .mv (.tmp 7), none, 0⟩,
 ⟨some 54, .idx 1 (.tmp 52) (.tmp 53), none, 0⟩,
 ⟨some 55, .load false 1 (.tmp 54), none, 0⟩,
 ⟨some 56, .idx 1 (.tmp 42) (.tmp 43), none, 0⟩,
 ⟨none, .store 1 (.tmp 56) (.tmp 51), none, 0⟩,
 ⟨some 44, .mv (.tmp 0), none, 1⟩,
 ⟨some 45, .mv (.tmp 7), none, 1⟩,
 ⟨some 46, .bin .sub (.tmp 45) (.const (.int .i64 1)), none, 1⟩,
 ⟨some 57, .idx 1 (.tmp 44) (.tmp 46), none, 0⟩,
 ⟨none, .store 1 (.tmp 57) (.tmp 55), none, 0⟩]) <|
 .seq (.seq (.ops [
 ⟨some 58, .mv (.tmp 7), none, 0⟩,
 ⟨some 59, .mv (.tmp 1), none, 0⟩,
 ⟨some 60, .bin .sub (.tmp 58) (.tmp 59), none, 0⟩,
 ⟨some 61, .bin .geq (.tmp 60) (.const (.int .i64 2)), none, 0⟩]) <|
 .cond (.tmp 61)
 (.seq (.ops [
 ⟨some 62, .mv (.tmp 7), none, 0⟩,
 ⟨some 63, .bin .sub (.tmp 62) (.const (.int .i64 1)), none, 0⟩,
 ⟨some 9, .mv (.tmp 63), none, 0⟩]) <|
 .block 4 <|
 .loop [0, 1, 2, 7, 8, 9] i_zz0_B2)
 (.skip)) <|
 .seq (.ops [
 ⟨some 95, .mv (.tmp 2), none, 0⟩,
 ⟨some 96, .mv (.tmp 7), none, 0⟩,
 ⟨some 97, .bin .sub (.tmp 95) (.tmp 96), none, 0⟩,
 ⟨some 98, .bin .geq (.tmp 97) (.const (.int .i64 2)), none, 0⟩]) <|
 .cond (.tmp 98)
 (.seq (.ops [
 ⟨some 99, .mv (.tmp 7), none, 0⟩,
 ⟨some 100, .bin .add (.tmp 99) (.const (.int .i64 1)), none, 0⟩,
 ⟨some 10, .mv (.tmp 100), none, 0⟩]) <|
 .block 6 <|
 .loop [0, 1, 2, 7, 8, 10] i_zz0_B3)
 (.skip)) <|
 .ops [
 ⟨some 15, .mv (.tmp 8), none, 0⟩,
 ⟨some 16, .bin .add (.tmp 15) (.const (.int .i64 1)), none, 0⟩,
 ⟨some 8, .mv (.tmp 16), none, 0⟩]
def i_zz0 : FF := ⟨133, [.tmp 6],
 .seq (.ops [
 ⟨some 6, .mv (.const (.bool false)), none, 0⟩]) <|
 .seq (.ops [
 ⟨some 11, .mv (.tmp 1), none, 0⟩,
 ⟨some 12, .bin .add (.tmp 11) (.const (.int .i64 1)), none, 0⟩,
 ⟨some 7, .mv (.tmp 12), none, 0⟩]) <|
 .seq (.seq (.ops [
 ⟨some 8, .mv (.const (.int .i64 0)), none, 0⟩]) <|
 .block 0 <|
 .loop [0, 1, 2, 7, 8] i_zz0_B4) <|
 .seq (.ops [
 ⟨some 6, .mv (.const (.bool false)), none, 0⟩]) <|
 .keep [6] <|
 .ret⟩
theorem e_zz0 : EntOK Tryz.prog (compD Tryz.prog) k_zz0 i_zz0.vf :=
 ⟨Tryz.f125, Tryz.f125.body.getD .skip, Tryz.func125, by kernel_rfl, by kernel_rfl, by kernel_rfl, by kernel_rfl, by kernel_rfl⟩
/-- cmp.Less[int64] -/
def i_zz50 : FF := ⟨17, [.tmp 4],
 .seq (.ops [
 ⟨some 4, .mv (.const (.bool false)), none, 0⟩]) <|
 .seq (.ops [
 ⟨some 5, .mv (.tmp 0), none, 0⟩,
 ⟨some 6, .call k_zz40 [(.tmp 5)], none, 0⟩,
 ⟨some 7, .mv (.tmp 6), none, 0⟩,
 ⟨some 8, .mv (.tmp 1), some (7, true), 0⟩,
 ⟨some 9, .call k_zz40 [(.tmp 8)], some (7, true), 0⟩,
 ⟨some 10, .un .not (.tmp 9), some (7, true), 0⟩,
 ⟨some 11, .pick (.tmp 7) (.tmp 10) (.const (.bool false)), none, 0⟩,
 ⟨some 12, .mv (.tmp 11), none, 0⟩,
 ⟨some 13, .mv (.tmp 0), some (12, false), 0⟩,
 ⟨some 14, .mv (.tmp 1), some (12, false), 0⟩,
 ⟨some 15, .bin .lss (.tmp 13) (.tmp 14), some (12, false), 0⟩,
 ⟨some 16, .pick (.tmp 12) (.const (.bool true)) (.tmp 15), none, 0⟩,
 ⟨some 4, .mv (.tmp 16), none, 0⟩]) <|
 .keep [4] <|
 .ret⟩
theorem e_zz50 : EntOK Tryz.prog (compD Tryz.prog) k_zz50 i_zz50.vf :=
 ⟨Tryz.f126, Tryz.f126.body.getD .skip, Tryz.func126, by kernel_rfl, by kernel_rfl, by kernel_rfl, by kernel_rfl, by kernel_rfl⟩
/-- slices.partitionEqualOrdered[int64] -/
def i_zz2_B1 : FC :=
 .seq (.seq (.dops [
 ⟨some 29, .mv (.tmp 9), none, 0⟩,
 ⟨some 30, .mv (.tmp 10), none, 0⟩,
 ⟨some 31, .bin .leq (.tmp 29) (.tmp 30), none, 0⟩,
 ⟨some 32, .mv (.tmp 31), none, 0⟩,
 ⟨some 33, .mv (.tmp 0), some (32, true), 0⟩,
 ⟨some 34, .mv (.tmp 1), some (32, true), 0⟩,
 ⟨some 35, .idx 1 (.tmp 33) (.tmp 34), some (32, true), 0⟩,
 ⟨some 36, .load false 1 (.tmp 35), some (32, true), 0⟩,
 ⟨some 37, .mv (.tmp 0), some (32, true), 0⟩,
 ⟨some 38, .mv (.tmp 9), some (32, true), 0⟩,
 ⟨some 39, .idx 1 (.tmp 37) (.tmp 38), some (32, true), 0⟩,
 ⟨some 40, .load false 1 (.tmp 39), some (32, true), 0⟩,
 ⟨some 41, .call k_zz50 [(.tmp 36), (.tmp 40)], some (32, true), 0⟩,
 ⟨some 42, .un .not (.tmp 41), some (32, true), 0⟩,
 ⟨some 43, .pick (.tmp 32) (.tmp 42) (.const (.bool false)), none, 0⟩]) <|
 .cond (.tmp 43)
 (.skip)
 (.keep [0, 1, 9, 10] <|
 .exit 2)) <|
 .block 3 <|
 .ops [
 ⟨some 44, .mv (.tmp 9), none, 0⟩,
 ⟨some 45, .bin .add (.tmp 44) (.const (.int .i64 1)), none, 0⟩,
 ⟨some 9, .mv (.tmp 45), none, 0⟩]
def i_zz2_B2 : FC :=
 .seq (.seq (.dops [
 ⟨some 46, .mv (.tmp 9), none, 0⟩,
 ⟨some 47, .mv (.tmp 10), none, 0⟩,
 ⟨some 48, .bin .leq (.tmp 46) (.tmp 47), none, 0⟩,
 ⟨some 49, .mv (.tmp 48), none, 0⟩,
 ⟨some 50, .mv (.tmp 0), some (49, true), 0⟩,
 ⟨some 51, .mv (.tmp 1), some (49, true), 0⟩,
 ⟨some 52, .idx 1 (.tmp 50) (.tmp 51), some (49, true), 0⟩,
 ⟨some 53, .load false 1 (.tmp 52), some (49, true), 0⟩,
 ⟨some 54, .mv (.tmp 0), some (49, true), 0⟩,
 ⟨some 55, .mv (.tmp 10), some (49, true), 0⟩,
 ⟨some 56, .idx 1 (.tmp 54) (.tmp 55), some (49, true), 0⟩,
 ⟨some 57, .load false 1 (.tmp 56), some (49, true), 0⟩,
 ⟨some 58, .call k_zz50 [(.tmp 53), (.tmp 57)], some (49, true), 0⟩,
 ⟨some 59, .pick (.tmp 49) (.tmp 58) (.const (.bool false)), none, 0⟩]) <|
 .cond (.tmp 59)
 (.skip)
 (.keep [0, 1, 9, 10] <|
 .exit 4)) <|
 .block 5 <|
 .ops [
 ⟨some 60, .mv (.tmp 10), none, 0⟩,
 ⟨some 61, .bin .sub (.tmp 60) (.const (.int .i64 1)), none, 0⟩,
 ⟨some 10, .mv (.tmp 61), none, 0⟩]
def i_zz2_B3 : FC :=
 .block 1 <|
 .seq (.block 2 <|
 .loop [0, 1, 9, 10] i_zz2_B1) <|
 .seq (.block 4 <|
 .loop [0, 1, 9, 10] i_zz2_B2) <|
 .seq (.seq (.ops [
 ⟨some 62, .mv (.tmp 9), none, 0⟩,
 ⟨some 63, .mv (.tmp 10), none, 0⟩,
 ⟨some 64, .bin .gtr (.tmp 62) (.tmp 63), none, 0⟩]) <|
 .cond (.tmp 64)
 (.keep [9] <|
 .exit 0)
 (.skip)) <|
 .seq (.dops [
 ⟨some 65, .mv (.tmp 0), none, 0⟩,
 ⟨some 66, .mv (.tmp 9), none, 0⟩,
 ⟨some 69, .mv (.tmp 0), none, 0⟩,
 ⟨some 70, .mv (.tmp 10), none, 0⟩,
 ⟨some 71, .idx 1 (.tmp 69) (.tmp 70), none, 0⟩,
 ⟨some 72, .load false 1 (.tmp 71), none, 0⟩,
 ⟨some 73, .mv (.tmp 0), none, 0⟩,
 ⟨some 74, .mv (.tmp 9), none, 0⟩,
 ⟨some 75, .idx 1 (.tmp 73) (.tmp 74), none, 0⟩,
 ⟨some 76, .load false 1 (.tmp 75), none, 0⟩,
 ⟨some 77, .idx 1 (.tmp 65) (.tmp 66), none, 0⟩,
 ⟨none, .store 1 (.tmp 77) (.tmp 72), none, 0⟩,
 ⟨some 67, .mv (.tmp 0), none, 1⟩,
 ⟨some 68, .mv (.tmp 10), none, 1⟩,
 ⟨some 78, .idx 1 (.tmp 67) (.tmp 68), none, 0⟩,
 ⟨none, .store 1 (.tmp 78) (.tmp 76), none, 0⟩]) <|
 .seq (.ops [
 ⟨some 79, .mv (.tmp 9), none, 0⟩,
 ⟨some 80, .bin .add (.tmp 79) (.const (.int .i64 1)), none, 0⟩,
 ⟨some 9, .mv (.tmp 80), none, 0⟩]) <|
 .ops [
 ⟨some 81, .mv (.tmp 10), none, 0⟩,
 ⟨some 82, .bin .sub (.tmp 81) (.const (.int .i64 1)), none, 0⟩,
 ⟨some 10, .mv (.tmp 82), none, 0⟩]
def i_zz2 : FF := ⟨84, [.tmp 8],
 .seq (.ops [
 ⟨some 8, .mv (.const (.int .i64 0)), none, 0⟩]) <|
 .seq (.dops [
 ⟨some 11, .mv (.tmp 0), none, 0⟩,
 ⟨some 12, .mv (.tmp 1), none, 0⟩,
 ⟨some 15, .mv (.tmp 0), none, 0⟩,
 ⟨some 16, .mv (.tmp 3), none, 0⟩,
 ⟨some 17, .idx 1 (.tmp 15) (.tmp 16), none, 0⟩,
 ⟨some 18, .load false 1 (.tmp 17), none, 0⟩,
 ⟨some 19, .mv (.tmp 0), none, 0⟩,
 ⟨some 20, .mv (.tmp 1), none, 0⟩,
 ⟨some 21, .idx 1 (.tmp 19) (.tmp 20), none, 0⟩,
 ⟨some 22, .load false 1 (.tmp 21), none, 0⟩,
 ⟨some 23, .idx 1 (.tmp 11) (.tmp 12), none, 0⟩,
 ⟨none, .store 1 (.tmp 23) (.tmp 18), none, 0⟩,
 ⟨some 13, .mv (.tmp 0), none, 1⟩,
 ⟨some 14, .mv (.tmp 3), none, 1⟩,
 ⟨some 24, .idx 1 (.tmp 13) (.tmp 14), none, 0⟩,
 ⟨none, .store 1 (.tmp 24) (.tmp 22), none, 0⟩]) <|
 .seq (.ops [
 ⟨some 25, .mv (.tmp 1), none, 0⟩,
 ⟨some 26, .bin .add (.tmp 25) (.const (.int .i64 1)), none, 0⟩,
 ⟨some 27, .mv (.tmp 2), none, 0⟩,
 ⟨some 28, .bin .sub (.tmp 27) (.const (.int .i64 1)), none, 0⟩,
 ⟨some 9, .mv (.tmp 26), none, 0⟩,
 ⟨some 10, .mv (.tmp 28), none, 0⟩]) <|
 .seq (.block 0 <|
 .loop [0, 1, 9, 10] i_zz2_B3) <|
 .seq (.ops [
 ⟨some 83, .mv (.tmp 9), none, 0⟩,
 ⟨some 8, .mv (.tmp 83), none, 0⟩]) <|
 .keep [8] <|
 .ret⟩
theorem e_zz2 : EntOK Tryz.prog (compD Tryz.prog) k_zz2 i_zz2.vf :=
 ⟨Tryz.f127, Tryz.f127.body.getD .skip, Tryz.func127, by kernel_rfl, by kernel_rfl, by kernel_rfl, by kernel_rfl, by kernel_rfl⟩
/-- slices.partitionOrdered[int64] -/
def i_zz8_B1 : FC :=
 .seq (.seq (.dops [
 ⟨some 30, .mv (.tmp 10), none, 0⟩,
 ⟨some 31, .mv (.tmp 11), none, 0⟩,
 ⟨some 32, .bin .leq (.tmp 30) (.tmp 31), none, 0⟩,
 ⟨some 33, .mv (.tmp 32), none, 0⟩,
 ⟨some 34, .mv (.tmp 0), some (33, true), 0⟩,
 ⟨some 35, .mv (.tmp 10), some (33, true), 0⟩,
 ⟨some 36, .idx 1 (.tmp 34) (.tmp 35), some (33, true), 0⟩,
 ⟨some 37, .load false 1 (.tmp 36), some (33, true), 0⟩,
 ⟨some 38, .mv (.tmp 0), some (33, true), 0⟩,
 ⟨some 39, .mv (.tmp 1), some (33, true), 0⟩,
 ⟨some 40, .idx 1 (.tmp 38) (.tmp 39), some (33, true), 0⟩,
 ⟨some 41, .load false 1 (.tmp 40), some (33, true), 0⟩,
 ⟨some 42, .call k_zz50 [(.tmp 37), (.tmp 41)], some (33, true), 0⟩,
 ⟨some 43, .pick (.tmp 33) (.tmp 42) (.const (.bool false)), none, 0⟩]) <|
 .cond (.tmp 43)
 (.skip)
 (.keep [0, 1, 10, 11] <|
 .exit 0)) <|
 .block 1 <|
 .ops [
 ⟨some 44, .mv (.tmp 10), none, 0⟩,
 ⟨some 45, .bin .add (.tmp 44) (.const (.int .i64 1)), none, 0⟩,
 ⟨some 10, .mv (.tmp 45), none, 0⟩]
def i_zz8_B2 : FC :=
 .seq (.seq (.dops [
 ⟨some 46, .mv (.tmp 10), none, 0⟩,
 ⟨some 47, .mv (.tmp 11), none, 0⟩,
 ⟨some 48, .bin .leq (.tmp 46) (.tmp 47), none, 0⟩,
 ⟨some 49, .mv (.tmp 48), none, 0⟩,
 ⟨some 50, .mv (.tmp 0), some (49, true), 0⟩,
 ⟨some 51, .mv (.tmp 11), some (49, true), 0⟩,
 ⟨some 52, .idx 1 (.tmp 50) (.tmp 51), some (49, true), 0⟩,
 ⟨some 53, .load false 1 (.tmp 52), some (49, true), 0⟩,
 ⟨some 54, .mv (.tmp 0), some (49, true), 0⟩,
 ⟨some 55, .mv (.tmp 1), some (49, true), 0⟩,
 ⟨some 56, .idx 1 (.tmp 54) (.tmp 55), some (49, true), 0⟩,
 ⟨some 57, .load false 1 (.tmp 56), some (49, true), 0⟩,
 ⟨some 58, .call k_zz50 [(.tmp 53), (.tmp 57)], some (49, true), 0⟩,
 ⟨some 59, .un .not (.tmp 58), some (49, true), 0⟩,
 ⟨some 60, .pick (.tmp 49) (.tmp 59) (.const (.bool false)), none, 0⟩]) <|
 .cond (.tmp 60)
 (.skip)
 (.keep [0, 1, 10, 11] <|
 .exit 2)) <|
 .block 3 <|
 .ops [
 ⟨some 61, .mv (.tmp 11), none, 0⟩,
 ⟨some 62, .bin .sub (.tmp 61) (.const (.int .i64 1)), none, 0⟩,
 ⟨some 11, .mv (.tmp 62), none, 0⟩]
def i_zz8_B3 : FC :=
 .seq (.seq (.dops [
 ⟨some 99, .mv (.tmp 10), none, 0⟩,
 ⟨some 100, .mv (.tmp 11), none, 0⟩,
 ⟨some 101, .bin .leq (.tmp 99) (.tmp 100), none, 0⟩,
 ⟨some 102, .mv (.tmp 101), none, 0⟩,
 ⟨some 103, .mv (.tmp 0), some (102, true), 0⟩,
 ⟨some 104, .mv (.tmp 10), some (102, true), 0⟩,
 ⟨some 105, .idx 1 (.tmp 103) (.tmp 104), some (102, true), 0⟩,
 ⟨some 106, .load false 1 (.tmp 105), some (102, true), 0⟩,
 ⟨some 107, .mv (.tmp 0), some (102, true), 0⟩,
 ⟨some 108, .mv (.tmp 1), some (102, true), 0⟩,
 ⟨some 109, .idx 1 (.tmp 107) (.tmp 108), some (102, true), 0⟩,
 ⟨some 110, .load false 1 (.tmp 109), some (102, true), 0⟩,
 ⟨some 111, .call k_zz50 [(.tmp 106), (.tmp 110)], some (102, true), 0⟩,
 ⟨some 112, .pick (.tmp 102) (.tmp 111) (.const (.bool false)), none, 0⟩]) <|
 .cond (.tmp 112)
 (.skip)
 (.keep [0, 1, 10, 11] <|
 .exit 6)) <|
 .block 7 <|
 .ops [
 ⟨some 113, .mv (.tmp 10), none, 0⟩,
 ⟨some 114, .bin .add (.tmp 113) (.const (.int .i64 1)), none, 0⟩,
 ⟨some 10, .mv (.tmp 114), none, 0⟩]
def i_zz8_B4 : FC :=
 .seq (.seq (.dops [
 ⟨some 115, .mv (.tmp 10), none, 0⟩,
 ⟨some 116, .mv (.tmp 11), none, 0⟩,
 ⟨some 117, .bin .leq (.tmp 115) (.tmp 116), none, 0⟩,
 ⟨some 118, .mv (.tmp 117), none, 0⟩,
 ⟨some 119, .mv (.tmp 0), some (118, true), 0⟩,
 ⟨some 120, .mv (.tmp 11), some (118, true), 0⟩,
 ⟨some 121, .idx 1 (.tmp 119) (.tmp 120), some (118, true), 0⟩,
 ⟨some 122, .load false 1 (.tmp 121), some (118, true), 0⟩,
 ⟨some 123, .mv (.tmp 0), some (118, true), 0⟩,
 ⟨some 124, .mv (.tmp 1), some (118, true), 0⟩,
 ⟨some 125, .idx 1 (.tmp 123) (.tmp 124), some (118, true), 0⟩,
 ⟨some 126, .load false 1 (.tmp 125), some (118, true), 0⟩,
 ⟨some 127, .call k_zz50 [(.tmp 122), (.tmp 126)], some (118, true), 0⟩,
 ⟨some 128, .un .not (.tmp 127), some (118, true), 0⟩,
 ⟨some 129, .pick (.tmp 118) (.tmp 128) (.const (.bool false)), none, 0⟩]) <|
 .cond (.tmp 129)
 (.skip)
 (.keep [0, 1, 10, 11] <|
 .exit 8)) <|
 .block 9 <|
 .ops [
 ⟨some 130, .mv (.tmp 11), none, 0⟩,
 ⟨some 131, .bin .sub (.tmp 130) (.const (.int .i64 1)), none, 0⟩,
 ⟨some 11, .mv (.tmp 131), none, 0⟩]
def i_zz8_B5 : FC :=
 .block 5 <|
 .seq (.block 6 <|
 .loop [0, 1, 10, 11] i_zz8_B3) <|
 .seq (.block 8 <|
 .loop [0, 1, 10, 11] i_zz8_B4) <|
 .seq (.seq (.ops [
 ⟨some 132, .mv (.tmp 10), none, 0⟩,
 ⟨some 133, .mv (.tmp 11), none, 0⟩,
 ⟨some 134, .bin .gtr (.tmp 132) (.tmp 133), none, 0⟩]) <|
 .cond (.tmp 134)
 (.keep [0, 1, 11] <|
 .exit 4)
 (.skip)) <|
 .seq (.dops [
 ⟨some 135, .mv (.tmp 0), none, 0⟩,
 ⟨some 136, .mv (.tmp 10), none, 0⟩,
 ⟨some 139, .mv (.tmp 0), none, 0⟩,
 ⟨some 140, .mv (.tmp 11), none, 0⟩,
 ⟨some 141, .idx 1 (.tmp 139) (.tmp 140), none, 0⟩,
 ⟨some 142, .load false 1 (.tmp 141), none, 0⟩,
 ⟨some 143, .mv (.tmp 0), none, 0⟩,
 ⟨some 144, .mv (.tmp 10), none, 0⟩,
 ⟨some 145, .idx 1 (.tmp 143) (.tmp 144), none, 0⟩,
 ⟨some 146, .load false 1 (.tmp 145), none, 0⟩,
 ⟨some 147, .idx 1 (.tmp 135) (.tmp 136), none, 0⟩,
 ⟨none, .store 1 (.tmp 147) (.tmp 142), none, 0⟩,
 ⟨some 137, .mv (.tmp 0), none, 1⟩,
 ⟨some 138, .mv (.tmp 11), none, 1⟩,
 ⟨some 148, .idx 1 (.tmp 137) (.tmp 138), none, 0⟩,
 ⟨none, .store 1 (.tmp 148) (.tmp 146), none, 0⟩]) <|
 .seq (.ops [
 ⟨some 149, .mv (.tmp 10), none, 0⟩,
 ⟨some 150, .bin .add (.tmp 149) (.const (.int .i64 1)), none, 0⟩,
 ⟨some 10, .mv (.tmp 150), none, 0⟩]) <|
 .ops [
 ⟨some 151, .mv (.tmp 11), none, 0⟩,
 ⟨some 152, .bin .sub (.tmp 151) (.const (.int .i64 1)), none, 0⟩,
 ⟨some 11, .mv (.tmp 152), none, 0⟩]
def i_zz8 : FF := ⟨168, [.tmp 8, .tmp 9],
 .seq (.ops [
 ⟨some 8, .mv (.const (.int .i64 0)), none, 0⟩,
 ⟨some 9, .mv (.const (.bool false)), none, 0⟩]) <|
 .seq (.dops [
 ⟨some 12, .mv (.tmp 0), none, 0⟩,
 ⟨some 13, .mv (.tmp 1), none, 0⟩,
 ⟨some 16, .mv (.tmp 0), none, 0⟩,
 ⟨some 17, .mv (.tmp 3), none, 0⟩,
 ⟨some 18, .idx 1 (.tmp 16) (.tmp 17), none, 0⟩,
 ⟨some 19, .load false 1 (.tmp 18), none, 0⟩,
 ⟨some 20, .mv (.tmp 0), none, 0⟩,
 ⟨some 21, .mv (.tmp 1), none, 0⟩,
 ⟨some 22, .idx 1 (.tmp 20) (.tmp 21), none, 0⟩,
 ⟨some 23, .load false 1 (.tmp 22), none, 0⟩,
 ⟨some 24, .idx 1 (.tmp 12) (.tmp 13), none, 0⟩,
 ⟨none, .store 1 (.tmp 24) (.tmp 19), none, 0⟩,
 ⟨some 14, .mv (.tmp 0), none, 1⟩,
 ⟨some 15, .mv (.tmp 3), none, 1⟩,
 ⟨some 25, .idx 1 (.tmp 14) (.tmp 15), none, 0⟩,
 ⟨none, .store 1 (.tmp 25) (.tmp 23), none, 0⟩]) <|
 .seq (.ops [
 ⟨some 26, .mv (.tmp 1), none, 0⟩,
 ⟨some 27, .bin .add (.tmp 26) (.const (.int .i64 1)), none, 0⟩,
 ⟨some 28, .mv (.tmp 2), none, 0⟩,
 ⟨some 29, .bin .sub (.tmp 28) (.const (.int .i64 1)), none, 0⟩,
 ⟨some 10, .mv (.tmp 27), none, 0⟩,
 ⟨some 11, .mv (.tmp 29), none, 0⟩]) <|
 .seq (.block 0 <|
 .loop [0, 1, 10, 11] i_zz8_B1) <|
 .seq (.block 2 <|
 .loop [0, 1, 10, 11] i_zz8_B2) <|
 .seq (.seq (.ops [
 ⟨some 63, .mv (.tmp 10), none, 0⟩,
 ⟨some 64, .mv (.tmp 11), none, 0⟩,
 ⟨some 65, .bin .gtr (.tmp 63) (.tmp 64), none, 0⟩]) <|
 .cond (.tmp 65)
 (.seq (.dops [
 ⟨some 66, .mv (.tmp 0), none, 0⟩,
 ⟨some 67, .mv (.tmp 11), none, 0⟩,
 ⟨some 70, .mv (.tmp 0), none, 0⟩,
 ⟨some 71, .mv (.tmp 1), none, 0⟩,
 ⟨some 72, .idx 1 (.tmp 70) (.tmp 71), none, 0⟩,
 ⟨some 73, .load false 1 (.tmp 72), none, 0⟩,
 ⟨some 74, .mv (.tmp 0), none, 0⟩,
 ⟨some 75, .mv (.tmp 11), none, 0⟩,
 ⟨some 76, .idx 1 (.tmp 74) (.tmp 75), none, 0⟩,
 ⟨some 77, .load false 1 (.tmp 76), none, 0⟩,
 ⟨some 78, .idx 1 (.tmp 66) (.tmp 67), none, 0⟩,
 ⟨none, .store 1 (.tmp 78) (.tmp 73), none, 0⟩,
 ⟨some 68, .mv (.tmp 0), none, 1⟩,
 ⟨some 69, .mv (.tmp 1), none, 1⟩,
 ⟨some 79, .idx 1 (.tmp 68) (.tmp 69), none, 0⟩,
 ⟨none, .store 1 (.tmp 79) (.tmp 77), none, 0⟩]) <|
 .seq (.ops [
 ⟨some 80, .mv (.tmp 11), none, 0⟩,
 ⟨some 8, .mv (.tmp 80), none, 0⟩,
 ⟨some 9, .mv (.const (.bool true)), none, 0⟩]) <|
 .keep [8, 9] <|
 .ret)
 (.skip)) <|
 .seq (.dops [
 ⟨some 81, .mv (.tmp 0), none, 0⟩,
 ⟨some 82, .mv (.tmp 10), none, 0⟩,
 ⟨some 85, .mv (.tmp 0), none, 0⟩,
 ⟨some 86, .mv (.tmp 11), none, 0⟩,
 ⟨some 87, .idx 1 (.tmp 85) (.tmp 86), none, 0⟩,
 ⟨some 88, .load false 1 (.tmp 87), none, 0⟩,
 ⟨some 89, .mv (.tmp 0), none, 0⟩,
 ⟨some 90, .mv (.tmp 10), none, 0⟩,
 ⟨some 91, .idx 1 (.tmp 89) (.tmp 90), none, 0⟩,
 ⟨some 92, .load false 1 (.tmp 91), none, 0⟩,
 ⟨some 93, .idx 1 (.tmp 81) (.tmp 82), none, 0⟩,
 ⟨none, .store 1 (.tmp 93) (.tmp 88), none, 0⟩,
 ⟨some 83, .mv (.tmp 0), none, 1⟩,
 ⟨some 84, .mv (.tmp 11), none, 1⟩,
 ⟨some 94, .idx 1 (.tmp 83) (.tmp 84), none, 0⟩,
 ⟨none, .store 1 (.tmp 94) (.tmp 92), none, 0⟩]) <|
 .seq (.ops [
 ⟨some 95, .mv (.tmp 10), none, 0⟩,
 ⟨some 96, .bin .add (.tmp 95) (.const (.int .i64 1)), none, 0⟩,
 ⟨some 10, .mv (.tmp 96), none, 0⟩]) <|
 .seq (.ops [
 ⟨some 97, .mv (.tmp 11), none, 0⟩,
 ⟨some 98, .bin .sub (.tmp 97) (.const (.int .i64 1)), none, 0⟩,
 ⟨some 11, .mv (.tmp 98), none, 0⟩]) <|
 .seq (.block 4 <|
 .loop [0, 1, 10, 11] i_zz8_B5) <|
 .seq (.dops [
 ⟨some 153, .mv (.tmp 0), none, 0⟩,
 ⟨some 154, .mv (.tmp 11), none, 0⟩,
 ⟨some 157, .mv (.tmp 0), none, 0⟩,
 ⟨some 158, .mv (.tmp 1), none, 0⟩,
 ⟨some 159, .idx 1 (.tmp 157) (.tmp 158), none, 0⟩,
 ⟨some 160, .load false 1 (.tmp 159), none, 0⟩,
 ⟨some 161, .mv (.tmp 0), none, 0⟩,
 ⟨some 162, .mv (.tmp 11), none, 0⟩,
 ⟨some 163, .idx 1 (.tmp 161) (.tmp 162), none, 0⟩,
 ⟨some 164, .load false 1 (.tmp 163), none, 0⟩,
 ⟨some 165, .idx 1 (.tmp 153) (.tmp 154), none, 0⟩,
 ⟨none, .store 1 (.tmp 165) (.tmp 160), none, 0⟩,
 ⟨some 155, .mv (.tmp 0), none, 1⟩,
 ⟨some 156, .mv (.tmp 1), none, 1⟩,
 ⟨some 166, .idx 1 (.tmp 155) (.tmp 156), none, 0⟩,
 ⟨none, .store 1 (.tmp 166) (.tmp 164), none, 0⟩]) <|
 .seq (.ops [
 ⟨some 167, .mv (.tmp 11), none, 0⟩,
 ⟨some 8, .mv (.tmp 167), none, 0⟩,
 ⟨some 9, .mv (.const (.bool false)), none, 0⟩]) <|
 .keep [8, 9] <|
 .ret⟩
theorem e_zz8 : EntOK Tryz.prog (compD Tryz.prog) k_zz8 i_zz8.vf :=
 ⟨Tryz.f128, Tryz.f128.body.getD .skip, Tryz.func128, by kernel_rfl, by kernel_rfl, by kernel_rfl, by kernel_rfl, by kernel_rfl⟩
/-- math/bits.Len32 -/
def i_zz43 : FF := ⟨19, [.tmp 2],
 .seq (.ops [
 ⟨some 2, .mv (.const (.int .i64 0)), none, 0⟩]) <|
 .seq (.seq (.ops [
 ⟨some 3, .mv (.tmp 0), none, 0⟩,
 ⟨some 4, .bin .geq (.tmp 3) (.const (.int .u32 65536)), none, 0⟩]) <|
 .cond (.tmp 4)
 (.seq (.ops [
 ⟨some 5, .mv (.tmp 0), none, 0⟩,
 ⟨some 6, .bin .shr (.tmp 5) (.const (.int .u64 16)), none, 0⟩,
 ⟨some 0, .mv (.tmp 6), none, 0⟩]) <|
 .ops [
 ⟨some 2, .mv (.const (.int .i64 16)), none, 0⟩])
 (.skip)) <|
 .seq (.seq (.ops [
 ⟨some 7, .mv (.tmp 0), none, 0⟩,
 ⟨some 8, .bin .geq (.tmp 7) (.const (.int .u32 256)), none, 0⟩]) <|
 .cond (.tmp 8)
 (.seq (.ops [
 ⟨some 9, .mv (.tmp 0), none, 0⟩,
 ⟨some 10, .bin .shr (.tmp 9) (.const (.int .u64 8)), none, 0⟩,
 ⟨some 0, .mv (.tmp 10), none, 0⟩]) <|
 .ops [
 ⟨some 11, .mv (.tmp 2), none, 0⟩,
 ⟨some 12, .bin .add (.tmp 11) (.const (.int .i64 8)), none, 0⟩,
 ⟨some 2, .mv (.tmp 12), none, 0⟩])
 (.skip)) <|
 .seq (.ops [
 ⟨some 13, .mv (.tmp 2), none, 0⟩,
 ⟨some 14, .mv (.tmp 0), none, 0⟩,
 ⟨some 15, .conv .u8 (.tmp 14), none, 0⟩,
 ⟨some 16, .idxStr (.const (.string ⟨#[0, 1, 2, 2, 3, 3, 3, 3, 4, 4, 4, 4, 4, 4, 4, 4, 5, 5, 5, 5, 5, 5, 5, 5, 5, 5, 5, 5, 5, 5, 5, 5, 6, 6, 6, 6, 6, 6, 6, 6, 6, 6, 6, 6, 6, 6, 6, 6, 6, 6, 6, 6, 6, 6, 6, 6, 6, 6, 6, 6, 6, 6, 6, 6, 7, 7, 7, 7, 7, 7, 7, 7, 7, 7, 7, 7, 7, 7, 7, 7, 7, 7, 7, 7, 7, 7, 7, 7, 7, 7, 7, 7, 7, 7, 7, 7, 7, 7, 7, 7, 7, 7, 7, 7, 7, 7, 7, 7, 7, 7, 7, 7, 7, 7, 7, 7, 7, 7, 7, 7, 7, 7, 7, 7, 7, 7, 7, 7, 8, 8, 8, 8, 8, 8, 8, 8, 8, 8, 8, 8, 8, 8, 8, 8, 8, 8, 8, 8, 8, 8, 8, 8, 8, 8, 8, 8, 8, 8, 8, 8, 8, 8, 8, 8, 8, 8, 8, 8, 8, 8, 8, 8, 8, 8, 8, 8, 8, 8, 8, 8, 8, 8, 8, 8, 8, 8, 8, 8, 8, 8, 8, 8, 8, 8, 8, 8, 8, 8, 8, 8, 8, 8, 8, 8, 8, 8, 8, 8, 8, 8, 8, 8, 8, 8, 8, 8, 8, 8, 8, 8, 8, 8, 8, 8, 8, 8, 8, 8, 8, 8, 8, 8, 8, 8, 8, 8, 8, 8, 8, 8, 8, 8, 8, 8, 8, 8, 8, 8, 8, 8, 8, 8, 8, 8, 8, 8]⟩)) (.tmp 15), none, 0⟩,
 ⟨some 17, .conv .i64 (.tmp 16), none, 0⟩,
 ⟨some 18, .bin .add (.tmp 13) (.tmp 17), none, 0⟩,
 ⟨some 2, .mv (.tmp 18), none, 0⟩]) <|
 .keep [2] <|
 .ret⟩
theorem e_zz43 : EntOK Tryz.prog (compD Tryz.prog) k_zz43 i_zz43.vf :=
 ⟨Tryz.f129, Tryz.f129.body.getD .skip, Tryz.func129, by kernel_rfl, by kernel_rfl, by kernel_rfl, by kernel_rfl, by kernel_rfl⟩
/-- math/bits.Len64 -/
def i_zz44 : FF := ⟨25, [.tmp 2],
 .seq (.ops [
 ⟨some 2, .mv (.const (.int .i64 0)), none, 0⟩]) <|
 .seq (.seq (.ops [
 ⟨some 3, .mv (.tmp 0), none, 0⟩,
 ⟨some 4, .bin .geq (.tmp 3) (.const (.int .u64 4294967296)), none, 0⟩]) <|
 .cond (.tmp 4)
 (.seq (.ops [
 ⟨some 5, .mv (.tmp 0), none, 0⟩,
 ⟨some 6, .bin .shr (.tmp 5) (.const (.int .u64 32)), none, 0⟩,
 ⟨some 0, .mv (.tmp 6), none, 0⟩]) <|
 .ops [
 ⟨some 2, .mv (.const (.int .i64 32)), none, 0⟩])
 (.skip)) <|
 .seq (.seq (.ops [
 ⟨some 7, .mv (.tmp 0), none, 0⟩,
 ⟨some 8, .bin .geq (.tmp 7) (.const (.int .u64 65536)), none, 0⟩]) <|
 .cond (.tmp 8)
 (.seq (.ops [
 ⟨some 9, .mv (.tmp 0), none, 0⟩,
 ⟨some 10, .bin .shr (.tmp 9) (.const (.int .u64 16)), none, 0⟩,
 ⟨some 0, .mv (.tmp 10), none, 0⟩]) <|
 .ops [
 ⟨some 11, .mv (.tmp 2), none, 0⟩,
 ⟨some 12, .bin .add (.tmp 11) (.const (.int .i64 16)), none, 0⟩,
 ⟨some 2, .mv (.tmp 12), none, 0⟩])
 (.skip)) <|
 .seq (.seq (.ops [
 ⟨some 13, .mv (.tmp 0), none, 0⟩,
 ⟨some 14, .bin .geq (.tmp 13) (.const (.int .u64 256)), none, 0⟩]) <|
 .cond (.tmp 14)
 (.seq (.ops [
 ⟨some 15, .mv (.tmp 0), none, 0⟩,
 ⟨some 16, .bin .shr (.tmp 15) (.const (.int .u64 8)), none, 0⟩,
 ⟨some 0, .mv (.tmp 16), none, 0⟩]) <|
 .ops [
 ⟨some 17, .mv (.tmp 2), none, 0⟩,
 ⟨some 18, .bin .add (.tmp 17) (.const (.int .i64 8)), none, 0⟩,
 ⟨some 2, .mv (.tmp 18), none, 0⟩])
 (.skip)) <|
 .seq (.ops [
 ⟨some 19, .mv (.tmp 2), none, 0⟩,
 ⟨some 20, .mv (.tmp 0), none, 0⟩,
 ⟨some 21, .conv .u8 (.tmp 20), none, 0⟩,
 ⟨some 22, .idxStr (.const (.string ⟨#[0, 1, 2, 2, 3, 3, 3, 3, 4, 4, 4, 4, 4, 4, 4, 4, 5, 5, 5, 5, 5, 5, 5, 5, 5, 5, 5, 5, 5, 5, 5, 5, 6, 6, 6, 6, 6, 6, 6, 6, 6, 6, 6, 6, 6, 6, 6, 6, 6, 6, 6, 6, 6, 6, 6, 6, 6, 6, 6, 6, 6, 6, 6, 6, 7, 7, 7, 7, 7, 7, 7, 7, 7, 7, 7, 7, 7, 7, 7, 7, 7, 7, 7, 7, 7, 7, 7, 7, 7, 7, 7, 7, 7, 7, 7, 7, 7, 7, 7, 7, 7, 7, 7, 7, 7, 7, 7, 7, 7, 7, 7, 7, 7, 7, 7, 7, 7, 7, 7, 7, 7, 7, 7, 7, 7, 7, 7, 7, 8, 8, 8, 8, 8, 8, 8, 8, 8, 8, 8, 8, 8, 8, 8, 8, 8, 8, 8, 8, 8, 8, 8, 8, 8, 8, 8, 8, 8, 8, 8, 8, 8, 8, 8, 8, 8, 8, 8, 8, 8, 8, 8, 8, 8, 8, 8, 8, 8, 8, 8, 8, 8, 8, 8, 8, 8, 8, 8, 8, 8, 8, 8, 8, 8, 8, 8, 8, 8, 8, 8, 8, 8, 8, 8, 8, 8, 8, 8, 8, 8, 8, 8, 8, 8, 8, 8, 8, 8, 8, 8, 8, 8, 8, 8, 8, 8, 8, 8, 8, 8, 8, 8, 8, 8, 8, 8, 8, 8, 8, 8, 8, 8, 8, 8, 8, 8, 8, 8, 8, 8, 8, 8, 8, 8, 8, 8, 8]⟩)) (.tmp 21), none, 0⟩,
 ⟨some 23, .conv .i64 (.tmp 22), none, 0⟩,
 ⟨some 24, .bin .add (.tmp 19) (.tmp 23), none, 0⟩,
 ⟨some 2, .mv (.tmp 24), none, 0⟩]) <|
 .keep [2] <|
 .ret⟩
theorem e_zz44 : EntOK Tryz.prog (compD Tryz.prog) k_zz44 i_zz44.vf :=
 ⟨Tryz.f130, Tryz.f130.body.getD .skip, Tryz.func130, by kernel_rfl, by kernel_rfl, by kernel_rfl, by kernel_rfl, by kernel_rfl⟩
/-- math/bits.Mul -/
def i_zz65 : FF := ⟨30, [.tmp 4, .tmp 5],
 .seq (.ops [
 ⟨some 4, .mv (.const (.int .u64 0)), none, 0⟩,
 ⟨some 5, .mv (.const (.int .u64 0)), none, 0⟩]) <|
 .seq (.cond (.const (.bool false))
 (.seq (.ops [
 ⟨some 11, .mv (.tmp 0), none, 0⟩,
 ⟨some 12, .conv .u32 (.tmp 11), none, 0⟩,
 ⟨some 13, .mv (.tmp 1), none, 0⟩,
 ⟨some 14, .conv .u32 (.tmp 13), none, 0⟩,
 ⟨some 15, .call k_zz45 [(.tmp 12), (.tmp 14)], none, 0⟩,
 ⟨some 10, .mv (.tmp 15), none, 0⟩,
 ⟨some 16, .ext (.tmp 10) 0, none, 0⟩,
 ⟨some 17, .ext (.tmp 10) 1, none, 0⟩,
 ⟨some 6, .mv (.tmp 16), none, 0⟩,
 ⟨some 7, .mv (.tmp 17), none, 0⟩]) <|
 .seq (.ops [
 ⟨some 18, .mv (.tmp 6), none, 0⟩,
 ⟨some 19, .conv .u64 (.tmp 18), none, 0⟩,
 ⟨some 20, .mv (.tmp 7), none, 0⟩,
 ⟨some 21, .conv .u64 (.tmp 20), none, 0⟩,
 ⟨some 4, .mv (.tmp 19), none, 0⟩,
 ⟨some 5, .mv (.tmp 21), none, 0⟩]) <|
 .keep [4, 5] <|
 .ret)
 (.skip)) <|
 .seq (.ops [
 ⟨some 23, .mv (.tmp 0), none, 0⟩,
 ⟨some 24, .mv (.tmp 1), none, 0⟩,
 ⟨some 25, .call k_zz46 [(.tmp 23), (.tmp 24)], none, 0⟩,
 ⟨some 22, .mv (.tmp 25), none, 0⟩,
 ⟨some 26, .ext (.tmp 22) 0, none, 0⟩,
 ⟨some 27, .ext (.tmp 22) 1, none, 0⟩,
 ⟨some 8, .mv (.tmp 26), none, 0⟩,
 ⟨some 9, .mv (.tmp 27), none, 0⟩]) <|
 .seq (.ops [
 ⟨some 28, .mv (.tmp 8), none, 0⟩,
 ⟨some 29, .mv (.tmp 9), none, 0⟩,
 ⟨some 4, .mv (.tmp 28), none, 0⟩,
 ⟨some 5, .mv (.tmp 29), none, 0⟩]) <|
 .keep [4, 5] <|
 .ret⟩
theorem e_zz65 : EntOK Tryz.prog (compD Tryz.prog) k_zz65 i_zz65.vf :=
 ⟨Tryz.f131, Tryz.f131.body.getD .skip, Tryz.func131, by kernel_rfl, by kernel_rfl, by kernel_rfl, by kernel_rfl, by kernel_rfl⟩
/-- slices.IndexFunc[[]int64,int64] -/
def i_zz9_B1 : FC :=
 .seq (.ops [
 ⟨some 9, .bin .lss (.tmp 8) (.tmp 7), none, 0⟩]) <|
 .seq (.cond (.tmp 9)
 (.skip)
 (.keep [] <|
 .exit 0)) <|
 .seq (.block 1 <|
 .seq (.ops [
 ⟨some 10, .mv (.tmp 8), none, 0⟩,
 ⟨some 5, .mv (.tmp 10), none, 0⟩]) <|
 .seq (.ops [
 ⟨some 11, .mv (.tmp 1), none, 0⟩,
 ⟨some 12, .mv (.tmp 0), none, 0⟩,
 ⟨some 13, .mv (.tmp 5), none, 0⟩,
 ⟨some 14, .idx 1 (.tmp 12) (.tmp 13), none, 0⟩,
 ⟨some 15, .load false 1 (.tmp 14), none, 0⟩,
 ⟨some 16, .callv (.tmp 11) [(.tmp 15)], none, 0⟩]) <|
 .cond (.tmp 16)
 (.seq (.ops [
 ⟨some 17, .mv (.tmp 5), none, 0⟩,
 ⟨some 4, .mv (.tmp 17), none, 0⟩]) <|
 .keep [4] <|
 .ret)
 (.skip)) <|
 .ops [
 ⟨some 18, .bin .add (.tmp 8) (.const (.int .i64 1)), none, 0⟩,
 ⟨some 8, .mv (.tmp 18), none, 0⟩]
def i_zz9 : FF := ⟨19, [.tmp 4],
 .seq (.ops [
 ⟨some 4, .mv (.const (.int .i64 0)), none, 0⟩]) <|
 .seq (.seq (.ops [
 ⟨some 6, .mv (.tmp 0), none, 0⟩,
 ⟨some 7, .len (.tmp 6), none, 0⟩,
 ⟨some 8, .mv (.const (.int .i64 0)), none, 0⟩]) <|
 .block 0 <|
 .loop [0, 1, 7, 8] i_zz9_B1) <|
 .seq (.ops [
 ⟨some 4, .mv (.const (.int .i64 (-1))), none, 0⟩]) <|
 .keep [4] <|
 .ret⟩
theorem e_zz9 : EntOK Tryz.prog (compD Tryz.prog) k_zz9 i_zz9.vf :=
 ⟨Tryz.f132, Tryz.f132.body.getD .skip, Tryz.func132, by kernel_rfl, by kernel_rfl, by kernel_rfl, by kernel_rfl, by kernel_rfl⟩
/-- cmp.isNaN[int64] -/
def i_zz40 : FF := ⟨6, [.tmp 2],
 .seq (.ops [
 ⟨some 2, .mv (.const (.bool false)), none, 0⟩]) <|
 .seq (.ops [
 ⟨some 3, .mv (.tmp 0), none, 0⟩,
 ⟨some 4, .mv (.tmp 0), none, 0⟩,
 ⟨some 5, .bin .neq (.tmp 3) (.tmp 4), none, 0⟩,
 ⟨some 2, .mv (.tmp 5), none, 0⟩]) <|
 .keep [2] <|
 .ret⟩
theorem e_zz40 : EntOK Tryz.prog (compD Tryz.prog) k_zz40 i_zz40.vf :=
 ⟨Tryz.f141, Tryz.f141.body.getD .skip, Tryz.func141, by kernel_rfl, by kernel_rfl, by kernel_rfl, by kernel_rfl, by kernel_rfl⟩
/-- loop.example/g01331/spec.l01Names -/
def i_zz70 : FF := ⟨2, [.tmp 0],
 .seq (.ops [
 ⟨some 0, .mv (.const (.slice none 0 0)), none, 0⟩]) <|
 .seq (.ops [
 ⟨some 1, .buildSl 1 [.string ⟨#[]⟩, .string ⟨#[]⟩, .string ⟨#[]⟩, .string ⟨#[]⟩, .string ⟨#[]⟩, .string ⟨#[]⟩, .string ⟨#[]⟩, .string ⟨#[]⟩, .string ⟨#[]⟩, .string ⟨#[]⟩, .string ⟨#[]⟩, .string ⟨#[]⟩, .string ⟨#[]⟩, .string ⟨#[]⟩, .string ⟨#[]⟩] [(0, 1, (.const (.string ⟨#[107, 52]⟩))), (1, 1, (.const (.string ⟨#[107, 53]⟩))), (2, 1, (.const (.string ⟨#[107, 51, 51]⟩))), (3, 1, (.const (.string ⟨#[99, 117, 98, 101]⟩))), (4, 1, (.const (.string ⟨#[112, 101, 116, 101, 114, 115, 101, 110]⟩))), (5, 1, (.const (.string ⟨#[104, 101, 97, 119, 111, 111, 100]⟩))), (6, 1, (.const (.string ⟨#[105, 99, 111, 115, 97, 104, 101, 100, 114, 111, 110]⟩))), (7, 1, (.const (.string ⟨#[99, 108, 101, 98, 115, 99, 104]⟩))), (8, 1, (.const (.string ⟨#[109, 111, 101, 98, 105, 117, 115, 107, 97, 110, 116, 111, 114]⟩))), (9, 1, (.const (.string ⟨#[112, 97, 112, 112, 117, 115]⟩))), (10, 1, (.const (.string ⟨#[100, 101, 115, 97, 114, 103, 117, 101, 115]⟩))), (11, 1, (.const (.string ⟨#[100, 111, 100, 101, 99, 97, 104, 101, 100, 114, 111, 110]⟩))), (12, 1, (.const (.string ⟨#[109, 99, 103, 101, 101]⟩))), (13, 1, (.const (.string ⟨#[116, 117, 116, 116, 101, 99, 111, 120, 101, 116, 101, 114]⟩))), (14, 1, (.const (.string ⟨#[104, 111, 102, 102, 109, 97, 110, 115, 105, 110, 103, 108, 101, 116, 111, 110]⟩)))] 15, none, 0⟩,
 ⟨some 0, .mv (.tmp 1), none, 0⟩]) <|
 .keep [0] <|
 .ret⟩
theorem e_zz70 : EntOK Tryz.prog (compD Tryz.prog) k_zz70 i_zz70.vf :=
 ⟨Tryz.f142, Tryz.f142.body.getD .skip, Tryz.func142, by kernel_rfl, by kernel_rfl, by kernel_rfl, by kernel_rfl, by kernel_rfl⟩
/-- loop.example/g01331/spec.l01Named -/
def i_zz69_B1 : FC :=
 .seq (.seq (.ops [
 ⟨some 46, .mv (.tmp 7), none, 0⟩,
 ⟨some 47, .mv (.tmp 4), none, 0⟩,
 ⟨some 48, .bin .lss (.tmp 46) (.tmp 47), none, 0⟩]) <|
 .cond (.tmp 48)
 (.skip)
 (.keep [2, 4, 5, 6] <|
 .exit 3)) <|
 .seq (.block 4 <|
 .ops [
 ⟨some 51, .load true 2 (.tmp 5), none, 0⟩,
 ⟨some 52, .mv (.tmp 6), none, 0⟩,
 ⟨some 53, .mv (.tmp 6), none, 0⟩,
 ⟨some 54, .mv (.tmp 7), none, 0⟩,
 ⟨some 55, .bin .xor (.tmp 53) (.tmp 54), none, 0⟩,
 ⟨some 56, .call k_zz90 [(.tmp 51), (.tmp 52), (.tmp 55)], none, 0⟩]) <|
 .ops [
 ⟨some 49, .mv (.tmp 7), none, 0⟩,
 ⟨some 50, .bin .mul (.const (.int .i64 2)) (.tmp 49), none, 0⟩,
 ⟨some 7, .mv (.tmp 50), none, 0⟩]
def i_zz69_B2 : FC :=
 .seq (.seq (.ops [
 ⟨some 41, .mv (.tmp 6), none, 0⟩,
 ⟨some 42, .mv (.tmp 4), none, 0⟩,
 ⟨some 43, .bin .lss (.tmp 41) (.tmp 42), none, 0⟩]) <|
 .cond (.tmp 43)
 (.skip)
 (.keep [2, 5] <|
 .exit 1)) <|
 .seq (.block 2 <|
 .seq (.seq (.ops [
 ⟨some 7, .mv (.const (.int .i64 1)), none, 0⟩]) <|
 .block 3 <|
 .loop [2, 4, 5, 6, 7] i_zz69_B1) <|
 .seq (.ops [
 ⟨some 57, .mv (.tmp 4), none, 0⟩,
 ⟨some 58, .bin .eql (.tmp 57) (.const (.int .i64 16)), none, 0⟩]) <|
 .cond (.tmp 58)
 (.ops [
 ⟨some 59, .load true 2 (.tmp 5), none, 0⟩,
 ⟨some 60, .mv (.tmp 6), none, 0⟩,
 ⟨some 61, .mv (.tmp 6), none, 0⟩,
 ⟨some 62, .bin .sub (.const (.int .i64 15)) (.tmp 61), none, 0⟩,
 ⟨some 63, .call k_zz90 [(.tmp 59), (.tmp 60), (.tmp 62)], none, 0⟩])
 (.skip)) <|
 .ops [
 ⟨some 44, .mv (.tmp 6), none, 0⟩,
 ⟨some 45, .bin .add (.tmp 44) (.const (.int .i64 1)), none, 0⟩,
 ⟨some 6, .mv (.tmp 45), none, 0⟩]
def i_zz69_B3 : FC :=
 .seq (.seq (.ops [
 ⟨some 68, .mv (.tmp 9), none, 0⟩,
 ⟨some 69, .bin .lss (.tmp 68) (.const (.int .i64 5)), none, 0⟩]) <|
 .cond (.tmp 69)
 (.skip)
 (.keep [2, 8] <|
 .exit 5)) <|
 .seq (.block 6 <|
 .seq (.ops [
 ⟨some 72, .load true 2 (.tmp 8), none, 0⟩,
 ⟨some 73, .mv (.tmp 9), none, 0⟩,
 ⟨some 74, .mv (.tmp 9), none, 0⟩,
 ⟨some 75, .bin .add (.tmp 74) (.const (.int .i64 1)), none, 0⟩,
 ⟨some 76, .bin .rem (.tmp 75) (.const (.int .i64 5)), none, 0⟩,
 ⟨some 77, .call k_zz90 [(.tmp 72), (.tmp 73), (.tmp 76)], none, 0⟩]) <|
 .seq (.ops [
 ⟨some 78, .load true 2 (.tmp 8), none, 0⟩,
 ⟨some 79, .mv (.tmp 9), none, 0⟩,
 ⟨some 80, .mv (.tmp 9), none, 0⟩,
 ⟨some 81, .bin .add (.tmp 80) (.const (.int .i64 5)), none, 0⟩,
 ⟨some 82, .call k_zz90 [(.tmp 78), (.tmp 79), (.tmp 81)], none, 0⟩]) <|
 .ops [
 ⟨some 83, .load true 2 (.tmp 8), none, 0⟩,
 ⟨some 84, .mv (.tmp 9), none, 0⟩,
 ⟨some 85, .bin .add (.tmp 84) (.const (.int .i64 5)), none, 0⟩,
 ⟨some 86, .mv (.tmp 9), none, 0⟩,
 ⟨some 87, .bin .add (.tmp 86) (.const (.int .i64 2)), none, 0⟩,
 ⟨some 88, .bin .rem (.tmp 87) (.const (.int .i64 5)), none, 0⟩,
 ⟨some 89, .bin .add (.tmp 88) (.const (.int .i64 5)), none, 0⟩,
 ⟨some 90, .call k_zz90 [(.tmp 83), (.tmp 85), (.tmp 89)], none, 0⟩]) <|
 .ops [
 ⟨some 70, .mv (.tmp 9), none, 0⟩,
 ⟨some 71, .bin .add (.tmp 70) (.const (.int .i64 1)), none, 0⟩,
 ⟨some 9, .mv (.tmp 71), none, 0⟩]
def i_zz69_B4 : FC :=
 .seq (.seq (.ops [
 ⟨some 95, .mv (.tmp 11), none, 0⟩,
 ⟨some 96, .bin .lss (.tmp 95) (.const (.int .i64 5)), none, 0⟩]) <|
 .cond (.tmp 96)
 (.skip)
 (.keep [2, 10] <|
 .exit 7)) <|
 .seq (.block 8 <|
 .seq (.ops [
 ⟨some 99, .mv (.tmp 11), none, 0⟩,
 ⟨some 100, .bin .add (.tmp 99) (.const (.int .i64 1)), none, 0⟩,
 ⟨some 101, .bin .rem (.tmp 100) (.const (.int .i64 5)), none, 0⟩,
 ⟨some 12, .mv (.tmp 101), none, 0⟩]) <|
 .seq (.ops [
 ⟨some 102, .load true 2 (.tmp 10), none, 0⟩,
 ⟨some 103, .mv (.tmp 11), none, 0⟩,
 ⟨some 104, .bin .add (.const (.int .i64 1)) (.tmp 103), none, 0⟩,
 ⟨some 105, .call k_zz90 [(.tmp 102), (.const (.int .i64 0)), (.tmp 104)], none, 0⟩]) <|
 .seq (.ops [
 ⟨some 106, .load true 2 (.tmp 10), none, 0⟩,
 ⟨some 107, .mv (.tmp 11), none, 0⟩,
 ⟨some 108, .bin .add (.const (.int .i64 6)) (.tmp 107), none, 0⟩,
 ⟨some 109, .call k_zz90 [(.tmp 106), (.const (.int .i64 11)), (.tmp 108)], none, 0⟩]) <|
 .seq (.ops [
 ⟨some 110, .load true 2 (.tmp 10), none, 0⟩,
 ⟨some 111, .mv (.tmp 11), none, 0⟩,
 ⟨some 112, .bin .add (.const (.int .i64 1)) (.tmp 111), none, 0⟩,
 ⟨some 113, .mv (.tmp 12), none, 0⟩,
 ⟨some 114, .bin .add (.const (.int .i64 1)) (.tmp 113), none, 0⟩,
 ⟨some 115, .call k_zz90 [(.tmp 110), (.tmp 112), (.tmp 114)], none, 0⟩]) <|
 .seq (.ops [
 ⟨some 116, .load true 2 (.tmp 10), none, 0⟩,
 ⟨some 117, .mv (.tmp 11), none, 0⟩,
 ⟨some 118, .bin .add (.const (.int .i64 6)) (.tmp 117), none, 0⟩,
 ⟨some 119, .mv (.tmp 12), none, 0⟩,
 ⟨some 120, .bin .add (.const (.int .i64 6)) (.tmp 119), none, 0⟩,
 ⟨some 121, .call k_zz90 [(.tmp 116), (.tmp 118), (.tmp 120)], none, 0⟩]) <|
 .seq (.ops [
 ⟨some 122, .load true 2 (.tmp 10), none, 0⟩,
 ⟨some 123, .mv (.tmp 11), none, 0⟩,
 ⟨some 124, .bin .add (.const (.int .i64 1)) (.tmp 123), none, 0⟩,
 ⟨some 125, .mv (.tmp 11), none, 0⟩,
 ⟨some 126, .bin .add (.const (.int .i64 6)) (.tmp 125), none, 0⟩,
 ⟨some 127, .call k_zz90 [(.tmp 122), (.tmp 124), (.tmp 126)], none, 0⟩]) <|
 .ops [
 ⟨some 128, .load true 2 (.tmp 10), none, 0⟩,
 ⟨some 129, .mv (.tmp 11), none, 0⟩,
 ⟨some 130, .bin .add (.const (.int .i64 1)) (.tmp 129), none, 0⟩,
 ⟨some 131, .mv (.tmp 12), none, 0⟩,
 ⟨some 132, .bin .add (.const (.int .i64 6)) (.tmp 131), none, 0⟩,
 ⟨some 133, .call k_zz90 [(.tmp 128), (.tmp 130), (.tmp 132)], none, 0⟩]) <|
 .ops [
 ⟨some 97, .mv (.tmp 11), none, 0⟩,
 ⟨some 98, .bin .add (.tmp 97) (.const (.int .i64 1)), none, 0⟩,
 ⟨some 11, .mv (.tmp 98), none, 0⟩]
def i_zz69_B5 : FC :=
 .seq (.seq (.ops [
 ⟨some 172, .mv (.tmp 16), none, 0⟩,
 ⟨some 173, .bin .lss (.tmp 172) (.const (.int .i64 5)), none, 0⟩]) <|
 .cond (.tmp 173)
 (.skip)
 (.keep [2, 13, 14, 15] <|
 .exit 13)) <|
 .seq (.block 14 <|
 .ops [
 ⟨some 176, .load true 2 (.tmp 13), none, 0⟩,
 ⟨some 177, .mv (.tmp 14), none, 0⟩,
 ⟨some 178, .bin .mul (.const (.int .i64 5)) (.tmp 177), none, 0⟩,
 ⟨some 179, .mv (.tmp 15), none, 0⟩,
 ⟨some 180, .bin .add (.tmp 178) (.tmp 179), none, 0⟩,
 ⟨some 181, .mv (.tmp 16), none, 0⟩,
 ⟨some 182, .bin .mul (.const (.int .i64 5)) (.tmp 181), none, 0⟩,
 ⟨some 183, .bin .add (.const (.int .i64 25)) (.tmp 182), none, 0⟩,
 ⟨some 184, .mv (.tmp 14), none, 0⟩,
 ⟨some 185, .mv (.tmp 16), none, 0⟩,
 ⟨some 186, .bin .mul (.tmp 184) (.tmp 185), none, 0⟩,
 ⟨some 187, .mv (.tmp 15), none, 0⟩,
 ⟨some 188, .bin .add (.tmp 186) (.tmp 187), none, 0⟩,
 ⟨some 189, .bin .rem (.tmp 188) (.const (.int .i64 5)), none, 0⟩,
 ⟨some 190, .bin .add (.tmp 183) (.tmp 189), none, 0⟩,
 ⟨some 191, .call k_zz90 [(.tmp 176), (.tmp 180), (.tmp 190)], none, 0⟩]) <|
 .ops [
 ⟨some 174, .mv (.tmp 16), none, 0⟩,
 ⟨some 175, .bin .add (.tmp 174) (.const (.int .i64 1)), none, 0⟩,
 ⟨some 16, .mv (.tmp 175), none, 0⟩]
def i_zz69_B6 : FC :=
 .seq (.seq (.ops [
 ⟨some 142, .mv (.tmp 15), none, 0⟩,
 ⟨some 143, .bin .lss (.tmp 142) (.const (.int .i64 5)), none, 0⟩]) <|
 .cond (.tmp 143)
 (.skip)
 (.keep [2, 13, 14] <|
 .exit 11)) <|
 .seq (.block 12 <|
 .seq (.ops [
 ⟨some 146, .load true 2 (.tmp 13), none, 0⟩,
 ⟨some 147, .mv (.tmp 14), none, 0⟩,
 ⟨some 148, .bin .mul (.const (.int .i64 5)) (.tmp 147), none, 0⟩,
 ⟨some 149, .mv (.tmp 15), none, 0⟩,
 ⟨some 150, .bin .add (.tmp 148) (.tmp 149), none, 0⟩,
 ⟨some 151, .mv (.tmp 14), none, 0⟩,
 ⟨some 152, .bin .mul (.const (.int .i64 5)) (.tmp 151), none, 0⟩,
 ⟨some 153, .mv (.tmp 15), none, 0⟩,
 ⟨some 154, .bin .add (.tmp 153) (.const (.int .i64 1)), none, 0⟩,
 ⟨some 155, .bin .rem (.tmp 154) (.const (.int .i64 5)), none, 0⟩,
 ⟨some 156, .bin .add (.tmp 152) (.tmp 155), none, 0⟩,
 ⟨some 157, .call k_zz90 [(.tmp 146), (.tmp 150), (.tmp 156)], none, 0⟩]) <|
 .seq (.ops [
 ⟨some 158, .load true 2 (.tmp 13), none, 0⟩,
 ⟨some 159, .mv (.tmp 14), none, 0⟩,
 ⟨some 160, .bin .mul (.const (.int .i64 5)) (.tmp 159), none, 0⟩,
 ⟨some 161, .bin .add (.const (.int .i64 25)) (.tmp 160), none, 0⟩,
 ⟨some 162, .mv (.tmp 15), none, 0⟩,
 ⟨some 163, .bin .add (.tmp 161) (.tmp 162), none, 0⟩,
 ⟨some 164, .mv (.tmp 14), none, 0⟩,
 ⟨some 165, .bin .mul (.const (.int .i64 5)) (.tmp 164), none, 0⟩,
 ⟨some 166, .bin .add (.const (.int .i64 25)) (.tmp 165), none, 0⟩,
 ⟨some 167, .mv (.tmp 15), none, 0⟩,
 ⟨some 168, .bin .add (.tmp 167) (.const (.int .i64 2)), none, 0⟩,
 ⟨some 169, .bin .rem (.tmp 168) (.const (.int .i64 5)), none, 0⟩,
 ⟨some 170, .bin .add (.tmp 166) (.tmp 169), none, 0⟩,
 ⟨some 171, .call k_zz90 [(.tmp 158), (.tmp 163), (.tmp 170)], none, 0⟩]) <|
 .seq (.ops [
 ⟨some 16, .mv (.const (.int .i64 0)), none, 0⟩]) <|
 .block 13 <|
 .loop [2, 13, 14, 15, 16] i_zz69_B5) <|
 .ops [
 ⟨some 144, .mv (.tmp 15), none, 0⟩,
 ⟨some 145, .bin .add (.tmp 144) (.const (.int .i64 1)), none, 0⟩,
 ⟨some 15, .mv (.tmp 145), none, 0⟩]
def i_zz69_B7 : FC :=
 .seq (.seq (.ops [
 ⟨some 138, .mv (.tmp 14), none, 0⟩,
 ⟨some 139, .bin .lss (.tmp 138) (.const (.int .i64 5)), none, 0⟩]) <|
 .cond (.tmp 139)
 (.skip)
 (.keep [2, 13] <|
 .exit 9)) <|
 .seq (.block 10 <|
 .seq (.ops [
 ⟨some 15, .mv (.const (.int .i64 0)), none, 0⟩]) <|
 .block 11 <|
 .loop [2, 13, 14, 15] i_zz69_B6) <|
 .ops [
 ⟨some 140, .mv (.tmp 14), none, 0⟩,
 ⟨some 141, .bin .add (.tmp 140) (.const (.int .i64 1)), none, 0⟩,
 ⟨some 14, .mv (.tmp 141), none, 0⟩]
def i_zz69 : FF := ⟨222, [.cell 2 true 2, .tmp 3],
 .seq (.ops [
 ⟨some 2, .alloc [.int .i64 0, .slice none 0 0], none, 0⟩,
 ⟨some 3, .mv (.const (.bool false)), none, 0⟩]) <|
 .seq (.seq (.ops [
 ⟨some 17, .mv (.tmp 0), none, 0⟩]) <|
 .block 0 <|
 .seq (.ops [
 ⟨some 19, .bin .eql (.tmp 17) (.const (.string ⟨#[107, 52]⟩)), none, 0⟩,
 ⟨some 18, .mv (.tmp 19), none, 0⟩]) <|
 .cond (.tmp 18)
 (.seq (.ops [
 ⟨some 20, .call k_zz67 [(.const (.int .i64 4))], none, 0⟩,
 ⟨some 21, .call k_zz32 [(.tmp 20)], none, 0⟩,
 ⟨none, .store 2 (.tmp 2) (.tmp 21), none, 0⟩,
 ⟨some 3, .mv (.const (.bool true)), none, 0⟩]) <|
 .keep [2, 3] <|
 .ret)
 (.seq (.ops [
 ⟨some 23, .bin .eql (.tmp 17) (.const (.string ⟨#[107, 53]⟩)), none, 0⟩,
 ⟨some 22, .mv (.tmp 23), none, 0⟩]) <|
 .cond (.tmp 22)
 (.seq (.ops [
 ⟨some 24, .call k_zz67 [(.const (.int .i64 5))], none, 0⟩,
 ⟨some 25, .call k_zz32 [(.tmp 24)], none, 0⟩,
 ⟨none, .store 2 (.tmp 2) (.tmp 25), none, 0⟩,
 ⟨some 3, .mv (.const (.bool true)), none, 0⟩]) <|
 .keep [2, 3] <|
 .ret)
 (.seq (.ops [
 ⟨some 27, .bin .eql (.tmp 17) (.const (.string ⟨#[107, 51, 51]⟩)), none, 0⟩,
 ⟨some 26, .mv (.tmp 27), none, 0⟩]) <|
 .cond (.tmp 26)
 (.seq (.ops [
 ⟨some 28, .call k_zz67 [(.const (.int .i64 3))], none, 0⟩,
 ⟨some 29, .call k_zz32 [(.tmp 28)], none, 0⟩,
 ⟨some 30, .call k_zz67 [(.const (.int .i64 3))], none, 0⟩,
 ⟨some 31, .call k_zz32 [(.tmp 30)], none, 0⟩,
 ⟨some 32, .call k_zz59 [(.tmp 29), (.tmp 31)], none, 0⟩,
 ⟨some 33, .call k_zz32 [(.tmp 32)], none, 0⟩,
 ⟨none, .store 2 (.tmp 2) (.tmp 33), none, 0⟩,
 ⟨some 3, .mv (.const (.bool true)), none, 0⟩]) <|
 .keep [2, 3] <|
 .ret)
 (.seq (.seq (.ops [
 ⟨some 35, .bin .eql (.tmp 17) (.const (.string ⟨#[99, 117, 98, 101]⟩)), none, 0⟩,
 ⟨some 34, .mv (.tmp 35), none, 0⟩]) <|
 .cond (.tmp 34)
 (.skip)
 (.ops [
 ⟨some 36, .bin .eql (.tmp 17) (.const (.string ⟨#[99, 108, 101, 98, 115, 99, 104]⟩)), none, 0⟩,
 ⟨some 34, .mv (.tmp 36), none, 0⟩])) <|
 .cond (.tmp 34)
 (.seq (.ops [
 ⟨some 4, .mv (.const (.int .i64 8)), none, 0⟩]) <|
 .seq (.seq (.ops [
 ⟨some 37, .mv (.tmp 0), none, 0⟩,
 ⟨some 38, .bin .eql (.tmp 37) (.const (.string ⟨#[99, 108, 101, 98, 115, 99, 104]⟩)), none, 0⟩]) <|
 .cond (.tmp 38)
 (.ops [
 ⟨some 4, .mv (.const (.int .i64 16)), none, 0⟩])
 (.skip)) <|
 .seq (.ops [
 ⟨some 39, .mv (.tmp 4), none, 0⟩,
 ⟨some 40, .call k_zz67 [(.tmp 39)], none, 0⟩,
 ⟨some 5, .alloc [.int .i64 0, .slice none 0 0], none, 0⟩,
 ⟨none, .store 2 (.tmp 5) (.tmp 40), none, 0⟩]) <|
 .seq (.seq (.ops [
 ⟨some 6, .mv (.const (.int .i64 0)), none, 0⟩]) <|
 .block 1 <|
 .loop [2, 4, 5, 6] i_zz69_B2) <|
 .seq (.ops [
 ⟨some 64, .load true 2 (.tmp 5), none, 0⟩,
 ⟨none, .store 2 (.tmp 2) (.tmp 64), none, 0⟩,
 ⟨some 3, .mv (.const (.bool true)), none, 0⟩]) <|
 .keep [2, 3] <|
 .ret)
 (.seq (.ops [
 ⟨some 66, .bin .eql (.tmp 17) (.const (.string ⟨#[112, 101, 116, 101, 114, 115, 101, 110]⟩)), none, 0⟩,
 ⟨some 65, .mv (.tmp 66), none, 0⟩]) <|
 .cond (.tmp 65)
 (.seq (.ops [
 ⟨some 67, .call k_zz67 [(.const (.int .i64 10))], none, 0⟩,
 ⟨some 8, .alloc [.int .i64 0, .slice none 0 0], none, 0⟩,
 ⟨none, .store 2 (.tmp 8) (.tmp 67), none, 0⟩]) <|
 .seq (.seq (.ops [
 ⟨some 9, .mv (.const (.int .i64 0)), none, 0⟩]) <|
 .block 5 <|
 .loop [2, 8, 9] i_zz69_B3) <|
 .seq (.ops [
 ⟨some 91, .load true 2 (.tmp 8), none, 0⟩,
 ⟨none, .store 2 (.tmp 2) (.tmp 91), none, 0⟩,
 ⟨some 3, .mv (.const (.bool true)), none, 0⟩]) <|
 .keep [2, 3] <|
 .ret)
 (.seq (.ops [
 ⟨some 93, .bin .eql (.tmp 17) (.const (.string ⟨#[105, 99, 111, 115, 97, 104, 101, 100, 114, 111, 110]⟩)), none, 0⟩,
 ⟨some 92, .mv (.tmp 93), none, 0⟩]) <|
 .cond (.tmp 92)
 (.seq (.ops [
 ⟨some 94, .call k_zz67 [(.const (.int .i64 12))], none, 0⟩,
 ⟨some 10, .alloc [.int .i64 0, .slice none 0 0], none, 0⟩,
 ⟨none, .store 2 (.tmp 10) (.tmp 94), none, 0⟩]) <|
 .seq (.seq (.ops [
 ⟨some 11, .mv (.const (.int .i64 0)), none, 0⟩]) <|
 .block 7 <|
 .loop [2, 10, 11] i_zz69_B4) <|
 .seq (.ops [
 ⟨some 134, .load true 2 (.tmp 10), none, 0⟩,
 ⟨none, .store 2 (.tmp 2) (.tmp 134), none, 0⟩,
 ⟨some 3, .mv (.const (.bool true)), none, 0⟩]) <|
 .keep [2, 3] <|
 .ret)
 (.seq (.ops [
 ⟨some 136, .bin .eql (.tmp 17) (.const (.string ⟨#[104, 111, 102, 102, 109, 97, 110, 115, 105, 110, 103, 108, 101, 116, 111, 110]⟩)), none, 0⟩,
 ⟨some 135, .mv (.tmp 136), none, 0⟩]) <|
 .cond (.tmp 135)
 (.seq (.ops [
 ⟨some 137, .call k_zz67 [(.const (.int .i64 50))], none, 0⟩,
 ⟨some 13, .alloc [.int .i64 0, .slice none 0 0], none, 0⟩,
 ⟨none, .store 2 (.tmp 13) (.tmp 137), none, 0⟩]) <|
 .seq (.seq (.ops [
 ⟨some 14, .mv (.const (.int .i64 0)), none, 0⟩]) <|
 .block 9 <|
 .loop [2, 13, 14] i_zz69_B7) <|
 .seq (.ops [
 ⟨some 192, .load true 2 (.tmp 13), none, 0⟩,
 ⟨none, .store 2 (.tmp 2) (.tmp 192), none, 0⟩,
 ⟨some 3, .mv (.const (.bool true)), none, 0⟩]) <|
 .keep [2, 3] <|
 .ret)
 (.seq (.ops [
 ⟨some 194, .bin .eql (.tmp 17) (.const (.string ⟨#[104, 101, 97, 119, 111, 111, 100]⟩)), none, 0⟩,
 ⟨some 193, .mv (.tmp 194), none, 0⟩]) <|
 .cond (.tmp 193)
 (.seq (.ops [
 ⟨some 195, .buildSl 1 [.int .i64 0, .int .i64 0] [(0, 1, (.const (.int .i64 5))), (1, 1, (.const (.int .i64 9)))] 2, none, 0⟩,
 ⟨some 196, .call k_zz68 [(.const (.int .i64 14)), (.tmp 195)], none, 0⟩,
 ⟨none, .store 2 (.tmp 2) (.tmp 196), none, 0⟩,
 ⟨some 3, .mv (.const (.bool true)), none, 0⟩]) <|
 .keep [2, 3] <|
 .ret)
 (.seq (.ops [
 ⟨some 198, .bin .eql (.tmp 17) (.const (.string ⟨#[109, 111, 101, 98, 105, 117, 115, 107, 97, 110, 116, 111, 114]⟩)), none, 0⟩,
 ⟨some 197, .mv (.tmp 198), none, 0⟩]) <|
 .cond (.tmp 197)
 (.seq (.ops [
 ⟨some 199, .buildSl 1 [.int .i64 0, .int .i64 0] [(0, 1, (.const (.int .i64 5))), (1, 1, (.const (.int .i64 11)))] 2, none, 0⟩,
 ⟨some 200, .call k_zz68 [(.const (.int .i64 16)), (.tmp 199)], none, 0⟩,
 ⟨none, .store 2 (.tmp 2) (.tmp 200), none, 0⟩,
 ⟨some 3, .mv (.const (.bool true)), none, 0⟩]) <|
 .keep [2, 3] <|
 .ret)
 (.seq (.ops [
 ⟨some 202, .bin .eql (.tmp 17) (.const (.string ⟨#[112, 97, 112, 112, 117, 115]⟩)), none, 0⟩,
 ⟨some 201, .mv (.tmp 202), none, 0⟩]) <|
 .cond (.tmp 201)
 (.seq (.ops [
 ⟨some 203, .buildSl 1 [.int .i64 0, .int .i64 0, .int .i64 0, .int .i64 0, .int .i64 0, .int .i64 0] [(0, 1, (.const (.int .i64 5))), (1, 1, (.const (.int .i64 7))), (2, 1, (.const (.int .i64 11))), (3, 1, (.const (.int .i64 7))), (4, 1, (.const (.int .i64 11))), (5, 1, (.const (.int .i64 13)))] 6, none, 0⟩,
 ⟨some 204, .call k_zz68 [(.const (.int .i64 18)), (.tmp 203)], none, 0⟩,
 ⟨none, .store 2 (.tmp 2) (.tmp 204), none, 0⟩,
 ⟨some 3, .mv (.const (.bool true)), none, 0⟩]) <|
 .keep [2, 3] <|
 .ret)
 (.seq (.ops [
 ⟨some 206, .bin .eql (.tmp 17) (.const (.string ⟨#[100, 101, 115, 97, 114, 103, 117, 101, 115]⟩)), none, 0⟩,
 ⟨some 205, .mv (.tmp 206), none, 0⟩]) <|
 .cond (.tmp 205)
 (.seq (.ops [
 ⟨some 207, .buildSl 1 [.int .i64 0, .int .i64 0, .int .i64 0, .int .i64 0] [(0, 1, (.const (.int .i64 5))), (1, 1, (.const (.int .i64 15))), (2, 1, (.const (.int .i64 9))), (3, 1, (.const (.int .i64 11)))] 4, none, 0⟩,
 ⟨some 208, .call k_zz68 [(.const (.int .i64 20)), (.tmp 207)], none, 0⟩,
 ⟨none, .store 2 (.tmp 2) (.tmp 208), none, 0⟩,
 ⟨some 3, .mv (.const (.bool true)), none, 0⟩]) <|
 .keep [2, 3] <|
 .ret)
 (.seq (.ops [
 ⟨some 210, .bin .eql (.tmp 17) (.const (.string ⟨#[100, 111, 100, 101, 99, 97, 104, 101, 100, 114, 111, 110]⟩)), none, 0⟩,
 ⟨some 209, .mv (.tmp 210), none, 0⟩]) <|
 .cond (.tmp 209)
 (.seq (.ops [
 ⟨some 211, .buildSl 1 [.int .i64 0, .int .i64 0, .int .i64 0, .int .i64 0, .int .i64 0, .int .i64 0, .int .i64 0, .int .i64 0, .int .i64 0, .int .i64 0] [(0, 1, (.const (.int .i64 10))), (1, 1, (.const (.int .i64 7))), (2, 1, (.const (.int .i64 4))), (3, 1, (.const (.int .i64 16))), (4, 1, (.const (.int .i64 13))), (5, 1, (.const (.int .i64 10))), (6, 1, (.const (.int .i64 16))), (7, 1, (.const (.int .i64 7))), (8, 1, (.const (.int .i64 13))), (9, 1, (.const (.int .i64 4)))] 10, none, 0⟩,
 ⟨some 212, .call k_zz68 [(.const (.int .i64 20)), (.tmp 211)], none, 0⟩,
 ⟨none, .store 2 (.tmp 2) (.tmp 212), none, 0⟩,
 ⟨some 3, .mv (.const (.bool true)), none, 0⟩]) <|
 .keep [2, 3] <|
 .ret)
 (.seq (.ops [
 ⟨some 214, .bin .eql (.tmp 17) (.const (.string ⟨#[109, 99, 103, 101, 101]⟩)), none, 0⟩,
 ⟨some 213, .mv (.tmp 214), none, 0⟩]) <|
 .cond (.tmp 213)
 (.seq (.ops [
 ⟨some 215, .buildSl 1 [.int .i64 0, .int .i64 0, .int .i64 0] [(0, 1, (.const (.int .i64 12))), (1, 1, (.const (.int .i64 7))), (2, 1, (.const (.int .i64 17)))] 3, none, 0⟩,
 ⟨some 216, .call k_zz68 [(.const (.int .i64 24)), (.tmp 215)], none, 0⟩,
 ⟨none, .store 2 (.tmp 2) (.tmp 216), none, 0⟩,
 ⟨some 3, .mv (.const (.bool true)), none, 0⟩]) <|
 .keep [2, 3] <|
 .ret)
 (.seq (.ops [
 ⟨some 218, .bin .eql (.tmp 17) (.const (.string ⟨#[116, 117, 116, 116, 101, 99, 111, 120, 101, 116, 101, 114]⟩)), none, 0⟩,
 ⟨some 217, .mv (.tmp 218), none, 0⟩]) <|
 .cond (.tmp 217)
 (.seq (.ops [
 ⟨some 219, .buildSl 1 [.int .i64 0, .int .i64 0, .int .i64 0, .int .i64 0, .int .i64 0, .int .i64 0] [(0, 1, (.const (.int .i64 17))), (1, 1, (.const (.int .i64 21))), (2, 1, (.const (.int .i64 7))), (3, 1, (.const (.int .i64 23))), (4, 1, (.const (.int .i64 9))), (5, 1, (.const (.int .i64 13)))] 6, none, 0⟩,
 ⟨some 220, .call k_zz68 [(.const (.int .i64 30)), (.tmp 219)], none, 0⟩,
 ⟨none, .store 2 (.tmp 2) (.tmp 220), none, 0⟩,
 ⟨some 3, .mv (.const (.bool true)), none, 0⟩]) <|
 .keep [2, 3] <|
 .ret)
 (.skip))))))))))))))) <|
 .seq (.ops [
 ⟨some 221, .build [.int .i64 0, .slice none 0 0] [], none, 0⟩,
 ⟨none, .store 2 (.tmp 2) (.tmp 221), none, 0⟩,
 ⟨some 3, .mv (.const (.bool false)), none, 0⟩]) <|
 .keep [2, 3] <|
 .ret⟩
theorem e_zz69 : EntOK Tryz.prog (compD Tryz.prog) k_zz69 i_zz69.vf :=
 ⟨Tryz.f143, Tryz.f143.body.getD .skip, Tryz.func143, by kernel_rfl, by kernel_rfl, by kernel_rfl, by kernel_rfl, by kernel_rfl⟩
/-- loop.example/g01331/spec.l01Jumps -/
def i_zz68_B1 : FC :=
 .seq (.seq (.ops [
 ⟨some 9, .mv (.tmp 6), none, 0⟩,
 ⟨some 10, .mv (.tmp 0), none, 0⟩,
 ⟨some 11, .bin .lss (.tmp 9) (.tmp 10), none, 0⟩]) <|
 .cond (.tmp 11)
 (.skip)
 (.keep [4, 5] <|
 .exit 0)) <|
 .seq (.block 1 <|
 .seq (.dops [
 ⟨some 14, .load true 2 (.tmp 5), none, 0⟩,
 ⟨some 15, .mv (.tmp 6), none, 0⟩,
 ⟨some 16, .mv (.tmp 6), none, 0⟩,
 ⟨some 17, .bin .add (.tmp 16) (.const (.int .i64 1)), none, 0⟩,
 ⟨some 18, .mv (.tmp 0), none, 0⟩,
 ⟨some 19, .bin .rem (.tmp 17) (.tmp 18), none, 0⟩,
 ⟨some 20, .call k_zz90 [(.tmp 14), (.tmp 15), (.tmp 19)], none, 0⟩]) <|
 .seq (.ops [
 ⟨some 21, .mv (.tmp 1), none, 0⟩,
 ⟨some 22, .len (.tmp 21), none, 0⟩,
 ⟨some 23, .bin .gtr (.tmp 22) (.const (.int .i64 0)), none, 0⟩]) <|
 .cond (.tmp 23)
 (.dops [
 ⟨some 24, .load true 2 (.tmp 5), none, 0⟩,
 ⟨some 25, .mv (.tmp 6), none, 0⟩,
 ⟨some 26, .mv (.tmp 6), none, 0⟩,
 ⟨some 27, .mv (.tmp 1), none, 0⟩,
 ⟨some 28, .mv (.tmp 6), none, 0⟩,
 ⟨some 29, .mv (.tmp 1), none, 0⟩,
 ⟨some 30, .len (.tmp 29), none, 0⟩,
 ⟨some 31, .bin .rem (.tmp 28) (.tmp 30), none, 0⟩,
 ⟨some 32, .idx 1 (.tmp 27) (.tmp 31), none, 0⟩,
 ⟨some 33, .load false 1 (.tmp 32), none, 0⟩,
 ⟨some 34, .bin .add (.tmp 26) (.tmp 33), none, 0⟩,
 ⟨some 35, .mv (.tmp 0), none, 0⟩,
 ⟨some 36, .bin .rem (.tmp 34) (.tmp 35), none, 0⟩,
 ⟨some 37, .call k_zz90 [(.tmp 24), (.tmp 25), (.tmp 36)], none, 0⟩])
 (.skip)) <|
 .ops [
 ⟨some 12, .mv (.tmp 6), none, 0⟩,
 ⟨some 13, .bin .add (.tmp 12) (.const (.int .i64 1)), none, 0⟩,
 ⟨some 6, .mv (.tmp 13), none, 0⟩]
def i_zz68 : FF := ⟨39, [.cell 4 true 2],
 .seq (.ops [
 ⟨some 4, .alloc [.int .i64 0, .slice none 0 0], none, 0⟩]) <|
 .seq (.ops [
 ⟨some 7, .mv (.tmp 0), none, 0⟩,
 ⟨some 8, .call k_zz67 [(.tmp 7)], none, 0⟩,
 ⟨some 5, .alloc [.int .i64 0, .slice none 0 0], none, 0⟩,
 ⟨none, .store 2 (.tmp 5) (.tmp 8), none, 0⟩]) <|
 .seq (.seq (.ops [
 ⟨some 6, .mv (.const (.int .i64 0)), none, 0⟩]) <|
 .block 0 <|
 .loop [0, 1, 4, 5, 6] i_zz68_B1) <|
 .seq (.ops [
 ⟨some 38, .load true 2 (.tmp 5), none, 0⟩,
 ⟨none, .store 2 (.tmp 4) (.tmp 38), none, 0⟩]) <|
 .keep [4] <|
 .ret⟩
theorem e_zz68 : EntOK Tryz.prog (compD Tryz.prog) k_zz68 i_zz68.vf :=
 ⟨Tryz.f144, Tryz.f144.body.getD .skip, Tryz.func144, by kernel_rfl, by kernel_rfl, by kernel_rfl, by kernel_rfl, by kernel_rfl⟩
/-- loop.example/g01331/spec.l01Renamed -/
def i_zz48_B1 : FC :=
 .seq (.seq (.ops [
 ⟨some 17, .mv (.tmp 7), none, 0⟩,
 ⟨some 18, .mv (.tmp 6), none, 0⟩,
 ⟨some 19, .bin .lss (.tmp 17) (.tmp 18), none, 0⟩]) <|
 .cond (.tmp 19)
 (.skip)
 (.keep [1, 2, 4, 5, 6] <|
 .exit 2)) <|
 .seq (.block 3 <|
 .seq (.ops [
 ⟨some 22, .load true 2 (.tmp 2), none, 0⟩,
 ⟨some 23, .mv (.tmp 6), none, 0⟩,
 ⟨some 24, .mv (.tmp 7), none, 0⟩,
 ⟨some 25, .call k_zz88 [(.tmp 22), (.tmp 23), (.tmp 24)], none, 0⟩]) <|
 .cond (.tmp 25)
 (.dops [
 ⟨some 26, .load true 2 (.tmp 5), none, 0⟩,
 ⟨some 27, .mv (.tmp 1), none, 0⟩,
 ⟨some 28, .mv (.tmp 6), none, 0⟩,
 ⟨some 29, .idx 1 (.tmp 27) (.tmp 28), none, 0⟩,
 ⟨some 30, .load false 1 (.tmp 29), none, 0⟩,
 ⟨some 31, .mv (.tmp 1), none, 0⟩,
 ⟨some 32, .mv (.tmp 7), none, 0⟩,
 ⟨some 33, .idx 1 (.tmp 31) (.tmp 32), none, 0⟩,
 ⟨some 34, .load false 1 (.tmp 33), none, 0⟩,
 ⟨some 35, .call k_zz90 [(.tmp 26), (.tmp 30), (.tmp 34)], none, 0⟩])
 (.skip)) <|
 .ops [
 ⟨some 20, .mv (.tmp 7), none, 0⟩,
 ⟨some 21, .bin .add (.tmp 20) (.const (.int .i64 1)), none, 0⟩,
 ⟨some 7, .mv (.tmp 21), none, 0⟩]
def i_zz48_B2 : FC :=
 .seq (.seq (.ops [
 ⟨some 11, .mv (.tmp 6), none, 0⟩,
 ⟨some 12, .fld 0 (.tmp 2), none, 0⟩,
 ⟨some 13, .load false 1 (.tmp 12), none, 0⟩,
 ⟨some 14, .bin .lss (.tmp 11) (.tmp 13), none, 0⟩]) <|
 .cond (.tmp 14)
 (.skip)
 (.keep [4, 5] <|
 .exit 0)) <|
 .seq (.block 1 <|
 .seq (.ops [
 ⟨some 7, .mv (.const (.int .i64 0)), none, 0⟩]) <|
 .block 2 <|
 .loop [1, 2, 4, 5, 6, 7] i_zz48_B1) <|
 .ops [
 ⟨some 15, .mv (.tmp 6), none, 0⟩,
 ⟨some 16, .bin .add (.tmp 15) (.const (.int .i64 1)), none, 0⟩,
 ⟨some 6, .mv (.tmp 16), none, 0⟩]
def i_zz48 : FF := ⟨37, [.cell 4 true 2],
 .seq (.ops [
 ⟨some 2, .box 2 (.tmp 0), none, 0⟩,
 ⟨some 4, .alloc [.int .i64 0, .slice none 0 0], none, 0⟩]) <|
 .seq (.ops [
 ⟨some 8, .fld 0 (.tmp 2), none, 0⟩,
 ⟨some 9, .load false 1 (.tmp 8), none, 0⟩,
 ⟨some 10, .call k_zz67 [(.tmp 9)], none, 0⟩,
 ⟨some 5, .alloc [.int .i64 0, .slice none 0 0], none, 0⟩,
 ⟨none, .store 2 (.tmp 5) (.tmp 10), none, 0⟩]) <|
 .seq (.seq (.ops [
 ⟨some 6, .mv (.const (.int .i64 0)), none, 0⟩]) <|
 .block 0 <|
 .loop [1, 2, 4, 5, 6] i_zz48_B2) <|
 .seq (.ops [
 ⟨some 36, .load true 2 (.tmp 5), none, 0⟩,
 ⟨none, .store 2 (.tmp 4) (.tmp 36), none, 0⟩]) <|
 .keep [4] <|
 .ret⟩
theorem e_zz48 : EntOK Tryz.prog (compD Tryz.prog) k_zz48 i_zz48.vf :=
 ⟨Tryz.f145, Tryz.f145.body.getD .skip, Tryz.func145, by kernel_rfl, by kernel_rfl, by kernel_rfl, by kernel_rfl, by kernel_rfl⟩
/-- loop.example/g01331/spec.l01DrawOrder -/
def i_zz35_B1 : FC :=
 .seq (.seq (.ops [
 ⟨some 9, .mv (.tmp 6), none, 0⟩,
 ⟨some 10, .mv (.tmp 1), none, 0⟩,
 ⟨some 11, .bin .lss (.tmp 9) (.tmp 10), none, 0⟩]) <|
 .cond (.tmp 11)
 (.skip)
 (.keep [5] <|
 .exit 0)) <|
 .seq (.block 1 <|
 .seq (.ops [
 ⟨some 14, .mv (.tmp 0), none, 0⟩,
 ⟨some 15, .mv (.tmp 6), none, 0⟩,
 ⟨some 16, .bin .add (.tmp 15) (.const (.int .i64 1)), none, 0⟩,
 ⟨some 17, .call k_zz81 [(.tmp 14), (.tmp 16)], none, 0⟩,
 ⟨some 7, .mv (.tmp 17), none, 0⟩]) <|
 .dops [
 ⟨some 18, .mv (.tmp 5), none, 0⟩,
 ⟨some 19, .mv (.tmp 7), none, 0⟩,
 ⟨some 20, .slc 1 (.tmp 18) none (some (.tmp 19)), none, 0⟩,
 ⟨some 21, .call k_zz89 [(.tmp 20)], none, 0⟩,
 ⟨some 22, .mv (.tmp 6), none, 1⟩,
 ⟨some 23, .buildSl 1 [.int .i64 0] [(0, 1, (.tmp 22))] 1, none, 1⟩,
 ⟨some 24, .app 1 8 [.int .i64 0] (.tmp 21) (.tmp 23), none, 1⟩,
 ⟨some 25, .mv (.tmp 5), none, 3⟩,
 ⟨some 26, .mv (.tmp 7), none, 3⟩,
 ⟨some 27, .slc 1 (.tmp 25) (some (.tmp 26)) none, none, 3⟩,
 ⟨some 28, .app 1 8 [.int .i64 0] (.tmp 24) (.tmp 27), none, 1⟩,
 ⟨some 5, .mv (.tmp 28), none, 1⟩]) <|
 .ops [
 ⟨some 12, .mv (.tmp 6), none, 0⟩,
 ⟨some 13, .bin .add (.tmp 12) (.const (.int .i64 1)), none, 0⟩,
 ⟨some 6, .mv (.tmp 13), none, 0⟩]
def i_zz35 : FF := ⟨30, [.tmp 4],
 .seq (.ops [
 ⟨some 4, .mv (.const (.slice none 0 0)), none, 0⟩]) <|
 .seq (.ops [
 ⟨some 8, .buildSl 1 [] [] 0, none, 0⟩,
 ⟨some 5, .mv (.tmp 8), none, 0⟩]) <|
 .seq (.seq (.ops [
 ⟨some 6, .mv (.const (.int .i64 0)), none, 0⟩]) <|
 .block 0 <|
 .loop [0, 1, 5, 6] i_zz35_B1) <|
 .seq (.ops [
 ⟨some 29, .mv (.tmp 5), none, 0⟩,
 ⟨some 4, .mv (.tmp 29), none, 0⟩]) <|
 .keep [4] <|
 .ret⟩
theorem e_zz35 : EntOK Tryz.prog (compD Tryz.prog) k_zz35 i_zz35.vf :=
 ⟨Tryz.f146, Tryz.f146.body.getD .skip, Tryz.func146, by kernel_rfl, by kernel_rfl, by kernel_rfl, by kernel_rfl, by kernel_rfl⟩
/-- slices.siftDownOrdered[int64] -/
def i_zz11_B1 : FC :=
 .block 1 <|
 .seq (.ops [
 ⟨some 11, .mv (.tmp 8), none, 0⟩,
 ⟨some 12, .bin .mul (.const (.int .i64 2)) (.tmp 11), none, 0⟩,
 ⟨some 13, .bin .add (.tmp 12) (.const (.int .i64 1)), none, 0⟩,
 ⟨some 9, .mv (.tmp 13), none, 0⟩]) <|
 .seq (.seq (.ops [
 ⟨some 14, .mv (.tmp 9), none, 0⟩,
 ⟨some 15, .mv (.tmp 2), none, 0⟩,
 ⟨some 16, .bin .geq (.tmp 14) (.tmp 15), none, 0⟩]) <|
 .cond (.tmp 16)
 (.keep [] <|
 .exit 0)
 (.skip)) <|
 .seq (.seq (.dops [
 ⟨some 17, .mv (.tmp 9), none, 0⟩,
 ⟨some 18, .bin .add (.tmp 17) (.const (.int .i64 1)), none, 0⟩,
 ⟨some 19, .mv (.tmp 2), none, 0⟩,
 ⟨some 20, .bin .lss (.tmp 18) (.tmp 19), none, 0⟩,
 ⟨some 21, .mv (.tmp 20), none, 0⟩,
 ⟨some 22, .mv (.tmp 0), some (21, true), 0⟩,
 ⟨some 23, .mv (.tmp 3), some (21, true), 0⟩,
 ⟨some 24, .mv (.tmp 9), some (21, true), 0⟩,
 ⟨some 25, .bin .add (.tmp 23) (.tmp 24), some (21, true), 0⟩,
 ⟨some 26, .idx 1 (.tmp 22) (.tmp 25), some (21, true), 0⟩,
 ⟨some 27, .load false 1 (.tmp 26), some (21, true), 0⟩,
 ⟨some 28, .mv (.tmp 0), some (21, true), 0⟩,
 ⟨some 29, .mv (.tmp 3), some (21, true), 0⟩,
 ⟨some 30, .mv (.tmp 9), some (21, true), 0⟩,
 ⟨some 31, .bin .add (.tmp 29) (.tmp 30), some (21, true), 0⟩,
 ⟨some 32, .bin .add (.tmp 31) (.const (.int .i64 1)), some (21, true), 0⟩,
 ⟨some 33, .idx 1 (.tmp 28) (.tmp 32), some (21, true), 0⟩,
 ⟨some 34, .load false 1 (.tmp 33), some (21, true), 0⟩,
 ⟨some 35, .call k_zz50 [(.tmp 27), (.tmp 34)], some (21, true), 0⟩,
 ⟨some 36, .pick (.tmp 21) (.tmp 35) (.const (.bool false)), none, 0⟩]) <|
 .cond (.tmp 36)
 (.ops [
 ⟨some 37, .mv (.tmp 9), none, 0⟩,
 ⟨some 38, .bin .add (.tmp 37) (.const (.int .i64 1)), none, 0⟩,
 ⟨some 9, .mv (.tmp 38), none, 0⟩])
 (.skip)) <|
 .seq (.seq (.dops [
 ⟨some 39, .mv (.tmp 0), none, 0⟩,
 ⟨some 40, .mv (.tmp 3), none, 0⟩,
 ⟨some 41, .mv (.tmp 8), none, 0⟩,
 ⟨some 42, .bin .add (.tmp 40) (.tmp 41), none, 0⟩,
 ⟨some 43, .idx 1 (.tmp 39) (.tmp 42), none, 0⟩,
 ⟨some 44, .load false 1 (.tmp 43), none, 0⟩,
 ⟨some 45, .mv (.tmp 0), none, 0⟩,
 ⟨some 46, .mv (.tmp 3), none, 0⟩,
 ⟨some 47, .mv (.tmp 9), none, 0⟩,
 ⟨some 48, .bin .add (.tmp 46) (.tmp 47), none, 0⟩,
 ⟨some 49, .idx 1 (.tmp 45) (.tmp 48), none, 0⟩,
 ⟨some 50, .load false 1 (.tmp 49), none, 0⟩,
 ⟨some 51, .call k_zz50 [(.tmp 44), (.tmp 50)], none, 0⟩,
 ⟨some 52, .un .not (.tmp 51), none, 0⟩]) <|
 .cond (.tmp 52)
 (.keep [] <|
 .ret)
 (.skip)) <|
 .seq (.dops [
 ⟨some 53, .mv (.tmp 0), none, 0⟩,
 ⟨some 54, .mv (.tmp 3), none, 0⟩,
 ⟨some 55, .mv (.tmp 8), none, 0⟩,
 ⟨some 56, .bin .add (.tmp 54) (.tmp 55), none, 0⟩,
 ⟨some 61, .mv (.tmp 0), none, 0⟩,
 ⟨some 62, .mv (.tmp 3), none, 0⟩,
 ⟨some 63, .mv (.tmp 9), none, 0⟩,
 ⟨some 64, .bin .add (.tmp 62) (.tmp 63), none, 0⟩,
 ⟨some 65, .idx 1 (.tmp 61) (.tmp 64), none, 0⟩,
 ⟨some 66, .load false 1 (.tmp 65), none, 0⟩,
 ⟨some 67, .mv (.tmp 0), none, 0⟩,
 ⟨some 68, .mv (.tmp 3), none, 0⟩,
 ⟨some 69, .mv (.tmp 8), none, 0⟩,
 ⟨some 70, .bin .add (.tmp 68) (.tmp 69), none, 0⟩,
 ⟨some 71, .idx 1 (.tmp 67) (.tmp 70), none, 0⟩,
 ⟨some 72, .load false 1 (.tmp 71), none, 0⟩,
 ⟨some 73, .idx 1 (.tmp 53) (.tmp 56), none, 0⟩,
 ⟨none, .store 1 (.tmp 73) (.tmp 66), none, 0⟩,
 ⟨some 57, .mv (.tmp 0), none, 1⟩,
 ⟨some 58, .mv (.tmp 3), none, 1⟩,
 ⟨some 59, .mv (.tmp 9), none, 1⟩,
 ⟨some 60, .bin .add (.tmp 58) (.tmp 59), none, 1⟩,
 ⟨some 74, .idx 1 (.tmp 57) (.tmp 60), none, 0⟩,
 ⟨none, .store 1 (.tmp 74) (.tmp 72), none, 0⟩]) <|
 .ops [
 ⟨some 75, .mv (.tmp 9), none, 0⟩,
 ⟨some 8, .mv (.tmp 75), none, 0⟩]
def i_zz11 : FF := ⟨76, [],
 .seq (.ops [
 ⟨some 10, .mv (.tmp 1), none, 0⟩,
 ⟨some 8, .mv (.tmp 10), none, 0⟩]) <|
 .block 0 <|
 .loop [0, 2, 3, 8] i_zz11_B1⟩
theorem e_zz11 : EntOK Tryz.prog (compD Tryz.prog) k_zz11 i_zz11.vf :=
 ⟨Tryz.f147, Tryz.f147.body.getD .skip, Tryz.func147, by kernel_rfl, by kernel_rfl, by kernel_rfl, by kernel_rfl, by kernel_rfl⟩
/-- slices.nextPowerOfTwo -/
def i_zz20 : FF := ⟨7, [.tmp 2],
 .seq (.ops [
 ⟨some 2, .mv (.const (.int .u64 0)), none, 0⟩]) <|
 .seq (.ops [
 ⟨some 3, .mv (.tmp 0), none, 0⟩,
 ⟨some 4, .conv .u64 (.tmp 3), none, 0⟩,
 ⟨some 5, .call k_zz64 [(.tmp 4)], none, 0⟩,
 ⟨some 6, .bin .shl (.const (.int .u64 1)) (.tmp 5), none, 0⟩,
 ⟨some 2, .mv (.tmp 6), none, 0⟩]) <|
 .keep [2] <|
 .ret⟩
theorem e_zz20 : EntOK Tryz.prog (compD Tryz.prog) k_zz20 i_zz20.vf :=
 ⟨Tryz.f148, Tryz.f148.body.getD .skip, Tryz.func148, by kernel_rfl, by kernel_rfl, by kernel_rfl, by kernel_rfl, by kernel_rfl⟩
def i_zz24 : FF := ⟨33, [.tmp 2],
 .seq (.ops [
 ⟨some 2, .mv (.const (.int .u64 0)), none, 0⟩]) <|
 .seq (.dops [
 ⟨some 3, .mv (.tmp 0), none, 0⟩,
 ⟨some 4, .nilchk (.tmp 3), none, 0⟩,
 ⟨some 5, .load false 1 (.tmp 4), none, 0⟩,
 ⟨some 6, .mv (.tmp 0), none, 0⟩,
 ⟨some 7, .nilchk (.tmp 6), none, 0⟩,
 ⟨some 8, .load false 1 (.tmp 7), none, 0⟩,
 ⟨some 9, .bin .shl (.tmp 8) (.const (.int .u64 13)), none, 0⟩,
 ⟨some 10, .bin .xor (.tmp 5) (.tmp 9), none, 0⟩,
 ⟨some 11, .nilchk (.tmp 3), none, 0⟩,
 ⟨none, .store 1 (.tmp 11) (.tmp 10), none, 0⟩]) <|
 .seq (.dops [
 ⟨some 12, .mv (.tmp 0), none, 0⟩,
 ⟨some 13, .nilchk (.tmp 12), none, 0⟩,
 ⟨some 14, .load false 1 (.tmp 13), none, 0⟩,
 ⟨some 15, .mv (.tmp 0), none, 0⟩,
 ⟨some 16, .nilchk (.tmp 15), none, 0⟩,
 ⟨some 17, .load false 1 (.tmp 16), none, 0⟩,
 ⟨some 18, .bin .shr (.tmp 17) (.const (.int .u64 7)), none, 0⟩,
 ⟨some 19, .bin .xor (.tmp 14) (.tmp 18), none, 0⟩,
 ⟨some 20, .nilchk (.tmp 12), none, 0⟩,
 ⟨none, .store 1 (.tmp 20) (.tmp 19), none, 0⟩]) <|
 .seq (.dops [
 ⟨some 21, .mv (.tmp 0), none, 0⟩,
 ⟨some 22, .nilchk (.tmp 21), none, 0⟩,
 ⟨some 23, .load false 1 (.tmp 22), none, 0⟩,
 ⟨some 24, .mv (.tmp 0), none, 0⟩,
 ⟨some 25, .nilchk (.tmp 24), none, 0⟩,
 ⟨some 26, .load false 1 (.tmp 25), none, 0⟩,
 ⟨some 27, .bin .shl (.tmp 26) (.const (.int .u64 17)), none, 0⟩,
 ⟨some 28, .bin .xor (.tmp 23) (.tmp 27), none, 0⟩,
 ⟨some 29, .nilchk (.tmp 21), none, 0⟩,
 ⟨none, .store 1 (.tmp 29) (.tmp 28), none, 0⟩]) <|
 .seq (.ops [
 ⟨some 30, .mv (.tmp 0), none, 0⟩,
 ⟨some 31, .nilchk (.tmp 30), none, 0⟩,
 ⟨some 32, .load false 1 (.tmp 31), none, 0⟩,
 ⟨some 2, .mv (.tmp 32), none, 0⟩]) <|
 .keep [2] <|
 .ret⟩
theorem e_zz24 : EntOK Tryz.prog (compD Tryz.prog) k_zz24 i_zz24.vf :=
 ⟨Tryz.f149, Tryz.f149.body.getD .skip, Tryz.func149, by kernel_rfl, by kernel_rfl, by kernel_rfl, by kernel_rfl, by kernel_rfl⟩
/-- slices.medianAdjacentOrdered[int64] -/
def i_zz1 : FF := ⟨15, [.tmp 6],
 .seq (.ops [
 ⟨some 6, .mv (.const (.int .i64 0)), none, 0⟩]) <|
 .seq (.ops [
 ⟨some 7, .mv (.tmp 0), none, 0⟩,
 ⟨some 8, .mv (.tmp 1), none, 0⟩,
 ⟨some 9, .bin .sub (.tmp 8) (.const (.int .i64 1)), none, 0⟩,
 ⟨some 10, .mv (.tmp 1), none, 0⟩,
 ⟨some 11, .mv (.tmp 1), none, 0⟩,
 ⟨some 12, .bin .add (.tmp 11) (.const (.int .i64 1)), none, 0⟩,
 ⟨some 13, .mv (.tmp 2), none, 0⟩,
 ⟨some 14, .call k_zz13 [(.tmp 7), (.tmp 9), (.tmp 10), (.tmp 12), (.tmp 13)], none, 0⟩,
 ⟨some 6, .mv (.tmp 14), none, 0⟩]) <|
 .keep [6] <|
 .ret⟩
theorem e_zz1 : EntOK Tryz.prog (compD Tryz.prog) k_zz1 i_zz1.vf :=
 ⟨Tryz.f150, Tryz.f150.body.getD .skip, Tryz.func150, by kernel_rfl, by kernel_rfl, by kernel_rfl, by kernel_rfl, by kernel_rfl⟩
/-- slices.medianOrdered[int64] -/
def i_zz13 : FF := ⟨36, [.tmp 10],
 .seq (.ops [
 ⟨some 10, .mv (.const (.int .i64 0)), none, 0⟩]) <|
 .seq (.ops [
 ⟨some 12, .mv (.tmp 0), none, 0⟩,
 ⟨some 13, .mv (.tmp 1), none, 0⟩,
 ⟨some 14, .mv (.tmp 2), none, 0⟩,
 ⟨some 15, .mv (.tmp 4), none, 0⟩,
 ⟨some 16, .call k_zz14 [(.tmp 12), (.tmp 13), (.tmp 14), (.tmp 15)], none, 0⟩,
 ⟨some 11, .mv (.tmp 16), none, 0⟩,
 ⟨some 17, .ext (.tmp 11) 0, none, 0⟩,
 ⟨some 18, .ext (.tmp 11) 1, none, 0⟩,
 ⟨some 1, .mv (.tmp 17), none, 0⟩,
 ⟨some 2, .mv (.tmp 18), none, 0⟩]) <|
 .seq (.ops [
 ⟨some 20, .mv (.tmp 0), none, 0⟩,
 ⟨some 21, .mv (.tmp 2), none, 0⟩,
 ⟨some 22, .mv (.tmp 3), none, 0⟩,
 ⟨some 23, .mv (.tmp 4), none, 0⟩,
 ⟨some 24, .call k_zz14 [(.tmp 20), (.tmp 21), (.tmp 22), (.tmp 23)], none, 0⟩,
 ⟨some 19, .mv (.tmp 24), none, 0⟩,
 ⟨some 25, .ext (.tmp 19) 0, none, 0⟩,
 ⟨some 26, .ext (.tmp 19) 1, none, 0⟩,
 ⟨some 2, .mv (.tmp 25), none, 0⟩,
 ⟨some 3, .mv (.tmp 26), none, 0⟩]) <|
 .seq (.ops [
 ⟨some 28, .mv (.tmp 0), none, 0⟩,
 ⟨some 29, .mv (.tmp 1), none, 0⟩,
 ⟨some 30, .mv (.tmp 2), none, 0⟩,
 ⟨some 31, .mv (.tmp 4), none, 0⟩,
 ⟨some 32, .call k_zz14 [(.tmp 28), (.tmp 29), (.tmp 30), (.tmp 31)], none, 0⟩,
 ⟨some 27, .mv (.tmp 32), none, 0⟩,
 ⟨some 33, .ext (.tmp 27) 0, none, 0⟩,
 ⟨some 34, .ext (.tmp 27) 1, none, 0⟩,
 ⟨some 1, .mv (.tmp 33), none, 0⟩,
 ⟨some 2, .mv (.tmp 34), none, 0⟩]) <|
 .seq (.ops [
 ⟨some 35, .mv (.tmp 2), none, 0⟩,
 ⟨some 10, .mv (.tmp 35), none, 0⟩]) <|
 .keep [10] <|
 .ret⟩
theorem e_zz13 : EntOK Tryz.prog (compD Tryz.prog) k_zz13 i_zz13.vf :=
 ⟨Tryz.f151, Tryz.f151.body.getD .skip, Tryz.func151, by kernel_rfl, by kernel_rfl, by kernel_rfl, by kernel_rfl, by kernel_rfl⟩
/-- math/bits.Mul32 -/
def i_zz45 : FF := ⟨17, [.tmp 4, .tmp 5],
 .seq (.ops [
 ⟨some 4, .mv (.const (.int .u32 0)), none, 0⟩,
 ⟨some 5, .mv (.const (.int .u32 0)), none, 0⟩]) <|
 .seq (.ops [
 ⟨some 7, .mv (.tmp 0), none, 0⟩,
 ⟨some 8, .conv .u64 (.tmp 7), none, 0⟩,
 ⟨some 9, .mv (.tmp 1), none, 0⟩,
 ⟨some 10, .conv .u64 (.tmp 9), none, 0⟩,
 ⟨some 11, .bin .mul (.tmp 8) (.tmp 10), none, 0⟩,
 ⟨some 6, .mv (.tmp 11), none, 0⟩]) <|
 .seq (.ops [
 ⟨some 12, .mv (.tmp 6), none, 0⟩,
 ⟨some 13, .bin .shr (.tmp 12) (.const (.int .u64 32)), none, 0⟩,
 ⟨some 14, .conv .u32 (.tmp 13), none, 0⟩,
 ⟨some 15, .mv (.tmp 6), none, 0⟩,
 ⟨some 16, .conv .u32 (.tmp 15), none, 0⟩,
 ⟨some 4, .mv (.tmp 14), none, 0⟩,
 ⟨some 5, .mv (.tmp 16), none, 0⟩]) <|
 .keep [4, 5] <|
 .ret⟩
theorem e_zz45 : EntOK Tryz.prog (compD Tryz.prog) k_zz45 i_zz45.vf :=
 ⟨Tryz.f152, Tryz.f152.body.getD .skip, Tryz.func152, by kernel_rfl, by kernel_rfl, by kernel_rfl, by kernel_rfl, by kernel_rfl⟩
/-- math/bits.Mul64 -/
def i_zz46 : FF := ⟨51, [.tmp 4, .tmp 5],
 .seq (.ops [
 ⟨some 4, .mv (.const (.int .u64 0)), none, 0⟩,
 ⟨some 5, .mv (.const (.int .u64 0)), none, 0⟩]) <|
 .seq (.ops [
 ⟨some 14, .mv (.tmp 0), none, 0⟩,
 ⟨some 15, .bin .and (.tmp 14) (.const (.int .u64 4294967295)), none, 0⟩,
 ⟨some 6, .mv (.tmp 15), none, 0⟩]) <|
 .seq (.ops [
 ⟨some 16, .mv (.tmp 0), none, 0⟩,
 ⟨some 17, .bin .shr (.tmp 16) (.const (.int .u64 32)), none, 0⟩,
 ⟨some 7, .mv (.tmp 17), none, 0⟩]) <|
 .seq (.ops [
 ⟨some 18, .mv (.tmp 1), none, 0⟩,
 ⟨some 19, .bin .and (.tmp 18) (.const (.int .u64 4294967295)), none, 0⟩,
 ⟨some 8, .mv (.tmp 19), none, 0⟩]) <|
 .seq (.ops [
 ⟨some 20, .mv (.tmp 1), none, 0⟩,
 ⟨some 21, .bin .shr (.tmp 20) (.const (.int .u64 32)), none, 0⟩,
 ⟨some 9, .mv (.tmp 21), none, 0⟩]) <|
 .seq (.ops [
 ⟨some 22, .mv (.tmp 6), none, 0⟩,
 ⟨some 23, .mv (.tmp 8), none, 0⟩,
 ⟨some 24, .bin .mul (.tmp 22) (.tmp 23), none, 0⟩,
 ⟨some 10, .mv (.tmp 24), none, 0⟩]) <|
 .seq (.ops [
 ⟨some 25, .mv (.tmp 7), none, 0⟩,
 ⟨some 26, .mv (.tmp 8), none, 0⟩,
 ⟨some 27, .bin .mul (.tmp 25) (.tmp 26), none, 0⟩,
 ⟨some 28, .mv (.tmp 10), none, 0⟩,
 ⟨some 29, .bin .shr (.tmp 28) (.const (.int .u64 32)), none, 0⟩,
 ⟨some 30, .bin .add (.tmp 27) (.tmp 29), none, 0⟩,
 ⟨some 11, .mv (.tmp 30), none, 0⟩]) <|
 .seq (.ops [
 ⟨some 31, .mv (.tmp 11), none, 0⟩,
 ⟨some 32, .bin .and (.tmp 31) (.const (.int .u64 4294967295)), none, 0⟩,
 ⟨some 12, .mv (.tmp 32), none, 0⟩]) <|
 .seq (.ops [
 ⟨some 33, .mv (.tmp 11), none, 0⟩,
 ⟨some 34, .bin .shr (.tmp 33) (.const (.int .u64 32)), none, 0⟩,
 ⟨some 13, .mv (.tmp 34), none, 0⟩]) <|
 .seq (.ops [
 ⟨some 35, .mv (.tmp 12), none, 0⟩,
 ⟨some 36, .mv (.tmp 6), none, 0⟩,
 ⟨some 37, .mv (.tmp 9), none, 0⟩,
 ⟨some 38, .bin .mul (.tmp 36) (.tmp 37), none, 0⟩,
 ⟨some 39, .bin .add (.tmp 35) (.tmp 38), none, 0⟩,
 ⟨some 12, .mv (.tmp 39), none, 0⟩]) <|
 .seq (.ops [
 ⟨some 40, .mv (.tmp 7), none, 0⟩,
 ⟨some 41, .mv (.tmp 9), none, 0⟩,
 ⟨some 42, .bin .mul (.tmp 40) (.tmp 41), none, 0⟩,
 ⟨some 43, .mv (.tmp 13), none, 0⟩,
 ⟨some 44, .bin .add (.tmp 42) (.tmp 43), none, 0⟩,
 ⟨some 45, .mv (.tmp 12), none, 0⟩,
 ⟨some 46, .bin .shr (.tmp 45) (.const (.int .u64 32)), none, 0⟩,
 ⟨some 47, .bin .add (.tmp 44) (.tmp 46), none, 0⟩,
 ⟨some 4, .mv (.tmp 47), none, 0⟩]) <|
 .seq (.ops [
 ⟨some 48, .mv (.tmp 0), none, 0⟩,
 ⟨some 49, .mv (.tmp 1), none, 0⟩,
 ⟨some 50, .bin .mul (.tmp 48) (.tmp 49), none, 0⟩,
 ⟨some 5, .mv (.tmp 50), none, 0⟩]) <|
 .keep [4, 5] <|
 .ret⟩
theorem e_zz46 : EntOK Tryz.prog (compD Tryz.prog) k_zz46 i_zz46.vf :=
 ⟨Tryz.f153, Tryz.f153.body.getD .skip, Tryz.func153, by kernel_rfl, by kernel_rfl, by kernel_rfl, by kernel_rfl, by kernel_rfl⟩
/-- loop.example/g01331/spec.l01Complement -/
def i_zz32_B1 : FC :=
 .seq (.seq (.ops [
 ⟨some 8, .mv (.tmp 4), none, 0⟩,
 ⟨some 9, .fld 0 (.tmp 1), none, 0⟩,
 ⟨some 10, .load false 1 (.tmp 9), none, 0⟩,
 ⟨some 11, .bin .lss (.tmp 8) (.tmp 10), none, 0⟩]) <|
 .cond (.tmp 11)
 (.skip)
 (.keep [2, 3] <|
 .exit 0)) <|
 .seq (.block 1 <|
 .dops [
 ⟨some 14, .fld 1 (.tmp 3), none, 0⟩,
 ⟨some 15, .load false 1 (.tmp 14), none, 0⟩,
 ⟨some 16, .mv (.tmp 4), none, 0⟩,
 ⟨some 17, .fld 0 (.tmp 1), none, 0⟩,
 ⟨some 18, .load false 1 (.tmp 17), none, 0⟩,
 ⟨some 19, .conv .u64 (.tmp 18), none, 0⟩,
 ⟨some 20, .bin .shl (.const (.int .i64 1)) (.tmp 19), none, 0⟩,
 ⟨some 21, .bin .sub (.tmp 20) (.const (.int .i64 1)), none, 0⟩,
 ⟨some 22, .fld 1 (.tmp 1), none, 0⟩,
 ⟨some 23, .load false 1 (.tmp 22), none, 0⟩,
 ⟨some 24, .mv (.tmp 4), none, 0⟩,
 ⟨some 25, .idx 1 (.tmp 23) (.tmp 24), none, 0⟩,
 ⟨some 26, .load false 1 (.tmp 25), none, 0⟩,
 ⟨some 27, .bin .sub (.tmp 21) (.tmp 26), none, 0⟩,
 ⟨some 28, .mv (.tmp 4), none, 0⟩,
 ⟨some 29, .conv .u64 (.tmp 28), none, 0⟩,
 ⟨some 30, .bin .shl (.const (.int .i64 1)) (.tmp 29), none, 0⟩,
 ⟨some 31, .bin .sub (.tmp 27) (.tmp 30), none, 0⟩,
 ⟨some 32, .idx 1 (.tmp 15) (.tmp 16), none, 0⟩,
 ⟨none, .store 1 (.tmp 32) (.tmp 31), none, 0⟩]) <|
 .ops [
 ⟨some 12, .mv (.tmp 4), none, 0⟩,
 ⟨some 13, .bin .add (.tmp 12) (.const (.int .i64 1)), none, 0⟩,
 ⟨some 4, .mv (.tmp 13), none, 0⟩]
def i_zz32 : FF := ⟨34, [.cell 2 true 2],
 .seq (.ops [
 ⟨some 1, .box 2 (.tmp 0), none, 0⟩,
 ⟨some 2, .alloc [.int .i64 0, .slice none 0 0], none, 0⟩]) <|
 .seq (.ops [
 ⟨some 5, .fld 0 (.tmp 1), none, 0⟩,
 ⟨some 6, .load false 1 (.tmp 5), none, 0⟩,
 ⟨some 7, .call k_zz67 [(.tmp 6)], none, 0⟩,
 ⟨some 3, .alloc [.int .i64 0, .slice none 0 0], none, 0⟩,
 ⟨none, .store 2 (.tmp 3) (.tmp 7), none, 0⟩]) <|
 .seq (.seq (.ops [
 ⟨some 4, .mv (.const (.int .i64 0)), none, 0⟩]) <|
 .block 0 <|
 .loop [1, 2, 3, 4] i_zz32_B1) <|
 .seq (.ops [
 ⟨some 33, .load true 2 (.tmp 3), none, 0⟩,
 ⟨none, .store 2 (.tmp 2) (.tmp 33), none, 0⟩]) <|
 .keep [2] <|
 .ret⟩
theorem e_zz32 : EntOK Tryz.prog (compD Tryz.prog) k_zz32 i_zz32.vf :=
 ⟨Tryz.f157, Tryz.f157.body.getD .skip, Tryz.func157, by kernel_rfl, by kernel_rfl, by kernel_rfl, by kernel_rfl, by kernel_rfl⟩
/-- slices.order2Ordered[int64] -/
def i_zz14 : FF := ⟨28, [.tmp 8, .tmp 9],
 .seq (.ops [
 ⟨some 8, .mv (.const (.int .i64 0)), none, 0⟩,
 ⟨some 9, .mv (.const (.int .i64 0)), none, 0⟩]) <|
 .seq (.seq (.dops [
 ⟨some 10, .mv (.tmp 0), none, 0⟩,
 ⟨some 11, .mv (.tmp 2), none, 0⟩,
 ⟨some 12, .idx 1 (.tmp 10) (.tmp 11), none, 0⟩,
 ⟨some 13, .load false 1 (.tmp 12), none, 0⟩,
 ⟨some 14, .mv (.tmp 0), none, 0⟩,
 ⟨some 15, .mv (.tmp 1), none, 0⟩,
 ⟨some 16, .idx 1 (.tmp 14) (.tmp 15), none, 0⟩,
 ⟨some 17, .load false 1 (.tmp 16), none, 0⟩,
 ⟨some 18, .call k_zz50 [(.tmp 13), (.tmp 17)], none, 0⟩]) <|
 .cond (.tmp 18)
 (.seq (.ops [
 ⟨some 19, .mv (.tmp 3), none, 0⟩,
 ⟨some 20, .nilchk (.tmp 19), none, 0⟩,
 ⟨some 21, .load false 1 (.tmp 20), none, 0⟩,
 ⟨some 22, .bin .add (.tmp 21) (.const (.int .i64 1)), none, 0⟩,
 ⟨some 23, .nilchk (.tmp 19), none, 0⟩,
 ⟨none, .store 1 (.tmp 23) (.tmp 22), none, 0⟩]) <|
 .seq (.ops [
 ⟨some 24, .mv (.tmp 2), none, 0⟩,
 ⟨some 25, .mv (.tmp 1), none, 0⟩,
 ⟨some 8, .mv (.tmp 24), none, 0⟩,
 ⟨some 9, .mv (.tmp 25), none, 0⟩]) <|
 .keep [8, 9] <|
 .ret)
 (.skip)) <|
 .seq (.ops [
 ⟨some 26, .mv (.tmp 1), none, 0⟩,
 ⟨some 27, .mv (.tmp 2), none, 0⟩,
 ⟨some 8, .mv (.tmp 26), none, 0⟩,
 ⟨some 9, .mv (.tmp 27), none, 0⟩]) <|
 .keep [8, 9] <|
 .ret⟩
theorem e_zz14 : EntOK Tryz.prog (compD Tryz.prog) k_zz14 i_zz14.vf :=
 ⟨Tryz.f158, Tryz.f158.body.getD .skip, Tryz.func158, by kernel_rfl, by kernel_rfl, by kernel_rfl, by kernel_rfl, by kernel_rfl⟩
def tab : List (Nat × FF) := [(k_zz42, i_zz42), (k_zz99, i_zz99), (k_zz31, i_zz31), (k_zz54, i_zz54), (k_zz58, i_zz58), (k_zz26, i_zz26), (k_zz30, i_zz30), (k_zz76, i_zz76), (k_zz29, i_zz29), (k_zz51, i_zz51), (k_zz47, i_zz47), (k_zz85, i_zz85), (k_zz86, i_zz86), (k_zz39, i_zz39), (k_zz74, i_zz74), (k_zz77, i_zz77), (k_zz41, i_zz41), (k_zz92, i_zz92), (k_zz75, i_zz75), (k_zz37, i_zz37), (k_zz52, i_zz52), (k_zz83, i_zz83), (k_zz84, i_zz84), (k_zz49, i_zz49), (k_zz21, i_zz21), (k_zz61, i_zz61), (k_zz63, i_zz63), (k_zz73, i_zz73), (k_zz16, i_zz16), (k_zz18, i_zz18), (k_zz17, i_zz17), (k_zz62, i_zz62), (k_zz93, i_zz93), (k_zz36, i_zz36), (k_zz53, i_zz53), (k_zz27, i_zz27), (k_zz72, i_zz72), (k_zz79, i_zz79), (k_zz38, i_zz38), (k_zz59, i_zz59), (k_zz67, i_zz67), (k_zz90, i_zz90), (k_zz82, i_zz82), (k_zz80, i_zz80), (k_zz22, i_zz22), (k_zz95, i_zz95), (k_zz94, i_zz94), (k_zz91, i_zz91), (k_zz56, i_zz56), (k_zz28, i_zz28), (k_zz81, i_zz81), (k_zz97, i_zz97), (k_zz98, i_zz98), (k_zz96, i_zz96), (k_zz71, i_zz71), (k_zz78, i_zz78), (k_zz87, i_zz87), (k_zz55, i_zz55), (k_zz57, i_zz57), (k_zz66, i_zz66), (k_zz12, i_zz12), (k_zz64, i_zz64), (k_zz33, i_zz33), (k_zz89, i_zz89), (k_zz15, i_zz15), (k_zz88, i_zz88), (k_zz34, i_zz34), (k_zz7, i_zz7), (k_zz23, i_zz23), (k_zz19, i_zz19), (k_zz25, i_zz25), (k_zz60, i_zz60), (k_zz4, i_zz4), (k_zz10, i_zz10), (k_zz3, i_zz3), (k_zz6, i_zz6), (k_zz5, i_zz5), (k_zz0, i_zz0), (k_zz50, i_zz50), (k_zz2, i_zz2), (k_zz8, i_zz8), (k_zz43, i_zz43), (k_zz44, i_zz44), (k_zz65, i_zz65), (k_zz9, i_zz9), (k_zz40, i_zz40), (k_zz70, i_zz70), (k_zz69, i_zz69), (k_zz68, i_zz68), (k_zz48, i_zz48), (k_zz35, i_zz35), (k_zz11, i_zz11), (k_zz20, i_zz20), (k_zz24, i_zz24), (k_zz1, i_zz1), (k_zz13, i_zz13), (k_zz45, i_zz45), (k_zz46, i_zz46), (k_zz32, i_zz32), (k_zz14, i_zz14)]
theorem tabOK : ∀ p ∈ tab, EntOK Tryz.prog (compD Tryz.prog) p.1 p.2.vf := by
 intro p hp
 simp only [tab, List.mem_cons, List.not_mem_nil, or_false] at hp
 rcases hp with rfl | rfl | rfl | rfl | rfl | rfl | rfl | rfl | rfl | rfl | rfl | rfl | rfl | rfl | rfl | rfl | rfl | rfl | rfl | rfl | rfl | rfl | rfl | rfl | rfl | rfl | rfl | rfl | rfl | rfl | rfl | rfl | rfl | rfl | rfl | rfl | rfl | rfl | rfl | rfl | rfl | rfl | rfl | rfl | rfl | rfl | rfl | rfl | rfl | rfl | rfl | rfl | rfl | rfl | rfl | rfl | rfl | rfl | rfl | rfl | rfl | rfl | rfl | rfl | rfl | rfl | rfl | rfl | rfl | rfl | rfl | rfl | rfl | rfl | rfl | rfl | rfl | rfl | rfl | rfl | rfl | rfl | rfl | rfl | rfl | rfl | rfl | rfl | rfl | rfl | rfl | rfl | rfl | rfl | rfl | rfl | rfl | rfl | rfl | rfl
 ·exact e_zz42
 ·exact e_zz99
 ·exact e_zz31
 ·exact e_zz54
 ·exact e_zz58
 ·exact e_zz26
 ·exact e_zz30
 ·exact e_zz76
 ·exact e_zz29
 ·exact e_zz51
 ·exact e_zz47
 ·exact e_zz85
 ·exact e_zz86
 ·exact e_zz39
 ·exact e_zz74
 ·exact e_zz77
 ·exact e_zz41
 ·exact e_zz92
 ·exact e_zz75
 ·exact e_zz37
 ·exact e_zz52
 ·exact e_zz83
 ·exact e_zz84
 ·exact e_zz49
 ·exact e_zz21
 ·exact e_zz61
 ·exact e_zz63
 ·exact e_zz73
 ·exact e_zz16
 ·exact e_zz18
 ·exact e_zz17
 ·exact e_zz62
 ·exact e_zz93
 ·exact e_zz36
 ·exact e_zz53
 ·exact e_zz27
 ·exact e_zz72
 ·exact e_zz79
 ·exact e_zz38
 ·exact e_zz59
 ·exact e_zz67
 ·exact e_zz90
 ·exact e_zz82
 ·exact e_zz80
 ·exact e_zz22
 ·exact e_zz95
 ·exact e_zz94
 ·exact e_zz91
 ·exact e_zz56
 ·exact e_zz28
 ·exact e_zz81
 ·exact e_zz97
 ·exact e_zz98
 ·exact e_zz96
 ·exact e_zz71
 ·exact e_zz78
 ·exact e_zz87
 ·exact e_zz55
 ·exact e_zz57
 ·exact e_zz66
 ·exact e_zz12
 ·exact e_zz64
 ·exact e_zz33
 ·exact e_zz89
 ·exact e_zz15
 ·exact e_zz88
 ·exact e_zz34
 ·exact e_zz7
 ·exact e_zz23
 ·exact e_zz19
 ·exact e_zz25
 ·exact e_zz60
 ·exact e_zz4
 ·exact e_zz10
 ·exact e_zz3
 ·exact e_zz6
 ·exact e_zz5
 ·exact e_zz0
 ·exact e_zz50
 ·exact e_zz2
 ·exact e_zz8
 ·exact e_zz43
 ·exact e_zz44
 ·exact e_zz65
 ·exact e_zz9
 ·exact e_zz40
 ·exact e_zz70
 ·exact e_zz69
 ·exact e_zz68
 ·exact e_zz48
 ·exact e_zz35
 ·exact e_zz11
 ·exact e_zz20
 ·exact e_zz24
 ·exact e_zz1
 ·exact e_zz13
 ·exact e_zz45
 ·exact e_zz46
 ·exact e_zz32
 ·exact e_zz14
def F (n : Nat) : Option Ent := match tab.lookup n with
 | some f => some (.ir f.vf)
 | none => if n = k_math_bits_TrailingZeros64 then some (.ext tzX) else none
variable {nro : Nat} {args : List Value} {h : VH} {r : Value × VH}
theorem v_zz42 (ha : args.length ≤ i_zz42.ntmps) (hr : fbody (vcall F nro) nro i_zz42 args h = some r) : vcall F nro k_zz42 args h = some r := vcall_f (by kernel_rfl) (by kernel_rfl) ha hr
theorem v_zz99 (ha : args.length ≤ i_zz99.ntmps) (hr : fbody (vcall F nro) nro i_zz99 args h = some r) : vcall F nro k_zz99 args h = some r := vcall_f (by kernel_rfl) (by kernel_rfl) ha hr
theorem v_zz31 (ha : args.length ≤ i_zz31.ntmps) (hr : fbody (vcall F nro) nro i_zz31 args h = some r) : vcall F nro k_zz31 args h = some r := vcall_f (by kernel_rfl) (by kernel_rfl) ha hr
theorem v_zz54 (ha : args.length ≤ i_zz54.ntmps) (hr : fbody (vcall F nro) nro i_zz54 args h = some r) : vcall F nro k_zz54 args h = some r := vcall_f (by kernel_rfl) (by kernel_rfl) ha hr
theorem v_zz58 (ha : args.length ≤ i_zz58.ntmps) (hr : fbody (vcall F nro) nro i_zz58 args h = some r) : vcall F nro k_zz58 args h = some r := vcall_f (by kernel_rfl) (by kernel_rfl) ha hr
theorem v_zz26 (ha : args.length ≤ i_zz26.ntmps) (hr : fbody (vcall F nro) nro i_zz26 args h = some r) : vcall F nro k_zz26 args h = some r := vcall_f (by kernel_rfl) (by kernel_rfl) ha hr
theorem v_zz30 (ha : args.length ≤ i_zz30.ntmps) (hr : fbody (vcall F nro) nro i_zz30 args h = some r) : vcall F nro k_zz30 args h = some r := vcall_f (by kernel_rfl) (by kernel_rfl) ha hr
theorem v_zz76 (ha : args.length ≤ i_zz76.ntmps) (hr : fbody (vcall F nro) nro i_zz76 args h = some r) : vcall F nro k_zz76 args h = some r := vcall_f (by kernel_rfl) (by kernel_rfl) ha hr
theorem v_zz29 (ha : args.length ≤ i_zz29.ntmps) (hr : fbody (vcall F nro) nro i_zz29 args h = some r) : vcall F nro k_zz29 args h = some r := vcall_f (by kernel_rfl) (by kernel_rfl) ha hr
theorem v_zz51 (ha : args.length ≤ i_zz51.ntmps) (hr : fbody (vcall F nro) nro i_zz51 args h = some r) : vcall F nro k_zz51 args h = some r := vcall_f (by kernel_rfl) (by kernel_rfl) ha hr
theorem v_zz47 (ha : args.length ≤ i_zz47.ntmps) (hr : fbody (vcall F nro) nro i_zz47 args h = some r) : vcall F nro k_zz47 args h = some r := vcall_f (by kernel_rfl) (by kernel_rfl) ha hr
theorem v_zz85 (ha : args.length ≤ i_zz85.ntmps) (hr : fbody (vcall F nro) nro i_zz85 args h = some r) : vcall F nro k_zz85 args h = some r := vcall_f (by kernel_rfl) (by kernel_rfl) ha hr
theorem v_zz86 (ha : args.length ≤ i_zz86.ntmps) (hr : fbody (vcall F nro) nro i_zz86 args h = some r) : vcall F nro k_zz86 args h = some r := vcall_f (by kernel_rfl) (by kernel_rfl) ha hr
theorem v_zz39 (ha : args.length ≤ i_zz39.ntmps) (hr : fbody (vcall F nro) nro i_zz39 args h = some r) : vcall F nro k_zz39 args h = some r := vcall_f (by kernel_rfl) (by kernel_rfl) ha hr
theorem v_zz74 (ha : args.length ≤ i_zz74.ntmps) (hr : fbody (vcall F nro) nro i_zz74 args h = some r) : vcall F nro k_zz74 args h = some r := vcall_f (by kernel_rfl) (by kernel_rfl) ha hr
theorem v_zz77 (ha : args.length ≤ i_zz77.ntmps) (hr : fbody (vcall F nro) nro i_zz77 args h = some r) : vcall F nro k_zz77 args h = some r := vcall_f (by kernel_rfl) (by kernel_rfl) ha hr
theorem v_zz41 (ha : args.length ≤ i_zz41.ntmps) (hr : fbody (vcall F nro) nro i_zz41 args h = some r) : vcall F nro k_zz41 args h = some r := vcall_f (by kernel_rfl) (by kernel_rfl) ha hr
theorem v_zz92 (ha : args.length ≤ i_zz92.ntmps) (hr : fbody (vcall F nro) nro i_zz92 args h = some r) : vcall F nro k_zz92 args h = some r := vcall_f (by kernel_rfl) (by kernel_rfl) ha hr
theorem v_zz75 (ha : args.length ≤ i_zz75.ntmps) (hr : fbody (vcall F nro) nro i_zz75 args h = some r) : vcall F nro k_zz75 args h = some r := vcall_f (by kernel_rfl) (by kernel_rfl) ha hr
theorem v_zz37 (ha : args.length ≤ i_zz37.ntmps) (hr : fbody (vcall F nro) nro i_zz37 args h = some r) : vcall F nro k_zz37 args h = some r := vcall_f (by kernel_rfl) (by kernel_rfl) ha hr
theorem v_zz52 (ha : args.length ≤ i_zz52.ntmps) (hr : fbody (vcall F nro) nro i_zz52 args h = some r) : vcall F nro k_zz52 args h = some r := vcall_f (by kernel_rfl) (by kernel_rfl) ha hr
theorem v_zz83 (ha : args.length ≤ i_zz83.ntmps) (hr : fbody (vcall F nro) nro i_zz83 args h = some r) : vcall F nro k_zz83 args h = some r := vcall_f (by kernel_rfl) (by kernel_rfl) ha hr
theorem v_zz84 (ha : args.length ≤ i_zz84.ntmps) (hr : fbody (vcall F nro) nro i_zz84 args h = some r) : vcall F nro k_zz84 args h = some r := vcall_f (by kernel_rfl) (by kernel_rfl) ha hr
theorem v_zz49 (ha : args.length ≤ i_zz49.ntmps) (hr : fbody (vcall F nro) nro i_zz49 args h = some r) : vcall F nro k_zz49 args h = some r := vcall_f (by kernel_rfl) (by kernel_rfl) ha hr
theorem v_zz21 (ha : args.length ≤ i_zz21.ntmps) (hr : fbody (vcall F nro) nro i_zz21 args h = some r) : vcall F nro k_zz21 args h = some r := vcall_f (by kernel_rfl) (by kernel_rfl) ha hr
theorem v_zz61 (ha : args.length ≤ i_zz61.ntmps) (hr : fbody (vcall F nro) nro i_zz61 args h = some r) : vcall F nro k_zz61 args h = some r := vcall_f (by kernel_rfl) (by kernel_rfl) ha hr
theorem v_zz63 (ha : args.length ≤ i_zz63.ntmps) (hr : fbody (vcall F nro) nro i_zz63 args h = some r) : vcall F nro k_zz63 args h = some r := vcall_f (by kernel_rfl) (by kernel_rfl) ha hr
theorem v_zz73 (ha : args.length ≤ i_zz73.ntmps) (hr : fbody (vcall F nro) nro i_zz73 args h = some r) : vcall F nro k_zz73 args h = some r := vcall_f (by kernel_rfl) (by kernel_rfl) ha hr
theorem v_zz16 (ha : args.length ≤ i_zz16.ntmps) (hr : fbody (vcall F nro) nro i_zz16 args h = some r) : vcall F nro k_zz16 args h = some r := vcall_f (by kernel_rfl) (by kernel_rfl) ha hr
theorem v_zz18 (ha : args.length ≤ i_zz18.ntmps) (hr : fbody (vcall F nro) nro i_zz18 args h = some r) : vcall F nro k_zz18 args h = some r := vcall_f (by kernel_rfl) (by kernel_rfl) ha hr
theorem v_zz17 (ha : args.length ≤ i_zz17.ntmps) (hr : fbody (vcall F nro) nro i_zz17 args h = some r) : vcall F nro k_zz17 args h = some r := vcall_f (by kernel_rfl) (by kernel_rfl) ha hr
theorem v_zz62 (ha : args.length ≤ i_zz62.ntmps) (hr : fbody (vcall F nro) nro i_zz62 args h = some r) : vcall F nro k_zz62 args h = some r := vcall_f (by kernel_rfl) (by kernel_rfl) ha hr
theorem v_zz93 (ha : args.length ≤ i_zz93.ntmps) (hr : fbody (vcall F nro) nro i_zz93 args h = some r) : vcall F nro k_zz93 args h = some r := vcall_f (by kernel_rfl) (by kernel_rfl) ha hr
theorem v_zz36 (ha : args.length ≤ i_zz36.ntmps) (hr : fbody (vcall F nro) nro i_zz36 args h = some r) : vcall F nro k_zz36 args h = some r := vcall_f (by kernel_rfl) (by kernel_rfl) ha hr
theorem v_zz53 (ha : args.length ≤ i_zz53.ntmps) (hr : fbody (vcall F nro) nro i_zz53 args h = some r) : vcall F nro k_zz53 args h = some r := vcall_f (by kernel_rfl) (by kernel_rfl) ha hr
theorem v_zz27 (ha : args.length ≤ i_zz27.ntmps) (hr : fbody (vcall F nro) nro i_zz27 args h = some r) : vcall F nro k_zz27 args h = some r := vcall_f (by kernel_rfl) (by kernel_rfl) ha hr
theorem v_zz72 (ha : args.length ≤ i_zz72.ntmps) (hr : fbody (vcall F nro) nro i_zz72 args h = some r) : vcall F nro k_zz72 args h = some r := vcall_f (by kernel_rfl) (by kernel_rfl) ha hr
theorem v_zz79 (ha : args.length ≤ i_zz79.ntmps) (hr : fbody (vcall F nro) nro i_zz79 args h = some r) : vcall F nro k_zz79 args h = some r := vcall_f (by kernel_rfl) (by kernel_rfl) ha hr
theorem v_zz38 (ha : args.length ≤ i_zz38.ntmps) (hr : fbody (vcall F nro) nro i_zz38 args h = some r) : vcall F nro k_zz38 args h = some r := vcall_f (by kernel_rfl) (by kernel_rfl) ha hr
theorem v_zz59 (ha : args.length ≤ i_zz59.ntmps) (hr : fbody (vcall F nro) nro i_zz59 args h = some r) : vcall F nro k_zz59 args h = some r := vcall_f (by kernel_rfl) (by kernel_rfl) ha hr
theorem v_zz67 (ha : args.length ≤ i_zz67.ntmps) (hr : fbody (vcall F nro) nro i_zz67 args h = some r) : vcall F nro k_zz67 args h = some r := vcall_f (by kernel_rfl) (by kernel_rfl) ha hr
theorem v_zz90 (ha : args.length ≤ i_zz90.ntmps) (hr : fbody (vcall F nro) nro i_zz90 args h = some r) : vcall F nro k_zz90 args h = some r := vcall_f (by kernel_rfl) (by kernel_rfl) ha hr
theorem v_zz82 (ha : args.length ≤ i_zz82.ntmps) (hr : fbody (vcall F nro) nro i_zz82 args h = some r) : vcall F nro k_zz82 args h = some r := vcall_f (by kernel_rfl) (by kernel_rfl) ha hr
theorem v_zz80 (ha : args.length ≤ i_zz80.ntmps) (hr : fbody (vcall F nro) nro i_zz80 args h = some r) : vcall F nro k_zz80 args h = some r := vcall_f (by kernel_rfl) (by kernel_rfl) ha hr
theorem v_zz22 (ha : args.length ≤ i_zz22.ntmps) (hr : fbody (vcall F nro) nro i_zz22 args h = some r) : vcall F nro k_zz22 args h = some r := vcall_f (by kernel_rfl) (by kernel_rfl) ha hr
theorem v_zz95 (ha : args.length ≤ i_zz95.ntmps) (hr : fbody (vcall F nro) nro i_zz95 args h = some r) : vcall F nro k_zz95 args h = some r := vcall_f (by kernel_rfl) (by kernel_rfl) ha hr
theorem v_zz94 (ha : args.length ≤ i_zz94.ntmps) (hr : fbody (vcall F nro) nro i_zz94 args h = some r) : vcall F nro k_zz94 args h = some r := vcall_f (by kernel_rfl) (by kernel_rfl) ha hr
theorem v_zz91 (ha : args.length ≤ i_zz91.ntmps) (hr : fbody (vcall F nro) nro i_zz91 args h = some r) : vcall F nro k_zz91 args h = some r := vcall_f (by kernel_rfl) (by kernel_rfl) ha hr
theorem v_zz56 (ha : args.length ≤ i_zz56.ntmps) (hr : fbody (vcall F nro) nro i_zz56 args h = some r) : vcall F nro k_zz56 args h = some r := vcall_f (by kernel_rfl) (by kernel_rfl) ha hr
theorem v_zz28 (ha : args.length ≤ i_zz28.ntmps) (hr : fbody (vcall F nro) nro i_zz28 args h = some r) : vcall F nro k_zz28 args h = some r := vcall_f (by kernel_rfl) (by kernel_rfl) ha hr
theorem v_zz81 (ha : args.length ≤ i_zz81.ntmps) (hr : fbody (vcall F nro) nro i_zz81 args h = some r) : vcall F nro k_zz81 args h = some r := vcall_f (by kernel_rfl) (by kernel_rfl) ha hr
theorem v_zz97 (ha : args.length ≤ i_zz97.ntmps) (hr : fbody (vcall F nro) nro i_zz97 args h = some r) : vcall F nro k_zz97 args h = some r := vcall_f (by kernel_rfl) (by kernel_rfl) ha hr
theorem v_zz98 (ha : args.length ≤ i_zz98.ntmps) (hr : fbody (vcall F nro) nro i_zz98 args h = some r) : vcall F nro k_zz98 args h = some r := vcall_f (by kernel_rfl) (by kernel_rfl) ha hr
theorem v_zz96 (ha : args.length ≤ i_zz96.ntmps) (hr : fbody (vcall F nro) nro i_zz96 args h = some r) : vcall F nro k_zz96 args h = some r := vcall_f (by kernel_rfl) (by kernel_rfl) ha hr
theorem v_zz71 (ha : args.length ≤ i_zz71.ntmps) (hr : fbody (vcall F nro) nro i_zz71 args h = some r) : vcall F nro k_zz71 args h = some r := vcall_f (by kernel_rfl) (by kernel_rfl) ha hr
theorem v_zz78 (ha : args.length ≤ i_zz78.ntmps) (hr : fbody (vcall F nro) nro i_zz78 args h = some r) : vcall F nro k_zz78 args h = some r := vcall_f (by kernel_rfl) (by kernel_rfl) ha hr
theorem v_zz87 (ha : args.length ≤ i_zz87.ntmps) (hr : fbody (vcall F nro) nro i_zz87 args h = some r) : vcall F nro k_zz87 args h = some r := vcall_f (by kernel_rfl) (by kernel_rfl) ha hr
theorem v_zz55 (ha : args.length ≤ i_zz55.ntmps) (hr : fbody (vcall F nro) nro i_zz55 args h = some r) : vcall F nro k_zz55 args h = some r := vcall_f (by kernel_rfl) (by kernel_rfl) ha hr
theorem v_zz57 (ha : args.length ≤ i_zz57.ntmps) (hr : fbody (vcall F nro) nro i_zz57 args h = some r) : vcall F nro k_zz57 args h = some r := vcall_f (by kernel_rfl) (by kernel_rfl) ha hr
theorem v_zz66 (ha : args.length ≤ i_zz66.ntmps) (hr : fbody (vcall F nro) nro i_zz66 args h = some r) : vcall F nro k_zz66 args h = some r := vcall_f (by kernel_rfl) (by kernel_rfl) ha hr
theorem v_zz12 (ha : args.length ≤ i_zz12.ntmps) (hr : fbody (vcall F nro) nro i_zz12 args h = some r) : vcall F nro k_zz12 args h = some r := vcall_f (by kernel_rfl) (by kernel_rfl) ha hr
theorem v_zz64 (ha : args.length ≤ i_zz64.ntmps) (hr : fbody (vcall F nro) nro i_zz64 args h = some r) : vcall F nro k_zz64 args h = some r := vcall_f (by kernel_rfl) (by kernel_rfl) ha hr
theorem v_zz33 (ha : args.length ≤ i_zz33.ntmps) (hr : fbody (vcall F nro) nro i_zz33 args h = some r) : vcall F nro k_zz33 args h = some r := vcall_f (by kernel_rfl) (by kernel_rfl) ha hr
theorem v_zz89 (ha : args.length ≤ i_zz89.ntmps) (hr : fbody (vcall F nro) nro i_zz89 args h = some r) : vcall F nro k_zz89 args h = some r := vcall_f (by kernel_rfl) (by kernel_rfl) ha hr
theorem v_zz15 (ha : args.length ≤ i_zz15.ntmps) (hr : fbody (vcall F nro) nro i_zz15 args h = some r) : vcall F nro k_zz15 args h = some r := vcall_f (by kernel_rfl) (by kernel_rfl) ha hr
theorem v_zz88 (ha : args.length ≤ i_zz88.ntmps) (hr : fbody (vcall F nro) nro i_zz88 args h = some r) : vcall F nro k_zz88 args h = some r := vcall_f (by kernel_rfl) (by kernel_rfl) ha hr
theorem v_zz34 (ha : args.length ≤ i_zz34.ntmps) (hr : fbody (vcall F nro) nro i_zz34 args h = some r) : vcall F nro k_zz34 args h = some r := vcall_f (by kernel_rfl) (by kernel_rfl) ha hr
theorem v_zz7 (ha : args.length ≤ i_zz7.ntmps) (hr : fbody (vcall F nro) nro i_zz7 args h = some r) : vcall F nro k_zz7 args h = some r := vcall_f (by kernel_rfl) (by kernel_rfl) ha hr
theorem v_zz23 (ha : args.length ≤ i_zz23.ntmps) (hr : fbody (vcall F nro) nro i_zz23 args h = some r) : vcall F nro k_zz23 args h = some r := vcall_f (by kernel_rfl) (by kernel_rfl) ha hr
theorem v_zz19 (ha : args.length ≤ i_zz19.ntmps) (hr : fbody (vcall F nro) nro i_zz19 args h = some r) : vcall F nro k_zz19 args h = some r := vcall_f (by kernel_rfl) (by kernel_rfl) ha hr
theorem v_zz25 (ha : args.length ≤ i_zz25.ntmps) (hr : fbody (vcall F nro) nro i_zz25 args h = some r) : vcall F nro k_zz25 args h = some r := vcall_f (by kernel_rfl) (by kernel_rfl) ha hr
theorem v_zz60 (ha : args.length ≤ i_zz60.ntmps) (hr : fbody (vcall F nro) nro i_zz60 args h = some r) : vcall F nro k_zz60 args h = some r := vcall_f (by kernel_rfl) (by kernel_rfl) ha hr
theorem v_zz4 (ha : args.length ≤ i_zz4.ntmps) (hr : fbody (vcall F nro) nro i_zz4 args h = some r) : vcall F nro k_zz4 args h = some r := vcall_f (by kernel_rfl) (by kernel_rfl) ha hr
theorem v_zz10 (ha : args.length ≤ i_zz10.ntmps) (hr : fbody (vcall F nro) nro i_zz10 args h = some r) : vcall F nro k_zz10 args h = some r := vcall_f (by kernel_rfl) (by kernel_rfl) ha hr
theorem v_zz3 (ha : args.length ≤ i_zz3.ntmps) (hr : fbody (vcall F nro) nro i_zz3 args h = some r) : vcall F nro k_zz3 args h = some r := vcall_f (by kernel_rfl) (by kernel_rfl) ha hr
theorem v_zz6 (ha : args.length ≤ i_zz6.ntmps) (hr : fbody (vcall F nro) nro i_zz6 args h = some r) : vcall F nro k_zz6 args h = some r := vcall_f (by kernel_rfl) (by kernel_rfl) ha hr
theorem v_zz5 (ha : args.length ≤ i_zz5.ntmps) (hr : fbody (vcall F nro) nro i_zz5 args h = some r) : vcall F nro k_zz5 args h = some r := vcall_f (by kernel_rfl) (by kernel_rfl) ha hr
theorem v_zz0 (ha : args.length ≤ i_zz0.ntmps) (hr : fbody (vcall F nro) nro i_zz0 args h = some r) : vcall F nro k_zz0 args h = some r := vcall_f (by kernel_rfl) (by kernel_rfl) ha hr
theorem v_zz50 (ha : args.length ≤ i_zz50.ntmps) (hr : fbody (vcall F nro) nro i_zz50 args h = some r) : vcall F nro k_zz50 args h = some r := vcall_f (by kernel_rfl) (by kernel_rfl) ha hr
theorem v_zz2 (ha : args.length ≤ i_zz2.ntmps) (hr : fbody (vcall F nro) nro i_zz2 args h = some r) : vcall F nro k_zz2 args h = some r := vcall_f (by kernel_rfl) (by kernel_rfl) ha hr
theorem v_zz8 (ha : args.length ≤ i_zz8.ntmps) (hr : fbody (vcall F nro) nro i_zz8 args h = some r) : vcall F nro k_zz8 args h = some r := vcall_f (by kernel_rfl) (by kernel_rfl) ha hr
theorem v_zz43 (ha : args.length ≤ i_zz43.ntmps) (hr : fbody (vcall F nro) nro i_zz43 args h = some r) : vcall F nro k_zz43 args h = some r := vcall_f (by kernel_rfl) (by kernel_rfl) ha hr
theorem v_zz44 (ha : args.length ≤ i_zz44.ntmps) (hr : fbody (vcall F nro) nro i_zz44 args h = some r) : vcall F nro k_zz44 args h = some r := vcall_f (by kernel_rfl) (by kernel_rfl) ha hr
theorem v_zz65 (ha : args.length ≤ i_zz65.ntmps) (hr : fbody (vcall F nro) nro i_zz65 args h = some r) : vcall F nro k_zz65 args h = some r := vcall_f (by kernel_rfl) (by kernel_rfl) ha hr
theorem v_zz9 (ha : args.length ≤ i_zz9.ntmps) (hr : fbody (vcall F nro) nro i_zz9 args h = some r) : vcall F nro k_zz9 args h = some r := vcall_f (by kernel_rfl) (by kernel_rfl) ha hr
theorem v_zz40 (ha : args.length ≤ i_zz40.ntmps) (hr : fbody (vcall F nro) nro i_zz40 args h = some r) : vcall F nro k_zz40 args h = some r := vcall_f (by kernel_rfl) (by kernel_rfl) ha hr
theorem v_zz70 (ha : args.length ≤ i_zz70.ntmps) (hr : fbody (vcall F nro) nro i_zz70 args h = some r) : vcall F nro k_zz70 args h = some r := vcall_f (by kernel_rfl) (by kernel_rfl) ha hr
theorem v_zz69 (ha : args.length ≤ i_zz69.ntmps) (hr : fbody (vcall F nro) nro i_zz69 args h = some r) : vcall F nro k_zz69 args h = some r := vcall_f (by kernel_rfl) (by kernel_rfl) ha hr
theorem v_zz68 (ha : args.length ≤ i_zz68.ntmps) (hr : fbody (vcall F nro) nro i_zz68 args h = some r) : vcall F nro k_zz68 args h = some r := vcall_f (by kernel_rfl) (by kernel_rfl) ha hr
theorem v_zz48 (ha : args.length ≤ i_zz48.ntmps) (hr : fbody (vcall F nro) nro i_zz48 args h = some r) : vcall F nro k_zz48 args h = some r := vcall_f (by kernel_rfl) (by kernel_rfl) ha hr
theorem v_zz35 (ha : args.length ≤ i_zz35.ntmps) (hr : fbody (vcall F nro) nro i_zz35 args h = some r) : vcall F nro k_zz35 args h = some r := vcall_f (by kernel_rfl) (by kernel_rfl) ha hr
theorem v_zz11 (ha : args.length ≤ i_zz11.ntmps) (hr : fbody (vcall F nro) nro i_zz11 args h = some r) : vcall F nro k_zz11 args h = some r := vcall_f (by kernel_rfl) (by kernel_rfl) ha hr
theorem v_zz20 (ha : args.length ≤ i_zz20.ntmps) (hr : fbody (vcall F nro) nro i_zz20 args h = some r) : vcall F nro k_zz20 args h = some r := vcall_f (by kernel_rfl) (by kernel_rfl) ha hr
theorem v_zz24 (ha : args.length ≤ i_zz24.ntmps) (hr : fbody (vcall F nro) nro i_zz24 args h = some r) : vcall F nro k_zz24 args h = some r := vcall_f (by kernel_rfl) (by kernel_rfl) ha hr
theorem v_zz1 (ha : args.length ≤ i_zz1.ntmps) (hr : fbody (vcall F nro) nro i_zz1 args h = some r) : vcall F nro k_zz1 args h = some r := vcall_f (by kernel_rfl) (by kernel_rfl) ha hr
theorem v_zz13 (ha : args.length ≤ i_zz13.ntmps) (hr : fbody (vcall F nro) nro i_zz13 args h = some r) : vcall F nro k_zz13 args h = some r := vcall_f (by kernel_rfl) (by kernel_rfl) ha hr
theorem v_zz45 (ha : args.length ≤ i_zz45.ntmps) (hr : fbody (vcall F nro) nro i_zz45 args h = some r) : vcall F nro k_zz45 args h = some r := vcall_f (by kernel_rfl) (by kernel_rfl) ha hr
theorem v_zz46 (ha : args.length ≤ i_zz46.ntmps) (hr : fbody (vcall F nro) nro i_zz46 args h = some r) : vcall F nro k_zz46 args h = some r := vcall_f (by kernel_rfl) (by kernel_rfl) ha hr
theorem v_zz32 (ha : args.length ≤ i_zz32.ntmps) (hr : fbody (vcall F nro) nro i_zz32 args h = some r) : vcall F nro k_zz32 args h = some r := vcall_f (by kernel_rfl) (by kernel_rfl) ha hr
theorem v_zz14 (ha : args.length ≤ i_zz14.ntmps) (hr : fbody (vcall F nro) nro i_zz14 args h = some r) : vcall F nro k_zz14 args h = some r := vcall_f (by kernel_rfl) (by kernel_rfl) ha hr
end

/- Symbolic steps: what simp needs to walk through code. -/
section
open Go
section
variable {call : VCall} {nro : Nat}
@[simp] theorem fput_some (e : FE) (d t : Nat) (v : Value) : fput e (some d) v t = if t = d then v else e t := rfl
@[simp] theorem fput_none (e : FE) (v : Value) : fput e none v = e := rfl
@[simp] theorem fl_cons (i : Nat) (v : Value) (r : List (Nat × Value)) (t : Nat) : fl ((i, v) :: r) t = if t = i then v else fl r t := rfl
@[simp] theorem fargs_cons (a : Value) (r : List Value) : fargs (a :: r) 0 = a := rfl
@[simp] theorem fargs_succ (a : Value) (r : List Value) (t : Nat) : fargs (a :: r) (t + 1) = fargs r t := rfl
@[simp] theorem fev_tmp (e : FE) (t : Nat) : fev e (.tmp t) = e t := rfl
@[simp] theorem fev_const (e : FE) (v : Value) : fev e (.const v) = v := rfl
@[simp] theorem fev_func (e : FE) (f : Nat) : fev e (.func f) = .func (.func f) #[] #[] := rfl
def kops (call : VCall) (nro : Nat) (d : Option Nat) (os : List VOper) (e : FE) : Option (Value × VH) → Option (FE × VH)
 | some (v, h) => fops call nro os (fput e d v) h
 | none => none
theorem fput_self (e : FE) (g : Nat) (v : Value) (h : e g = v) : fput e (some g) v = e := by
 funext t
 simp only [fput_some]
 split
 ·rename_i ht; rw [ht, h]
 ·rfl
def kguard (call : VCall) (nro : Nat) (g : Nat) (b : Bool) (d : Option Nat) (op : VOp) (os : List VOper) (e : FE) (h : VH) : Value → Option (FE × VH)
 | .bool c => if c = b then kops call nro d os (fput e (some g) (.bool b)) (vop call nro (fev (fput e (some g) (.bool b))) h op) else fops call nro os (fput (fput e (some g) (.bool !b)) d undef) h
 | .tuple vs => if vs.size = 0 then fops call nro os (fput e d undef) h else none
 | _ => none
@[simp] theorem fops_nil (e : FE) (h : VH) : fops call nro [] e h = some (e, h) := rfl
@[simp] theorem fops_cons (d : Option Nat) (op : VOp) (k : Nat) (os : List VOper) (e : FE) (h : VH) : fops call nro (⟨d, op, none, k⟩ :: os) e h = kops call nro d os e (vop call nro (fev e) h op) := by
 simp only [fops, fwanted]
 cases vop call nro (fev e) h op <;> rfl
@[simp] theorem fops_guard (d : Option Nat) (op : VOp) (g : Nat) (b : Bool) (k : Nat) (os : List VOper) (e : FE) (h : VH) : fops call nro (⟨d, op, some (g, b), k⟩ :: os) e h = kguard call nro g b d op os e h (e g) := by
 simp only [fops, fwanted]
 generalize hg : e g = x
 cases x with
 | bool c =>
  simp only [kguard]
  cases c <;> cases b <;> simp [kops, fput_self _ _ _ hg] <;> cases vop call nro (fev e) h op <;> rfl
 | tuple vs => simp only [kguard]; split <;> simp_all
 | _ => rfl
@[simp] theorem kops_some (d : Option Nat) (os : List VOper) (e : FE) (v : Value) (h : VH) : kops call nro d os e (some (v, h)) = fops call nro os (fput e d v) h := rfl
@[simp] theorem kops_none (d : Option Nat) (os : List VOper) (e : FE) : kops call nro d os e none = none := rfl
@[simp] theorem kops_ite (d : Option Nat) (os : List VOper) (e : FE) (c : Prop) [Decidable c] (x y : Option (Value × VH)) : kops call nro d os e (if c then x else y) = if c then kops call nro d os e x else kops call nro d os e y := by split <;> rfl
@[simp] theorem kguard_bool (g : Nat) (b c : Bool) (d : Option Nat) (op : VOp) (os : List VOper) (e : FE) (h : VH) : kguard call nro g b d op os e h (.bool c) = if c = b then kops call nro d os (fput e (some g) (.bool b)) (vop call nro (fev (fput e (some g) (.bool b))) h op) else fops call nro os (fput (fput e (some g) (.bool !b)) d undef) h := rfl
@[simp] theorem kguard_undef (g : Nat) (b : Bool) (d : Option Nat) (op : VOp) (os : List VOper) (e : FE) (h : VH) : kguard call nro g b d op os e h undef = fops call nro os (fput e d undef) h := rfl
open Classical in
noncomputable def kdops (call : VCall) (nro : Nat) (d : Option Nat) (op : VOp) (k : Nat) (os : List VOper) (e : FE) (h : VH) (hs : List VH) : Option (Value × VH) → Option (FE × VH)
 | some (v, h') => if op.eff = true then fdops call nro os (fput e d v) h' (h :: hs) else if ∀ g ∈ hs.take k, vop call nro (fev e) g op = some (v, g) then fdops call nro os (fput e d v) h' hs else none
 | none => none
noncomputable def kdguard (call : VCall) (nro : Nat) (g : Nat) (b : Bool) (d : Option Nat) (op : VOp) (k : Nat) (os : List VOper) (e : FE) (h : VH) (hs : List VH) : Value → Option (FE × VH)
 | .bool c => if c = b then kdops call nro d op k os (fput e (some g) (.bool b)) h hs (vop call nro (fev (fput e (some g) (.bool b))) h op) else fdops call nro os (fput (fput e (some g) (.bool !b)) d undef) h (if op.eff = true then h :: hs else hs)
 | .tuple vs => if vs.size = 0 then fdops call nro os (fput e d undef) h (if op.eff = true then h :: hs else hs) else none
 | _ => none
@[simp] theorem fdops_nil (e : FE) (h : VH) (hs : List VH) : fdops call nro [] e h hs = some (e, h) := rfl
@[simp] theorem fdops_cons (d : Option Nat) (op : VOp) (k : Nat) (os : List VOper) (e : FE) (h : VH) (hs : List VH) : fdops call nro (⟨d, op, none, k⟩ :: os) e h hs = kdops call nro d op k os e h hs (vop call nro (fev e) h op) := by
 simp only [fdops, fwanted]
 cases vop call nro (fev e) h op <;> rfl
@[simp] theorem fdops_guard (d : Option Nat) (op : VOp) (g : Nat) (b : Bool) (k : Nat) (os : List VOper) (e : FE) (h : VH) (hs : List VH) : fdops call nro (⟨d, op, some (g, b), k⟩ :: os) e h hs = kdguard call nro g b d op k os e h hs (e g) := by
 simp only [fdops, fwanted]
 generalize hg : e g = x
 cases x with
 | bool c =>
  simp only [kdguard]
  by_cases hcb : c = b
  ·subst hcb
   rw [if_pos rfl, fput_self _ _ _ hg]
   simp only [beq_self_eq_true]
   cases vop call nro (fev e) h op <;> rfl
  ·have h1 : (c == b) = false := by simpa using hcb
   have h2 : (!b) = c := by cases c <;> cases b <;> simp_all
   rw [if_neg hcb, h1, h2, fput_self _ _ _ hg]
 | tuple vs => simp only [kdguard]; split <;> simp_all
 | _ => rfl
open Classical in
@[simp] theorem kdops_some (d : Option Nat) (op : VOp) (k : Nat) (os : List VOper) (e : FE) (h : VH) (hs : List VH) (v : Value) (h' : VH) : kdops call nro d op k os e h hs (some (v, h')) = if op.eff = true then fdops call nro os (fput e d v) h' (h :: hs) else if ∀ g ∈ hs.take k, vop call nro (fev e) g op = some (v, g) then fdops call nro os (fput e d v) h' hs else none := rfl
@[simp] theorem kdops_none (d : Option Nat) (op : VOp) (k : Nat) (os : List VOper) (e : FE) (h : VH) (hs : List VH) : kdops call nro d op k os e h hs none = none := rfl
@[simp] theorem kdops_ite (d : Option Nat) (op : VOp) (k : Nat) (os : List VOper) (e : FE) (h : VH) (hs : List VH) (c : Prop) [Decidable c] (x y : Option (Value × VH)) : kdops call nro d op k os e h hs (if c then x else y) = if c then kdops call nro d op k os e h hs x else kdops call nro d op k os e h hs y := by split <;> rfl
@[simp] theorem kdguard_bool (g : Nat) (b c : Bool) (d : Option Nat) (op : VOp) (k : Nat) (os : List VOper) (e : FE) (h : VH) (hs : List VH) : kdguard call nro g b d op k os e h hs (.bool c) = if c = b then kdops call nro d op k os (fput e (some g) (.bool b)) h hs (vop call nro (fev (fput e (some g) (.bool b))) h op) else fdops call nro os (fput (fput e (some g) (.bool !b)) d undef) h (if op.eff = true then h :: hs else hs) := rfl
@[simp] theorem kdguard_undef (g : Nat) (b : Bool) (d : Option Nat) (op : VOp) (k : Nat) (os : List VOper) (e : FE) (h : VH) (hs : List VH) : kdguard call nro g b d op k os e h hs undef = fdops call nro os (fput e d undef) h (if op.eff = true then h :: hs else hs) := rfl
noncomputable def kclean (h0 : VH) (vs : List Value) (h : VH) : List Value × VH := cleanup h0.length h0 vs h
def kn : Option (FE × VH) → Option (VX × FE × VH)
 | some (e, h) => some (.normal, e, h)
 | none => none
@[simp] theorem kn_some (e : FE) (h : VH) : kn (some (e, h)) = some (.normal, e, h) := rfl
@[simp] theorem kn_none : kn none = none := rfl
@[simp] theorem kn_ite (c : Prop) [Decidable c] (x y : Option (FE × VH)) : kn (if c then x else y) = if c then kn x else kn y := by split <;> rfl
noncomputable def kseq (call : VCall) (nro : Nat) (b : FC) : Option (VX × FE × VH) → Option (VX × FE × VH)
 | some (.normal, e, h) => fcode call nro b e h
 | r => r
@[simp] theorem kseq_normal (b : FC) (e : FE) (h : VH) : kseq call nro b (some (.normal, e, h)) = fcode call nro b e h := rfl
@[simp] theorem kseq_ret (b : FC) (e : FE) (h : VH) : kseq call nro b (some (.ret, e, h)) = some (.ret, e, h) := rfl
@[simp] theorem kseq_exit (b : FC) (i : Nat) (e : FE) (h : VH) : kseq call nro b (some (.exit i, e, h)) = some (.exit i, e, h) := rfl
@[simp] theorem kseq_none (b : FC) : kseq call nro b none = none := rfl
@[simp] theorem kseq_ite (b : FC) (c : Prop) [Decidable c] (x y : Option (VX × FE × VH)) : kseq call nro b (if c then x else y) = if c then kseq call nro b x else kseq call nro b y := by split <;> rfl
noncomputable def kcond (call : VCall) (nro : Nat) (a b : FC) (e : FE) (h : VH) : Value → Option (VX × FE × VH)
 | .bool true => fcode call nro a e h
 | .bool false => fcode call nro b e h
 | _ => none
@[simp] theorem kcond_bool (a b : FC) (e : FE) (h : VH) (c : Bool) : kcond call nro a b e h (.bool c) = if c = true then fcode call nro a e h else fcode call nro b e h := by cases c <;> rfl
def kblock (id : Nat) : Option (VX × FE × VH) → Option (VX × FE × VH)
 | some (.exit i, e, h) => if i = id then some (.normal, e, h) else some (.exit i, e, h)
 | r => r
@[simp] theorem kblock_normal (id : Nat) (e : FE) (h : VH) : kblock id (some (.normal, e, h)) = some (.normal, e, h) := rfl
@[simp] theorem kblock_ret (id : Nat) (e : FE) (h : VH) : kblock id (some (.ret, e, h)) = some (.ret, e, h) := rfl
@[simp] theorem kblock_exit (id i : Nat) (e : FE) (h : VH) : kblock id (some (.exit i, e, h)) = if i = id then some (.normal, e, h) else some (.exit i, e, h) := rfl
@[simp] theorem kblock_none (id : Nat) : kblock id none = none := rfl
@[simp] theorem kblock_ite (id : Nat) (c : Prop) [Decidable c] (x y : Option (VX × FE × VH)) : kblock id (if c then x else y) = if c then kblock id x else kblock id y := by split <;> rfl
noncomputable def floop (call : VCall) (nro : Nat) (live : List Nat) (c : FC) (h0 : VH) (vs : List Value) (h : VH) : Option (VX × FE × VH) :=
 iter (fun s : List Value × VH => match fcode call nro c (fl (live.zip s.1)) s.2 with
   | some (.normal, e', h') => some (.inl (cleanup h0.length h0 (live.map e') h'))
   | some r => some (.inr r)
   | none => none) (vs, h)
noncomputable def kloop (call : VCall) (nro : Nat) (live : List Nat) (c : FC) (h0 : VH) (p : List Value × VH) : Option (VX × FE × VH) := floop call nro live c h0 p.1 p.2
@[simp] theorem kloop_mk (live : List Nat) (c : FC) (h0 : VH) (vs : List Value) (h : VH) : kloop call nro live c h0 (vs, h) = floop call nro live c h0 vs h := rfl
noncomputable def kback (call : VCall) (nro : Nat) (live : List Nat) (c : FC) (h0 : VH) : Option (VX × FE × VH) → Option (VX × FE × VH)
 | some (.normal, e, h) => kloop call nro live c h0 (kclean h0 (live.map e) h)
 | r => r
@[simp] theorem kback_normal (live : List Nat) (c : FC) (h0 : VH) (e : FE) (h : VH) : kback call nro live c h0 (some (.normal, e, h)) = kloop call nro live c h0 (kclean h0 (live.map e) h) := rfl
@[simp] theorem kback_exit (live : List Nat) (c : FC) (h0 : VH) (i : Nat) (e : FE) (h : VH) : kback call nro live c h0 (some (.exit i, e, h)) = some (.exit i, e, h) := rfl
@[simp] theorem kback_ret (live : List Nat) (c : FC) (h0 : VH) (e : FE) (h : VH) : kback call nro live c h0 (some (.ret, e, h)) = some (.ret, e, h) := rfl
@[simp] theorem kback_none (live : List Nat) (c : FC) (h0 : VH) : kback call nro live c h0 none = none := rfl
@[simp] theorem kback_ite (live : List Nat) (b : FC) (h0 : VH) (c : Prop) [Decidable c] (x y : Option (VX × FE × VH)) : kback call nro live b h0 (if c then x else y) = if c then kback call nro live b h0 x else kback call nro live b h0 y := by split <;> rfl
theorem floop_eq (live : List Nat) (c : FC) (h0 : VH) (vs : List Value) (h : VH) : floop call nro live c h0 vs h = kback call nro live c h0 (fcode call nro c (fl (live.zip vs)) h) := by
 unfold floop
 rw [iter]
 dsimp only
 generalize fcode call nro c (fl (live.zip vs)) h = q
 match q with
 | none => rfl
 | some (.normal, e, h') => rfl
 | some (.exit i, e, h') => rfl
 | some (.ret, e, h') => rfl
theorem floop_at {c c' : FC} (e : c = c') (live : List Nat) (h0 : VH) (vs : List Value) (h : VH) : floop call nro live c h0 vs h = kback call nro live c h0 (fcode call nro c' (fl (live.zip vs)) h) := by
 rw [floop_eq, ← e]
@[simp] theorem fcode_skip (e : FE) (h : VH) : fcode call nro .skip e h = some (.normal, e, h) := rfl
@[simp] theorem fcode_ops (os : List VOper) (e : FE) (h : VH) : fcode call nro (.ops os) e h = kn (fops call nro os e h) := by
 simp only [fcode]; cases fops call nro os e h <;> rfl
@[simp] theorem fcode_dops (os : List VOper) (e : FE) (h : VH) : fcode call nro (.dops os) e h = kn (fdops call nro os e h []) := by
 simp only [fcode]; cases fdops call nro os e h [] <;> rfl
@[simp] theorem fcode_seq (a b : FC) (e : FE) (h : VH) : fcode call nro (.seq a b) e h = kseq call nro b (fcode call nro a e h) := by
 simp only [fcode]
 generalize fcode call nro a e h = q
 match q with
 | none => rfl
 | some (.normal, e, h') => rfl
 | some (.exit i, e, h') => rfl
 | some (.ret, e, h') => rfl
@[simp] theorem fcode_cond (x : Operand) (a b : FC) (e : FE) (h : VH) : fcode call nro (.cond x a b) e h = kcond call nro a b e h (fev e x) := by
 simp only [fcode]
 generalize fev e x = v
 unfold kcond
 split <;> simp_all
@[simp] theorem fcode_block (id : Nat) (c : FC) (e : FE) (h : VH) : fcode call nro (.block id c) e h = kblock id (fcode call nro c e h) := by
 simp only [fcode]
 generalize fcode call nro c e h = q
 match q with
 | none => rfl
 | some (.normal, e, h') => rfl
 | some (.exit i, e, h') => rfl
 | some (.ret, e, h') => rfl
@[simp] theorem fcode_loop (live : List Nat) (c : FC) (e : FE) (h : VH) : fcode call nro (.loop live c) e h = floop call nro live c h (live.map e) h := rfl
@[simp] theorem fcode_keep (live : List Nat) (c : FC) (e : FE) (h : VH) : fcode call nro (.keep live c) e h = fcode call nro c (fl (live.zip (live.map e))) h := rfl
@[simp] theorem fcode_exit (i : Nat) (e : FE) (h : VH) : fcode call nro (.exit i) e h = some (.exit i, e, h) := rfl
@[simp] theorem fcode_ret (e : FE) (h : VH) : fcode call nro .ret e h = some (.ret, e, h) := rfl
noncomputable def kfin (p : List Value × VH) : Option (Value × VH) := some (p.1.getD 0 undef, p.2)
@[simp] theorem kfin_mk (v : Value) (h : VH) : kfin ([v], h) = some (v, h) := rfl
noncomputable def kret (res : List VR) (h : VH) : Option (VX × FE × VH) → Option (Value × VH)
 | some (.exit _, _, _) => none
 | some (_, e, h') => fend h (fresults e h' res) h'
 | none => none
@[simp] theorem kret_ret (res : List VR) (h : VH) (e : FE) (h' : VH) : kret res h (some (.ret, e, h')) = fend h (fresults e h' res) h' := rfl
@[simp] theorem kret_normal (res : List VR) (h : VH) (e : FE) (h' : VH) : kret res h (some (.normal, e, h')) = fend h (fresults e h' res) h' := rfl
@[simp] theorem kret_none (res : List VR) (h : VH) : kret res h none = none := rfl
@[simp] theorem kret_ite (res : List VR) (h : VH) (c : Prop) [Decidable c] (x y : Option (VX × FE × VH)) : kret res h (if c then x else y) = if c then kret res h x else kret res h y := by split <;> rfl
@[simp] theorem fend_some (h : VH) (v : Value) (h' : VH) : fend h (some v) h' = kfin (kclean h [v] h') := rfl
theorem fbody_eq (fn : FF) (args : List Value) (h : VH) : fbody call nro fn args h = kret fn.res h (fcode call nro fn.body (fargs args) h) := by
 unfold fbody
 generalize fcode call nro fn.body (fargs args) h = q
 match q with
 | none => rfl
 | some (.normal, e, h') => rfl
 | some (.exit i, e, h') => rfl
 | some (.ret, e, h') => rfl
@[simp] theorem fresults1 (e : FE) (h : VH) (t : Nat) : fresults e h [.tmp t] = some (e t) := rfl
@[simp] theorem fresults2 (e : FE) (h : VH) (t s : Nat) : fresults e h [.tmp t, .tmp s] = if notTup (e t) = true ∧ notTup (e s) = true then some (.tuple #[e t, e s]) else none := by
 simp [fresults, fresL, fres1]
@[simp] theorem fresults3 (e : FE) (h : VH) (t s u : Nat) : fresults e h [.tmp t, .tmp s, .tmp u] = if notTup (e t) = true ∧ notTup (e s) = true ∧ notTup (e u) = true then some (.tuple #[e t, e s, e u]) else none := by
 simp [fresults, fresL, fres1]
@[simp] theorem fresultsN (e : FE) (h : VH) : fresults e h [] = some (.tuple #[]) := rfl
attribute [simp] notTup
def Old (n : Nat) (v : Value) : Prop := ∀ r ∈ trefs v, r < n
theorem Old.le {n m : Nat} {v : Value} (h : Old n v) (hm : n ≤ m) : Old m v := fun r hr => Nat.lt_of_lt_of_le (h r hr) hm
@[simp] theorem old_int (n : Nat) (k : IntKind) (i : Int) : Old n (.int k i) := fun r hr => by simp [trefs, vrefs, crefs, arefs] at hr
@[simp] theorem old_bool (n : Nat) (b : Bool) : Old n (.bool b) := fun r hr => by simp [trefs, vrefs, crefs, arefs] at hr
@[simp] theorem old_str (n : Nat) (b : ByteArray) : Old n (.string b) := fun r hr => by simp [trefs, vrefs, crefs, arefs] at hr
@[simp] theorem old_junk (n : Nat) : Old n junk := fun r hr => by simp [junk, trefs, vrefs, crefs, arefs] at hr
@[simp] theorem old_undef (n : Nat) : Old n undef := fun r hr => by simp [undef, trefs] at hr
@[simp] theorem old_slN (n a b : Nat) : Old n (.slice none a b) := fun r hr => by simp [trefs, vrefs, crefs, arefs] at hr
@[simp] theorem old_ptrN (n : Nat) : Old n (.pointer none) := fun r hr => by simp [trefs, vrefs, crefs, arefs] at hr
@[simp] theorem old_nilF (n : Nat) : Old n .nilFunc := fun r hr => by simp [trefs, vrefs, crefs, arefs] at hr
@[simp] theorem old_sl (n : Nat) (a : Addr) (k t : Nat) : Old n (.slice (some a) k t) ↔ a.block < n := by simp [Old, trefs, vrefs, crefs, arefs]
@[simp] theorem old_ptr (n : Nat) (a : Addr) : Old n (.pointer (some a)) ↔ a.block < n := by simp [Old, trefs, vrefs, crefs, arefs]
def OldC (n : Nat) (v : Value) : Prop := ∀ r ∈ crefs v, r < n
theorem old_all (n : Nat) (vs : List Value) : (∀ r ∈ vs.flatMap trefs, r < n) ↔ ∀ v ∈ vs, Old n v := by
 simp only [List.mem_flatMap, Old]
 constructor
 ·intro h v hv r hr
  exact h r ⟨v, hv, hr⟩
 ·rintro h r ⟨v, hv, hr⟩
  exact h v hv r hr
def flatO (n : Nat) (o : VO) : Prop := ∀ r ∈ orefs o, r < n
theorem keepL_nil {base : Nat} {vs : List Value} (h : ∀ v ∈ vs, Old base v) : keepL base vs = [] := by
 unfold keepL
 rw [List.filter_eq_nil_iff.mpr]
 ·rfl
 ·intro r hr
  have := (old_all base vs).mpr h r hr
  simp; omega
theorem tren_old {n : Nat} {v : Value} (h : Old n v) {r : Nat → Nat} (hr : ∀ i, i < n → r i = i) : tren r v = v := by
 have ha : ∀ v : Value, (∀ i ∈ arefs v, i < n) → aren r v = v := by
  intro v hv
  unfold aren
  split
  ·rename_i a
   rw [hr a.block (hv _ (by simp [arefs]))]
  ·rename_i a k c
   rw [hr a.block (hv _ (by simp [arefs]))]
  ·rfl
 have hmap : ∀ (f : Value → Value) (vs : Array Value), (∀ v ∈ vs, f v = v) → vs.map f = vs := by
  intro f vs h
  exact (Array.map_congr_left (g := id) h).trans (Array.map_id _)
 have hc : ∀ v : Value, (∀ i ∈ crefs v, i < n) → cren r v = v := by
  intro v hv
  unfold cren
  split
  ·rename_i f a c
   simp only [crefs, List.mem_append, List.mem_flatMap] at hv
   rw [hmap _ a fun v h => ha v fun i hi => hv i (.inl ⟨v, by simpa using h, hi⟩), hmap _ c fun v h => ha v fun i hi => hv i (.inr ⟨v, by simpa using h, hi⟩)]
  ·rename_i hne
   refine ha v fun i hi => hv i ?_
   unfold crefs
   split
   ·exact absurd rfl (hne _ _ _)
   ·exact hi
 have hvv : ∀ v : Value, (∀ i ∈ vrefs v, i < n) → vren r v = v := by
  intro v hv
  unfold vren
  split
  ·rename_i cs
   simp only [vrefs, List.mem_flatMap] at hv
   rw [hmap _ cs fun v h => hc v fun i hi => hv i ⟨v, by simpa using h, hi⟩]
  ·rename_i hne
   refine hc v fun i hi => hv i ?_
   unfold vrefs
   split
   ·exact absurd rfl (hne _)
   ·exact hi
 unfold tren
 split
 ·rename_i vs
  unfold Old at h
  simp only [trefs, List.mem_flatMap] at h
  rw [hmap _ vs fun v hv => hvv v fun i hi => h i ⟨v, by simpa using hv, hi⟩]
 ·rename_i hne
  refine hvv v fun i hi => h i ?_
  unfold trefs
  split
  ·exact absurd rfl (hne _)
  ·exact hi
theorem okT_app {h0 L : VH} {L0 : VH} (hL : ∀ o ∈ L, flatO (h0.length + L0.length) o) : okT (h0 ++ L0).length (h0 ++ L0) (h0 ++ L) := by
 intro i o ho
 by_cases hi : i < h0.length
 ·left
  rw [List.getElem?_append_left hi] at ho ⊢
  exact ho
 ·right
  rw [List.getElem?_append_right (by omega)] at ho
  have := hL o (List.mem_of_getElem? ho)
  simpa [flatO] using this
@[simp] theorem cleanup_app {h0 L0 L : VH} {vs : List Value} (hv : ∀ v ∈ vs, Old (h0 ++ L0).length v) (hf : ∀ o ∈ L.take L0.length, flatO (h0.length + L0.length) o) :
  kclean (h0 ++ L0) vs (h0 ++ L) = (vs, h0 ++ L.take L0.length) := by
 have htake : (h0 ++ L).take (h0 ++ L0).length = h0 ++ L.take L0.length := by
  rw [List.length_append, List.take_append]
  simp [List.take_of_length_le]
 have hc : okT (h0 ++ L0).length (h0 ++ L0) ((h0 ++ L).take (h0 ++ L0).length) ∧ flatL (h0 ++ L0).length [] (h0 ++ L) := by
  refine ⟨?_, fun i hi => by cases hi⟩
  rw [htake]
  exact okT_app hf
 unfold kclean cleanup
 rw [keepL_nil hv, if_pos hc, htake]
 simp only [List.filterMap_nil, List.append_nil, Prod.mk.injEq, and_true]
 have : ∀ v ∈ vs, tren (renOf (h0 ++ L0).length []) v = v := fun v h => tren_old (hv v h) fun i hi => by simp only [renOf, if_pos hi]
 exact (List.map_congr_left this).trans (by simp)
@[simp] theorem cleanup_drop {h L : VH} {vs : List Value} (hv : ∀ v ∈ vs, Old h.length v) : kclean h vs (h ++ L) = (vs, h) := by
 have := cleanup_app (h0 := h) (L0 := []) (L := L) (vs := vs) (by simpa using hv) (by simp)
 simpa using this
@[simp] theorem cleanup_same {h : VH} {vs : List Value} (hv : ∀ v ∈ vs, Old h.length v) : kclean h vs h = (vs, h) := by
 have := cleanup_drop (h := h) (L := []) hv
 simpa using this
theorem cleanup_keep {h L : VH} {vs : List Value} {ks : List Nat} (hk : keepL h.length vs = ks) (hf : flatL h.length ks (h ++ L)) :
  kclean h vs (h ++ L) = (vs.map (tren (renOf h.length ks)), h ++ ks.filterMap fun i => (h ++ L)[i]?) := by
 have hc : okT h.length h ((h ++ L).take h.length) ∧ flatL h.length ks (h ++ L) := by
  refine ⟨fun i o ho => ?_, hf⟩
  left
  rw [List.getElem?_take] at ho
  split at ho
  ·rename_i hi
   rw [List.getElem?_append_left hi] at ho
   exact ho
  ·cases ho
 unfold kclean cleanup
 rw [hk, if_pos hc]
 simp
@[simp] theorem hget0 (h L : VH) : (h ++ L)[h.length]? = L[0]? := by rw [List.getElem?_append_right (Nat.le_refl _)]; simp
@[simp] theorem hgetk (h L : VH) (k : Nat) : (h ++ L)[h.length + k]? = L[k]? := by rw [List.getElem?_append_right (by omega)]; congr 1; omega
@[simp] theorem hset0 (h L : VH) (o : VO) : (h ++ L).set h.length o = h ++ L.set 0 o := by rw [List.set_append_right _ _ (Nat.le_refl _)]; simp
@[simp] theorem hsetk (h L : VH) (k : Nat) (o : VO) : (h ++ L).set (h.length + k) o = h ++ L.set k o := by rw [List.set_append_right _ _ (by omega)]; congr 2; omega
def vlen (h : VH) : Value → Option (Value × VH)
 | .slice none 0 0 => some (.int .i64 0, h)
 | .slice none 0 1 => some (.int .i64 0, h)
 | .slice (some a) n tot => match h[a.block]? with
  | some o => if tot = o.cells.length then some (.int .i64 n, h) else none
  | none => none
 | _ => none
def vidx (sz : Nat) (h : VH) : Value → Value → Option (Value × VH)
 | .slice (some a) n tot, .int _ j =>
  match h[a.block]? with
  | some o => if o.sz = sz ∧ tot = o.cells.length ∧ 0 ≤ j ∧ j < n then some (.pointer (some ⟨a.block, a.off + j.toNat * sz, some tot⟩), h) else none
  | none => none
 | _, _ => none
def vpick (c a b : Value) (h : VH) : Option (Value × VH) := match c with
 | .bool t => some (if t then a else b, h)
 | _ => none
def vext (h : VH) (i : Nat) : Value → Option (Value × VH)
 | .tuple vs => match vs[i]? with
   | some v => some (v, h)
   | none => none
 | _ => none
def vconv (k : IntKind) (h : VH) : Value → Option (Value × VH)
 | .int _ n => some (.int k (k.wrap n), h)
 | _ => none
def vfld (off : Nat) (h : VH) : Value → Option (Value × VH)
 | .pointer (some a) => if vlive h a = true then some (.pointer (some { a with off := a.off + off }), h) else none
 | _ => none
def vfieldv (agg : Bool) (off n : Nat) (h : VH) : Value → Option (Value × VH)
 | .agg cs => if off + n ≤ cs.size then (if agg then some (.agg (cs.extract off (off + n)), h) else match cs[off]? with
   | some v => some (v, h)
   | none => none) else none
 | _ => none
def vmk (sz : Nat) (zero : List Value) (bytes : Nat) (h : VH) : Value → Value → Option (Value × VH)
 | .int .i64 n, .int .i64 m => if n = m ∧ 0 ≤ n ∧ bytes * n ≤ 2 ^ 47 ∧ n ≤ 2 ^ 47 then some (.slice (some ⟨h.length, 0, none⟩) n.toNat (n.toNat * sz), h ++ [⟨sz, (List.replicate n.toNat zero).flatten⟩]) else none
 | _, _ => none
def vbox (n : Nat) (h : VH) (x : Value) : Option (Value × VH) := if (vcells x).length = n ∧ isJunk x = false then some (.pointer (some ⟨h.length, 0, some n⟩), h ++ [⟨0, vcells x⟩]) else none
def vnil (h : VH) : Value → Option (Value × VH)
 | .pointer (some a) => if vlive h a = true then some (.pointer (some a), h) else none
 | .func (.func f) a c => some (.func (.func f) a c, h)
 | _ => none
def vlenStr (h : VH) : Value → Option (Value × VH)
 | .string s => some (.int .i64 s.size, h)
 | _ => none
def vmvStr (h : VH) : Value → Option (Value × VH)
 | .string s => some (.string s, h)
 | _ => none
def veqnilS (neg : Bool) (h : VH) : Value → Option (Value × VH)
 | .slice none 0 0 => some (.bool !neg, h)
 | .slice (some a) _ tot => match h[a.block]? with
   | some o => if tot = o.cells.length then some (.bool neg, h) else none
   | none => none
 | _ => none
def veqnilF (neg : Bool) (h : VH) : Value → Option (Value × VH)
 | .nilFunc => some (.bool !neg, h)
 | .func .. => some (.bool neg, h)
 | _ => none
def vcallv (call : VCall) (h : VH) (f : Value) (args : List Value) : Option (Value × VH) := match f with
 | .func (.func g) first caps => call g (first.toList ++ args ++ caps.toList) h
 | _ => none
variable (ev : Operand → Value) (h : VH)
@[simp] theorem vop_mv (x : Operand) : vop call nro ev h (.mv x) = some (ev x, h) := rfl
@[simp] theorem vop_pick (c a b : Operand) : vop call nro ev h (.pick c a b) = vpick (ev c) (ev a) (ev b) h := rfl
@[simp] theorem vop_bin (o : BinOp) (x y : Operand) : vop call nro ev h (.bin o x y) = (vbin o (ev x) (ev y)).map (·, h) := rfl
@[simp] theorem vop_beq (n : Bool) (x y : Operand) : vop call nro ev h (.beq n x y) = (vbeq n (ev x) (ev y)).map (·, h) := rfl
@[simp] theorem vop_un (o : UnOp) (x : Operand) : vop call nro ev h (.un o x) = (vun o (ev x)).map (·, h) := rfl
@[simp] theorem vop_conv (k : IntKind) (x : Operand) : vop call nro ev h (.conv k x) = vconv k h (ev x) := rfl
@[simp] theorem vop_box (n : Nat) (x : Operand) : vop call nro ev h (.box n x) = vbox n h (ev x) := rfl
@[simp] theorem vop_alloc (z : List Value) : vop call nro ev h (.alloc z) = some (.pointer (some ⟨h.length, 0, some z.length⟩), h ++ [⟨0, z⟩]) := rfl
@[simp] theorem vop_build (z : List Value) (ps : List (Nat × Nat × Operand)) : vop call nro ev h (.build z ps) = (vfill z (ps.map fun p => (p.1, p.2.1, ev p.2.2))).map fun cs => (.agg cs.toArray, h) := rfl
@[simp] theorem vop_buildSl (sz : Nat) (z : List Value) (ps : List (Nat × Nat × Operand)) (n : Nat) : vop call nro ev h (.buildSl sz z ps n) = (vfill z (ps.map fun p => (p.1, p.2.1, ev p.2.2))).map fun cs => (.slice (some ⟨h.length, 0, none⟩) n z.length, h ++ [⟨sz, cs⟩]) := rfl
@[simp] theorem vop_load (g : Bool) (n : Nat) (p : Operand) : vop call nro ev h (.load g n p) = (vload g n h (ev p)).map (·, h) := rfl
@[simp] theorem vop_store (n : Nat) (p x : Operand) : vop call nro ev h (.store n p x) = (vstore nro n h (ev p) (ev x)).map (undef, ·) := rfl
@[simp] theorem vop_nilchk (x : Operand) : vop call nro ev h (.nilchk x) = vnil h (ev x) := rfl
@[simp] theorem vop_fld (n : Nat) (p : Operand) : vop call nro ev h (.fld n p) = vfld n h (ev p) := rfl
@[simp] theorem vop_fieldv (g : Bool) (o n : Nat) (x : Operand) : vop call nro ev h (.fieldv g o n x) = vfieldv g o n h (ev x) := rfl
@[simp] theorem vop_idx (n : Nat) (s i : Operand) : vop call nro ev h (.idx n s i) = vidx n h (ev s) (ev i) := rfl
@[simp] theorem vop_mkSl (sz : Nat) (z : List Value) (b : Nat) (l c : Operand) : vop call nro ev h (.mkSl sz z b l c) = vmk sz z b h (ev l) (ev c) := rfl
@[simp] theorem vop_slc (sz : Nat) (x : Operand) (lo hi : Option Operand) : vop call nro ev h (.slc sz x lo hi) = (vslice sz h (ev x) (lo.map ev) (hi.map ev)).map (·, h) := rfl
@[simp] theorem vop_slcStr (x : Operand) (lo hi : Option Operand) : vop call nro ev h (.slcStr x lo hi) = (vsliceStr (ev x) (lo.map ev) (hi.map ev)).map (·, h) := rfl
@[simp] theorem vop_ext (x : Operand) (i : Nat) : vop call nro ev h (.ext x i) = vext h i (ev x) := rfl
@[simp] theorem vop_len (x : Operand) : vop call nro ev h (.len x) = vlen h (ev x) := rfl
@[simp] theorem vop_lenStr (x : Operand) : vop call nro ev h (.lenStr x) = vlenStr h (ev x) := rfl
@[simp] theorem vop_mvStr (x : Operand) : vop call nro ev h (.mvStr x) = vmvStr h (ev x) := rfl
@[simp] theorem vop_eqnilS (n : Bool) (x : Operand) : vop call nro ev h (.eqnilS n x) = veqnilS n h (ev x) := rfl
@[simp] theorem vop_eqnilF (n : Bool) (x : Operand) : vop call nro ev h (.eqnilF n x) = veqnilF n h (ev x) := rfl
@[simp] theorem vop_app (sz b : Nat) (z : List Value) (s x : Operand) : vop call nro ev h (.app sz b z s x) = vappend nro sz b h (ev s) (ev x) := rfl
@[simp] theorem vop_minmax (m : Bool) (xs : List Operand) : vop call nro ev h (.minmax m xs) = (vminmax m (xs.map ev)).map (·, h) := rfl
@[simp] theorem vop_call (f : Nat) (xs : List Operand) : vop call nro ev h (.call f xs) = call f (xs.map ev) h := rfl
@[simp] theorem vop_callv (f : Operand) (xs : List Operand) : vop call nro ev h (.callv f xs) = vcallv call h (ev f) (xs.map ev) := rfl
@[simp] theorem vop_clr (sz : Nat) (z : List Value) (x : Operand) : vop call nro ev h (.clr sz z x) = vclear nro sz z h (ev x) := rfl
@[simp] theorem vop_cpy (sz : Nat) (x y : Operand) : vop call nro ev h (.cpy sz x y) = vcopy nro sz h (ev x) (ev y) := rfl
@[simp] theorem vop_stop : vop call nro ev h .stop = none := rfl
@[simp] theorem vop_mkfn (f : Nat) (a b : List Operand) : vop call nro ev h (.mkfn f a b) = if (a.map ev).all isAtom && (b.map ev).all isAtom then some (.func (.func f) (a.map ev).toArray (b.map ev).toArray, h) else none := rfl
attribute [simp] VOp.eff
@[simp] theorem vpick_bool (c : Bool) (a b : Value) : vpick (.bool c) a b h = some (if c = true then a else b, h) := rfl
@[simp] theorem vconv_int (k k' : IntKind) (n : Int) : vconv k h (.int k' n) = some (.int k (k.wrap n), h) := rfl
@[simp] theorem vlenStr_str (s : ByteArray) : vlenStr h (.string s) = some (.int .i64 s.size, h) := rfl
@[simp] theorem vmvStr_str (s : ByteArray) : vmvStr h (.string s) = some (.string s, h) := rfl
@[simp] theorem vlen_nil : vlen h (.slice none 0 0) = some (.int .i64 0, h) := rfl
@[simp] theorem vlen_ref (a : Addr) (n tot : Nat) : vlen h (.slice (some a) n tot) = match h[a.block]? with
  | some o => if tot = o.cells.length then some (.int .i64 n, h) else none
  | none => none := rfl
@[simp] theorem vidx_ref (sz : Nat) (a : Addr) (n tot : Nat) (k : IntKind) (j : Int) : vidx sz h (.slice (some a) n tot) (.int k j) = match h[a.block]? with
  | some o => if o.sz = sz ∧ tot = o.cells.length ∧ 0 ≤ j ∧ j < n then some (.pointer (some ⟨a.block, a.off + j.toNat * sz, some tot⟩), h) else none
  | none => none := rfl
@[simp] theorem vext_tup (vs : Array Value) (i : Nat) : vext h i (.tuple vs) = match vs[i]? with
      | some v => some (v, h)
      | none => none := rfl
@[simp] theorem vfld_ref (off : Nat) (a : Addr) : vfld off h (.pointer (some a)) = if vlive h a = true then some (.pointer (some { a with off := a.off + off }), h) else none := rfl
@[simp] theorem vfieldv_agg (g : Bool) (off n : Nat) (cs : Array Value) : vfieldv g off n h (.agg cs) = if off + n ≤ cs.size then (if g then some (.agg (cs.extract off (off + n)), h) else match cs[off]? with
      | some v => some (v, h)
      | none => none) else none := rfl
@[simp] theorem vmk_int (sz : Nat) (z : List Value) (b : Nat) (n m : Int) : vmk sz z b h (.int .i64 n) (.int .i64 m) = if n = m ∧ 0 ≤ n ∧ b * n ≤ 2 ^ 47 ∧ n ≤ 2 ^ 47 then some (.slice (some ⟨h.length, 0, none⟩) n.toNat (n.toNat * sz), h ++ [⟨sz, (List.replicate n.toNat z).flatten⟩]) else none := rfl
@[simp] theorem vnil_ref (a : Addr) : vnil h (.pointer (some a)) = if vlive h a = true then some (.pointer (some a), h) else none := rfl
@[simp] theorem vnil_func (f : Nat) (a c : Array Value) : vnil h (.func (.func f) a c) = some (.func (.func f) a c, h) := rfl
@[simp] theorem veqnilS_nil (n : Bool) : veqnilS n h (.slice none 0 0) = some (.bool !n, h) := rfl
@[simp] theorem veqnilS_ref (n : Bool) (a : Addr) (k tot : Nat) : veqnilS n h (.slice (some a) k tot) = match h[a.block]? with
      | some o => if tot = o.cells.length then some (.bool n, h) else none
      | none => none := rfl
@[simp] theorem vcallv_func (f : Nat) (first caps : Array Value) (args : List Value) : vcallv call h (.func (.func f) first caps) args = call f (first.toList ++ args ++ caps.toList) h := rfl
attribute [simp] vbox vget vlive vfill isJunk vminmax vminmaxL vminmax2 vsliceStr
@[simp] theorem vload_ref (g : Bool) (n : Nat) (a : Addr) : vload g n h (.pointer (some a)) = match vget h a n with
  | some cs => if g then some (.agg cs.toArray) else match cs with
   | [v] => some v
   | _ => none
  | none => none := rfl
@[simp] theorem vstore_ref (nro n : Nat) (a : Addr) (x : Value) : vstore nro n h (.pointer (some a)) x = match h[a.block]? with
  | some o =>
   if nro ≤ a.block ∧ a.spot = some o.cells.length ∧ a.off + n ≤ o.cells.length ∧ (vcells x).length = n ∧ (vcells x).all (fun v => !isJunk v) = true then
    some (h.set a.block { o with cells := splice a.off (vcells x) o.cells })
   else none
  | none => none := rfl
@[simp] theorem splice_zero (v : Value) (vs : List Value) (c : Value) (cs : List Value) : splice 0 (v :: vs) (c :: cs) = v :: vs ++ cs.drop vs.length := by simp [splice]
@[simp] theorem splice_succ (k : Nat) (vs : List Value) (c : Value) (cs : List Value) : splice (k + 1) vs (c :: cs) = c :: splice k vs cs := by
 simp [splice, Nat.add_right_comm]
@[simp] theorem vsrc_nil (sz : Nat) : vsrc sz h (.slice none 0 0) = some ([], 0) := rfl
@[simp] theorem vsrc_ref (sz : Nat) (a : Addr) (n tot : Nat) : vsrc sz h (.slice (some a) n tot) = match h[a.block]? with
  | some o => if o.sz = sz ∧ tot = o.cells.length ∧ a.off + n * sz ≤ tot then some ((o.cells.drop a.off).take (n * sz), n) else none
  | none => none := rfl
def vapp (nro sz bytes : Nat) (h : VH) (s : Value) : Option (List Value × Nat) → Option (Value × VH)
 | none => none
 | some (cs, m) =>
  if cs.all (fun v => !isJunk v) = true ∧ 1 ≤ sz then
   match s with
   | .slice none 0 0 =>
    if m = 0 then some (.slice none 0 0, h)
    else if m * bytes ≤ 2 ^ 40 ∧ m ≤ 2 ^ 40 then some (.slice (some ⟨h.length, 0, none⟩) m cs.length, h ++ [⟨sz, cs⟩]) else none
   | .slice (some a) n tot =>
    match h[a.block]? with
    | some o =>
     if nro ≤ a.block ∧ o.sz = sz ∧ tot = o.cells.length ∧ a.off = 0 ∧ n * sz = tot ∧ (n + m) * bytes ≤ 2 ^ 40 ∧ n + m ≤ 2 ^ 40 then
      some (.slice (some a) (n + m) (tot + cs.length), h.set a.block { o with cells := o.cells ++ cs })
     else none
    | none => none
   | _ => none
  else none
@[simp] theorem vappend_eq (nro sz b : Nat) (s x : Value) : vappend nro sz b h s x = vapp nro sz b h s (vsrc sz h x) := by
 unfold vappend vapp
 cases vsrc sz h x <;> rfl
@[simp] theorem vapp_nil (nro sz b : Nat) (cs : List Value) (m : Nat) : vapp nro sz b h (.slice none 0 0) (some (cs, m)) = if cs.all (fun v => !isJunk v) = true ∧ 1 ≤ sz then (if m = 0 then some (.slice none 0 0, h) else if m * b ≤ 2 ^ 40 ∧ m ≤ 2 ^ 40 then some (.slice (some ⟨h.length, 0, none⟩) m cs.length, h ++ [⟨sz, cs⟩]) else none) else none := rfl
@[simp] theorem vapp_ref (nro sz b : Nat) (a : Addr) (n tot : Nat) (cs : List Value) (m : Nat) : vapp nro sz b h (.slice (some a) n tot) (some (cs, m)) = if cs.all (fun v => !isJunk v) = true ∧ 1 ≤ sz then (match h[a.block]? with
        | some o =>
          if nro ≤ a.block ∧ o.sz = sz ∧ tot = o.cells.length ∧ a.off = 0 ∧ n * sz = tot ∧ (n + m) * b ≤ 2 ^ 40 ∧ n + m ≤ 2 ^ 40 then
            some (.slice (some a) (n + m) (tot + cs.length), h.set a.block { o with cells := o.cells ++ cs })
          else none
        | none => none) else none := rfl
@[simp] theorem vslice_nil (sz : Nat) (lo hi : Option Value) : vslice sz h (.slice none 0 0) lo hi = match lo.getD (.int .i64 0), hi.getD (.int .i64 0) with
  | .int _ 0, .int _ 0 => some (.slice none 0 0)
  | _, _ => none := rfl
@[simp] theorem vslice_ref (sz : Nat) (a : Addr) (n tot : Nat) (lo hi : Option Value) : vslice sz h (.slice (some a) n tot) lo hi = match h[a.block]? with
  | some o =>
   if o.sz = sz ∧ tot = o.cells.length then
    match lo.getD (.int .i64 0), hi.getD (.int .i64 n) with
    | .int _ l, .int _ u => if 0 ≤ l ∧ l ≤ u ∧ u ≤ n then some (.slice (some { a with off := a.off + l.toNat * sz }) (u.toNat - l.toNat) tot) else none
    | _, _ => none
   else none
  | none => none := rfl
@[simp] theorem vcells_agg (cs : Array Value) : vcells (.agg cs) = cs.toList := rfl
@[simp] theorem vcells_int (k : IntKind) (n : Int) : vcells (.int k n) = [.int k n] := rfl
@[simp] theorem vcells_bool (b : Bool) : vcells (.bool b) = [.bool b] := rfl
@[simp] theorem vcells_str (b : ByteArray) : vcells (.string b) = [.string b] := rfl
@[simp] theorem vcells_sl (a : Option Addr) (n c : Nat) : vcells (.slice a n c) = [.slice a n c] := rfl
@[simp] theorem vcells_ptr (a : Option Addr) : vcells (.pointer a) = [.pointer a] := rfl
end
end

/- Numbers: the operations on integers, and bits. -/
section
open Go
theorem wrap64 {n : Int} (h1 : -9223372036854775808 ≤ n) (h2 : n ≤ 9223372036854775807) : IntKind.i64.wrap n = n := IntWalk.i64_in n ⟨h1, h2⟩
theorem wrapu64 {n : Int} (h1 : 0 ≤ n) (h2 : n ≤ 18446744073709551615) : IntKind.u64.wrap n = n := IntWalk.u64_in n ⟨h1, h2⟩
theorem wrapu8 {n : Int} (h1 : 0 ≤ n) (h2 : n ≤ 255) : IntKind.u8.wrap n = n := IntWalk.u8_in n ⟨h1, h2⟩
theorem ex_eq {α : Type} (a : α) : ∃ b, b = a := ⟨a, rfl⟩
noncomputable def iand : IntKind → Int → Int → Int := Classical.choose (ex_eq fun (k : IntKind) (a b : Int) => (k.wrap (BitVec.ofInt k.bits a &&& BitVec.ofInt k.bits b).toNat : Int))
theorem iand_eq (k : IntKind) (a b : Int) : iand k a b = k.wrap (BitVec.ofInt k.bits a &&& BitVec.ofInt k.bits b).toNat := congrFun (congrFun (congrFun (Classical.choose_spec (ex_eq fun (k : IntKind) (a b : Int) => (k.wrap (BitVec.ofInt k.bits a &&& BitVec.ofInt k.bits b).toNat : Int))) k) a) b
noncomputable def ior : IntKind → Int → Int → Int := Classical.choose (ex_eq fun (k : IntKind) (a b : Int) => (k.wrap (BitVec.ofInt k.bits a ||| BitVec.ofInt k.bits b).toNat : Int))
theorem ior_eq (k : IntKind) (a b : Int) : ior k a b = k.wrap (BitVec.ofInt k.bits a ||| BitVec.ofInt k.bits b).toNat := congrFun (congrFun (congrFun (Classical.choose_spec (ex_eq fun (k : IntKind) (a b : Int) => (k.wrap (BitVec.ofInt k.bits a ||| BitVec.ofInt k.bits b).toNat : Int))) k) a) b
noncomputable def ixor : IntKind → Int → Int → Int := Classical.choose (ex_eq fun (k : IntKind) (a b : Int) => (k.wrap (BitVec.ofInt k.bits a ^^^ BitVec.ofInt k.bits b).toNat : Int))
theorem ixor_eq (k : IntKind) (a b : Int) : ixor k a b = k.wrap (BitVec.ofInt k.bits a ^^^ BitVec.ofInt k.bits b).toNat := congrFun (congrFun (congrFun (Classical.choose_spec (ex_eq fun (k : IntKind) (a b : Int) => (k.wrap (BitVec.ofInt k.bits a ^^^ BitVec.ofInt k.bits b).toNat : Int))) k) a) b
noncomputable def iandNot : IntKind → Int → Int → Int := Classical.choose (ex_eq fun (k : IntKind) (a b : Int) => (k.wrap (BitVec.ofInt k.bits a &&& ~~~ BitVec.ofInt k.bits b).toNat : Int))
theorem iandNot_eq (k : IntKind) (a b : Int) : iandNot k a b = k.wrap (BitVec.ofInt k.bits a &&& ~~~ BitVec.ofInt k.bits b).toNat := congrFun (congrFun (congrFun (Classical.choose_spec (ex_eq fun (k : IntKind) (a b : Int) => (k.wrap (BitVec.ofInt k.bits a &&& ~~~ BitVec.ofInt k.bits b).toNat : Int))) k) a) b
noncomputable def ishl : IntKind → Int → Int → Int := Classical.choose (ex_eq fun (k : IntKind) (a b : Int) => (k.wrap (a * 2 ^ (min b.toNat k.bits)) : Int))
theorem ishl_eq (k : IntKind) (a b : Int) : ishl k a b = k.wrap (a * 2 ^ (min b.toNat k.bits)) := congrFun (congrFun (congrFun (Classical.choose_spec (ex_eq fun (k : IntKind) (a b : Int) => (k.wrap (a * 2 ^ (min b.toNat k.bits)) : Int))) k) a) b
noncomputable def ishr : IntKind → Int → Int → Int := Classical.choose (ex_eq fun (k : IntKind) (a b : Int) => (a.fdiv (2 ^ (min b.toNat k.bits)) : Int))
theorem ishr_eq (k : IntKind) (a b : Int) : ishr k a b = a.fdiv (2 ^ (min b.toNat k.bits)) := congrFun (congrFun (congrFun (Classical.choose_spec (ex_eq fun (k : IntKind) (a b : Int) => (a.fdiv (2 ^ (min b.toNat k.bits)) : Int))) k) a) b
section
variable (k : IntKind) (a b : Int)
@[simp] theorem vbin_add : vbin .add (.int k a) (.int k b) = some (.int k (k.wrap (a + b))) := by simp [vbin]
@[simp] theorem vbin_sub : vbin .sub (.int k a) (.int k b) = some (.int k (k.wrap (a - b))) := by simp [vbin]
@[simp] theorem vbin_mul : vbin .mul (.int k a) (.int k b) = some (.int k (k.wrap (a * b))) := by simp [vbin]
@[simp] theorem vbin_quo (hb : b ≠ 0) : vbin .quo (.int k a) (.int k b) = some (.int k (k.wrap (a.tdiv b))) := by simp [vbin, hb]
@[simp] theorem vbin_rem (hb : b ≠ 0) : vbin .rem (.int k a) (.int k b) = some (.int k (a.tmod b)) := by simp [vbin, hb]
@[simp] theorem vbin_and : vbin .and (.int k a) (.int k b) = some (.int k (iand k a b)) := by simp [vbin, iand_eq]
@[simp] theorem vbin_or : vbin .or (.int k a) (.int k b) = some (.int k (ior k a b)) := by simp [vbin, ior_eq]
@[simp] theorem vbin_xor : vbin .xor (.int k a) (.int k b) = some (.int k (ixor k a b)) := by simp [vbin, ixor_eq]
@[simp] theorem vbin_andNot : vbin .andNot (.int k a) (.int k b) = some (.int k (iandNot k a b)) := by simp [vbin, iandNot_eq]
@[simp] theorem vbin_shl (k' : IntKind) (hb : 0 ≤ b) : vbin .shl (.int k a) (.int k' b) = some (.int k (ishl k a b)) := by
 have : ¬ b < 0 := by omega
 simp [vbin, ishl_eq, this]
@[simp] theorem vbin_shr (k' : IntKind) (hb : 0 ≤ b) : vbin .shr (.int k a) (.int k' b) = some (.int k (ishr k a b)) := by
 have : ¬ b < 0 := by omega
 simp [vbin, ishr_eq, this]
@[simp] theorem vbin_eql : vbin .eql (.int k a) (.int k b) = some (.bool (decide (a = b))) := by simp [vbin]; rfl
@[simp] theorem vbin_neq : vbin .neq (.int k a) (.int k b) = some (.bool (decide (a ≠ b))) := by
 simp [vbin]
 by_cases h : a = b <;> simp [h]
@[simp] theorem vbin_lss : vbin .lss (.int k a) (.int k b) = some (.bool (decide (a < b))) := by simp [vbin]
@[simp] theorem vbin_leq : vbin .leq (.int k a) (.int k b) = some (.bool (decide (a ≤ b))) := by simp [vbin]
@[simp] theorem vbin_gtr : vbin .gtr (.int k a) (.int k b) = some (.bool (decide (b < a))) := by simp [vbin]
@[simp] theorem vbin_geq : vbin .geq (.int k a) (.int k b) = some (.bool (decide (b ≤ a))) := by simp [vbin]
@[simp] theorem vbeq_bool (n : Bool) (x y : Bool) : vbeq n (.bool x) (.bool y) = some (.bool (if n = true then !(x == y) else x == y)) := rfl
@[simp] theorem vun_not (x : Bool) : vun .not (.bool x) = some (.bool !x) := rfl
@[simp] theorem vun_neg : vun .neg (.int k a) = some (.int k (k.wrap (0 - a))) := rfl
end
theorem ofInt_nat (w n : Nat) (h : n < 2 ^ w) : (BitVec.ofInt w (n : Int)).toNat = n := by
 simp
 exact Nat.mod_eq_of_lt h
theorem iand_nat {a b : Nat} (ha : a < 2 ^ 63) (hb : b < 2 ^ 63) : iand .i64 a b = ((a &&& b : Nat) : Int) := by
 rw [iand_eq]
 rw [BitVec.toNat_and]
 have e : IntKind.i64.bits = 64 := rfl
 rw [e, ofInt_nat 64 a (by omega), ofInt_nat 64 b (by omega)]
 have : a &&& b ≤ a := Nat.and_le_left
 exact wrap64 (by omega) (by omega)
theorem ior_nat {a b : Nat} (ha : a < 2 ^ 63) (hb : b < 2 ^ 63) : ior .i64 a b = ((a ||| b : Nat) : Int) := by
 rw [ior_eq]
 rw [BitVec.toNat_or]
 have e : IntKind.i64.bits = 64 := rfl
 rw [e, ofInt_nat 64 a (by omega), ofInt_nat 64 b (by omega)]
 have : a ||| b < 2 ^ 63 := Nat.or_lt_two_pow ha hb
 exact wrap64 (by omega) (by omega)
theorem ixor_nat {a b : Nat} (ha : a < 2 ^ 63) (hb : b < 2 ^ 63) : ixor .i64 a b = ((a ^^^ b : Nat) : Int) := by
 rw [ixor_eq]
 rw [BitVec.toNat_xor]
 have e : IntKind.i64.bits = 64 := rfl
 rw [e, ofInt_nat 64 a (by omega), ofInt_nat 64 b (by omega)]
 have : a ^^^ b < 2 ^ 63 := Nat.xor_lt_two_pow ha hb
 exact wrap64 (by omega) (by omega)
theorem ishr_nat {a : Nat} {b : Int} (hb : b ≤ 64) : ishr .i64 a b = ((a >>> b.toNat : Nat) : Int) := by
 rw [ishr_eq]
 have e : min b.toNat IntKind.i64.bits = b.toNat := by
  have : IntKind.i64.bits = 64 := rfl
  omega
 rw [e]
 have h1 : (a : Int).fdiv (2 ^ b.toNat) = ((a / 2 ^ b.toNat : Nat) : Int) := by
  rw [Int.fdiv_eq_ediv_of_nonneg _ (Int.pow_nonneg (by decide))]
  simp
 rw [h1, Nat.shiftRight_eq_div_pow]
theorem ishl_one {b : Int} (h1 : b ≤ 62) : ishl .i64 1 b = ((2 ^ b.toNat : Nat) : Int) := by
 rw [ishl_eq]
 have e : min b.toNat IntKind.i64.bits = b.toNat := by
  have : IntKind.i64.bits = 64 := rfl
  omega
 rw [e]
 have : 2 ^ b.toNat ≤ 4611686018427387904 := Nat.le_trans (Nat.pow_le_pow_right (by decide : 0 < 2) (by omega : b.toNat ≤ 62)) (by decide)
 have h2 : (1 : Int) * 2 ^ b.toNat = ((2 ^ b.toNat : Nat) : Int) := by simp
 rw [h2]
 generalize 2 ^ b.toNat = q at *
 exact wrap64 (by omega) (by omega)
theorem iand_one {a : Nat} (ha : a < 2 ^ 63) : iand .i64 a 1 = ((a % 2 : Nat) : Int) := by
 have := iand_nat (a := a) (b := 1) ha (by omega)
 rw [Nat.and_one_is_mod] at this
 exact this
theorem bit_nat {a : Nat} {b : Int} (ha : a < 2 ^ 63) (hb : b ≤ 64) : (iand .i64 (ishr .i64 a b) 1 = 1) ↔ a.testBit b.toNat = true := by
 rw [ishr_nat hb, iand_one]
 ·rw [Nat.testBit_eq_decide_div_mod_eq, Nat.shiftRight_eq_div_pow]
  simp only [decide_eq_true_eq]
  omega
 ·rw [Nat.shiftRight_eq_div_pow]
  exact Nat.lt_of_le_of_lt (Nat.div_le_self _ _) ha
end

/- What the library's TrailingZeros64 does: it reads the table. -/
section
open Go
theorem tz_idx (x : Int) : 0 ≤ tzIdx x ∧ tzIdx x < 64 := by
 unfold tzIdx IntKind.wrap
 simp [IntKind.signed, IntKind.bits]
 omega
theorem tz_idx_nat (x : Int) : (tzIdx x).toNat < 64 := by
 have := tz_idx x
 omega
theorem tz_get (i : Nat) (hi : i < 64) : tzCells[i]? = some (.int .u8 (tzTab.getD i 0)) := by
 have e : tzCells[i]? = (tzTab[i]?).map (Value.int .u8) := by simp [tzCells]
 have hl : tzTab.length = 64 := by decide
 rw [e, List.getD_eq_getElem?_getD, List.getElem?_eq_getElem (by omega)]
 rfl
theorem tz_lo (i : Nat) : 0 ≤ tzTab.getD i 0 ∧ tzTab.getD i 0 < 64 := by
 by_cases hi : i < 64
 ·have : ∀ i < 64, 0 ≤ tzTab.getD i 0 ∧ tzTab.getD i 0 < 64 := by decide
  exact this i hi
 ·have hl : tzTab.length = 64 := by decide
  rw [List.getD_eq_getElem?_getD, List.getElem?_eq_none (by omega)]
  decide
theorem tz_cell (w : World) (ty fz) (hw : w.heap[0]? = some (.cells tzCells ty fz)) (i : Nat) (hi : i < 64) : w.cell? { block := 0, off := i } = some (.int .u8 (tzTab.getD i 0)) := by
 simp only [World.cell?, hw]
 exact tz_get i hi
theorem tz_idx2 (x : Int) : 0 ≤ IntKind.u64.wrap (bits BinOp.and IntKind.u64 x (IntKind.u64.wrap (-x)) * 285870213051353865) / 288230376151711744 ∧ IntKind.u64.wrap (bits BinOp.and IntKind.u64 x (IntKind.u64.wrap (-x)) * 285870213051353865) / 288230376151711744 < 64 := tz_idx x
theorem tz_walk0 (w : World) :
  Calls Tryz.prog 112 #[.int .u64 0] w fun e w' => e = .returned (.int .i64 64) ∧ w' = w := by
 go_enter Tryz.func112, Tryz.ntmps112
 go_wp2
 go_ret
 exact ⟨rfl, rfl⟩
theorem tz_walk1 (x : Int) (h0 : ¬ x = 0) (t : Int) (w : World) (hT : w.cell? { block := 0, off := (IntKind.u64.wrap (bits BinOp.and IntKind.u64 x (IntKind.u64.wrap (-x)) * 285870213051353865) / 288230376151711744).toNat } = some (.int .u8 t)) :
  Calls Tryz.prog 112 #[.int .u64 x] w fun e w' => e = .returned (.int .i64 (RowKit.wrap64 t)) ∧ w' = w := by
 go_enter Tryz.func112, Tryz.ntmps112
 go_wp2
 ·go_ret
  exact ⟨rfl, rfl⟩
 ·rename_i hb
  exact absurd (tz_idx2 x) hb
theorem tz_ext (nro : Nat) : ExtOK Tryz.prog nro 112 tzX := by
 intro f args h v h' hv φ w args' hnr hR ha
 simp only at hv
 split at hv
 ·rename_i hf
  subst hf
  refine ⟨⟨_, Tryz.func112, by kernel_rfl, by kernel_rfl⟩, ?_⟩
  unfold tzX at hv
  split at hv
  ·rename_i x
   simp only [Option.some.injEq, Prod.mk.injEq] at hv
   obtain ⟨rfl, rfl⟩ := hv
   cases ha with
   | cons h1 h2 =>
    cases h2
    have e := h1.inv_int
    subst e
    obtain ⟨⟨ty, fz, hw⟩, _⟩ := hR.glob 0 tzCells rfl
    have key : Calls Tryz.prog 112 #[.int .u64 x] w fun e w' => e = .returned (.int .i64 (tzv x)) ∧ w' = w := by
     by_cases h0 : x = 0
     ·subst h0
      exact tz_walk0 w
     ·have hwr : RowKit.wrap64 (tzTab.getD (tzIdx x).toNat 0) = tzTab.getD (tzIdx x).toNat 0 := by
       have := tz_lo (tzIdx x).toNat
       unfold RowKit.wrap64
       omega
      have := tz_walk1 x h0 _ w (tz_cell w ty fz hw (tzIdx x).toNat (tz_idx_nat x))
      rw [hwr] at this
      unfold tzv
      rw [if_neg h0]
      exact this
    refine key.mono fun e w' ⟨he, hw'⟩ => ?_
    subst hw'
    exact ⟨φ, _, he, hR, X.refl .., .val (.cell (.atom (.int _ _)))⟩
  ·cases hv
 ·cases hv
end

/- Slices that are read: what a slice's value tells of a list. -/
section
open Go
def Sl (h : VH) (v : Value) (cs : List Value) : Prop := vsrc 1 h v = some (cs, cs.length)
def vptr (s : Value) (j : Nat) : Value := match s with
 | .slice (some a) _ tot => .pointer (some ⟨a.block, a.off + j, some tot⟩)
 | _ => junk
def ints (xs : List Int) : List Value := xs.map (Value.int .i64)
@[simp] theorem ints_length (xs : List Int) : (ints xs).length = xs.length := by simp [ints]
@[simp] theorem ints_nil : ints [] = [] := rfl
@[simp] theorem ints_cons (x : Int) (xs : List Int) : ints (x :: xs) = .int .i64 x :: ints xs := rfl
theorem ints_set (xs : List Int) (j : Nat) (x : Int) : (ints xs).set j (.int .i64 x) = ints (xs.set j x) := by simp [ints, List.map_set]
theorem Sl.inv {h : VH} {v : Value} {cs : List Value} (hs : Sl h v cs) :
  (v = .slice none 0 0 ∧ cs = []) ∨ (v = .slice none 0 1 ∧ cs = []) ∨
  ∃ a n tot o, v = .slice (some a) n tot ∧ h[a.block]? = some o ∧ o.sz = 1 ∧ tot = o.cells.length ∧ a.off + n ≤ tot ∧ n = cs.length ∧ ∀ j, j < n → o.cells[a.off + j]? = cs[j]? := by
 unfold Sl vsrc at hs
 split at hs
 ·left; simp at hs; exact ⟨rfl, hs.1⟩
 ·right; left; simp at hs; exact ⟨rfl, hs.1⟩
 ·rename_i a n tot
  split at hs
  ·rename_i o ho
   split at hs
   ·rename_i hc
    simp only [Nat.mul_one, Option.some.injEq, Prod.mk.injEq] at hs
    refine .inr (.inr ⟨a, n, tot, o, rfl, ho, hc.1, hc.2.1, by simpa using hc.2.2, hs.2, fun j hj => ?_⟩)
    rw [← hs.1, List.getElem?_take, if_pos hj, List.getElem?_drop]
   ·cases hs
  ·cases hs
 ·cases hs
@[simp] theorem flatO_ints (n k : Nat) (xs : List Int) : flatO n ⟨k, ints xs⟩ := by
 intro r hr
 simp only [orefs, ints, List.flatMap_map, List.mem_flatMap] at hr
 obtain ⟨x, _, hx⟩ := hr
 simp [crefs, arefs] at hx
@[simp] theorem ints_all (xs : List Int) : (ints xs).all (fun v => !isJunk v) = true := by simp [ints]
theorem splice_ints {xs : List Int} {j : Nat} {v : Int} (hj : j < xs.length) : splice j [.int .i64 v] (ints xs) = ints (xs.set j v) := by
 rw [← ints_set]
 unfold splice
 rw [List.set_eq_take_append_cons_drop, if_pos (by simpa using hj)]
 simp
theorem take1_ints {xs : List Int} {j : Nat} (hj : j < xs.length) : List.take 1 (List.drop j (ints xs)) = [.int .i64 xs[j]] := by
 rw [List.drop_eq_getElem_cons (by simpa using hj)]
 simp [ints]
@[simp] theorem ints_rep (n : Nat) (x : Int) : List.replicate n (Value.int .i64 x) = ints (List.replicate n x) := by simp [ints]
@[simp] theorem ints_rep' (n : Nat) (x : Int) : (List.replicate n [Value.int .i64 x]).flatten = ints (List.replicate n x) := by
 induction n with
 | zero => rfl
 | succ n ih => simp only [List.replicate_succ, List.flatten_cons, ih, ints_cons]; rfl
attribute [simp] Nat.add_one_le_iff
section
variable {h : VH} {v : Value} {cs : List Value}
theorem Sl.app (hs : Sl h v cs) (L : VH) : Sl (h ++ L) v cs := by
 unfold Sl at hs ⊢
 unfold vsrc at hs ⊢
 split at hs
 ·exact hs
 ·exact hs
 ·rename_i a n tot
  split at hs
  ·rename_i o ho
   have : (h ++ L)[a.block]? = some o := by rw [List.getElem?_append_left (List.getElem?_eq_some_iff.mp ho).1]; exact ho
   simp only [this]
   exact hs
  ·cases hs
 ·cases hs
theorem Sl.old (hs : Sl h v cs) : Old h.length v := by
 rcases hs.inv with ⟨rfl, _⟩ | ⟨rfl, _⟩ | ⟨a, n, tot, o, rfl, ho, _⟩
 ·simp
 ·simp
 ·rw [old_sl]; exact (List.getElem?_eq_some_iff.mp ho).1
theorem Sl.vlen (hs : Sl h v cs) : vlen h v = some (.int .i64 cs.length, h) := by
 rcases hs.inv with ⟨rfl, rfl⟩ | ⟨rfl, rfl⟩ | ⟨a, n, tot, o, rfl, ho, _, ht, _, hn, _⟩
 ·rfl
 ·rfl
 ·simp [ho, ht, hn]
theorem Sl.vidx (hs : Sl h v cs) {k : IntKind} {j : Int} (h0 : 0 ≤ j) (hj : j < cs.length) : vidx 1 h v (.int k j) = some (vptr v j.toNat, h) := by
 rcases hs.inv with ⟨rfl, rfl⟩ | ⟨rfl, rfl⟩ | ⟨a, n, tot, o, rfl, ho, hz, ht, _, hn, _⟩
 ·simp at hj; omega
 ·simp at hj; omega
 ·simp only [vidx_ref, ho, hz, ht, vptr, Nat.mul_one]
  rw [if_pos ⟨trivial, trivial, h0, by omega⟩]
theorem Sl.vload (hs : Sl h v cs) {j : Nat} (hj : j < cs.length) : vload false 1 h (vptr v j) = some cs[j] := by
 rcases hs.inv with ⟨rfl, rfl⟩ | ⟨rfl, rfl⟩ | ⟨a, n, tot, o, rfl, ho, hz, ht, hle, hn, hg⟩
 ·simp at hj
 ·simp at hj
 ·have h1 := hg j (by omega)
  rw [List.getElem?_eq_getElem hj] at h1
  have h2 : a.off + j < o.cells.length := by omega
  have h3 : (o.cells.drop (a.off + j)).take 1 = [cs[j]] := by
   rw [List.getElem?_eq_getElem h2, Option.some.injEq] at h1
   rw [List.drop_eq_getElem_cons h2, h1]
   rfl
  simp only [vptr, Zv.vload, vget, ho]
  rw [if_pos ⟨by simp [ht], by omega⟩, h3]
  rfl
theorem Sl.vlive (hs : Sl h v cs) {j : Nat} (hj : j < cs.length) : ∃ a, vptr v j = .pointer (some a) ∧ vlive h a = true := by
 rcases hs.inv with ⟨rfl, rfl⟩ | ⟨rfl, rfl⟩ | ⟨a, n, tot, o, rfl, ho, hz, ht, hle, hn, hg⟩
 ·simp at hj
 ·simp at hj
 ·exact ⟨_, rfl, by simp [ho, ht]⟩
variable {L : VH}
theorem Sl.vlen' (hs : Sl h v cs) : Zv.vlen (h ++ L) v = some (.int .i64 cs.length, h ++ L) := (hs.app _).vlen
theorem Sl.vidx' (hs : Sl h v cs) {k : IntKind} {j : Int} (h0 : 0 ≤ j) (hj : j < cs.length) : Zv.vidx 1 (h ++ L) v (.int k j) = some (vptr v j.toNat, h ++ L) := (hs.app _).vidx h0 hj
theorem Sl.vload' (hs : Sl h v cs) {j : Nat} (hj : j < cs.length) : Zv.vload false 1 (h ++ L) (vptr v j) = some cs[j] := (hs.app _).vload hj
end
def Sli (h : VH) (v : Value) (xs : List Int) : Prop := Sl h v (ints xs)
section
variable {h : VH} {v : Value} {xs : List Int}
theorem Sli.app (hs : Sli h v xs) (L : VH) : Sli (h ++ L) v xs := Sl.app hs L
theorem Sli.old (hs : Sli h v xs) : Old h.length v := Sl.old hs
theorem Sli.oldk (hs : Sli h v xs) {k : Nat} : Old (h.length + k) v := hs.old.le (Nat.le_add_right _ _)
theorem Sli.vlen (hs : Sli h v xs) : Zv.vlen h v = some (.int .i64 xs.length, h) := by rw [Sl.vlen hs, ints_length]
theorem Sli.vidx (hs : Sli h v xs) {k : IntKind} {j : Int} (h0 : 0 ≤ j) (hj : j < xs.length) : Zv.vidx 1 h v (.int k j) = some (vptr v j.toNat, h) := Sl.vidx hs h0 (by rw [ints_length]; exact hj)
theorem Sli.vload (hs : Sli h v xs) {j : Nat} (hj : j < xs.length) : Zv.vload false 1 h (vptr v j) = some (.int .i64 xs[j]) := by
 rw [Sl.vload hs (by rw [ints_length]; exact hj)]
 simp [ints]
variable {L : VH}
theorem Sli.vlen' (hs : Sli h v xs) : Zv.vlen (h ++ L) v = some (.int .i64 xs.length, h ++ L) := (hs.app _).vlen
theorem Sli.vidx' (hs : Sli h v xs) {k : IntKind} {j : Int} (h0 : 0 ≤ j) (hj : j < xs.length) : Zv.vidx 1 (h ++ L) v (.int k j) = some (vptr v j.toNat, h ++ L) := (hs.app _).vidx h0 hj
theorem Sli.vload' (hs : Sli h v xs) {j : Nat} (hj : j < xs.length) : Zv.vload false 1 (h ++ L) (vptr v j) = some (.int .i64 xs[j]) := (hs.app _).vload hj
end
def unint : Value → Int
 | .int _ n => n
 | _ => 0
def unints (cs : List Value) : List Int := cs.map unint
def isI64 : Value → Bool
 | .int .i64 _ => true
 | _ => false
@[simp] theorem unints_ints (xs : List Int) : unints (ints xs) = xs := by simp [unints, ints, unint, Function.comp_def]
@[simp] theorem all_ints (xs : List Int) : (ints xs).all isI64 = true := by simp [ints, isI64]
@[simp] theorem take_ints (xs : List Int) : List.take xs.length (ints xs) = ints xs := List.take_of_length_le (by simp)
def rd (h : VH) (v : Value) : List Int := match vsrc 1 h v with
 | some (cs, _) => unints cs
 | none => []
def isSli (h : VH) (v : Value) : Prop := match vsrc 1 h v with
 | some (cs, n) => cs.length = n ∧ cs.all isI64 = true
 | none => False
theorem Sli.rd {h : VH} {v : Value} {xs : List Int} (hs : Sli h v xs) : rd h v = xs := by
 unfold Sli Sl at hs
 unfold Zv.rd
 rw [hs]
 exact unints_ints xs
@[simp] theorem rd_nil (h : VH) : rd h (.slice none 0 0) = [] := by simp [rd, unints]
@[simp] theorem isSli_nil (h : VH) : isSli h (.slice none 0 0) := ⟨rfl, rfl⟩
@[simp] theorem rd_ref (h : VH) (a : Addr) (n tot : Nat) : rd h (.slice (some a) n tot) = match h[a.block]? with
  | some o => if o.sz = 1 ∧ tot = o.cells.length ∧ a.off + n ≤ tot then unints ((o.cells.drop a.off).take n) else []
  | none => [] := by
 unfold rd
 rw [vsrc_ref]
 cases h[a.block]? with
 | none => rfl
 | some o =>
  simp only [Nat.mul_one]
  by_cases hc : o.sz = 1 ∧ tot = o.cells.length ∧ a.off + n ≤ tot
  ·rw [if_pos hc, if_pos hc]
  ·rw [if_neg hc, if_neg hc]
@[simp] theorem isSli_ref (h : VH) (a : Addr) (n tot : Nat) : isSli h (.slice (some a) n tot) ↔ match h[a.block]? with
  | some o => o.sz = 1 ∧ tot = o.cells.length ∧ a.off + n ≤ tot ∧ ((o.cells.drop a.off).take n).all isI64 = true
  | none => False := by
 unfold isSli
 rw [vsrc_ref]
 cases h[a.block]? with
 | none => exact Iff.rfl
 | some o =>
  simp only [Nat.mul_one]
  by_cases hc : o.sz = 1 ∧ tot = o.cells.length ∧ a.off + n ≤ tot
  ·have : ((o.cells.drop a.off).take n).length = n := by simp; omega
   rw [if_pos hc]
   simp [hc, this]
   intro _
   omega
  ·rw [if_neg hc]
   constructor
   ·exact False.elim
   ·rintro ⟨h1, h2, h3, _⟩; exact hc ⟨h1, h2, h3⟩
end

end Go.Proofs.YtbilmoahcnllmaaGreatDoor.Zv

