/- Part D of the proof: ZwIr, ZvSym, ZvNum, ZwTz, ZwGrow, ZvSl, ZvEnd, ZvRow, ZwRowA, ZwRow0, ZwUp. Conditions: none. -/
import Derived.Below
import Derived.ChangeOld
import Derived.ChangeSame
import Derived.ChangeVars
import Derived.IntWalk
import Derived.JoinedOf
import Derived.Laws.Pointers
import Derived.Lib.AppendZerosOnto
import Derived.Lib.Hide
import Derived.Lib.SliceRun
import Derived.Lib.SmallJoins
import Derived.Lib.Walk
import Derived.OpenShut
import Derived.ProofKit
import Derived.RegionTactic
import Derived.Shelf.RegionOpenPlain
import Derived.ShutString
import Derived.SizedLaws
import Derived.StillTactics
import Derived.Tactics
import Derived.Tactics2
import Derived.Test.YtbdlmjnpglfkoaaDoorProg
import Derived.Test.YtbdlmjnpglfkoaaDoorRows
import Derived.Test.YtbdlmjnpglfkoaaDoorZpB
import Derived.Test.YtbdlmjnpglfkoaaDoorZpC
import Derived.WalkKit
set_option linter.unusedSimpArgs false
set_option linter.unusedVariables false
set_option linter.unusedSectionVars false
namespace Go.Proofs.YtbdlmjnpglfkoaaDoor.Zv
/- The functions' intermediate form. -/
section
open Go
/-- slices.siftDownOrdered[int64] -/
def i_zz24_B1 : FC :=
 .block 1 <|
 .seq (.ops [
 ⟨some 11, .mv (.tmp 8), none, 0⟩,
 ⟨some 12, .bin .mul (.const (.int .i64 2)) (.tmp 11), none, 0⟩,
 ⟨some 13, .bin .add (.tmp 12) (.const (.int .i64 1)), none, 0⟩,
 ⟨some 9, .mv (.tmp 13), none, 0⟩]) <|
 .seq (.seq (.ops [
 ⟨some 14, .mv (.tmp 9), none, 0⟩,
 ⟨some 15, .mv (.tmp 2), none, 0⟩,
 ⟨some 16, .bin .geq (.tmp 14) (.tmp 15), none, 0⟩]) <|
 .cond (.tmp 16)
 (.keep [] <|
 .exit 0)
 (.skip)) <|
 .seq (.seq (.dops [
 ⟨some 17, .mv (.tmp 9), none, 0⟩,
 ⟨some 18, .bin .add (.tmp 17) (.const (.int .i64 1)), none, 0⟩,
 ⟨some 19, .mv (.tmp 2), none, 0⟩,
 ⟨some 20, .bin .lss (.tmp 18) (.tmp 19), none, 0⟩,
 ⟨some 21, .mv (.tmp 20), none, 0⟩,
 ⟨some 22, .mv (.tmp 0), some (21, true), 0⟩,
 ⟨some 23, .mv (.tmp 3), some (21, true), 0⟩,
 ⟨some 24, .mv (.tmp 9), some (21, true), 0⟩,
 ⟨some 25, .bin .add (.tmp 23) (.tmp 24), some (21, true), 0⟩,
 ⟨some 26, .idx 1 (.tmp 22) (.tmp 25), some (21, true), 0⟩,
 ⟨some 27, .load false 1 (.tmp 26), some (21, true), 0⟩,
 ⟨some 28, .mv (.tmp 0), some (21, true), 0⟩,
 ⟨some 29, .mv (.tmp 3), some (21, true), 0⟩,
 ⟨some 30, .mv (.tmp 9), some (21, true), 0⟩,
 ⟨some 31, .bin .add (.tmp 29) (.tmp 30), some (21, true), 0⟩,
 ⟨some 32, .bin .add (.tmp 31) (.const (.int .i64 1)), some (21, true), 0⟩,
 ⟨some 33, .idx 1 (.tmp 28) (.tmp 32), some (21, true), 0⟩,
 ⟨some 34, .load false 1 (.tmp 33), some (21, true), 0⟩,
 ⟨some 35, .call k_zz53 [(.tmp 27), (.tmp 34)], some (21, true), 0⟩,
 ⟨some 36, .pick (.tmp 21) (.tmp 35) (.const (.bool false)), none, 0⟩]) <|
 .cond (.tmp 36)
 (.ops [
 ⟨some 37, .mv (.tmp 9), none, 0⟩,
 ⟨some 38, .bin .add (.tmp 37) (.const (.int .i64 1)), none, 0⟩,
 ⟨some 9, .mv (.tmp 38), none, 0⟩])
 (.skip)) <|
 .seq (.seq (.dops [
 ⟨some 39, .mv (.tmp 0), none, 0⟩,
 ⟨some 40, .mv (.tmp 3), none, 0⟩,
 ⟨some 41, .mv (.tmp 8), none, 0⟩,
 ⟨some 42, .bin .add (.tmp 40) (.tmp 41), none, 0⟩,
 ⟨some 43, .idx 1 (.tmp 39) (.tmp 42), none, 0⟩,
 ⟨some 44, .load false 1 (.tmp 43), none, 0⟩,
 ⟨some 45, .mv (.tmp 0), none, 0⟩,
 ⟨some 46, .mv (.tmp 3), none, 0⟩,
 ⟨some 47, .mv (.tmp 9), none, 0⟩,
 ⟨some 48, .bin .add (.tmp 46) (.tmp 47), none, 0⟩,
 ⟨some 49, .idx 1 (.tmp 45) (.tmp 48), none, 0⟩,
 ⟨some 50, .load false 1 (.tmp 49), none, 0⟩,
 ⟨some 51, .call k_zz53 [(.tmp 44), (.tmp 50)], none, 0⟩,
 ⟨some 52, .un .not (.tmp 51), none, 0⟩]) <|
 .cond (.tmp 52)
 (.keep [] <|
 .ret)
 (.skip)) <|
 .seq (.dops [
 ⟨some 53, .mv (.tmp 0), none, 0⟩,
 ⟨some 54, .mv (.tmp 3), none, 0⟩,
 ⟨some 55, .mv (.tmp 8), none, 0⟩,
 ⟨some 56, .bin .add (.tmp 54) (.tmp 55), none, 0⟩,
 ⟨some 61, .mv (.tmp 0), none, 0⟩,
 ⟨some 62, .mv (.tmp 3), none, 0⟩,
 ⟨some 63, .mv (.tmp 9), none, 0⟩,
 ⟨some 64, .bin .add (.tmp 62) (.tmp 63), none, 0⟩,
 ⟨some 65, .idx 1 (.tmp 61) (.tmp 64), none, 0⟩,
 ⟨some 66, .load false 1 (.tmp 65), none, 0⟩,
 ⟨some 67, .mv (.tmp 0), none, 0⟩,
 ⟨some 68, .mv (.tmp 3), none, 0⟩,
 ⟨some 69, .mv (.tmp 8), none, 0⟩,
 ⟨some 70, .bin .add (.tmp 68) (.tmp 69), none, 0⟩,
 ⟨some 71, .idx 1 (.tmp 67) (.tmp 70), none, 0⟩,
 ⟨some 72, .load false 1 (.tmp 71), none, 0⟩,
 ⟨some 73, .idx 1 (.tmp 53) (.tmp 56), none, 0⟩,
 ⟨none, .store 1 (.tmp 73) (.tmp 66), none, 0⟩,
 ⟨some 57, .mv (.tmp 0), none, 1⟩,
 ⟨some 58, .mv (.tmp 3), none, 1⟩,
 ⟨some 59, .mv (.tmp 9), none, 1⟩,
 ⟨some 60, .bin .add (.tmp 58) (.tmp 59), none, 1⟩,
 ⟨some 74, .idx 1 (.tmp 57) (.tmp 60), none, 0⟩,
 ⟨none, .store 1 (.tmp 74) (.tmp 72), none, 0⟩]) <|
 .ops [
 ⟨some 75, .mv (.tmp 9), none, 0⟩,
 ⟨some 8, .mv (.tmp 75), none, 0⟩]
def i_zz24 : FF := ⟨76, [],
 .seq (.ops [
 ⟨some 10, .mv (.tmp 1), none, 0⟩,
 ⟨some 8, .mv (.tmp 10), none, 0⟩]) <|
 .block 0 <|
 .loop [0, 2, 3, 8] i_zz24_B1⟩
theorem e_zz24 : EntOK Tryd.prog (compD Tryd.prog) k_zz24 i_zz24.vf :=
 ⟨Tryd.f61, Tryd.f61.body.getD .skip, Tryd.func61, by kernel_rfl, by kernel_rfl, by kernel_rfl, by kernel_rfl, by kernel_rfl⟩
/-- slices.nextPowerOfTwo -/
def i_zz42 : FF := ⟨7, [.tmp 2],
 .seq (.ops [
 ⟨some 2, .mv (.const (.int .u64 0)), none, 0⟩]) <|
 .seq (.ops [
 ⟨some 3, .mv (.tmp 0), none, 0⟩,
 ⟨some 4, .conv .u64 (.tmp 3), none, 0⟩,
 ⟨some 5, .call k_zz60 [(.tmp 4)], none, 0⟩,
 ⟨some 6, .bin .shl (.const (.int .u64 1)) (.tmp 5), none, 0⟩,
 ⟨some 2, .mv (.tmp 6), none, 0⟩]) <|
 .keep [2] <|
 .ret⟩
theorem e_zz42 : EntOK Tryd.prog (compD Tryd.prog) k_zz42 i_zz42.vf :=
 ⟨Tryd.f62, Tryd.f62.body.getD .skip, Tryd.func62, by kernel_rfl, by kernel_rfl, by kernel_rfl, by kernel_rfl, by kernel_rfl⟩
def i_zz44 : FF := ⟨33, [.tmp 2],
 .seq (.ops [
 ⟨some 2, .mv (.const (.int .u64 0)), none, 0⟩]) <|
 .seq (.dops [
 ⟨some 3, .mv (.tmp 0), none, 0⟩,
 ⟨some 4, .nilchk (.tmp 3), none, 0⟩,
 ⟨some 5, .load false 1 (.tmp 4), none, 0⟩,
 ⟨some 6, .mv (.tmp 0), none, 0⟩,
 ⟨some 7, .nilchk (.tmp 6), none, 0⟩,
 ⟨some 8, .load false 1 (.tmp 7), none, 0⟩,
 ⟨some 9, .bin .shl (.tmp 8) (.const (.int .u64 13)), none, 0⟩,
 ⟨some 10, .bin .xor (.tmp 5) (.tmp 9), none, 0⟩,
 ⟨some 11, .nilchk (.tmp 3), none, 0⟩,
 ⟨none, .store 1 (.tmp 11) (.tmp 10), none, 0⟩]) <|
 .seq (.dops [
 ⟨some 12, .mv (.tmp 0), none, 0⟩,
 ⟨some 13, .nilchk (.tmp 12), none, 0⟩,
 ⟨some 14, .load false 1 (.tmp 13), none, 0⟩,
 ⟨some 15, .mv (.tmp 0), none, 0⟩,
 ⟨some 16, .nilchk (.tmp 15), none, 0⟩,
 ⟨some 17, .load false 1 (.tmp 16), none, 0⟩,
 ⟨some 18, .bin .shr (.tmp 17) (.const (.int .u64 7)), none, 0⟩,
 ⟨some 19, .bin .xor (.tmp 14) (.tmp 18), none, 0⟩,
 ⟨some 20, .nilchk (.tmp 12), none, 0⟩,
 ⟨none, .store 1 (.tmp 20) (.tmp 19), none, 0⟩]) <|
 .seq (.dops [
 ⟨some 21, .mv (.tmp 0), none, 0⟩,
 ⟨some 22, .nilchk (.tmp 21), none, 0⟩,
 ⟨some 23, .load false 1 (.tmp 22), none, 0⟩,
 ⟨some 24, .mv (.tmp 0), none, 0⟩,
 ⟨some 25, .nilchk (.tmp 24), none, 0⟩,
 ⟨some 26, .load false 1 (.tmp 25), none, 0⟩,
 ⟨some 27, .bin .shl (.tmp 26) (.const (.int .u64 17)), none, 0⟩,
 ⟨some 28, .bin .xor (.tmp 23) (.tmp 27), none, 0⟩,
 ⟨some 29, .nilchk (.tmp 21), none, 0⟩,
 ⟨none, .store 1 (.tmp 29) (.tmp 28), none, 0⟩]) <|
 .seq (.ops [
 ⟨some 30, .mv (.tmp 0), none, 0⟩,
 ⟨some 31, .nilchk (.tmp 30), none, 0⟩,
 ⟨some 32, .load false 1 (.tmp 31), none, 0⟩,
 ⟨some 2, .mv (.tmp 32), none, 0⟩]) <|
 .keep [2] <|
 .ret⟩
theorem e_zz44 : EntOK Tryd.prog (compD Tryd.prog) k_zz44 i_zz44.vf :=
 ⟨Tryd.f63, Tryd.f63.body.getD .skip, Tryd.func63, by kernel_rfl, by kernel_rfl, by kernel_rfl, by kernel_rfl, by kernel_rfl⟩
/-- slices.medianAdjacentOrdered[int64] -/
def i_zz9 : FF := ⟨15, [.tmp 6],
 .seq (.ops [
 ⟨some 6, .mv (.const (.int .i64 0)), none, 0⟩]) <|
 .seq (.ops [
 ⟨some 7, .mv (.tmp 0), none, 0⟩,
 ⟨some 8, .mv (.tmp 1), none, 0⟩,
 ⟨some 9, .bin .sub (.tmp 8) (.const (.int .i64 1)), none, 0⟩,
 ⟨some 10, .mv (.tmp 1), none, 0⟩,
 ⟨some 11, .mv (.tmp 1), none, 0⟩,
 ⟨some 12, .bin .add (.tmp 11) (.const (.int .i64 1)), none, 0⟩,
 ⟨some 13, .mv (.tmp 2), none, 0⟩,
 ⟨some 14, .call k_zz28 [(.tmp 7), (.tmp 9), (.tmp 10), (.tmp 12), (.tmp 13)], none, 0⟩,
 ⟨some 6, .mv (.tmp 14), none, 0⟩]) <|
 .keep [6] <|
 .ret⟩
theorem e_zz9 : EntOK Tryd.prog (compD Tryd.prog) k_zz9 i_zz9.vf :=
 ⟨Tryd.f64, Tryd.f64.body.getD .skip, Tryd.func64, by kernel_rfl, by kernel_rfl, by kernel_rfl, by kernel_rfl, by kernel_rfl⟩
/-- slices.medianOrdered[int64] -/
def i_zz28 : FF := ⟨36, [.tmp 10],
 .seq (.ops [
 ⟨some 10, .mv (.const (.int .i64 0)), none, 0⟩]) <|
 .seq (.ops [
 ⟨some 12, .mv (.tmp 0), none, 0⟩,
 ⟨some 13, .mv (.tmp 1), none, 0⟩,
 ⟨some 14, .mv (.tmp 2), none, 0⟩,
 ⟨some 15, .mv (.tmp 4), none, 0⟩,
 ⟨some 16, .call k_zz29 [(.tmp 12), (.tmp 13), (.tmp 14), (.tmp 15)], none, 0⟩,
 ⟨some 11, .mv (.tmp 16), none, 0⟩,
 ⟨some 17, .ext (.tmp 11) 0, none, 0⟩,
 ⟨some 18, .ext (.tmp 11) 1, none, 0⟩,
 ⟨some 1, .mv (.tmp 17), none, 0⟩,
 ⟨some 2, .mv (.tmp 18), none, 0⟩]) <|
 .seq (.ops [
 ⟨some 20, .mv (.tmp 0), none, 0⟩,
 ⟨some 21, .mv (.tmp 2), none, 0⟩,
 ⟨some 22, .mv (.tmp 3), none, 0⟩,
 ⟨some 23, .mv (.tmp 4), none, 0⟩,
 ⟨some 24, .call k_zz29 [(.tmp 20), (.tmp 21), (.tmp 22), (.tmp 23)], none, 0⟩,
 ⟨some 19, .mv (.tmp 24), none, 0⟩,
 ⟨some 25, .ext (.tmp 19) 0, none, 0⟩,
 ⟨some 26, .ext (.tmp 19) 1, none, 0⟩,
 ⟨some 2, .mv (.tmp 25), none, 0⟩,
 ⟨some 3, .mv (.tmp 26), none, 0⟩]) <|
 .seq (.ops [
 ⟨some 28, .mv (.tmp 0), none, 0⟩,
 ⟨some 29, .mv (.tmp 1), none, 0⟩,
 ⟨some 30, .mv (.tmp 2), none, 0⟩,
 ⟨some 31, .mv (.tmp 4), none, 0⟩,
 ⟨some 32, .call k_zz29 [(.tmp 28), (.tmp 29), (.tmp 30), (.tmp 31)], none, 0⟩,
 ⟨some 27, .mv (.tmp 32), none, 0⟩,
 ⟨some 33, .ext (.tmp 27) 0, none, 0⟩,
 ⟨some 34, .ext (.tmp 27) 1, none, 0⟩,
 ⟨some 1, .mv (.tmp 33), none, 0⟩,
 ⟨some 2, .mv (.tmp 34), none, 0⟩]) <|
 .seq (.ops [
 ⟨some 35, .mv (.tmp 2), none, 0⟩,
 ⟨some 10, .mv (.tmp 35), none, 0⟩]) <|
 .keep [10] <|
 .ret⟩
theorem e_zz28 : EntOK Tryd.prog (compD Tryd.prog) k_zz28 i_zz28.vf :=
 ⟨Tryd.f65, Tryd.f65.body.getD .skip, Tryd.func65, by kernel_rfl, by kernel_rfl, by kernel_rfl, by kernel_rfl, by kernel_rfl⟩
/-- cmp.isNaN[int64] -/
def i_zz50 : FF := ⟨6, [.tmp 2],
 .seq (.ops [
 ⟨some 2, .mv (.const (.bool false)), none, 0⟩]) <|
 .seq (.ops [
 ⟨some 3, .mv (.tmp 0), none, 0⟩,
 ⟨some 4, .mv (.tmp 0), none, 0⟩,
 ⟨some 5, .bin .neq (.tmp 3) (.tmp 4), none, 0⟩,
 ⟨some 2, .mv (.tmp 5), none, 0⟩]) <|
 .keep [2] <|
 .ret⟩
theorem e_zz50 : EntOK Tryd.prog (compD Tryd.prog) k_zz50 i_zz50.vf :=
 ⟨Tryd.f66, Tryd.f66.body.getD .skip, Tryd.func66, by kernel_rfl, by kernel_rfl, by kernel_rfl, by kernel_rfl, by kernel_rfl⟩
/-- slices.insertionSortCmpFunc[loop.example/g01331/impl.told] -/
def i_zz5_B1 : FC :=
 .seq (.seq (.dops [
 ⟨some 18, .mv (.tmp 9), none, 0⟩,
 ⟨some 19, .mv (.tmp 1), none, 0⟩,
 ⟨some 20, .bin .gtr (.tmp 18) (.tmp 19), none, 0⟩,
 ⟨some 21, .mv (.tmp 20), none, 0⟩,
 ⟨some 22, .mv (.tmp 3), some (21, true), 0⟩,
 ⟨some 23, .mv (.tmp 0), some (21, true), 0⟩,
 ⟨some 24, .mv (.tmp 9), some (21, true), 0⟩,
 ⟨some 25, .idx 3 (.tmp 23) (.tmp 24), some (21, true), 0⟩,
 ⟨some 26, .load true 3 (.tmp 25), some (21, true), 0⟩,
 ⟨some 27, .mv (.tmp 0), some (21, true), 0⟩,
 ⟨some 28, .mv (.tmp 9), some (21, true), 0⟩,
 ⟨some 29, .bin .sub (.tmp 28) (.const (.int .i64 1)), some (21, true), 0⟩,
 ⟨some 30, .idx 3 (.tmp 27) (.tmp 29), some (21, true), 0⟩,
 ⟨some 31, .load true 3 (.tmp 30), some (21, true), 0⟩,
 ⟨some 32, .callv (.tmp 22) [(.tmp 26), (.tmp 31)], some (21, true), 0⟩,
 ⟨some 33, .bin .lss (.tmp 32) (.const (.int .i64 0)), some (21, true), 0⟩,
 ⟨some 34, .pick (.tmp 21) (.tmp 33) (.const (.bool false)), none, 0⟩]) <|
 .cond (.tmp 34)
 (.skip)
 (.keep [0, 1, 2, 3, 8] <|
 .exit 2)) <|
 .seq (.block 3 <|
 .dops [
 ⟨some 37, .mv (.tmp 0), none, 0⟩,
 ⟨some 38, .mv (.tmp 9), none, 0⟩,
 ⟨some 42, .mv (.tmp 0), none, 0⟩,
 ⟨some 43, .mv (.tmp 9), none, 0⟩,
 ⟨some 44, .bin .sub (.tmp 43) (.const (.int .i64 1)), none, 0⟩,
 ⟨some 45, .idx 3 (.tmp 42) (.tmp 44), none, 0⟩,
 ⟨some 46, .load true 3 (.tmp 45), none, 0⟩,
 ⟨some 47, .mv (.tmp 0), none, 0⟩,
 ⟨some 48, .mv (.tmp 9), none, 0⟩,
 ⟨some 49, .idx 3 (.tmp 47) (.tmp 48), none, 0⟩,
 ⟨some 50, .load true 3 (.tmp 49), none, 0⟩,
 ⟨some 51, .idx 3 (.tmp 37) (.tmp 38), none, 0⟩,
 ⟨none, .store 3 (.tmp 51) (.tmp 46), none, 0⟩,
 ⟨some 39, .mv (.tmp 0), none, 1⟩,
 ⟨some 40, .mv (.tmp 9), none, 1⟩,
 ⟨some 41, .bin .sub (.tmp 40) (.const (.int .i64 1)), none, 1⟩,
 ⟨some 52, .idx 3 (.tmp 39) (.tmp 41), none, 0⟩,
 ⟨none, .store 3 (.tmp 52) (.tmp 50), none, 0⟩]) <|
 .ops [
 ⟨some 35, .mv (.tmp 9), none, 0⟩,
 ⟨some 36, .bin .sub (.tmp 35) (.const (.int .i64 1)), none, 0⟩,
 ⟨some 9, .mv (.tmp 36), none, 0⟩]
def i_zz5_B2 : FC :=
 .seq (.seq (.ops [
 ⟨some 12, .mv (.tmp 8), none, 0⟩,
 ⟨some 13, .mv (.tmp 2), none, 0⟩,
 ⟨some 14, .bin .lss (.tmp 12) (.tmp 13), none, 0⟩]) <|
 .cond (.tmp 14)
 (.skip)
 (.keep [] <|
 .exit 0)) <|
 .seq (.block 1 <|
 .seq (.ops [
 ⟨some 17, .mv (.tmp 8), none, 0⟩,
 ⟨some 9, .mv (.tmp 17), none, 0⟩]) <|
 .block 2 <|
 .loop [0, 1, 2, 3, 8, 9] i_zz5_B1) <|
 .ops [
 ⟨some 15, .mv (.tmp 8), none, 0⟩,
 ⟨some 16, .bin .add (.tmp 15) (.const (.int .i64 1)), none, 0⟩,
 ⟨some 8, .mv (.tmp 16), none, 0⟩]
def i_zz5 : FF := ⟨53, [],
 .seq (.ops [
 ⟨some 10, .mv (.tmp 1), none, 0⟩,
 ⟨some 11, .bin .add (.tmp 10) (.const (.int .i64 1)), none, 0⟩,
 ⟨some 8, .mv (.tmp 11), none, 0⟩]) <|
 .block 0 <|
 .loop [0, 1, 2, 3, 8] i_zz5_B2⟩
theorem e_zz5 : EntOK Tryd.prog (compD Tryd.prog) k_zz5 i_zz5.vf :=
 ⟨Tryd.f67, Tryd.f67.body.getD .skip, Tryd.func67, by kernel_rfl, by kernel_rfl, by kernel_rfl, by kernel_rfl, by kernel_rfl⟩
/-- slices.heapSortCmpFunc[loop.example/g01331/impl.told] -/
def i_zz14_B1 : FC :=
 .seq (.seq (.ops [
 ⟨some 20, .mv (.tmp 11), none, 0⟩,
 ⟨some 21, .bin .geq (.tmp 20) (.const (.int .i64 0)), none, 0⟩]) <|
 .cond (.tmp 21)
 (.skip)
 (.keep [0, 3, 8, 9, 10] <|
 .exit 0)) <|
 .seq (.block 1 <|
 .ops [
 ⟨some 24, .mv (.tmp 0), none, 0⟩,
 ⟨some 25, .mv (.tmp 11), none, 0⟩,
 ⟨some 26, .mv (.tmp 10), none, 0⟩,
 ⟨some 27, .mv (.tmp 8), none, 0⟩,
 ⟨some 28, .mv (.tmp 3), none, 0⟩,
 ⟨some 29, .call k_zz16 [(.tmp 24), (.tmp 25), (.tmp 26), (.tmp 27), (.tmp 28)], none, 0⟩]) <|
 .ops [
 ⟨some 22, .mv (.tmp 11), none, 0⟩,
 ⟨some 23, .bin .sub (.tmp 22) (.const (.int .i64 1)), none, 0⟩,
 ⟨some 11, .mv (.tmp 23), none, 0⟩]
def i_zz14_B2 : FC :=
 .seq (.seq (.ops [
 ⟨some 32, .mv (.tmp 12), none, 0⟩,
 ⟨some 33, .bin .geq (.tmp 32) (.const (.int .i64 0)), none, 0⟩]) <|
 .cond (.tmp 33)
 (.skip)
 (.keep [] <|
 .exit 2)) <|
 .seq (.block 3 <|
 .seq (.dops [
 ⟨some 36, .mv (.tmp 0), none, 0⟩,
 ⟨some 37, .mv (.tmp 8), none, 0⟩,
 ⟨some 42, .mv (.tmp 0), none, 0⟩,
 ⟨some 43, .mv (.tmp 8), none, 0⟩,
 ⟨some 44, .mv (.tmp 12), none, 0⟩,
 ⟨some 45, .bin .add (.tmp 43) (.tmp 44), none, 0⟩,
 ⟨some 46, .idx 3 (.tmp 42) (.tmp 45), none, 0⟩,
 ⟨some 47, .load true 3 (.tmp 46), none, 0⟩,
 ⟨some 48, .mv (.tmp 0), none, 0⟩,
 ⟨some 49, .mv (.tmp 8), none, 0⟩,
 ⟨some 50, .idx 3 (.tmp 48) (.tmp 49), none, 0⟩,
 ⟨some 51, .load true 3 (.tmp 50), none, 0⟩,
 ⟨some 52, .idx 3 (.tmp 36) (.tmp 37), none, 0⟩,
 ⟨none, .store 3 (.tmp 52) (.tmp 47), none, 0⟩,
 ⟨some 38, .mv (.tmp 0), none, 1⟩,
 ⟨some 39, .mv (.tmp 8), none, 1⟩,
 ⟨some 40, .mv (.tmp 12), none, 1⟩,
 ⟨some 41, .bin .add (.tmp 39) (.tmp 40), none, 1⟩,
 ⟨some 53, .idx 3 (.tmp 38) (.tmp 41), none, 0⟩,
 ⟨none, .store 3 (.tmp 53) (.tmp 51), none, 0⟩]) <|
 .ops [
 ⟨some 54, .mv (.tmp 0), none, 0⟩,
 ⟨some 55, .mv (.tmp 9), none, 0⟩,
 ⟨some 56, .mv (.tmp 12), none, 0⟩,
 ⟨some 57, .mv (.tmp 8), none, 0⟩,
 ⟨some 58, .mv (.tmp 3), none, 0⟩,
 ⟨some 59, .call k_zz16 [(.tmp 54), (.tmp 55), (.tmp 56), (.tmp 57), (.tmp 58)], none, 0⟩]) <|
 .ops [
 ⟨some 34, .mv (.tmp 12), none, 0⟩,
 ⟨some 35, .bin .sub (.tmp 34) (.const (.int .i64 1)), none, 0⟩,
 ⟨some 12, .mv (.tmp 35), none, 0⟩]
def i_zz14 : FF := ⟨60, [],
 .seq (.ops [
 ⟨some 13, .mv (.tmp 1), none, 0⟩,
 ⟨some 8, .mv (.tmp 13), none, 0⟩]) <|
 .seq (.ops [
 ⟨some 9, .mv (.const (.int .i64 0)), none, 0⟩]) <|
 .seq (.ops [
 ⟨some 14, .mv (.tmp 2), none, 0⟩,
 ⟨some 15, .mv (.tmp 1), none, 0⟩,
 ⟨some 16, .bin .sub (.tmp 14) (.tmp 15), none, 0⟩,
 ⟨some 10, .mv (.tmp 16), none, 0⟩]) <|
 .seq (.seq (.ops [
 ⟨some 17, .mv (.tmp 10), none, 0⟩,
 ⟨some 18, .bin .sub (.tmp 17) (.const (.int .i64 1)), none, 0⟩,
 ⟨some 19, .bin .quo (.tmp 18) (.const (.int .i64 2)), none, 0⟩,
 ⟨some 11, .mv (.tmp 19), none, 0⟩]) <|
 .block 0 <|
 .loop [0, 3, 8, 9, 10, 11] i_zz14_B1) <|
 .seq (.ops [
 ⟨some 30, .mv (.tmp 10), none, 0⟩,
 ⟨some 31, .bin .sub (.tmp 30) (.const (.int .i64 1)), none, 0⟩,
 ⟨some 12, .mv (.tmp 31), none, 0⟩]) <|
 .block 2 <|
 .loop [0, 3, 8, 9, 12] i_zz14_B2⟩
theorem e_zz14 : EntOK Tryd.prog (compD Tryd.prog) k_zz14 i_zz14.vf :=
 ⟨Tryd.f68, Tryd.f68.body.getD .skip, Tryd.func68, by kernel_rfl, by kernel_rfl, by kernel_rfl, by kernel_rfl, by kernel_rfl⟩
/-- slices.breakPatternsCmpFunc[loop.example/g01331/impl.told] -/
def i_zz4_B1 : FC :=
 .seq (.seq (.ops [
 ⟨some 28, .mv (.tmp 11), none, 0⟩,
 ⟨some 29, .mv (.tmp 1), none, 0⟩,
 ⟨some 30, .mv (.tmp 8), none, 0⟩,
 ⟨some 31, .bin .quo (.tmp 30) (.const (.int .i64 4)), none, 0⟩,
 ⟨some 32, .bin .mul (.tmp 31) (.const (.int .i64 2)), none, 0⟩,
 ⟨some 33, .bin .add (.tmp 29) (.tmp 32), none, 0⟩,
 ⟨some 34, .bin .add (.tmp 33) (.const (.int .i64 1)), none, 0⟩,
 ⟨some 35, .bin .leq (.tmp 28) (.tmp 34), none, 0⟩]) <|
 .cond (.tmp 35)
 (.skip)
 (.keep [] <|
 .exit 0)) <|
 .seq (.block 1 <|
 .seq (.ops [
 ⟨some 38, .call k_zz44 [(.tmp 9)], none, 0⟩,
 ⟨some 39, .mv (.tmp 10), none, 0⟩,
 ⟨some 40, .bin .sub (.tmp 39) (.const (.int .u64 1)), none, 0⟩,
 ⟨some 41, .bin .and (.tmp 38) (.tmp 40), none, 0⟩,
 ⟨some 42, .conv .i64 (.tmp 41), none, 0⟩,
 ⟨some 12, .mv (.tmp 42), none, 0⟩]) <|
 .seq (.seq (.ops [
 ⟨some 43, .mv (.tmp 12), none, 0⟩,
 ⟨some 44, .mv (.tmp 8), none, 0⟩,
 ⟨some 45, .bin .geq (.tmp 43) (.tmp 44), none, 0⟩]) <|
 .cond (.tmp 45)
 (.ops [
 ⟨some 46, .mv (.tmp 12), none, 0⟩,
 ⟨some 47, .mv (.tmp 8), none, 0⟩,
 ⟨some 48, .bin .sub (.tmp 46) (.tmp 47), none, 0⟩,
 ⟨some 12, .mv (.tmp 48), none, 0⟩])
 (.skip)) <|
 .dops [
 ⟨some 49, .mv (.tmp 0), none, 0⟩,
 ⟨some 50, .mv (.tmp 11), none, 0⟩,
 ⟨some 55, .mv (.tmp 0), none, 0⟩,
 ⟨some 56, .mv (.tmp 1), none, 0⟩,
 ⟨some 57, .mv (.tmp 12), none, 0⟩,
 ⟨some 58, .bin .add (.tmp 56) (.tmp 57), none, 0⟩,
 ⟨some 59, .idx 3 (.tmp 55) (.tmp 58), none, 0⟩,
 ⟨some 60, .load true 3 (.tmp 59), none, 0⟩,
 ⟨some 61, .mv (.tmp 0), none, 0⟩,
 ⟨some 62, .mv (.tmp 11), none, 0⟩,
 ⟨some 63, .idx 3 (.tmp 61) (.tmp 62), none, 0⟩,
 ⟨some 64, .load true 3 (.tmp 63), none, 0⟩,
 ⟨some 65, .idx 3 (.tmp 49) (.tmp 50), none, 0⟩,
 ⟨none, .store 3 (.tmp 65) (.tmp 60), none, 0⟩,
 ⟨some 51, .mv (.tmp 0), none, 1⟩,
 ⟨some 52, .mv (.tmp 1), none, 1⟩,
 ⟨some 53, .mv (.tmp 12), none, 1⟩,
 ⟨some 54, .bin .add (.tmp 52) (.tmp 53), none, 1⟩,
 ⟨some 66, .idx 3 (.tmp 51) (.tmp 54), none, 0⟩,
 ⟨none, .store 3 (.tmp 66) (.tmp 64), none, 0⟩]) <|
 .ops [
 ⟨some 36, .mv (.tmp 11), none, 0⟩,
 ⟨some 37, .bin .add (.tmp 36) (.const (.int .i64 1)), none, 0⟩,
 ⟨some 11, .mv (.tmp 37), none, 0⟩]
def i_zz4 : FF := ⟨67, [],
 .seq (.ops [
 ⟨some 13, .mv (.tmp 2), none, 0⟩,
 ⟨some 14, .mv (.tmp 1), none, 0⟩,
 ⟨some 15, .bin .sub (.tmp 13) (.tmp 14), none, 0⟩,
 ⟨some 8, .mv (.tmp 15), none, 0⟩]) <|
 .seq (.ops [
 ⟨some 16, .mv (.tmp 8), none, 0⟩,
 ⟨some 17, .bin .geq (.tmp 16) (.const (.int .i64 8)), none, 0⟩]) <|
 .cond (.tmp 17)
 (.seq (.ops [
 ⟨some 18, .mv (.tmp 8), none, 0⟩,
 ⟨some 19, .conv .u64 (.tmp 18), none, 0⟩,
 ⟨some 9, .alloc [.int .u64 0], none, 0⟩,
 ⟨none, .store 1 (.tmp 9) (.tmp 19), none, 0⟩]) <|
 .seq (.ops [
 ⟨some 20, .mv (.tmp 8), none, 0⟩,
 ⟨some 21, .call k_zz42 [(.tmp 20)], none, 0⟩,
 ⟨some 10, .mv (.tmp 21), none, 0⟩]) <|
 .seq (.ops [
 ⟨some 22, .mv (.tmp 1), none, 0⟩,
 ⟨some 23, .mv (.tmp 8), none, 0⟩,
 ⟨some 24, .bin .quo (.tmp 23) (.const (.int .i64 4)), none, 0⟩,
 ⟨some 25, .bin .mul (.tmp 24) (.const (.int .i64 2)), none, 0⟩,
 ⟨some 26, .bin .add (.tmp 22) (.tmp 25), none, 0⟩,
 ⟨some 27, .bin .sub (.tmp 26) (.const (.int .i64 1)), none, 0⟩,
 ⟨some 11, .mv (.tmp 27), none, 0⟩]) <|
 .block 0 <|
 .loop [0, 1, 8, 9, 10, 11] i_zz4_B1)
 (.skip)⟩
theorem e_zz4 : EntOK Tryd.prog (compD Tryd.prog) k_zz4 i_zz4.vf :=
 ⟨Tryd.f69, Tryd.f69.body.getD .skip, Tryd.func69, by kernel_rfl, by kernel_rfl, by kernel_rfl, by kernel_rfl, by kernel_rfl⟩
/-- slices.choosePivotCmpFunc[loop.example/g01331/impl.told] -/
def i_zz8 : FF := ⟨63, [.tmp 8, .tmp 9],
 .seq (.ops [
 ⟨some 8, .mv (.const (.int .i64 0)), none, 0⟩,
 ⟨some 9, .mv (.const (.int .i64 0)), none, 0⟩]) <|
 .seq (.ops [
 ⟨some 15, .mv (.tmp 2), none, 0⟩,
 ⟨some 16, .mv (.tmp 1), none, 0⟩,
 ⟨some 17, .bin .sub (.tmp 15) (.tmp 16), none, 0⟩,
 ⟨some 10, .mv (.tmp 17), none, 0⟩]) <|
 .seq (.ops [
 ⟨some 11, .alloc [.int .i64 0], none, 0⟩]) <|
 .seq (.ops [
 ⟨some 18, .mv (.tmp 1), none, 0⟩,
 ⟨some 19, .mv (.tmp 10), none, 0⟩,
 ⟨some 20, .bin .quo (.tmp 19) (.const (.int .i64 4)), none, 0⟩,
 ⟨some 21, .bin .mul (.tmp 20) (.const (.int .i64 1)), none, 0⟩,
 ⟨some 22, .bin .add (.tmp 18) (.tmp 21), none, 0⟩,
 ⟨some 12, .mv (.tmp 22), none, 0⟩]) <|
 .seq (.ops [
 ⟨some 23, .mv (.tmp 1), none, 0⟩,
 ⟨some 24, .mv (.tmp 10), none, 0⟩,
 ⟨some 25, .bin .quo (.tmp 24) (.const (.int .i64 4)), none, 0⟩,
 ⟨some 26, .bin .mul (.tmp 25) (.const (.int .i64 2)), none, 0⟩,
 ⟨some 27, .bin .add (.tmp 23) (.tmp 26), none, 0⟩,
 ⟨some 13, .mv (.tmp 27), none, 0⟩]) <|
 .seq (.ops [
 ⟨some 28, .mv (.tmp 1), none, 0⟩,
 ⟨some 29, .mv (.tmp 10), none, 0⟩,
 ⟨some 30, .bin .quo (.tmp 29) (.const (.int .i64 4)), none, 0⟩,
 ⟨some 31, .bin .mul (.tmp 30) (.const (.int .i64 3)), none, 0⟩,
 ⟨some 32, .bin .add (.tmp 28) (.tmp 31), none, 0⟩,
 ⟨some 14, .mv (.tmp 32), none, 0⟩]) <|
 .seq (.seq (.ops [
 ⟨some 33, .mv (.tmp 10), none, 0⟩,
 ⟨some 34, .bin .geq (.tmp 33) (.const (.int .i64 8)), none, 0⟩]) <|
 .cond (.tmp 34)
 (.seq (.seq (.ops [
 ⟨some 35, .mv (.tmp 10), none, 0⟩,
 ⟨some 36, .bin .geq (.tmp 35) (.const (.int .i64 50)), none, 0⟩]) <|
 .cond (.tmp 36)
 (.seq (.ops [
 ⟨some 37, .mv (.tmp 0), none, 0⟩,
 ⟨some 38, .mv (.tmp 12), none, 0⟩,
 ⟨some 39, .mv (.tmp 3), none, 0⟩,
 ⟨some 40, .call k_zz2 [(.tmp 37), (.tmp 38), (.tmp 11), (.tmp 39)], none, 0⟩,
 ⟨some 12, .mv (.tmp 40), none, 0⟩]) <|
 .seq (.ops [
 ⟨some 41, .mv (.tmp 0), none, 0⟩,
 ⟨some 42, .mv (.tmp 13), none, 0⟩,
 ⟨some 43, .mv (.tmp 3), none, 0⟩,
 ⟨some 44, .call k_zz2 [(.tmp 41), (.tmp 42), (.tmp 11), (.tmp 43)], none, 0⟩,
 ⟨some 13, .mv (.tmp 44), none, 0⟩]) <|
 .ops [
 ⟨some 45, .mv (.tmp 0), none, 0⟩,
 ⟨some 46, .mv (.tmp 14), none, 0⟩,
 ⟨some 47, .mv (.tmp 3), none, 0⟩,
 ⟨some 48, .call k_zz2 [(.tmp 45), (.tmp 46), (.tmp 11), (.tmp 47)], none, 0⟩,
 ⟨some 14, .mv (.tmp 48), none, 0⟩])
 (.skip)) <|
 .ops [
 ⟨some 49, .mv (.tmp 0), none, 0⟩,
 ⟨some 50, .mv (.tmp 12), none, 0⟩,
 ⟨some 51, .mv (.tmp 13), none, 0⟩,
 ⟨some 52, .mv (.tmp 14), none, 0⟩,
 ⟨some 53, .mv (.tmp 3), none, 0⟩,
 ⟨some 54, .call k_zz19 [(.tmp 49), (.tmp 50), (.tmp 51), (.tmp 52), (.tmp 11), (.tmp 53)], none, 0⟩,
 ⟨some 13, .mv (.tmp 54), none, 0⟩])
 (.skip)) <|
 .seq (.ops [
 ⟨some 55, .load false 1 (.tmp 11), none, 0⟩]) <|
 .block 0 <|
 .seq (.ops [
 ⟨some 58, .bin .eql (.tmp 55) (.const (.int .i64 0)), none, 0⟩,
 ⟨some 57, .mv (.tmp 58), none, 0⟩]) <|
 .cond (.tmp 57)
 (.seq (.ops [
 ⟨some 59, .mv (.tmp 13), none, 0⟩,
 ⟨some 8, .mv (.tmp 59), none, 0⟩,
 ⟨some 9, .mv (.const (.int .i64 1)), none, 0⟩]) <|
 .keep [8, 9] <|
 .ret)
 (.seq (.ops [
 ⟨some 61, .bin .eql (.tmp 55) (.const (.int .i64 12)), none, 0⟩,
 ⟨some 60, .mv (.tmp 61), none, 0⟩]) <|
 .cond (.tmp 60)
 (.seq (.ops [
 ⟨some 62, .mv (.tmp 13), none, 0⟩,
 ⟨some 8, .mv (.tmp 62), none, 0⟩,
 ⟨some 9, .mv (.const (.int .i64 2)), none, 0⟩]) <|
 .keep [8, 9] <|
 .ret)
 (.seq (.ops [
 ⟨some 56, .mv (.tmp 13), none, 0⟩,
 ⟨some 8, .mv (.tmp 56), none, 0⟩,
 ⟨some 9, .mv (.const (.int .i64 0)), none, 0⟩]) <|
 .keep [8, 9] <|
 .ret))⟩
theorem e_zz8 : EntOK Tryd.prog (compD Tryd.prog) k_zz8 i_zz8.vf :=
 ⟨Tryd.f70, Tryd.f70.body.getD .skip, Tryd.func70, by kernel_rfl, by kernel_rfl, by kernel_rfl, by kernel_rfl, by kernel_rfl⟩
/-- slices.reverseRangeCmpFunc[loop.example/g01331/impl.told] -/
def i_zz6_B1 : FC :=
 .seq (.seq (.ops [
 ⟨some 13, .mv (.tmp 8), none, 0⟩,
 ⟨some 14, .mv (.tmp 9), none, 0⟩,
 ⟨some 15, .bin .lss (.tmp 13) (.tmp 14), none, 0⟩]) <|
 .cond (.tmp 15)
 (.skip)
 (.keep [] <|
 .exit 0)) <|
 .block 1 <|
 .seq (.dops [
 ⟨some 16, .mv (.tmp 0), none, 0⟩,
 ⟨some 17, .mv (.tmp 8), none, 0⟩,
 ⟨some 20, .mv (.tmp 0), none, 0⟩,
 ⟨some 21, .mv (.tmp 9), none, 0⟩,
 ⟨some 22, .idx 3 (.tmp 20) (.tmp 21), none, 0⟩,
 ⟨some 23, .load true 3 (.tmp 22), none, 0⟩,
 ⟨some 24, .mv (.tmp 0), none, 0⟩,
 ⟨some 25, .mv (.tmp 8), none, 0⟩,
 ⟨some 26, .idx 3 (.tmp 24) (.tmp 25), none, 0⟩,
 ⟨some 27, .load true 3 (.tmp 26), none, 0⟩,
 ⟨some 28, .idx 3 (.tmp 16) (.tmp 17), none, 0⟩,
 ⟨none, .store 3 (.tmp 28) (.tmp 23), none, 0⟩,
 ⟨some 18, .mv (.tmp 0), none, 1⟩,
 ⟨some 19, .mv (.tmp 9), none, 1⟩,
 ⟨some 29, .idx 3 (.tmp 18) (.tmp 19), none, 0⟩,
 ⟨none, .store 3 (.tmp 29) (.tmp 27), none, 0⟩]) <|
 .seq (.ops [
 ⟨some 30, .mv (.tmp 8), none, 0⟩,
 ⟨some 31, .bin .add (.tmp 30) (.const (.int .i64 1)), none, 0⟩,
 ⟨some 8, .mv (.tmp 31), none, 0⟩]) <|
 .ops [
 ⟨some 32, .mv (.tmp 9), none, 0⟩,
 ⟨some 33, .bin .sub (.tmp 32) (.const (.int .i64 1)), none, 0⟩,
 ⟨some 9, .mv (.tmp 33), none, 0⟩]
def i_zz6 : FF := ⟨34, [],
 .seq (.ops [
 ⟨some 10, .mv (.tmp 1), none, 0⟩,
 ⟨some 8, .mv (.tmp 10), none, 0⟩]) <|
 .seq (.ops [
 ⟨some 11, .mv (.tmp 2), none, 0⟩,
 ⟨some 12, .bin .sub (.tmp 11) (.const (.int .i64 1)), none, 0⟩,
 ⟨some 9, .mv (.tmp 12), none, 0⟩]) <|
 .block 0 <|
 .loop [0, 8, 9] i_zz6_B1⟩
theorem e_zz6 : EntOK Tryd.prog (compD Tryd.prog) k_zz6 i_zz6.vf :=
 ⟨Tryd.f71, Tryd.f71.body.getD .skip, Tryd.func71, by kernel_rfl, by kernel_rfl, by kernel_rfl, by kernel_rfl, by kernel_rfl⟩
/-- slices.partialInsertionSortCmpFunc[loop.example/g01331/impl.told] -/
def i_zz0_B1 : FC :=
 .seq (.seq (.dops [
 ⟨some 19, .mv (.tmp 9), none, 0⟩,
 ⟨some 20, .mv (.tmp 2), none, 0⟩,
 ⟨some 21, .bin .lss (.tmp 19) (.tmp 20), none, 0⟩,
 ⟨some 22, .mv (.tmp 21), none, 0⟩,
 ⟨some 23, .mv (.tmp 3), some (22, true), 0⟩,
 ⟨some 24, .mv (.tmp 0), some (22, true), 0⟩,
 ⟨some 25, .mv (.tmp 9), some (22, true), 0⟩,
 ⟨some 26, .idx 3 (.tmp 24) (.tmp 25), some (22, true), 0⟩,
 ⟨some 27, .load true 3 (.tmp 26), some (22, true), 0⟩,
 ⟨some 28, .mv (.tmp 0), some (22, true), 0⟩,
 ⟨some 29, .mv (.tmp 9), some (22, true), 0⟩,
 ⟨some 30, .bin .sub (.tmp 29) (.const (.int .i64 1)), some (22, true), 0⟩,
 ⟨some 31, .idx 3 (.tmp 28) (.tmp 30), some (22, true), 0⟩,
 ⟨some 32, .load true 3 (.tmp 31), some (22, true), 0⟩,
 ⟨some 33, .callv (.tmp 23) [(.tmp 27), (.tmp 32)], some (22, true), 0⟩,
 ⟨some 34, .bin .lss (.tmp 33) (.const (.int .i64 0)), some (22, true), 0⟩,
 ⟨some 35, .un .not (.tmp 34), some (22, true), 0⟩,
 ⟨some 36, .pick (.tmp 22) (.tmp 35) (.const (.bool false)), none, 0⟩]) <|
 .cond (.tmp 36)
 (.skip)
 (.keep [0, 1, 2, 3, 9, 10] <|
 .exit 2)) <|
 .block 3 <|
 .ops [
 ⟨some 37, .mv (.tmp 9), none, 0⟩,
 ⟨some 38, .bin .add (.tmp 37) (.const (.int .i64 1)), none, 0⟩,
 ⟨some 9, .mv (.tmp 38), none, 0⟩]
def i_zz0_B2 : FC :=
 .seq (.seq (.ops [
 ⟨some 68, .mv (.tmp 11), none, 0⟩,
 ⟨some 69, .bin .geq (.tmp 68) (.const (.int .i64 1)), none, 0⟩]) <|
 .cond (.tmp 69)
 (.skip)
 (.keep [0, 1, 2, 3, 9, 10] <|
 .exit 4)) <|
 .seq (.block 5 <|
 .seq (.seq (.dops [
 ⟨some 72, .mv (.tmp 3), none, 0⟩,
 ⟨some 73, .mv (.tmp 0), none, 0⟩,
 ⟨some 74, .mv (.tmp 11), none, 0⟩,
 ⟨some 75, .idx 3 (.tmp 73) (.tmp 74), none, 0⟩,
 ⟨some 76, .load true 3 (.tmp 75), none, 0⟩,
 ⟨some 77, .mv (.tmp 0), none, 0⟩,
 ⟨some 78, .mv (.tmp 11), none, 0⟩,
 ⟨some 79, .bin .sub (.tmp 78) (.const (.int .i64 1)), none, 0⟩,
 ⟨some 80, .idx 3 (.tmp 77) (.tmp 79), none, 0⟩,
 ⟨some 81, .load true 3 (.tmp 80), none, 0⟩,
 ⟨some 82, .callv (.tmp 72) [(.tmp 76), (.tmp 81)], none, 0⟩,
 ⟨some 83, .bin .lss (.tmp 82) (.const (.int .i64 0)), none, 0⟩,
 ⟨some 84, .un .not (.tmp 83), none, 0⟩]) <|
 .cond (.tmp 84)
 (.keep [0, 1, 2, 3, 9, 10] <|
 .exit 4)
 (.skip)) <|
 .dops [
 ⟨some 85, .mv (.tmp 0), none, 0⟩,
 ⟨some 86, .mv (.tmp 11), none, 0⟩,
 ⟨some 90, .mv (.tmp 0), none, 0⟩,
 ⟨some 91, .mv (.tmp 11), none, 0⟩,
 ⟨some 92, .bin .sub (.tmp 91) (.const (.int .i64 1)), none, 0⟩,
 ⟨some 93, .idx 3 (.tmp 90) (.tmp 92), none, 0⟩,
 ⟨some 94, .load true 3 (.tmp 93), none, 0⟩,
 ⟨some 95, .mv (.tmp 0), none, 0⟩,
 ⟨some 96, .mv (.tmp 11), none, 0⟩,
 ⟨some 97, .idx 3 (.tmp 95) (.tmp 96), none, 0⟩,
 ⟨some 98, .load true 3 (.tmp 97), none, 0⟩,
 ⟨some 99, .idx 3 (.tmp 85) (.tmp 86), none, 0⟩,
 ⟨none, .store 3 (.tmp 99) (.tmp 94), none, 0⟩,
 ⟨some 87, .mv (.tmp 0), none, 1⟩,
 ⟨some 88, .mv (.tmp 11), none, 1⟩,
 ⟨some 89, .bin .sub (.tmp 88) (.const (.int .i64 1)), none, 1⟩,
 ⟨some 100, .idx 3 (.tmp 87) (.tmp 89), none, 0⟩,
 ⟨none, .store 3 (.tmp 100) (.tmp 98), none, 0⟩]) <|
 .ops [
 ⟨some 70, .mv (.tmp 11), none, 0⟩,
 ⟨some 71, .bin .sub (.tmp 70) (.const (.int .i64 1)), none, 0⟩,
 ⟨some 11, .mv (.tmp 71), none, 0⟩]
def i_zz0_B3 : FC :=
 .seq (.seq (.ops [
 ⟨some 107, .mv (.tmp 12), none, 0⟩,
 ⟨some 108, .mv (.tmp 2), none, 0⟩,
 ⟨some 109, .bin .lss (.tmp 107) (.tmp 108), none, 0⟩]) <|
 .cond (.tmp 109)
 (.skip)
 (.keep [0, 1, 2, 3, 9, 10] <|
 .exit 6)) <|
 .seq (.block 7 <|
 .seq (.seq (.dops [
 ⟨some 112, .mv (.tmp 3), none, 0⟩,
 ⟨some 113, .mv (.tmp 0), none, 0⟩,
 ⟨some 114, .mv (.tmp 12), none, 0⟩,
 ⟨some 115, .idx 3 (.tmp 113) (.tmp 114), none, 0⟩,
 ⟨some 116, .load true 3 (.tmp 115), none, 0⟩,
 ⟨some 117, .mv (.tmp 0), none, 0⟩,
 ⟨some 118, .mv (.tmp 12), none, 0⟩,
 ⟨some 119, .bin .sub (.tmp 118) (.const (.int .i64 1)), none, 0⟩,
 ⟨some 120, .idx 3 (.tmp 117) (.tmp 119), none, 0⟩,
 ⟨some 121, .load true 3 (.tmp 120), none, 0⟩,
 ⟨some 122, .callv (.tmp 112) [(.tmp 116), (.tmp 121)], none, 0⟩,
 ⟨some 123, .bin .lss (.tmp 122) (.const (.int .i64 0)), none, 0⟩,
 ⟨some 124, .un .not (.tmp 123), none, 0⟩]) <|
 .cond (.tmp 124)
 (.keep [0, 1, 2, 3, 9, 10] <|
 .exit 6)
 (.skip)) <|
 .dops [
 ⟨some 125, .mv (.tmp 0), none, 0⟩,
 ⟨some 126, .mv (.tmp 12), none, 0⟩,
 ⟨some 130, .mv (.tmp 0), none, 0⟩,
 ⟨some 131, .mv (.tmp 12), none, 0⟩,
 ⟨some 132, .bin .sub (.tmp 131) (.const (.int .i64 1)), none, 0⟩,
 ⟨some 133, .idx 3 (.tmp 130) (.tmp 132), none, 0⟩,
 ⟨some 134, .load true 3 (.tmp 133), none, 0⟩,
 ⟨some 135, .mv (.tmp 0), none, 0⟩,
 ⟨some 136, .mv (.tmp 12), none, 0⟩,
 ⟨some 137, .idx 3 (.tmp 135) (.tmp 136), none, 0⟩,
 ⟨some 138, .load true 3 (.tmp 137), none, 0⟩,
 ⟨some 139, .idx 3 (.tmp 125) (.tmp 126), none, 0⟩,
 ⟨none, .store 3 (.tmp 139) (.tmp 134), none, 0⟩,
 ⟨some 127, .mv (.tmp 0), none, 1⟩,
 ⟨some 128, .mv (.tmp 12), none, 1⟩,
 ⟨some 129, .bin .sub (.tmp 128) (.const (.int .i64 1)), none, 1⟩,
 ⟨some 140, .idx 3 (.tmp 127) (.tmp 129), none, 0⟩,
 ⟨none, .store 3 (.tmp 140) (.tmp 138), none, 0⟩]) <|
 .ops [
 ⟨some 110, .mv (.tmp 12), none, 0⟩,
 ⟨some 111, .bin .add (.tmp 110) (.const (.int .i64 1)), none, 0⟩,
 ⟨some 12, .mv (.tmp 111), none, 0⟩]
def i_zz0_B4 : FC :=
 .seq (.seq (.ops [
 ⟨some 15, .mv (.tmp 10), none, 0⟩,
 ⟨some 16, .bin .lss (.tmp 15) (.const (.int .i64 5)), none, 0⟩]) <|
 .cond (.tmp 16)
 (.skip)
 (.keep [] <|
 .exit 0)) <|
 .seq (.block 1 <|
 .seq (.block 2 <|
 .loop [0, 1, 2, 3, 9, 10] i_zz0_B1) <|
 .seq (.seq (.ops [
 ⟨some 39, .mv (.tmp 9), none, 0⟩,
 ⟨some 40, .mv (.tmp 2), none, 0⟩,
 ⟨some 41, .bin .eql (.tmp 39) (.tmp 40), none, 0⟩]) <|
 .cond (.tmp 41)
 (.seq (.ops [
 ⟨some 8, .mv (.const (.bool true)), none, 0⟩]) <|
 .keep [8] <|
 .ret)
 (.skip)) <|
 .seq (.seq (.ops [
 ⟨some 42, .mv (.tmp 2), none, 0⟩,
 ⟨some 43, .mv (.tmp 1), none, 0⟩,
 ⟨some 44, .bin .sub (.tmp 42) (.tmp 43), none, 0⟩,
 ⟨some 45, .bin .lss (.tmp 44) (.const (.int .i64 50)), none, 0⟩]) <|
 .cond (.tmp 45)
 (.seq (.ops [
 ⟨some 8, .mv (.const (.bool false)), none, 0⟩]) <|
 .keep [8] <|
 .ret)
 (.skip)) <|
 .seq (.dops [
 ⟨some 46, .mv (.tmp 0), none, 0⟩,
 ⟨some 47, .mv (.tmp 9), none, 0⟩,
 ⟨some 51, .mv (.tmp 0), none, 0⟩,
 ⟨some 52, .mv (.tmp 9), none, 0⟩,
 ⟨some 53, .bin .sub (.tmp 52) (.const (.int .i64 1)), none, 0⟩,
 ⟨some 54, .idx 3 (.tmp 51) (.tmp 53), none, 0⟩,
 ⟨some 55, .load true 3 (.tmp 54), none, 0⟩,
 ⟨some 56, .mv (.tmp 0), none, 0⟩,
 ⟨some 57, .mv (.tmp 9), none, 0⟩,
 ⟨some 58, .idx 3 (.tmp 56) (.tmp 57), none, 0⟩,
 ⟨some 59, .load true 3 (.tmp 58), none, 0⟩,
 ⟨some 60, .idx 3 (.tmp 46) (.tmp 47), none, 0⟩,
 ⟨none, .store 3 (.tmp 60) (.tmp 55), none, 0⟩,
 ⟨some 48, .mv (.tmp 0), none, 1⟩,
 ⟨some 49, .mv (.tmp 9), none, 1⟩,
 ⟨some 50, .bin .sub (.tmp 49) (.const (.int .i64 1)), none, 1⟩,
 ⟨some 61, .idx 3 (.tmp 48) (.tmp 50), none, 0⟩,
 ⟨none, .store 3 (.tmp 61) (.tmp 59), none, 0⟩]) <|
 .seq (.seq (.ops [
 ⟨some 62, .mv (.tmp 9), none, 0⟩,
 ⟨some 63, .mv (.tmp 1), none, 0⟩,
 ⟨some 64, .bin .sub (.tmp 62) (.tmp 63), none, 0⟩,
 ⟨some 65, .bin .geq (.tmp 64) (.const (.int .i64 2)), none, 0⟩]) <|
 .cond (.tmp 65)
 (.seq (.ops [
 ⟨some 66, .mv (.tmp 9), none, 0⟩,
 ⟨some 67, .bin .sub (.tmp 66) (.const (.int .i64 1)), none, 0⟩,
 ⟨some 11, .mv (.tmp 67), none, 0⟩]) <|
 .block 4 <|
 .loop [0, 1, 2, 3, 9, 10, 11] i_zz0_B2)
 (.skip)) <|
 .seq (.ops [
 ⟨some 101, .mv (.tmp 2), none, 0⟩,
 ⟨some 102, .mv (.tmp 9), none, 0⟩,
 ⟨some 103, .bin .sub (.tmp 101) (.tmp 102), none, 0⟩,
 ⟨some 104, .bin .geq (.tmp 103) (.const (.int .i64 2)), none, 0⟩]) <|
 .cond (.tmp 104)
 (.seq (.ops [
 ⟨some 105, .mv (.tmp 9), none, 0⟩,
 ⟨some 106, .bin .add (.tmp 105) (.const (.int .i64 1)), none, 0⟩,
 ⟨some 12, .mv (.tmp 106), none, 0⟩]) <|
 .block 6 <|
 .loop [0, 1, 2, 3, 9, 10, 12] i_zz0_B3)
 (.skip)) <|
 .ops [
 ⟨some 17, .mv (.tmp 10), none, 0⟩,
 ⟨some 18, .bin .add (.tmp 17) (.const (.int .i64 1)), none, 0⟩,
 ⟨some 10, .mv (.tmp 18), none, 0⟩]
def i_zz0 : FF := ⟨141, [.tmp 8],
 .seq (.ops [
 ⟨some 8, .mv (.const (.bool false)), none, 0⟩]) <|
 .seq (.ops [
 ⟨some 13, .mv (.tmp 1), none, 0⟩,
 ⟨some 14, .bin .add (.tmp 13) (.const (.int .i64 1)), none, 0⟩,
 ⟨some 9, .mv (.tmp 14), none, 0⟩]) <|
 .seq (.seq (.ops [
 ⟨some 10, .mv (.const (.int .i64 0)), none, 0⟩]) <|
 .block 0 <|
 .loop [0, 1, 2, 3, 9, 10] i_zz0_B4) <|
 .seq (.ops [
 ⟨some 8, .mv (.const (.bool false)), none, 0⟩]) <|
 .keep [8] <|
 .ret⟩
theorem e_zz0 : EntOK Tryd.prog (compD Tryd.prog) k_zz0 i_zz0.vf :=
 ⟨Tryd.f72, Tryd.f72.body.getD .skip, Tryd.func72, by kernel_rfl, by kernel_rfl, by kernel_rfl, by kernel_rfl, by kernel_rfl⟩
/-- slices.partitionEqualCmpFunc[loop.example/g01331/impl.told] -/
def i_zz3_B1 : FC :=
 .seq (.seq (.dops [
 ⟨some 31, .mv (.tmp 11), none, 0⟩,
 ⟨some 32, .mv (.tmp 12), none, 0⟩,
 ⟨some 33, .bin .leq (.tmp 31) (.tmp 32), none, 0⟩,
 ⟨some 34, .mv (.tmp 33), none, 0⟩,
 ⟨some 35, .mv (.tmp 4), some (34, true), 0⟩,
 ⟨some 36, .mv (.tmp 0), some (34, true), 0⟩,
 ⟨some 37, .mv (.tmp 1), some (34, true), 0⟩,
 ⟨some 38, .idx 3 (.tmp 36) (.tmp 37), some (34, true), 0⟩,
 ⟨some 39, .load true 3 (.tmp 38), some (34, true), 0⟩,
 ⟨some 40, .mv (.tmp 0), some (34, true), 0⟩,
 ⟨some 41, .mv (.tmp 11), some (34, true), 0⟩,
 ⟨some 42, .idx 3 (.tmp 40) (.tmp 41), some (34, true), 0⟩,
 ⟨some 43, .load true 3 (.tmp 42), some (34, true), 0⟩,
 ⟨some 44, .callv (.tmp 35) [(.tmp 39), (.tmp 43)], some (34, true), 0⟩,
 ⟨some 45, .bin .lss (.tmp 44) (.const (.int .i64 0)), some (34, true), 0⟩,
 ⟨some 46, .un .not (.tmp 45), some (34, true), 0⟩,
 ⟨some 47, .pick (.tmp 34) (.tmp 46) (.const (.bool false)), none, 0⟩]) <|
 .cond (.tmp 47)
 (.skip)
 (.keep [0, 1, 4, 11, 12] <|
 .exit 2)) <|
 .block 3 <|
 .ops [
 ⟨some 48, .mv (.tmp 11), none, 0⟩,
 ⟨some 49, .bin .add (.tmp 48) (.const (.int .i64 1)), none, 0⟩,
 ⟨some 11, .mv (.tmp 49), none, 0⟩]
def i_zz3_B2 : FC :=
 .seq (.seq (.dops [
 ⟨some 50, .mv (.tmp 11), none, 0⟩,
 ⟨some 51, .mv (.tmp 12), none, 0⟩,
 ⟨some 52, .bin .leq (.tmp 50) (.tmp 51), none, 0⟩,
 ⟨some 53, .mv (.tmp 52), none, 0⟩,
 ⟨some 54, .mv (.tmp 4), some (53, true), 0⟩,
 ⟨some 55, .mv (.tmp 0), some (53, true), 0⟩,
 ⟨some 56, .mv (.tmp 1), some (53, true), 0⟩,
 ⟨some 57, .idx 3 (.tmp 55) (.tmp 56), some (53, true), 0⟩,
 ⟨some 58, .load true 3 (.tmp 57), some (53, true), 0⟩,
 ⟨some 59, .mv (.tmp 0), some (53, true), 0⟩,
 ⟨some 60, .mv (.tmp 12), some (53, true), 0⟩,
 ⟨some 61, .idx 3 (.tmp 59) (.tmp 60), some (53, true), 0⟩,
 ⟨some 62, .load true 3 (.tmp 61), some (53, true), 0⟩,
 ⟨some 63, .callv (.tmp 54) [(.tmp 58), (.tmp 62)], some (53, true), 0⟩,
 ⟨some 64, .bin .lss (.tmp 63) (.const (.int .i64 0)), some (53, true), 0⟩,
 ⟨some 65, .pick (.tmp 53) (.tmp 64) (.const (.bool false)), none, 0⟩]) <|
 .cond (.tmp 65)
 (.skip)
 (.keep [0, 1, 4, 11, 12] <|
 .exit 4)) <|
 .block 5 <|
 .ops [
 ⟨some 66, .mv (.tmp 12), none, 0⟩,
 ⟨some 67, .bin .sub (.tmp 66) (.const (.int .i64 1)), none, 0⟩,
 ⟨some 12, .mv (.tmp 67), none, 0⟩]
def i_zz3_B3 : FC :=
 .block 1 <|
 .seq (.block 2 <|
 .loop [0, 1, 4, 11, 12] i_zz3_B1) <|
 .seq (.block 4 <|
 .loop [0, 1, 4, 11, 12] i_zz3_B2) <|
 .seq (.seq (.ops [
 ⟨some 68, .mv (.tmp 11), none, 0⟩,
 ⟨some 69, .mv (.tmp 12), none, 0⟩,
 ⟨some 70, .bin .gtr (.tmp 68) (.tmp 69), none, 0⟩]) <|
 .cond (.tmp 70)
 (.keep [11] <|
 .exit 0)
 (.skip)) <|
 .seq (.dops [
 ⟨some 71, .mv (.tmp 0), none, 0⟩,
 ⟨some 72, .mv (.tmp 11), none, 0⟩,
 ⟨some 75, .mv (.tmp 0), none, 0⟩,
 ⟨some 76, .mv (.tmp 12), none, 0⟩,
 ⟨some 77, .idx 3 (.tmp 75) (.tmp 76), none, 0⟩,
 ⟨some 78, .load true 3 (.tmp 77), none, 0⟩,
 ⟨some 79, .mv (.tmp 0), none, 0⟩,
 ⟨some 80, .mv (.tmp 11), none, 0⟩,
 ⟨some 81, .idx 3 (.tmp 79) (.tmp 80), none, 0⟩,
 ⟨some 82, .load true 3 (.tmp 81), none, 0⟩,
 ⟨some 83, .idx 3 (.tmp 71) (.tmp 72), none, 0⟩,
 ⟨none, .store 3 (.tmp 83) (.tmp 78), none, 0⟩,
 ⟨some 73, .mv (.tmp 0), none, 1⟩,
 ⟨some 74, .mv (.tmp 12), none, 1⟩,
 ⟨some 84, .idx 3 (.tmp 73) (.tmp 74), none, 0⟩,
 ⟨none, .store 3 (.tmp 84) (.tmp 82), none, 0⟩]) <|
 .seq (.ops [
 ⟨some 85, .mv (.tmp 11), none, 0⟩,
 ⟨some 86, .bin .add (.tmp 85) (.const (.int .i64 1)), none, 0⟩,
 ⟨some 11, .mv (.tmp 86), none, 0⟩]) <|
 .ops [
 ⟨some 87, .mv (.tmp 12), none, 0⟩,
 ⟨some 88, .bin .sub (.tmp 87) (.const (.int .i64 1)), none, 0⟩,
 ⟨some 12, .mv (.tmp 88), none, 0⟩]
def i_zz3 : FF := ⟨90, [.tmp 10],
 .seq (.ops [
 ⟨some 10, .mv (.const (.int .i64 0)), none, 0⟩]) <|
 .seq (.dops [
 ⟨some 13, .mv (.tmp 0), none, 0⟩,
 ⟨some 14, .mv (.tmp 1), none, 0⟩,
 ⟨some 17, .mv (.tmp 0), none, 0⟩,
 ⟨some 18, .mv (.tmp 3), none, 0⟩,
 ⟨some 19, .idx 3 (.tmp 17) (.tmp 18), none, 0⟩,
 ⟨some 20, .load true 3 (.tmp 19), none, 0⟩,
 ⟨some 21, .mv (.tmp 0), none, 0⟩,
 ⟨some 22, .mv (.tmp 1), none, 0⟩,
 ⟨some 23, .idx 3 (.tmp 21) (.tmp 22), none, 0⟩,
 ⟨some 24, .load true 3 (.tmp 23), none, 0⟩,
 ⟨some 25, .idx 3 (.tmp 13) (.tmp 14), none, 0⟩,
 ⟨none, .store 3 (.tmp 25) (.tmp 20), none, 0⟩,
 ⟨some 15, .mv (.tmp 0), none, 1⟩,
 ⟨some 16, .mv (.tmp 3), none, 1⟩,
 ⟨some 26, .idx 3 (.tmp 15) (.tmp 16), none, 0⟩,
 ⟨none, .store 3 (.tmp 26) (.tmp 24), none, 0⟩]) <|
 .seq (.ops [
 ⟨some 27, .mv (.tmp 1), none, 0⟩,
 ⟨some 28, .bin .add (.tmp 27) (.const (.int .i64 1)), none, 0⟩,
 ⟨some 29, .mv (.tmp 2), none, 0⟩,
 ⟨some 30, .bin .sub (.tmp 29) (.const (.int .i64 1)), none, 0⟩,
 ⟨some 11, .mv (.tmp 28), none, 0⟩,
 ⟨some 12, .mv (.tmp 30), none, 0⟩]) <|
 .seq (.block 0 <|
 .loop [0, 1, 4, 11, 12] i_zz3_B3) <|
 .seq (.ops [
 ⟨some 89, .mv (.tmp 11), none, 0⟩,
 ⟨some 10, .mv (.tmp 89), none, 0⟩]) <|
 .keep [10] <|
 .ret⟩
theorem e_zz3 : EntOK Tryd.prog (compD Tryd.prog) k_zz3 i_zz3.vf :=
 ⟨Tryd.f73, Tryd.f73.body.getD .skip, Tryd.func73, by kernel_rfl, by kernel_rfl, by kernel_rfl, by kernel_rfl, by kernel_rfl⟩
/-- slices.partitionCmpFunc[loop.example/g01331/impl.told] -/
def i_zz13_B1 : FC :=
 .seq (.seq (.dops [
 ⟨some 32, .mv (.tmp 12), none, 0⟩,
 ⟨some 33, .mv (.tmp 13), none, 0⟩,
 ⟨some 34, .bin .leq (.tmp 32) (.tmp 33), none, 0⟩,
 ⟨some 35, .mv (.tmp 34), none, 0⟩,
 ⟨some 36, .mv (.tmp 4), some (35, true), 0⟩,
 ⟨some 37, .mv (.tmp 0), some (35, true), 0⟩,
 ⟨some 38, .mv (.tmp 12), some (35, true), 0⟩,
 ⟨some 39, .idx 3 (.tmp 37) (.tmp 38), some (35, true), 0⟩,
 ⟨some 40, .load true 3 (.tmp 39), some (35, true), 0⟩,
 ⟨some 41, .mv (.tmp 0), some (35, true), 0⟩,
 ⟨some 42, .mv (.tmp 1), some (35, true), 0⟩,
 ⟨some 43, .idx 3 (.tmp 41) (.tmp 42), some (35, true), 0⟩,
 ⟨some 44, .load true 3 (.tmp 43), some (35, true), 0⟩,
 ⟨some 45, .callv (.tmp 36) [(.tmp 40), (.tmp 44)], some (35, true), 0⟩,
 ⟨some 46, .bin .lss (.tmp 45) (.const (.int .i64 0)), some (35, true), 0⟩,
 ⟨some 47, .pick (.tmp 35) (.tmp 46) (.const (.bool false)), none, 0⟩]) <|
 .cond (.tmp 47)
 (.skip)
 (.keep [0, 1, 4, 12, 13] <|
 .exit 0)) <|
 .block 1 <|
 .ops [
 ⟨some 48, .mv (.tmp 12), none, 0⟩,
 ⟨some 49, .bin .add (.tmp 48) (.const (.int .i64 1)), none, 0⟩,
 ⟨some 12, .mv (.tmp 49), none, 0⟩]
def i_zz13_B2 : FC :=
 .seq (.seq (.dops [
 ⟨some 50, .mv (.tmp 12), none, 0⟩,
 ⟨some 51, .mv (.tmp 13), none, 0⟩,
 ⟨some 52, .bin .leq (.tmp 50) (.tmp 51), none, 0⟩,
 ⟨some 53, .mv (.tmp 52), none, 0⟩,
 ⟨some 54, .mv (.tmp 4), some (53, true), 0⟩,
 ⟨some 55, .mv (.tmp 0), some (53, true), 0⟩,
 ⟨some 56, .mv (.tmp 13), some (53, true), 0⟩,
 ⟨some 57, .idx 3 (.tmp 55) (.tmp 56), some (53, true), 0⟩,
 ⟨some 58, .load true 3 (.tmp 57), some (53, true), 0⟩,
 ⟨some 59, .mv (.tmp 0), some (53, true), 0⟩,
 ⟨some 60, .mv (.tmp 1), some (53, true), 0⟩,
 ⟨some 61, .idx 3 (.tmp 59) (.tmp 60), some (53, true), 0⟩,
 ⟨some 62, .load true 3 (.tmp 61), some (53, true), 0⟩,
 ⟨some 63, .callv (.tmp 54) [(.tmp 58), (.tmp 62)], some (53, true), 0⟩,
 ⟨some 64, .bin .lss (.tmp 63) (.const (.int .i64 0)), some (53, true), 0⟩,
 ⟨some 65, .un .not (.tmp 64), some (53, true), 0⟩,
 ⟨some 66, .pick (.tmp 53) (.tmp 65) (.const (.bool false)), none, 0⟩]) <|
 .cond (.tmp 66)
 (.skip)
 (.keep [0, 1, 4, 12, 13] <|
 .exit 2)) <|
 .block 3 <|
 .ops [
 ⟨some 67, .mv (.tmp 13), none, 0⟩,
 ⟨some 68, .bin .sub (.tmp 67) (.const (.int .i64 1)), none, 0⟩,
 ⟨some 13, .mv (.tmp 68), none, 0⟩]
def i_zz13_B3 : FC :=
 .seq (.seq (.dops [
 ⟨some 105, .mv (.tmp 12), none, 0⟩,
 ⟨some 106, .mv (.tmp 13), none, 0⟩,
 ⟨some 107, .bin .leq (.tmp 105) (.tmp 106), none, 0⟩,
 ⟨some 108, .mv (.tmp 107), none, 0⟩,
 ⟨some 109, .mv (.tmp 4), some (108, true), 0⟩,
 ⟨some 110, .mv (.tmp 0), some (108, true), 0⟩,
 ⟨some 111, .mv (.tmp 12), some (108, true), 0⟩,
 ⟨some 112, .idx 3 (.tmp 110) (.tmp 111), some (108, true), 0⟩,
 ⟨some 113, .load true 3 (.tmp 112), some (108, true), 0⟩,
 ⟨some 114, .mv (.tmp 0), some (108, true), 0⟩,
 ⟨some 115, .mv (.tmp 1), some (108, true), 0⟩,
 ⟨some 116, .idx 3 (.tmp 114) (.tmp 115), some (108, true), 0⟩,
 ⟨some 117, .load true 3 (.tmp 116), some (108, true), 0⟩,
 ⟨some 118, .callv (.tmp 109) [(.tmp 113), (.tmp 117)], some (108, true), 0⟩,
 ⟨some 119, .bin .lss (.tmp 118) (.const (.int .i64 0)), some (108, true), 0⟩,
 ⟨some 120, .pick (.tmp 108) (.tmp 119) (.const (.bool false)), none, 0⟩]) <|
 .cond (.tmp 120)
 (.skip)
 (.keep [0, 1, 4, 12, 13] <|
 .exit 6)) <|
 .block 7 <|
 .ops [
 ⟨some 121, .mv (.tmp 12), none, 0⟩,
 ⟨some 122, .bin .add (.tmp 121) (.const (.int .i64 1)), none, 0⟩,
 ⟨some 12, .mv (.tmp 122), none, 0⟩]
def i_zz13_B4 : FC :=
 .seq (.seq (.dops [
 ⟨some 123, .mv (.tmp 12), none, 0⟩,
 ⟨some 124, .mv (.tmp 13), none, 0⟩,
 ⟨some 125, .bin .leq (.tmp 123) (.tmp 124), none, 0⟩,
 ⟨some 126, .mv (.tmp 125), none, 0⟩,
 ⟨some 127, .mv (.tmp 4), some (126, true), 0⟩,
 ⟨some 128, .mv (.tmp 0), some (126, true), 0⟩,
 ⟨some 129, .mv (.tmp 13), some (126, true), 0⟩,
 ⟨some 130, .idx 3 (.tmp 128) (.tmp 129), some (126, true), 0⟩,
 ⟨some 131, .load true 3 (.tmp 130), some (126, true), 0⟩,
 ⟨some 132, .mv (.tmp 0), some (126, true), 0⟩,
 ⟨some 133, .mv (.tmp 1), some (126, true), 0⟩,
 ⟨some 134, .idx 3 (.tmp 132) (.tmp 133), some (126, true), 0⟩,
 ⟨some 135, .load true 3 (.tmp 134), some (126, true), 0⟩,
 ⟨some 136, .callv (.tmp 127) [(.tmp 131), (.tmp 135)], some (126, true), 0⟩,
 ⟨some 137, .bin .lss (.tmp 136) (.const (.int .i64 0)), some (126, true), 0⟩,
 ⟨some 138, .un .not (.tmp 137), some (126, true), 0⟩,
 ⟨some 139, .pick (.tmp 126) (.tmp 138) (.const (.bool false)), none, 0⟩]) <|
 .cond (.tmp 139)
 (.skip)
 (.keep [0, 1, 4, 12, 13] <|
 .exit 8)) <|
 .block 9 <|
 .ops [
 ⟨some 140, .mv (.tmp 13), none, 0⟩,
 ⟨some 141, .bin .sub (.tmp 140) (.const (.int .i64 1)), none, 0⟩,
 ⟨some 13, .mv (.tmp 141), none, 0⟩]
def i_zz13_B5 : FC :=
 .block 5 <|
 .seq (.block 6 <|
 .loop [0, 1, 4, 12, 13] i_zz13_B3) <|
 .seq (.block 8 <|
 .loop [0, 1, 4, 12, 13] i_zz13_B4) <|
 .seq (.seq (.ops [
 ⟨some 142, .mv (.tmp 12), none, 0⟩,
 ⟨some 143, .mv (.tmp 13), none, 0⟩,
 ⟨some 144, .bin .gtr (.tmp 142) (.tmp 143), none, 0⟩]) <|
 .cond (.tmp 144)
 (.keep [0, 1, 13] <|
 .exit 4)
 (.skip)) <|
 .seq (.dops [
 ⟨some 145, .mv (.tmp 0), none, 0⟩,
 ⟨some 146, .mv (.tmp 12), none, 0⟩,
 ⟨some 149, .mv (.tmp 0), none, 0⟩,
 ⟨some 150, .mv (.tmp 13), none, 0⟩,
 ⟨some 151, .idx 3 (.tmp 149) (.tmp 150), none, 0⟩,
 ⟨some 152, .load true 3 (.tmp 151), none, 0⟩,
 ⟨some 153, .mv (.tmp 0), none, 0⟩,
 ⟨some 154, .mv (.tmp 12), none, 0⟩,
 ⟨some 155, .idx 3 (.tmp 153) (.tmp 154), none, 0⟩,
 ⟨some 156, .load true 3 (.tmp 155), none, 0⟩,
 ⟨some 157, .idx 3 (.tmp 145) (.tmp 146), none, 0⟩,
 ⟨none, .store 3 (.tmp 157) (.tmp 152), none, 0⟩,
 ⟨some 147, .mv (.tmp 0), none, 1⟩,
 ⟨some 148, .mv (.tmp 13), none, 1⟩,
 ⟨some 158, .idx 3 (.tmp 147) (.tmp 148), none, 0⟩,
 ⟨none, .store 3 (.tmp 158) (.tmp 156), none, 0⟩]) <|
 .seq (.ops [
 ⟨some 159, .mv (.tmp 12), none, 0⟩,
 ⟨some 160, .bin .add (.tmp 159) (.const (.int .i64 1)), none, 0⟩,
 ⟨some 12, .mv (.tmp 160), none, 0⟩]) <|
 .ops [
 ⟨some 161, .mv (.tmp 13), none, 0⟩,
 ⟨some 162, .bin .sub (.tmp 161) (.const (.int .i64 1)), none, 0⟩,
 ⟨some 13, .mv (.tmp 162), none, 0⟩]
def i_zz13 : FF := ⟨178, [.tmp 10, .tmp 11],
 .seq (.ops [
 ⟨some 10, .mv (.const (.int .i64 0)), none, 0⟩,
 ⟨some 11, .mv (.const (.bool false)), none, 0⟩]) <|
 .seq (.dops [
 ⟨some 14, .mv (.tmp 0), none, 0⟩,
 ⟨some 15, .mv (.tmp 1), none, 0⟩,
 ⟨some 18, .mv (.tmp 0), none, 0⟩,
 ⟨some 19, .mv (.tmp 3), none, 0⟩,
 ⟨some 20, .idx 3 (.tmp 18) (.tmp 19), none, 0⟩,
 ⟨some 21, .load true 3 (.tmp 20), none, 0⟩,
 ⟨some 22, .mv (.tmp 0), none, 0⟩,
 ⟨some 23, .mv (.tmp 1), none, 0⟩,
 ⟨some 24, .idx 3 (.tmp 22) (.tmp 23), none, 0⟩,
 ⟨some 25, .load true 3 (.tmp 24), none, 0⟩,
 ⟨some 26, .idx 3 (.tmp 14) (.tmp 15), none, 0⟩,
 ⟨none, .store 3 (.tmp 26) (.tmp 21), none, 0⟩,
 ⟨some 16, .mv (.tmp 0), none, 1⟩,
 ⟨some 17, .mv (.tmp 3), none, 1⟩,
 ⟨some 27, .idx 3 (.tmp 16) (.tmp 17), none, 0⟩,
 ⟨none, .store 3 (.tmp 27) (.tmp 25), none, 0⟩]) <|
 .seq (.ops [
 ⟨some 28, .mv (.tmp 1), none, 0⟩,
 ⟨some 29, .bin .add (.tmp 28) (.const (.int .i64 1)), none, 0⟩,
 ⟨some 30, .mv (.tmp 2), none, 0⟩,
 ⟨some 31, .bin .sub (.tmp 30) (.const (.int .i64 1)), none, 0⟩,
 ⟨some 12, .mv (.tmp 29), none, 0⟩,
 ⟨some 13, .mv (.tmp 31), none, 0⟩]) <|
 .seq (.block 0 <|
 .loop [0, 1, 4, 12, 13] i_zz13_B1) <|
 .seq (.block 2 <|
 .loop [0, 1, 4, 12, 13] i_zz13_B2) <|
 .seq (.seq (.ops [
 ⟨some 69, .mv (.tmp 12), none, 0⟩,
 ⟨some 70, .mv (.tmp 13), none, 0⟩,
 ⟨some 71, .bin .gtr (.tmp 69) (.tmp 70), none, 0⟩]) <|
 .cond (.tmp 71)
 (.seq (.dops [
 ⟨some 72, .mv (.tmp 0), none, 0⟩,
 ⟨some 73, .mv (.tmp 13), none, 0⟩,
 ⟨some 76, .mv (.tmp 0), none, 0⟩,
 ⟨some 77, .mv (.tmp 1), none, 0⟩,
 ⟨some 78, .idx 3 (.tmp 76) (.tmp 77), none, 0⟩,
 ⟨some 79, .load true 3 (.tmp 78), none, 0⟩,
 ⟨some 80, .mv (.tmp 0), none, 0⟩,
 ⟨some 81, .mv (.tmp 13), none, 0⟩,
 ⟨some 82, .idx 3 (.tmp 80) (.tmp 81), none, 0⟩,
 ⟨some 83, .load true 3 (.tmp 82), none, 0⟩,
 ⟨some 84, .idx 3 (.tmp 72) (.tmp 73), none, 0⟩,
 ⟨none, .store 3 (.tmp 84) (.tmp 79), none, 0⟩,
 ⟨some 74, .mv (.tmp 0), none, 1⟩,
 ⟨some 75, .mv (.tmp 1), none, 1⟩,
 ⟨some 85, .idx 3 (.tmp 74) (.tmp 75), none, 0⟩,
 ⟨none, .store 3 (.tmp 85) (.tmp 83), none, 0⟩]) <|
 .seq (.ops [
 ⟨some 86, .mv (.tmp 13), none, 0⟩,
 ⟨some 10, .mv (.tmp 86), none, 0⟩,
 ⟨some 11, .mv (.const (.bool true)), none, 0⟩]) <|
 .keep [10, 11] <|
 .ret)
 (.skip)) <|
 .seq (.dops [
 ⟨some 87, .mv (.tmp 0), none, 0⟩,
 ⟨some 88, .mv (.tmp 12), none, 0⟩,
 ⟨some 91, .mv (.tmp 0), none, 0⟩,
 ⟨some 92, .mv (.tmp 13), none, 0⟩,
 ⟨some 93, .idx 3 (.tmp 91) (.tmp 92), none, 0⟩,
 ⟨some 94, .load true 3 (.tmp 93), none, 0⟩,
 ⟨some 95, .mv (.tmp 0), none, 0⟩,
 ⟨some 96, .mv (.tmp 12), none, 0⟩,
 ⟨some 97, .idx 3 (.tmp 95) (.tmp 96), none, 0⟩,
 ⟨some 98, .load true 3 (.tmp 97), none, 0⟩,
 ⟨some 99, .idx 3 (.tmp 87) (.tmp 88), none, 0⟩,
 ⟨none, .store 3 (.tmp 99) (.tmp 94), none, 0⟩,
 ⟨some 89, .mv (.tmp 0), none, 1⟩,
 ⟨some 90, .mv (.tmp 13), none, 1⟩,
 ⟨some 100, .idx 3 (.tmp 89) (.tmp 90), none, 0⟩,
 ⟨none, .store 3 (.tmp 100) (.tmp 98), none, 0⟩]) <|
 .seq (.ops [
 ⟨some 101, .mv (.tmp 12), none, 0⟩,
 ⟨some 102, .bin .add (.tmp 101) (.const (.int .i64 1)), none, 0⟩,
 ⟨some 12, .mv (.tmp 102), none, 0⟩]) <|
 .seq (.ops [
 ⟨some 103, .mv (.tmp 13), none, 0⟩,
 ⟨some 104, .bin .sub (.tmp 103) (.const (.int .i64 1)), none, 0⟩,
 ⟨some 13, .mv (.tmp 104), none, 0⟩]) <|
 .seq (.block 4 <|
 .loop [0, 1, 4, 12, 13] i_zz13_B5) <|
 .seq (.dops [
 ⟨some 163, .mv (.tmp 0), none, 0⟩,
 ⟨some 164, .mv (.tmp 13), none, 0⟩,
 ⟨some 167, .mv (.tmp 0), none, 0⟩,
 ⟨some 168, .mv (.tmp 1), none, 0⟩,
 ⟨some 169, .idx 3 (.tmp 167) (.tmp 168), none, 0⟩,
 ⟨some 170, .load true 3 (.tmp 169), none, 0⟩,
 ⟨some 171, .mv (.tmp 0), none, 0⟩,
 ⟨some 172, .mv (.tmp 13), none, 0⟩,
 ⟨some 173, .idx 3 (.tmp 171) (.tmp 172), none, 0⟩,
 ⟨some 174, .load true 3 (.tmp 173), none, 0⟩,
 ⟨some 175, .idx 3 (.tmp 163) (.tmp 164), none, 0⟩,
 ⟨none, .store 3 (.tmp 175) (.tmp 170), none, 0⟩,
 ⟨some 165, .mv (.tmp 0), none, 1⟩,
 ⟨some 166, .mv (.tmp 1), none, 1⟩,
 ⟨some 176, .idx 3 (.tmp 165) (.tmp 166), none, 0⟩,
 ⟨none, .store 3 (.tmp 176) (.tmp 174), none, 0⟩]) <|
 .seq (.ops [
 ⟨some 177, .mv (.tmp 13), none, 0⟩,
 ⟨some 10, .mv (.tmp 177), none, 0⟩,
 ⟨some 11, .mv (.const (.bool false)), none, 0⟩]) <|
 .keep [10, 11] <|
 .ret⟩
theorem e_zz13 : EntOK Tryd.prog (compD Tryd.prog) k_zz13 i_zz13.vf :=
 ⟨Tryd.f74, Tryd.f74.body.getD .skip, Tryd.func74, by kernel_rfl, by kernel_rfl, by kernel_rfl, by kernel_rfl, by kernel_rfl⟩
/-- slices.order2Ordered[int64] -/
def i_zz29 : FF := ⟨28, [.tmp 8, .tmp 9],
 .seq (.ops [
 ⟨some 8, .mv (.const (.int .i64 0)), none, 0⟩,
 ⟨some 9, .mv (.const (.int .i64 0)), none, 0⟩]) <|
 .seq (.seq (.dops [
 ⟨some 10, .mv (.tmp 0), none, 0⟩,
 ⟨some 11, .mv (.tmp 2), none, 0⟩,
 ⟨some 12, .idx 1 (.tmp 10) (.tmp 11), none, 0⟩,
 ⟨some 13, .load false 1 (.tmp 12), none, 0⟩,
 ⟨some 14, .mv (.tmp 0), none, 0⟩,
 ⟨some 15, .mv (.tmp 1), none, 0⟩,
 ⟨some 16, .idx 1 (.tmp 14) (.tmp 15), none, 0⟩,
 ⟨some 17, .load false 1 (.tmp 16), none, 0⟩,
 ⟨some 18, .call k_zz53 [(.tmp 13), (.tmp 17)], none, 0⟩]) <|
 .cond (.tmp 18)
 (.seq (.ops [
 ⟨some 19, .mv (.tmp 3), none, 0⟩,
 ⟨some 20, .nilchk (.tmp 19), none, 0⟩,
 ⟨some 21, .load false 1 (.tmp 20), none, 0⟩,
 ⟨some 22, .bin .add (.tmp 21) (.const (.int .i64 1)), none, 0⟩,
 ⟨some 23, .nilchk (.tmp 19), none, 0⟩,
 ⟨none, .store 1 (.tmp 23) (.tmp 22), none, 0⟩]) <|
 .seq (.ops [
 ⟨some 24, .mv (.tmp 2), none, 0⟩,
 ⟨some 25, .mv (.tmp 1), none, 0⟩,
 ⟨some 8, .mv (.tmp 24), none, 0⟩,
 ⟨some 9, .mv (.tmp 25), none, 0⟩]) <|
 .keep [8, 9] <|
 .ret)
 (.skip)) <|
 .seq (.ops [
 ⟨some 26, .mv (.tmp 1), none, 0⟩,
 ⟨some 27, .mv (.tmp 2), none, 0⟩,
 ⟨some 8, .mv (.tmp 26), none, 0⟩,
 ⟨some 9, .mv (.tmp 27), none, 0⟩]) <|
 .keep [8, 9] <|
 .ret⟩
theorem e_zz29 : EntOK Tryd.prog (compD Tryd.prog) k_zz29 i_zz29.vf :=
 ⟨Tryd.f75, Tryd.f75.body.getD .skip, Tryd.func75, by kernel_rfl, by kernel_rfl, by kernel_rfl, by kernel_rfl, by kernel_rfl⟩
/-- slices.siftDownCmpFunc[loop.example/g01331/impl.told] -/
def i_zz16_B1 : FC :=
 .block 1 <|
 .seq (.ops [
 ⟨some 13, .mv (.tmp 10), none, 0⟩,
 ⟨some 14, .bin .mul (.const (.int .i64 2)) (.tmp 13), none, 0⟩,
 ⟨some 15, .bin .add (.tmp 14) (.const (.int .i64 1)), none, 0⟩,
 ⟨some 11, .mv (.tmp 15), none, 0⟩]) <|
 .seq (.seq (.ops [
 ⟨some 16, .mv (.tmp 11), none, 0⟩,
 ⟨some 17, .mv (.tmp 2), none, 0⟩,
 ⟨some 18, .bin .geq (.tmp 16) (.tmp 17), none, 0⟩]) <|
 .cond (.tmp 18)
 (.keep [] <|
 .exit 0)
 (.skip)) <|
 .seq (.seq (.dops [
 ⟨some 19, .mv (.tmp 11), none, 0⟩,
 ⟨some 20, .bin .add (.tmp 19) (.const (.int .i64 1)), none, 0⟩,
 ⟨some 21, .mv (.tmp 2), none, 0⟩,
 ⟨some 22, .bin .lss (.tmp 20) (.tmp 21), none, 0⟩,
 ⟨some 23, .mv (.tmp 22), none, 0⟩,
 ⟨some 24, .mv (.tmp 4), some (23, true), 0⟩,
 ⟨some 25, .mv (.tmp 0), some (23, true), 0⟩,
 ⟨some 26, .mv (.tmp 3), some (23, true), 0⟩,
 ⟨some 27, .mv (.tmp 11), some (23, true), 0⟩,
 ⟨some 28, .bin .add (.tmp 26) (.tmp 27), some (23, true), 0⟩,
 ⟨some 29, .idx 3 (.tmp 25) (.tmp 28), some (23, true), 0⟩,
 ⟨some 30, .load true 3 (.tmp 29), some (23, true), 0⟩,
 ⟨some 31, .mv (.tmp 0), some (23, true), 0⟩,
 ⟨some 32, .mv (.tmp 3), some (23, true), 0⟩,
 ⟨some 33, .mv (.tmp 11), some (23, true), 0⟩,
 ⟨some 34, .bin .add (.tmp 32) (.tmp 33), some (23, true), 0⟩,
 ⟨some 35, .bin .add (.tmp 34) (.const (.int .i64 1)), some (23, true), 0⟩,
 ⟨some 36, .idx 3 (.tmp 31) (.tmp 35), some (23, true), 0⟩,
 ⟨some 37, .load true 3 (.tmp 36), some (23, true), 0⟩,
 ⟨some 38, .callv (.tmp 24) [(.tmp 30), (.tmp 37)], some (23, true), 0⟩,
 ⟨some 39, .bin .lss (.tmp 38) (.const (.int .i64 0)), some (23, true), 0⟩,
 ⟨some 40, .pick (.tmp 23) (.tmp 39) (.const (.bool false)), none, 0⟩]) <|
 .cond (.tmp 40)
 (.ops [
 ⟨some 41, .mv (.tmp 11), none, 0⟩,
 ⟨some 42, .bin .add (.tmp 41) (.const (.int .i64 1)), none, 0⟩,
 ⟨some 11, .mv (.tmp 42), none, 0⟩])
 (.skip)) <|
 .seq (.seq (.dops [
 ⟨some 43, .mv (.tmp 4), none, 0⟩,
 ⟨some 44, .mv (.tmp 0), none, 0⟩,
 ⟨some 45, .mv (.tmp 3), none, 0⟩,
 ⟨some 46, .mv (.tmp 10), none, 0⟩,
 ⟨some 47, .bin .add (.tmp 45) (.tmp 46), none, 0⟩,
 ⟨some 48, .idx 3 (.tmp 44) (.tmp 47), none, 0⟩,
 ⟨some 49, .load true 3 (.tmp 48), none, 0⟩,
 ⟨some 50, .mv (.tmp 0), none, 0⟩,
 ⟨some 51, .mv (.tmp 3), none, 0⟩,
 ⟨some 52, .mv (.tmp 11), none, 0⟩,
 ⟨some 53, .bin .add (.tmp 51) (.tmp 52), none, 0⟩,
 ⟨some 54, .idx 3 (.tmp 50) (.tmp 53), none, 0⟩,
 ⟨some 55, .load true 3 (.tmp 54), none, 0⟩,
 ⟨some 56, .callv (.tmp 43) [(.tmp 49), (.tmp 55)], none, 0⟩,
 ⟨some 57, .bin .lss (.tmp 56) (.const (.int .i64 0)), none, 0⟩,
 ⟨some 58, .un .not (.tmp 57), none, 0⟩]) <|
 .cond (.tmp 58)
 (.keep [] <|
 .ret)
 (.skip)) <|
 .seq (.dops [
 ⟨some 59, .mv (.tmp 0), none, 0⟩,
 ⟨some 60, .mv (.tmp 3), none, 0⟩,
 ⟨some 61, .mv (.tmp 10), none, 0⟩,
 ⟨some 62, .bin .add (.tmp 60) (.tmp 61), none, 0⟩,
 ⟨some 67, .mv (.tmp 0), none, 0⟩,
 ⟨some 68, .mv (.tmp 3), none, 0⟩,
 ⟨some 69, .mv (.tmp 11), none, 0⟩,
 ⟨some 70, .bin .add (.tmp 68) (.tmp 69), none, 0⟩,
 ⟨some 71, .idx 3 (.tmp 67) (.tmp 70), none, 0⟩,
 ⟨some 72, .load true 3 (.tmp 71), none, 0⟩,
 ⟨some 73, .mv (.tmp 0), none, 0⟩,
 ⟨some 74, .mv (.tmp 3), none, 0⟩,
 ⟨some 75, .mv (.tmp 10), none, 0⟩,
 ⟨some 76, .bin .add (.tmp 74) (.tmp 75), none, 0⟩,
 ⟨some 77, .idx 3 (.tmp 73) (.tmp 76), none, 0⟩,
 ⟨some 78, .load true 3 (.tmp 77), none, 0⟩,
 ⟨some 79, .idx 3 (.tmp 59) (.tmp 62), none, 0⟩,
 ⟨none, .store 3 (.tmp 79) (.tmp 72), none, 0⟩,
 ⟨some 63, .mv (.tmp 0), none, 1⟩,
 ⟨some 64, .mv (.tmp 3), none, 1⟩,
 ⟨some 65, .mv (.tmp 11), none, 1⟩,
 ⟨some 66, .bin .add (.tmp 64) (.tmp 65), none, 1⟩,
 ⟨some 80, .idx 3 (.tmp 63) (.tmp 66), none, 0⟩,
 ⟨none, .store 3 (.tmp 80) (.tmp 78), none, 0⟩]) <|
 .ops [
 ⟨some 81, .mv (.tmp 11), none, 0⟩,
 ⟨some 10, .mv (.tmp 81), none, 0⟩]
def i_zz16 : FF := ⟨82, [],
 .seq (.ops [
 ⟨some 12, .mv (.tmp 1), none, 0⟩,
 ⟨some 10, .mv (.tmp 12), none, 0⟩]) <|
 .block 0 <|
 .loop [0, 2, 3, 4, 10] i_zz16_B1⟩
theorem e_zz16 : EntOK Tryd.prog (compD Tryd.prog) k_zz16 i_zz16.vf :=
 ⟨Tryd.f76, Tryd.f76.body.getD .skip, Tryd.func76, by kernel_rfl, by kernel_rfl, by kernel_rfl, by kernel_rfl, by kernel_rfl⟩
/-- slices.medianAdjacentCmpFunc[loop.example/g01331/impl.told] -/
def i_zz2 : FF := ⟨18, [.tmp 8],
 .seq (.ops [
 ⟨some 8, .mv (.const (.int .i64 0)), none, 0⟩]) <|
 .seq (.ops [
 ⟨some 9, .mv (.tmp 0), none, 0⟩,
 ⟨some 10, .mv (.tmp 1), none, 0⟩,
 ⟨some 11, .bin .sub (.tmp 10) (.const (.int .i64 1)), none, 0⟩,
 ⟨some 12, .mv (.tmp 1), none, 0⟩,
 ⟨some 13, .mv (.tmp 1), none, 0⟩,
 ⟨some 14, .bin .add (.tmp 13) (.const (.int .i64 1)), none, 0⟩,
 ⟨some 15, .mv (.tmp 2), none, 0⟩,
 ⟨some 16, .mv (.tmp 3), none, 0⟩,
 ⟨some 17, .call k_zz19 [(.tmp 9), (.tmp 11), (.tmp 12), (.tmp 14), (.tmp 15), (.tmp 16)], none, 0⟩,
 ⟨some 8, .mv (.tmp 17), none, 0⟩]) <|
 .keep [8] <|
 .ret⟩
theorem e_zz2 : EntOK Tryd.prog (compD Tryd.prog) k_zz2 i_zz2.vf :=
 ⟨Tryd.f77, Tryd.f77.body.getD .skip, Tryd.func77, by kernel_rfl, by kernel_rfl, by kernel_rfl, by kernel_rfl, by kernel_rfl⟩
/-- slices.medianCmpFunc[loop.example/g01331/impl.told] -/
def i_zz19 : FF := ⟨41, [.tmp 12],
 .seq (.ops [
 ⟨some 12, .mv (.const (.int .i64 0)), none, 0⟩]) <|
 .seq (.ops [
 ⟨some 14, .mv (.tmp 0), none, 0⟩,
 ⟨some 15, .mv (.tmp 1), none, 0⟩,
 ⟨some 16, .mv (.tmp 2), none, 0⟩,
 ⟨some 17, .mv (.tmp 4), none, 0⟩,
 ⟨some 18, .mv (.tmp 5), none, 0⟩,
 ⟨some 19, .call k_zz20 [(.tmp 14), (.tmp 15), (.tmp 16), (.tmp 17), (.tmp 18)], none, 0⟩,
 ⟨some 13, .mv (.tmp 19), none, 0⟩,
 ⟨some 20, .ext (.tmp 13) 0, none, 0⟩,
 ⟨some 21, .ext (.tmp 13) 1, none, 0⟩,
 ⟨some 1, .mv (.tmp 20), none, 0⟩,
 ⟨some 2, .mv (.tmp 21), none, 0⟩]) <|
 .seq (.ops [
 ⟨some 23, .mv (.tmp 0), none, 0⟩,
 ⟨some 24, .mv (.tmp 2), none, 0⟩,
 ⟨some 25, .mv (.tmp 3), none, 0⟩,
 ⟨some 26, .mv (.tmp 4), none, 0⟩,
 ⟨some 27, .mv (.tmp 5), none, 0⟩,
 ⟨some 28, .call k_zz20 [(.tmp 23), (.tmp 24), (.tmp 25), (.tmp 26), (.tmp 27)], none, 0⟩,
 ⟨some 22, .mv (.tmp 28), none, 0⟩,
 ⟨some 29, .ext (.tmp 22) 0, none, 0⟩,
 ⟨some 30, .ext (.tmp 22) 1, none, 0⟩,
 ⟨some 2, .mv (.tmp 29), none, 0⟩,
 ⟨some 3, .mv (.tmp 30), none, 0⟩]) <|
 .seq (.ops [
 ⟨some 32, .mv (.tmp 0), none, 0⟩,
 ⟨some 33, .mv (.tmp 1), none, 0⟩,
 ⟨some 34, .mv (.tmp 2), none, 0⟩,
 ⟨some 35, .mv (.tmp 4), none, 0⟩,
 ⟨some 36, .mv (.tmp 5), none, 0⟩,
 ⟨some 37, .call k_zz20 [(.tmp 32), (.tmp 33), (.tmp 34), (.tmp 35), (.tmp 36)], none, 0⟩,
 ⟨some 31, .mv (.tmp 37), none, 0⟩,
 ⟨some 38, .ext (.tmp 31) 0, none, 0⟩,
 ⟨some 39, .ext (.tmp 31) 1, none, 0⟩,
 ⟨some 1, .mv (.tmp 38), none, 0⟩,
 ⟨some 2, .mv (.tmp 39), none, 0⟩]) <|
 .seq (.ops [
 ⟨some 40, .mv (.tmp 2), none, 0⟩,
 ⟨some 12, .mv (.tmp 40), none, 0⟩]) <|
 .keep [12] <|
 .ret⟩
theorem e_zz19 : EntOK Tryd.prog (compD Tryd.prog) k_zz19 i_zz19.vf :=
 ⟨Tryd.f78, Tryd.f78.body.getD .skip, Tryd.func78, by kernel_rfl, by kernel_rfl, by kernel_rfl, by kernel_rfl, by kernel_rfl⟩
/-- slices.order2CmpFunc[loop.example/g01331/impl.told] -/
def i_zz20 : FF := ⟨32, [.tmp 10, .tmp 11],
 .seq (.ops [
 ⟨some 10, .mv (.const (.int .i64 0)), none, 0⟩,
 ⟨some 11, .mv (.const (.int .i64 0)), none, 0⟩]) <|
 .seq (.seq (.dops [
 ⟨some 12, .mv (.tmp 4), none, 0⟩,
 ⟨some 13, .mv (.tmp 0), none, 0⟩,
 ⟨some 14, .mv (.tmp 2), none, 0⟩,
 ⟨some 15, .idx 3 (.tmp 13) (.tmp 14), none, 0⟩,
 ⟨some 16, .load true 3 (.tmp 15), none, 0⟩,
 ⟨some 17, .mv (.tmp 0), none, 0⟩,
 ⟨some 18, .mv (.tmp 1), none, 0⟩,
 ⟨some 19, .idx 3 (.tmp 17) (.tmp 18), none, 0⟩,
 ⟨some 20, .load true 3 (.tmp 19), none, 0⟩,
 ⟨some 21, .callv (.tmp 12) [(.tmp 16), (.tmp 20)], none, 0⟩,
 ⟨some 22, .bin .lss (.tmp 21) (.const (.int .i64 0)), none, 0⟩]) <|
 .cond (.tmp 22)
 (.seq (.ops [
 ⟨some 23, .mv (.tmp 3), none, 0⟩,
 ⟨some 24, .nilchk (.tmp 23), none, 0⟩,
 ⟨some 25, .load false 1 (.tmp 24), none, 0⟩,
 ⟨some 26, .bin .add (.tmp 25) (.const (.int .i64 1)), none, 0⟩,
 ⟨some 27, .nilchk (.tmp 23), none, 0⟩,
 ⟨none, .store 1 (.tmp 27) (.tmp 26), none, 0⟩]) <|
 .seq (.ops [
 ⟨some 28, .mv (.tmp 2), none, 0⟩,
 ⟨some 29, .mv (.tmp 1), none, 0⟩,
 ⟨some 10, .mv (.tmp 28), none, 0⟩,
 ⟨some 11, .mv (.tmp 29), none, 0⟩]) <|
 .keep [10, 11] <|
 .ret)
 (.skip)) <|
 .seq (.ops [
 ⟨some 30, .mv (.tmp 1), none, 0⟩,
 ⟨some 31, .mv (.tmp 2), none, 0⟩,
 ⟨some 10, .mv (.tmp 30), none, 0⟩,
 ⟨some 11, .mv (.tmp 31), none, 0⟩]) <|
 .keep [10, 11] <|
 .ret⟩
theorem e_zz20 : EntOK Tryd.prog (compD Tryd.prog) k_zz20 i_zz20.vf :=
 ⟨Tryd.f79, Tryd.f79.body.getD .skip, Tryd.func79, by kernel_rfl, by kernel_rfl, by kernel_rfl, by kernel_rfl, by kernel_rfl⟩
def tab : List (Nat × FF) := [(k_zz30, i_zz30), (k_zz65, i_zz65), (k_zz48, i_zz48), (k_zz66, i_zz66), (k_zz46, i_zz46), (k_zz64, i_zz64), (k_zz58, i_zz58), (k_zz72, i_zz72), (k_zz61, i_zz61), (k_zz59, i_zz59), (k_zz55, i_zz55), (k_zz63, i_zz63), (k_zz57, i_zz57), (k_zz71, i_zz71), (k_zz69, i_zz69), (k_zz67, i_zz67), (k_zz70, i_zz70), (k_zz62, i_zz62), (k_zz39, i_zz39), (k_zz40, i_zz40), (k_zz68, i_zz68), (k_zz31, i_zz31), (k_zz36, i_zz36), (k_zz26, i_zz26), (k_zz34, i_zz34), (k_zz43, i_zz43), (k_zz45, i_zz45), (k_zz47, i_zz47), (k_zz73, i_zz73), (k_zz54, i_zz54), (k_zz22, i_zz22), (k_zz35, i_zz35), (k_zz56, i_zz56), (k_zz32, i_zz32), (k_zz25, i_zz25), (k_zz60, i_zz60), (k_zz74, i_zz74), (k_zz7, i_zz7), (k_zz37, i_zz37), (k_zz27, i_zz27), (k_zz33, i_zz33), (k_zz38, i_zz38), (k_zz12, i_zz12), (k_zz23, i_zz23), (k_zz11, i_zz11), (k_zz17, i_zz17), (k_zz15, i_zz15), (k_zz1, i_zz1), (k_zz53, i_zz53), (k_zz10, i_zz10), (k_zz21, i_zz21), (k_zz51, i_zz51), (k_zz52, i_zz52), (k_zz41, i_zz41), (k_zz18, i_zz18), (k_zz49, i_zz49), (k_zz24, i_zz24), (k_zz42, i_zz42), (k_zz44, i_zz44), (k_zz9, i_zz9), (k_zz28, i_zz28), (k_zz50, i_zz50), (k_zz5, i_zz5), (k_zz14, i_zz14), (k_zz4, i_zz4), (k_zz8, i_zz8), (k_zz6, i_zz6), (k_zz0, i_zz0), (k_zz3, i_zz3), (k_zz13, i_zz13), (k_zz29, i_zz29), (k_zz16, i_zz16), (k_zz2, i_zz2), (k_zz19, i_zz19), (k_zz20, i_zz20)]
theorem tabOK : ∀ p ∈ tab, EntOK Tryd.prog (compD Tryd.prog) p.1 p.2.vf := by
 intro p hp
 simp only [tab, List.mem_cons, List.not_mem_nil, or_false] at hp
 rcases hp with rfl | rfl | rfl | rfl | rfl | rfl | rfl | rfl | rfl | rfl | rfl | rfl | rfl | rfl | rfl | rfl | rfl | rfl | rfl | rfl | rfl | rfl | rfl | rfl | rfl | rfl | rfl | rfl | rfl | rfl | rfl | rfl | rfl | rfl | rfl | rfl | rfl | rfl | rfl | rfl | rfl | rfl | rfl | rfl | rfl | rfl | rfl | rfl | rfl | rfl | rfl | rfl | rfl | rfl | rfl | rfl | rfl | rfl | rfl | rfl | rfl | rfl | rfl | rfl | rfl | rfl | rfl | rfl | rfl | rfl | rfl | rfl | rfl | rfl | rfl
 ·exact e_zz30
 ·exact e_zz65
 ·exact e_zz48
 ·exact e_zz66
 ·exact e_zz46
 ·exact e_zz64
 ·exact e_zz58
 ·exact e_zz72
 ·exact e_zz61
 ·exact e_zz59
 ·exact e_zz55
 ·exact e_zz63
 ·exact e_zz57
 ·exact e_zz71
 ·exact e_zz69
 ·exact e_zz67
 ·exact e_zz70
 ·exact e_zz62
 ·exact e_zz39
 ·exact e_zz40
 ·exact e_zz68
 ·exact e_zz31
 ·exact e_zz36
 ·exact e_zz26
 ·exact e_zz34
 ·exact e_zz43
 ·exact e_zz45
 ·exact e_zz47
 ·exact e_zz73
 ·exact e_zz54
 ·exact e_zz22
 ·exact e_zz35
 ·exact e_zz56
 ·exact e_zz32
 ·exact e_zz25
 ·exact e_zz60
 ·exact e_zz74
 ·exact e_zz7
 ·exact e_zz37
 ·exact e_zz27
 ·exact e_zz33
 ·exact e_zz38
 ·exact e_zz12
 ·exact e_zz23
 ·exact e_zz11
 ·exact e_zz17
 ·exact e_zz15
 ·exact e_zz1
 ·exact e_zz53
 ·exact e_zz10
 ·exact e_zz21
 ·exact e_zz51
 ·exact e_zz52
 ·exact e_zz41
 ·exact e_zz18
 ·exact e_zz49
 ·exact e_zz24
 ·exact e_zz42
 ·exact e_zz44
 ·exact e_zz9
 ·exact e_zz28
 ·exact e_zz50
 ·exact e_zz5
 ·exact e_zz14
 ·exact e_zz4
 ·exact e_zz8
 ·exact e_zz6
 ·exact e_zz0
 ·exact e_zz3
 ·exact e_zz13
 ·exact e_zz29
 ·exact e_zz16
 ·exact e_zz2
 ·exact e_zz19
 ·exact e_zz20
def F (n : Nat) : Option Ent := match tab.lookup n with
 | some f => some (.ir f.vf)
 | none => if n = k_math_bits_TrailingZeros64 then some (.ext tzX) else if n = k_slices_Grow_int64_int64 then some (.ext growX) else none
variable {nro : Nat} {args : List Value} {h : VH} {r : Value × VH}
theorem v_zz30 (ha : args.length ≤ i_zz30.ntmps) (hr : fbody (vcall F nro) nro i_zz30 args h = some r) : vcall F nro k_zz30 args h = some r := vcall_f (by kernel_rfl) (by kernel_rfl) ha hr
theorem v_zz65 (ha : args.length ≤ i_zz65.ntmps) (hr : fbody (vcall F nro) nro i_zz65 args h = some r) : vcall F nro k_zz65 args h = some r := vcall_f (by kernel_rfl) (by kernel_rfl) ha hr
theorem v_zz48 (ha : args.length ≤ i_zz48.ntmps) (hr : fbody (vcall F nro) nro i_zz48 args h = some r) : vcall F nro k_zz48 args h = some r := vcall_f (by kernel_rfl) (by kernel_rfl) ha hr
theorem v_zz66 (ha : args.length ≤ i_zz66.ntmps) (hr : fbody (vcall F nro) nro i_zz66 args h = some r) : vcall F nro k_zz66 args h = some r := vcall_f (by kernel_rfl) (by kernel_rfl) ha hr
theorem v_zz46 (ha : args.length ≤ i_zz46.ntmps) (hr : fbody (vcall F nro) nro i_zz46 args h = some r) : vcall F nro k_zz46 args h = some r := vcall_f (by kernel_rfl) (by kernel_rfl) ha hr
theorem v_zz64 (ha : args.length ≤ i_zz64.ntmps) (hr : fbody (vcall F nro) nro i_zz64 args h = some r) : vcall F nro k_zz64 args h = some r := vcall_f (by kernel_rfl) (by kernel_rfl) ha hr
theorem v_zz58 (ha : args.length ≤ i_zz58.ntmps) (hr : fbody (vcall F nro) nro i_zz58 args h = some r) : vcall F nro k_zz58 args h = some r := vcall_f (by kernel_rfl) (by kernel_rfl) ha hr
theorem v_zz72 (ha : args.length ≤ i_zz72.ntmps) (hr : fbody (vcall F nro) nro i_zz72 args h = some r) : vcall F nro k_zz72 args h = some r := vcall_f (by kernel_rfl) (by kernel_rfl) ha hr
theorem v_zz61 (ha : args.length ≤ i_zz61.ntmps) (hr : fbody (vcall F nro) nro i_zz61 args h = some r) : vcall F nro k_zz61 args h = some r := vcall_f (by kernel_rfl) (by kernel_rfl) ha hr
theorem v_zz59 (ha : args.length ≤ i_zz59.ntmps) (hr : fbody (vcall F nro) nro i_zz59 args h = some r) : vcall F nro k_zz59 args h = some r := vcall_f (by kernel_rfl) (by kernel_rfl) ha hr
theorem v_zz55 (ha : args.length ≤ i_zz55.ntmps) (hr : fbody (vcall F nro) nro i_zz55 args h = some r) : vcall F nro k_zz55 args h = some r := vcall_f (by kernel_rfl) (by kernel_rfl) ha hr
theorem v_zz63 (ha : args.length ≤ i_zz63.ntmps) (hr : fbody (vcall F nro) nro i_zz63 args h = some r) : vcall F nro k_zz63 args h = some r := vcall_f (by kernel_rfl) (by kernel_rfl) ha hr
theorem v_zz57 (ha : args.length ≤ i_zz57.ntmps) (hr : fbody (vcall F nro) nro i_zz57 args h = some r) : vcall F nro k_zz57 args h = some r := vcall_f (by kernel_rfl) (by kernel_rfl) ha hr
theorem v_zz71 (ha : args.length ≤ i_zz71.ntmps) (hr : fbody (vcall F nro) nro i_zz71 args h = some r) : vcall F nro k_zz71 args h = some r := vcall_f (by kernel_rfl) (by kernel_rfl) ha hr
theorem v_zz69 (ha : args.length ≤ i_zz69.ntmps) (hr : fbody (vcall F nro) nro i_zz69 args h = some r) : vcall F nro k_zz69 args h = some r := vcall_f (by kernel_rfl) (by kernel_rfl) ha hr
theorem v_zz67 (ha : args.length ≤ i_zz67.ntmps) (hr : fbody (vcall F nro) nro i_zz67 args h = some r) : vcall F nro k_zz67 args h = some r := vcall_f (by kernel_rfl) (by kernel_rfl) ha hr
theorem v_zz70 (ha : args.length ≤ i_zz70.ntmps) (hr : fbody (vcall F nro) nro i_zz70 args h = some r) : vcall F nro k_zz70 args h = some r := vcall_f (by kernel_rfl) (by kernel_rfl) ha hr
theorem v_zz62 (ha : args.length ≤ i_zz62.ntmps) (hr : fbody (vcall F nro) nro i_zz62 args h = some r) : vcall F nro k_zz62 args h = some r := vcall_f (by kernel_rfl) (by kernel_rfl) ha hr
theorem v_zz39 (ha : args.length ≤ i_zz39.ntmps) (hr : fbody (vcall F nro) nro i_zz39 args h = some r) : vcall F nro k_zz39 args h = some r := vcall_f (by kernel_rfl) (by kernel_rfl) ha hr
theorem v_zz40 (ha : args.length ≤ i_zz40.ntmps) (hr : fbody (vcall F nro) nro i_zz40 args h = some r) : vcall F nro k_zz40 args h = some r := vcall_f (by kernel_rfl) (by kernel_rfl) ha hr
theorem v_zz68 (ha : args.length ≤ i_zz68.ntmps) (hr : fbody (vcall F nro) nro i_zz68 args h = some r) : vcall F nro k_zz68 args h = some r := vcall_f (by kernel_rfl) (by kernel_rfl) ha hr
theorem v_zz31 (ha : args.length ≤ i_zz31.ntmps) (hr : fbody (vcall F nro) nro i_zz31 args h = some r) : vcall F nro k_zz31 args h = some r := vcall_f (by kernel_rfl) (by kernel_rfl) ha hr
theorem v_zz36 (ha : args.length ≤ i_zz36.ntmps) (hr : fbody (vcall F nro) nro i_zz36 args h = some r) : vcall F nro k_zz36 args h = some r := vcall_f (by kernel_rfl) (by kernel_rfl) ha hr
theorem v_zz26 (ha : args.length ≤ i_zz26.ntmps) (hr : fbody (vcall F nro) nro i_zz26 args h = some r) : vcall F nro k_zz26 args h = some r := vcall_f (by kernel_rfl) (by kernel_rfl) ha hr
theorem v_zz34 (ha : args.length ≤ i_zz34.ntmps) (hr : fbody (vcall F nro) nro i_zz34 args h = some r) : vcall F nro k_zz34 args h = some r := vcall_f (by kernel_rfl) (by kernel_rfl) ha hr
theorem v_zz43 (ha : args.length ≤ i_zz43.ntmps) (hr : fbody (vcall F nro) nro i_zz43 args h = some r) : vcall F nro k_zz43 args h = some r := vcall_f (by kernel_rfl) (by kernel_rfl) ha hr
theorem v_zz45 (ha : args.length ≤ i_zz45.ntmps) (hr : fbody (vcall F nro) nro i_zz45 args h = some r) : vcall F nro k_zz45 args h = some r := vcall_f (by kernel_rfl) (by kernel_rfl) ha hr
theorem v_zz47 (ha : args.length ≤ i_zz47.ntmps) (hr : fbody (vcall F nro) nro i_zz47 args h = some r) : vcall F nro k_zz47 args h = some r := vcall_f (by kernel_rfl) (by kernel_rfl) ha hr
theorem v_zz73 (ha : args.length ≤ i_zz73.ntmps) (hr : fbody (vcall F nro) nro i_zz73 args h = some r) : vcall F nro k_zz73 args h = some r := vcall_f (by kernel_rfl) (by kernel_rfl) ha hr
theorem v_zz54 (ha : args.length ≤ i_zz54.ntmps) (hr : fbody (vcall F nro) nro i_zz54 args h = some r) : vcall F nro k_zz54 args h = some r := vcall_f (by kernel_rfl) (by kernel_rfl) ha hr
theorem v_zz22 (ha : args.length ≤ i_zz22.ntmps) (hr : fbody (vcall F nro) nro i_zz22 args h = some r) : vcall F nro k_zz22 args h = some r := vcall_f (by kernel_rfl) (by kernel_rfl) ha hr
theorem v_zz35 (ha : args.length ≤ i_zz35.ntmps) (hr : fbody (vcall F nro) nro i_zz35 args h = some r) : vcall F nro k_zz35 args h = some r := vcall_f (by kernel_rfl) (by kernel_rfl) ha hr
theorem v_zz56 (ha : args.length ≤ i_zz56.ntmps) (hr : fbody (vcall F nro) nro i_zz56 args h = some r) : vcall F nro k_zz56 args h = some r := vcall_f (by kernel_rfl) (by kernel_rfl) ha hr
theorem v_zz32 (ha : args.length ≤ i_zz32.ntmps) (hr : fbody (vcall F nro) nro i_zz32 args h = some r) : vcall F nro k_zz32 args h = some r := vcall_f (by kernel_rfl) (by kernel_rfl) ha hr
theorem v_zz25 (ha : args.length ≤ i_zz25.ntmps) (hr : fbody (vcall F nro) nro i_zz25 args h = some r) : vcall F nro k_zz25 args h = some r := vcall_f (by kernel_rfl) (by kernel_rfl) ha hr
theorem v_zz60 (ha : args.length ≤ i_zz60.ntmps) (hr : fbody (vcall F nro) nro i_zz60 args h = some r) : vcall F nro k_zz60 args h = some r := vcall_f (by kernel_rfl) (by kernel_rfl) ha hr
theorem v_zz74 (ha : args.length ≤ i_zz74.ntmps) (hr : fbody (vcall F nro) nro i_zz74 args h = some r) : vcall F nro k_zz74 args h = some r := vcall_f (by kernel_rfl) (by kernel_rfl) ha hr
theorem v_zz7 (ha : args.length ≤ i_zz7.ntmps) (hr : fbody (vcall F nro) nro i_zz7 args h = some r) : vcall F nro k_zz7 args h = some r := vcall_f (by kernel_rfl) (by kernel_rfl) ha hr
theorem v_zz37 (ha : args.length ≤ i_zz37.ntmps) (hr : fbody (vcall F nro) nro i_zz37 args h = some r) : vcall F nro k_zz37 args h = some r := vcall_f (by kernel_rfl) (by kernel_rfl) ha hr
theorem v_zz27 (ha : args.length ≤ i_zz27.ntmps) (hr : fbody (vcall F nro) nro i_zz27 args h = some r) : vcall F nro k_zz27 args h = some r := vcall_f (by kernel_rfl) (by kernel_rfl) ha hr
theorem v_zz33 (ha : args.length ≤ i_zz33.ntmps) (hr : fbody (vcall F nro) nro i_zz33 args h = some r) : vcall F nro k_zz33 args h = some r := vcall_f (by kernel_rfl) (by kernel_rfl) ha hr
theorem v_zz38 (ha : args.length ≤ i_zz38.ntmps) (hr : fbody (vcall F nro) nro i_zz38 args h = some r) : vcall F nro k_zz38 args h = some r := vcall_f (by kernel_rfl) (by kernel_rfl) ha hr
theorem v_zz12 (ha : args.length ≤ i_zz12.ntmps) (hr : fbody (vcall F nro) nro i_zz12 args h = some r) : vcall F nro k_zz12 args h = some r := vcall_f (by kernel_rfl) (by kernel_rfl) ha hr
theorem v_zz23 (ha : args.length ≤ i_zz23.ntmps) (hr : fbody (vcall F nro) nro i_zz23 args h = some r) : vcall F nro k_zz23 args h = some r := vcall_f (by kernel_rfl) (by kernel_rfl) ha hr
theorem v_zz11 (ha : args.length ≤ i_zz11.ntmps) (hr : fbody (vcall F nro) nro i_zz11 args h = some r) : vcall F nro k_zz11 args h = some r := vcall_f (by kernel_rfl) (by kernel_rfl) ha hr
theorem v_zz17 (ha : args.length ≤ i_zz17.ntmps) (hr : fbody (vcall F nro) nro i_zz17 args h = some r) : vcall F nro k_zz17 args h = some r := vcall_f (by kernel_rfl) (by kernel_rfl) ha hr
theorem v_zz15 (ha : args.length ≤ i_zz15.ntmps) (hr : fbody (vcall F nro) nro i_zz15 args h = some r) : vcall F nro k_zz15 args h = some r := vcall_f (by kernel_rfl) (by kernel_rfl) ha hr
theorem v_zz1 (ha : args.length ≤ i_zz1.ntmps) (hr : fbody (vcall F nro) nro i_zz1 args h = some r) : vcall F nro k_zz1 args h = some r := vcall_f (by kernel_rfl) (by kernel_rfl) ha hr
theorem v_zz53 (ha : args.length ≤ i_zz53.ntmps) (hr : fbody (vcall F nro) nro i_zz53 args h = some r) : vcall F nro k_zz53 args h = some r := vcall_f (by kernel_rfl) (by kernel_rfl) ha hr
theorem v_zz10 (ha : args.length ≤ i_zz10.ntmps) (hr : fbody (vcall F nro) nro i_zz10 args h = some r) : vcall F nro k_zz10 args h = some r := vcall_f (by kernel_rfl) (by kernel_rfl) ha hr
theorem v_zz21 (ha : args.length ≤ i_zz21.ntmps) (hr : fbody (vcall F nro) nro i_zz21 args h = some r) : vcall F nro k_zz21 args h = some r := vcall_f (by kernel_rfl) (by kernel_rfl) ha hr
theorem v_zz51 (ha : args.length ≤ i_zz51.ntmps) (hr : fbody (vcall F nro) nro i_zz51 args h = some r) : vcall F nro k_zz51 args h = some r := vcall_f (by kernel_rfl) (by kernel_rfl) ha hr
theorem v_zz52 (ha : args.length ≤ i_zz52.ntmps) (hr : fbody (vcall F nro) nro i_zz52 args h = some r) : vcall F nro k_zz52 args h = some r := vcall_f (by kernel_rfl) (by kernel_rfl) ha hr
theorem v_zz41 (ha : args.length ≤ i_zz41.ntmps) (hr : fbody (vcall F nro) nro i_zz41 args h = some r) : vcall F nro k_zz41 args h = some r := vcall_f (by kernel_rfl) (by kernel_rfl) ha hr
theorem v_zz18 (ha : args.length ≤ i_zz18.ntmps) (hr : fbody (vcall F nro) nro i_zz18 args h = some r) : vcall F nro k_zz18 args h = some r := vcall_f (by kernel_rfl) (by kernel_rfl) ha hr
theorem v_zz49 (ha : args.length ≤ i_zz49.ntmps) (hr : fbody (vcall F nro) nro i_zz49 args h = some r) : vcall F nro k_zz49 args h = some r := vcall_f (by kernel_rfl) (by kernel_rfl) ha hr
theorem v_zz24 (ha : args.length ≤ i_zz24.ntmps) (hr : fbody (vcall F nro) nro i_zz24 args h = some r) : vcall F nro k_zz24 args h = some r := vcall_f (by kernel_rfl) (by kernel_rfl) ha hr
theorem v_zz42 (ha : args.length ≤ i_zz42.ntmps) (hr : fbody (vcall F nro) nro i_zz42 args h = some r) : vcall F nro k_zz42 args h = some r := vcall_f (by kernel_rfl) (by kernel_rfl) ha hr
theorem v_zz44 (ha : args.length ≤ i_zz44.ntmps) (hr : fbody (vcall F nro) nro i_zz44 args h = some r) : vcall F nro k_zz44 args h = some r := vcall_f (by kernel_rfl) (by kernel_rfl) ha hr
theorem v_zz9 (ha : args.length ≤ i_zz9.ntmps) (hr : fbody (vcall F nro) nro i_zz9 args h = some r) : vcall F nro k_zz9 args h = some r := vcall_f (by kernel_rfl) (by kernel_rfl) ha hr
theorem v_zz28 (ha : args.length ≤ i_zz28.ntmps) (hr : fbody (vcall F nro) nro i_zz28 args h = some r) : vcall F nro k_zz28 args h = some r := vcall_f (by kernel_rfl) (by kernel_rfl) ha hr
theorem v_zz50 (ha : args.length ≤ i_zz50.ntmps) (hr : fbody (vcall F nro) nro i_zz50 args h = some r) : vcall F nro k_zz50 args h = some r := vcall_f (by kernel_rfl) (by kernel_rfl) ha hr
theorem v_zz5 (ha : args.length ≤ i_zz5.ntmps) (hr : fbody (vcall F nro) nro i_zz5 args h = some r) : vcall F nro k_zz5 args h = some r := vcall_f (by kernel_rfl) (by kernel_rfl) ha hr
theorem v_zz14 (ha : args.length ≤ i_zz14.ntmps) (hr : fbody (vcall F nro) nro i_zz14 args h = some r) : vcall F nro k_zz14 args h = some r := vcall_f (by kernel_rfl) (by kernel_rfl) ha hr
theorem v_zz4 (ha : args.length ≤ i_zz4.ntmps) (hr : fbody (vcall F nro) nro i_zz4 args h = some r) : vcall F nro k_zz4 args h = some r := vcall_f (by kernel_rfl) (by kernel_rfl) ha hr
theorem v_zz8 (ha : args.length ≤ i_zz8.ntmps) (hr : fbody (vcall F nro) nro i_zz8 args h = some r) : vcall F nro k_zz8 args h = some r := vcall_f (by kernel_rfl) (by kernel_rfl) ha hr
theorem v_zz6 (ha : args.length ≤ i_zz6.ntmps) (hr : fbody (vcall F nro) nro i_zz6 args h = some r) : vcall F nro k_zz6 args h = some r := vcall_f (by kernel_rfl) (by kernel_rfl) ha hr
theorem v_zz0 (ha : args.length ≤ i_zz0.ntmps) (hr : fbody (vcall F nro) nro i_zz0 args h = some r) : vcall F nro k_zz0 args h = some r := vcall_f (by kernel_rfl) (by kernel_rfl) ha hr
theorem v_zz3 (ha : args.length ≤ i_zz3.ntmps) (hr : fbody (vcall F nro) nro i_zz3 args h = some r) : vcall F nro k_zz3 args h = some r := vcall_f (by kernel_rfl) (by kernel_rfl) ha hr
theorem v_zz13 (ha : args.length ≤ i_zz13.ntmps) (hr : fbody (vcall F nro) nro i_zz13 args h = some r) : vcall F nro k_zz13 args h = some r := vcall_f (by kernel_rfl) (by kernel_rfl) ha hr
theorem v_zz29 (ha : args.length ≤ i_zz29.ntmps) (hr : fbody (vcall F nro) nro i_zz29 args h = some r) : vcall F nro k_zz29 args h = some r := vcall_f (by kernel_rfl) (by kernel_rfl) ha hr
theorem v_zz16 (ha : args.length ≤ i_zz16.ntmps) (hr : fbody (vcall F nro) nro i_zz16 args h = some r) : vcall F nro k_zz16 args h = some r := vcall_f (by kernel_rfl) (by kernel_rfl) ha hr
theorem v_zz2 (ha : args.length ≤ i_zz2.ntmps) (hr : fbody (vcall F nro) nro i_zz2 args h = some r) : vcall F nro k_zz2 args h = some r := vcall_f (by kernel_rfl) (by kernel_rfl) ha hr
theorem v_zz19 (ha : args.length ≤ i_zz19.ntmps) (hr : fbody (vcall F nro) nro i_zz19 args h = some r) : vcall F nro k_zz19 args h = some r := vcall_f (by kernel_rfl) (by kernel_rfl) ha hr
theorem v_zz20 (ha : args.length ≤ i_zz20.ntmps) (hr : fbody (vcall F nro) nro i_zz20 args h = some r) : vcall F nro k_zz20 args h = some r := vcall_f (by kernel_rfl) (by kernel_rfl) ha hr
end

/- Symbolic steps: what simp needs to walk through code. -/
section
open Go
section
variable {call : VCall} {nro : Nat}
@[simp] theorem fput_some (e : FE) (d t : Nat) (v : Value) : fput e (some d) v t = if t = d then v else e t := rfl
@[simp] theorem fput_none (e : FE) (v : Value) : fput e none v = e := rfl
@[simp] theorem fl_cons (i : Nat) (v : Value) (r : List (Nat × Value)) (t : Nat) : fl ((i, v) :: r) t = if t = i then v else fl r t := rfl
@[simp] theorem fargs_cons (a : Value) (r : List Value) : fargs (a :: r) 0 = a := rfl
@[simp] theorem fargs_succ (a : Value) (r : List Value) (t : Nat) : fargs (a :: r) (t + 1) = fargs r t := rfl
@[simp] theorem fev_tmp (e : FE) (t : Nat) : fev e (.tmp t) = e t := rfl
@[simp] theorem fev_const (e : FE) (v : Value) : fev e (.const v) = v := rfl
@[simp] theorem fev_func (e : FE) (f : Nat) : fev e (.func f) = .func (.func f) #[] #[] := rfl
def kops (call : VCall) (nro : Nat) (d : Option Nat) (os : List VOper) (e : FE) : Option (Value × VH) → Option (FE × VH)
 | some (v, h) => fops call nro os (fput e d v) h
 | none => none
theorem fput_self (e : FE) (g : Nat) (v : Value) (h : e g = v) : fput e (some g) v = e := by
 funext t
 simp only [fput_some]
 split
 ·rename_i ht; rw [ht, h]
 ·rfl
def kguard (call : VCall) (nro : Nat) (g : Nat) (b : Bool) (d : Option Nat) (op : VOp) (os : List VOper) (e : FE) (h : VH) : Value → Option (FE × VH)
 | .bool c => if c = b then kops call nro d os (fput e (some g) (.bool b)) (vop call nro (fev (fput e (some g) (.bool b))) h op) else fops call nro os (fput (fput e (some g) (.bool !b)) d undef) h
 | .tuple vs => if vs.size = 0 then fops call nro os (fput e d undef) h else none
 | _ => none
@[simp] theorem fops_nil (e : FE) (h : VH) : fops call nro [] e h = some (e, h) := rfl
@[simp] theorem fops_cons (d : Option Nat) (op : VOp) (k : Nat) (os : List VOper) (e : FE) (h : VH) : fops call nro (⟨d, op, none, k⟩ :: os) e h = kops call nro d os e (vop call nro (fev e) h op) := by
 simp only [fops, fwanted]
 cases vop call nro (fev e) h op <;> rfl
@[simp] theorem fops_guard (d : Option Nat) (op : VOp) (g : Nat) (b : Bool) (k : Nat) (os : List VOper) (e : FE) (h : VH) : fops call nro (⟨d, op, some (g, b), k⟩ :: os) e h = kguard call nro g b d op os e h (e g) := by
 simp only [fops, fwanted]
 generalize hg : e g = x
 cases x with
 | bool c =>
  simp only [kguard]
  cases c <;> cases b <;> simp [kops, fput_self _ _ _ hg] <;> cases vop call nro (fev e) h op <;> rfl
 | tuple vs => simp only [kguard]; split <;> simp_all
 | _ => rfl
@[simp] theorem kops_some (d : Option Nat) (os : List VOper) (e : FE) (v : Value) (h : VH) : kops call nro d os e (some (v, h)) = fops call nro os (fput e d v) h := rfl
@[simp] theorem kops_none (d : Option Nat) (os : List VOper) (e : FE) : kops call nro d os e none = none := rfl
@[simp] theorem kops_ite (d : Option Nat) (os : List VOper) (e : FE) (c : Prop) [Decidable c] (x y : Option (Value × VH)) : kops call nro d os e (if c then x else y) = if c then kops call nro d os e x else kops call nro d os e y := by split <;> rfl
@[simp] theorem kguard_bool (g : Nat) (b c : Bool) (d : Option Nat) (op : VOp) (os : List VOper) (e : FE) (h : VH) : kguard call nro g b d op os e h (.bool c) = if c = b then kops call nro d os (fput e (some g) (.bool b)) (vop call nro (fev (fput e (some g) (.bool b))) h op) else fops call nro os (fput (fput e (some g) (.bool !b)) d undef) h := rfl
@[simp] theorem kguard_undef (g : Nat) (b : Bool) (d : Option Nat) (op : VOp) (os : List VOper) (e : FE) (h : VH) : kguard call nro g b d op os e h undef = fops call nro os (fput e d undef) h := rfl
open Classical in
noncomputable def kdops (call : VCall) (nro : Nat) (d : Option Nat) (op : VOp) (k : Nat) (os : List VOper) (e : FE) (h : VH) (hs : List VH) : Option (Value × VH) → Option (FE × VH)
 | some (v, h') => if op.eff = true then fdops call nro os (fput e d v) h' (h :: hs) else if ∀ g ∈ hs.take k, vop call nro (fev e) g op = some (v, g) then fdops call nro os (fput e d v) h' hs else none
 | none => none
noncomputable def kdguard (call : VCall) (nro : Nat) (g : Nat) (b : Bool) (d : Option Nat) (op : VOp) (k : Nat) (os : List VOper) (e : FE) (h : VH) (hs : List VH) : Value → Option (FE × VH)
 | .bool c => if c = b then kdops call nro d op k os (fput e (some g) (.bool b)) h hs (vop call nro (fev (fput e (some g) (.bool b))) h op) else fdops call nro os (fput (fput e (some g) (.bool !b)) d undef) h (if op.eff = true then h :: hs else hs)
 | .tuple vs => if vs.size = 0 then fdops call nro os (fput e d undef) h (if op.eff = true then h :: hs else hs) else none
 | _ => none
@[simp] theorem fdops_nil (e : FE) (h : VH) (hs : List VH) : fdops call nro [] e h hs = some (e, h) := rfl
@[simp] theorem fdops_cons (d : Option Nat) (op : VOp) (k : Nat) (os : List VOper) (e : FE) (h : VH) (hs : List VH) : fdops call nro (⟨d, op, none, k⟩ :: os) e h hs = kdops call nro d op k os e h hs (vop call nro (fev e) h op) := by
 simp only [fdops, fwanted]
 cases vop call nro (fev e) h op <;> rfl
@[simp] theorem fdops_guard (d : Option Nat) (op : VOp) (g : Nat) (b : Bool) (k : Nat) (os : List VOper) (e : FE) (h : VH) (hs : List VH) : fdops call nro (⟨d, op, some (g, b), k⟩ :: os) e h hs = kdguard call nro g b d op k os e h hs (e g) := by
 simp only [fdops, fwanted]
 generalize hg : e g = x
 cases x with
 | bool c =>
  simp only [kdguard]
  by_cases hcb : c = b
  ·subst hcb
   rw [if_pos rfl, fput_self _ _ _ hg]
   simp only [beq_self_eq_true]
   cases vop call nro (fev e) h op <;> rfl
  ·have h1 : (c == b) = false := by simpa using hcb
   have h2 : (!b) = c := by cases c <;> cases b <;> simp_all
   rw [if_neg hcb, h1, h2, fput_self _ _ _ hg]
 | tuple vs => simp only [kdguard]; split <;> simp_all
 | _ => rfl
open Classical in
@[simp] theorem kdops_some (d : Option Nat) (op : VOp) (k : Nat) (os : List VOper) (e : FE) (h : VH) (hs : List VH) (v : Value) (h' : VH) : kdops call nro d op k os e h hs (some (v, h')) = if op.eff = true then fdops call nro os (fput e d v) h' (h :: hs) else if ∀ g ∈ hs.take k, vop call nro (fev e) g op = some (v, g) then fdops call nro os (fput e d v) h' hs else none := rfl
@[simp] theorem kdops_none (d : Option Nat) (op : VOp) (k : Nat) (os : List VOper) (e : FE) (h : VH) (hs : List VH) : kdops call nro d op k os e h hs none = none := rfl
@[simp] theorem kdops_ite (d : Option Nat) (op : VOp) (k : Nat) (os : List VOper) (e : FE) (h : VH) (hs : List VH) (c : Prop) [Decidable c] (x y : Option (Value × VH)) : kdops call nro d op k os e h hs (if c then x else y) = if c then kdops call nro d op k os e h hs x else kdops call nro d op k os e h hs y := by split <;> rfl
@[simp] theorem kdguard_bool (g : Nat) (b c : Bool) (d : Option Nat) (op : VOp) (k : Nat) (os : List VOper) (e : FE) (h : VH) (hs : List VH) : kdguard call nro g b d op k os e h hs (.bool c) = if c = b then kdops call nro d op k os (fput e (some g) (.bool b)) h hs (vop call nro (fev (fput e (some g) (.bool b))) h op) else fdops call nro os (fput (fput e (some g) (.bool !b)) d undef) h (if op.eff = true then h :: hs else hs) := rfl
@[simp] theorem kdguard_undef (g : Nat) (b : Bool) (d : Option Nat) (op : VOp) (k : Nat) (os : List VOper) (e : FE) (h : VH) (hs : List VH) : kdguard call nro g b d op k os e h hs undef = fdops call nro os (fput e d undef) h (if op.eff = true then h :: hs else hs) := rfl
noncomputable def kclean (h0 : VH) (vs : List Value) (h : VH) : List Value × VH := cleanup h0.length h0 vs h
def kn : Option (FE × VH) → Option (VX × FE × VH)
 | some (e, h) => some (.normal, e, h)
 | none => none
@[simp] theorem kn_some (e : FE) (h : VH) : kn (some (e, h)) = some (.normal, e, h) := rfl
@[simp] theorem kn_none : kn none = none := rfl
@[simp] theorem kn_ite (c : Prop) [Decidable c] (x y : Option (FE × VH)) : kn (if c then x else y) = if c then kn x else kn y := by split <;> rfl
noncomputable def kseq (call : VCall) (nro : Nat) (b : FC) : Option (VX × FE × VH) → Option (VX × FE × VH)
 | some (.normal, e, h) => fcode call nro b e h
 | r => r
@[simp] theorem kseq_normal (b : FC) (e : FE) (h : VH) : kseq call nro b (some (.normal, e, h)) = fcode call nro b e h := rfl
@[simp] theorem kseq_ret (b : FC) (e : FE) (h : VH) : kseq call nro b (some (.ret, e, h)) = some (.ret, e, h) := rfl
@[simp] theorem kseq_exit (b : FC) (i : Nat) (e : FE) (h : VH) : kseq call nro b (some (.exit i, e, h)) = some (.exit i, e, h) := rfl
@[simp] theorem kseq_none (b : FC) : kseq call nro b none = none := rfl
@[simp] theorem kseq_ite (b : FC) (c : Prop) [Decidable c] (x y : Option (VX × FE × VH)) : kseq call nro b (if c then x else y) = if c then kseq call nro b x else kseq call nro b y := by split <;> rfl
noncomputable def kcond (call : VCall) (nro : Nat) (a b : FC) (e : FE) (h : VH) : Value → Option (VX × FE × VH)
 | .bool true => fcode call nro a e h
 | .bool false => fcode call nro b e h
 | _ => none
@[simp] theorem kcond_bool (a b : FC) (e : FE) (h : VH) (c : Bool) : kcond call nro a b e h (.bool c) = if c = true then fcode call nro a e h else fcode call nro b e h := by cases c <;> rfl
def kblock (id : Nat) : Option (VX × FE × VH) → Option (VX × FE × VH)
 | some (.exit i, e, h) => if i = id then some (.normal, e, h) else some (.exit i, e, h)
 | r => r
@[simp] theorem kblock_normal (id : Nat) (e : FE) (h : VH) : kblock id (some (.normal, e, h)) = some (.normal, e, h) := rfl
@[simp] theorem kblock_ret (id : Nat) (e : FE) (h : VH) : kblock id (some (.ret, e, h)) = some (.ret, e, h) := rfl
@[simp] theorem kblock_exit (id i : Nat) (e : FE) (h : VH) : kblock id (some (.exit i, e, h)) = if i = id then some (.normal, e, h) else some (.exit i, e, h) := rfl
@[simp] theorem kblock_none (id : Nat) : kblock id none = none := rfl
@[simp] theorem kblock_ite (id : Nat) (c : Prop) [Decidable c] (x y : Option (VX × FE × VH)) : kblock id (if c then x else y) = if c then kblock id x else kblock id y := by split <;> rfl
noncomputable def floop (call : VCall) (nro : Nat) (live : List Nat) (c : FC) (h0 : VH) (vs : List Value) (h : VH) : Option (VX × FE × VH) :=
 iter (fun s : List Value × VH => match fcode call nro c (fl (live.zip s.1)) s.2 with
   | some (.normal, e', h') => some (.inl (cleanup h0.length h0 (live.map e') h'))
   | some r => some (.inr r)
   | none => none) (vs, h)
noncomputable def kloop (call : VCall) (nro : Nat) (live : List Nat) (c : FC) (h0 : VH) (p : List Value × VH) : Option (VX × FE × VH) := floop call nro live c h0 p.1 p.2
@[simp] theorem kloop_mk (live : List Nat) (c : FC) (h0 : VH) (vs : List Value) (h : VH) : kloop call nro live c h0 (vs, h) = floop call nro live c h0 vs h := rfl
noncomputable def kback (call : VCall) (nro : Nat) (live : List Nat) (c : FC) (h0 : VH) : Option (VX × FE × VH) → Option (VX × FE × VH)
 | some (.normal, e, h) => kloop call nro live c h0 (kclean h0 (live.map e) h)
 | r => r
@[simp] theorem kback_normal (live : List Nat) (c : FC) (h0 : VH) (e : FE) (h : VH) : kback call nro live c h0 (some (.normal, e, h)) = kloop call nro live c h0 (kclean h0 (live.map e) h) := rfl
@[simp] theorem kback_exit (live : List Nat) (c : FC) (h0 : VH) (i : Nat) (e : FE) (h : VH) : kback call nro live c h0 (some (.exit i, e, h)) = some (.exit i, e, h) := rfl
@[simp] theorem kback_ret (live : List Nat) (c : FC) (h0 : VH) (e : FE) (h : VH) : kback call nro live c h0 (some (.ret, e, h)) = some (.ret, e, h) := rfl
@[simp] theorem kback_none (live : List Nat) (c : FC) (h0 : VH) : kback call nro live c h0 none = none := rfl
@[simp] theorem kback_ite (live : List Nat) (b : FC) (h0 : VH) (c : Prop) [Decidable c] (x y : Option (VX × FE × VH)) : kback call nro live b h0 (if c then x else y) = if c then kback call nro live b h0 x else kback call nro live b h0 y := by split <;> rfl
theorem floop_eq (live : List Nat) (c : FC) (h0 : VH) (vs : List Value) (h : VH) : floop call nro live c h0 vs h = kback call nro live c h0 (fcode call nro c (fl (live.zip vs)) h) := by
 unfold floop
 rw [iter]
 dsimp only
 generalize fcode call nro c (fl (live.zip vs)) h = q
 match q with
 | none => rfl
 | some (.normal, e, h') => rfl
 | some (.exit i, e, h') => rfl
 | some (.ret, e, h') => rfl
theorem floop_at {c c' : FC} (e : c = c') (live : List Nat) (h0 : VH) (vs : List Value) (h : VH) : floop call nro live c h0 vs h = kback call nro live c h0 (fcode call nro c' (fl (live.zip vs)) h) := by
 rw [floop_eq, ← e]
@[simp] theorem fcode_skip (e : FE) (h : VH) : fcode call nro .skip e h = some (.normal, e, h) := rfl
@[simp] theorem fcode_ops (os : List VOper) (e : FE) (h : VH) : fcode call nro (.ops os) e h = kn (fops call nro os e h) := by
 simp only [fcode]; cases fops call nro os e h <;> rfl
@[simp] theorem fcode_dops (os : List VOper) (e : FE) (h : VH) : fcode call nro (.dops os) e h = kn (fdops call nro os e h []) := by
 simp only [fcode]; cases fdops call nro os e h [] <;> rfl
@[simp] theorem fcode_seq (a b : FC) (e : FE) (h : VH) : fcode call nro (.seq a b) e h = kseq call nro b (fcode call nro a e h) := by
 simp only [fcode]
 generalize fcode call nro a e h = q
 match q with
 | none => rfl
 | some (.normal, e, h') => rfl
 | some (.exit i, e, h') => rfl
 | some (.ret, e, h') => rfl
@[simp] theorem fcode_cond (x : Operand) (a b : FC) (e : FE) (h : VH) : fcode call nro (.cond x a b) e h = kcond call nro a b e h (fev e x) := by
 simp only [fcode]
 generalize fev e x = v
 unfold kcond
 split <;> simp_all
@[simp] theorem fcode_block (id : Nat) (c : FC) (e : FE) (h : VH) : fcode call nro (.block id c) e h = kblock id (fcode call nro c e h) := by
 simp only [fcode]
 generalize fcode call nro c e h = q
 match q with
 | none => rfl
 | some (.normal, e, h') => rfl
 | some (.exit i, e, h') => rfl
 | some (.ret, e, h') => rfl
@[simp] theorem fcode_loop (live : List Nat) (c : FC) (e : FE) (h : VH) : fcode call nro (.loop live c) e h = floop call nro live c h (live.map e) h := rfl
@[simp] theorem fcode_keep (live : List Nat) (c : FC) (e : FE) (h : VH) : fcode call nro (.keep live c) e h = fcode call nro c (fl (live.zip (live.map e))) h := rfl
@[simp] theorem fcode_exit (i : Nat) (e : FE) (h : VH) : fcode call nro (.exit i) e h = some (.exit i, e, h) := rfl
@[simp] theorem fcode_ret (e : FE) (h : VH) : fcode call nro .ret e h = some (.ret, e, h) := rfl
noncomputable def kfin (p : List Value × VH) : Option (Value × VH) := some (p.1.getD 0 undef, p.2)
@[simp] theorem kfin_mk (v : Value) (h : VH) : kfin ([v], h) = some (v, h) := rfl
noncomputable def kret (res : List VR) (h : VH) : Option (VX × FE × VH) → Option (Value × VH)
 | some (.exit _, _, _) => none
 | some (_, e, h') => fend h (fresults e h' res) h'
 | none => none
@[simp] theorem kret_ret (res : List VR) (h : VH) (e : FE) (h' : VH) : kret res h (some (.ret, e, h')) = fend h (fresults e h' res) h' := rfl
@[simp] theorem kret_normal (res : List VR) (h : VH) (e : FE) (h' : VH) : kret res h (some (.normal, e, h')) = fend h (fresults e h' res) h' := rfl
@[simp] theorem kret_none (res : List VR) (h : VH) : kret res h none = none := rfl
@[simp] theorem kret_ite (res : List VR) (h : VH) (c : Prop) [Decidable c] (x y : Option (VX × FE × VH)) : kret res h (if c then x else y) = if c then kret res h x else kret res h y := by split <;> rfl
@[simp] theorem fend_some (h : VH) (v : Value) (h' : VH) : fend h (some v) h' = kfin (kclean h [v] h') := rfl
theorem fbody_eq (fn : FF) (args : List Value) (h : VH) : fbody call nro fn args h = kret fn.res h (fcode call nro fn.body (fargs args) h) := by
 unfold fbody
 generalize fcode call nro fn.body (fargs args) h = q
 match q with
 | none => rfl
 | some (.normal, e, h') => rfl
 | some (.exit i, e, h') => rfl
 | some (.ret, e, h') => rfl
@[simp] theorem fresults1 (e : FE) (h : VH) (t : Nat) : fresults e h [.tmp t] = some (e t) := rfl
@[simp] theorem fresults2 (e : FE) (h : VH) (t s : Nat) : fresults e h [.tmp t, .tmp s] = if notTup (e t) = true ∧ notTup (e s) = true then some (.tuple #[e t, e s]) else none := by
 simp [fresults, fresL, fres1]
@[simp] theorem fresults3 (e : FE) (h : VH) (t s u : Nat) : fresults e h [.tmp t, .tmp s, .tmp u] = if notTup (e t) = true ∧ notTup (e s) = true ∧ notTup (e u) = true then some (.tuple #[e t, e s, e u]) else none := by
 simp [fresults, fresL, fres1]
@[simp] theorem fresultsN (e : FE) (h : VH) : fresults e h [] = some (.tuple #[]) := rfl
attribute [simp] notTup
def Old (n : Nat) (v : Value) : Prop := ∀ r ∈ trefs v, r < n
theorem Old.le {n m : Nat} {v : Value} (h : Old n v) (hm : n ≤ m) : Old m v := fun r hr => Nat.lt_of_lt_of_le (h r hr) hm
@[simp] theorem old_int (n : Nat) (k : IntKind) (i : Int) : Old n (.int k i) := fun r hr => by simp [trefs, vrefs, crefs, arefs] at hr
@[simp] theorem old_bool (n : Nat) (b : Bool) : Old n (.bool b) := fun r hr => by simp [trefs, vrefs, crefs, arefs] at hr
@[simp] theorem old_str (n : Nat) (b : ByteArray) : Old n (.string b) := fun r hr => by simp [trefs, vrefs, crefs, arefs] at hr
@[simp] theorem old_junk (n : Nat) : Old n junk := fun r hr => by simp [junk, trefs, vrefs, crefs, arefs] at hr
@[simp] theorem old_undef (n : Nat) : Old n undef := fun r hr => by simp [undef, trefs] at hr
@[simp] theorem old_slN (n a b : Nat) : Old n (.slice none a b) := fun r hr => by simp [trefs, vrefs, crefs, arefs] at hr
@[simp] theorem old_ptrN (n : Nat) : Old n (.pointer none) := fun r hr => by simp [trefs, vrefs, crefs, arefs] at hr
@[simp] theorem old_nilF (n : Nat) : Old n .nilFunc := fun r hr => by simp [trefs, vrefs, crefs, arefs] at hr
@[simp] theorem old_sl (n : Nat) (a : Addr) (k t : Nat) : Old n (.slice (some a) k t) ↔ a.block < n := by simp [Old, trefs, vrefs, crefs, arefs]
@[simp] theorem old_ptr (n : Nat) (a : Addr) : Old n (.pointer (some a)) ↔ a.block < n := by simp [Old, trefs, vrefs, crefs, arefs]
def OldC (n : Nat) (v : Value) : Prop := ∀ r ∈ crefs v, r < n
theorem old_all (n : Nat) (vs : List Value) : (∀ r ∈ vs.flatMap trefs, r < n) ↔ ∀ v ∈ vs, Old n v := by
 simp only [List.mem_flatMap, Old]
 constructor
 ·intro h v hv r hr
  exact h r ⟨v, hv, hr⟩
 ·rintro h r ⟨v, hv, hr⟩
  exact h v hv r hr
def flatO (n : Nat) (o : VO) : Prop := ∀ r ∈ orefs o, r < n
theorem keepL_nil {base : Nat} {vs : List Value} (h : ∀ v ∈ vs, Old base v) : keepL base vs = [] := by
 unfold keepL
 rw [List.filter_eq_nil_iff.mpr]
 ·rfl
 ·intro r hr
  have := (old_all base vs).mpr h r hr
  simp; omega
theorem tren_old {n : Nat} {v : Value} (h : Old n v) {r : Nat → Nat} (hr : ∀ i, i < n → r i = i) : tren r v = v := by
 have ha : ∀ v : Value, (∀ i ∈ arefs v, i < n) → aren r v = v := by
  intro v hv
  unfold aren
  split
  ·rename_i a
   rw [hr a.block (hv _ (by simp [arefs]))]
  ·rename_i a k c
   rw [hr a.block (hv _ (by simp [arefs]))]
  ·rfl
 have hmap : ∀ (f : Value → Value) (vs : Array Value), (∀ v ∈ vs, f v = v) → vs.map f = vs := by
  intro f vs h
  exact (Array.map_congr_left (g := id) h).trans (Array.map_id _)
 have hc : ∀ v : Value, (∀ i ∈ crefs v, i < n) → cren r v = v := by
  intro v hv
  unfold cren
  split
  ·rename_i f a c
   simp only [crefs, List.mem_append, List.mem_flatMap] at hv
   rw [hmap _ a fun v h => ha v fun i hi => hv i (.inl ⟨v, by simpa using h, hi⟩), hmap _ c fun v h => ha v fun i hi => hv i (.inr ⟨v, by simpa using h, hi⟩)]
  ·rename_i hne
   refine ha v fun i hi => hv i ?_
   unfold crefs
   split
   ·exact absurd rfl (hne _ _ _)
   ·exact hi
 have hvv : ∀ v : Value, (∀ i ∈ vrefs v, i < n) → vren r v = v := by
  intro v hv
  unfold vren
  split
  ·rename_i cs
   simp only [vrefs, List.mem_flatMap] at hv
   rw [hmap _ cs fun v h => hc v fun i hi => hv i ⟨v, by simpa using h, hi⟩]
  ·rename_i hne
   refine hc v fun i hi => hv i ?_
   unfold vrefs
   split
   ·exact absurd rfl (hne _)
   ·exact hi
 unfold tren
 split
 ·rename_i vs
  unfold Old at h
  simp only [trefs, List.mem_flatMap] at h
  rw [hmap _ vs fun v hv => hvv v fun i hi => h i ⟨v, by simpa using hv, hi⟩]
 ·rename_i hne
  refine hvv v fun i hi => h i ?_
  unfold trefs
  split
  ·exact absurd rfl (hne _)
  ·exact hi
theorem okT_app {h0 L : VH} {L0 : VH} (hL : ∀ o ∈ L, flatO (h0.length + L0.length) o) : okT (h0 ++ L0).length (h0 ++ L0) (h0 ++ L) := by
 intro i o ho
 by_cases hi : i < h0.length
 ·left
  rw [List.getElem?_append_left hi] at ho ⊢
  exact ho
 ·right
  rw [List.getElem?_append_right (by omega)] at ho
  have := hL o (List.mem_of_getElem? ho)
  simpa [flatO] using this
@[simp] theorem cleanup_app {h0 L0 L : VH} {vs : List Value} (hv : ∀ v ∈ vs, Old (h0 ++ L0).length v) (hf : ∀ o ∈ L.take L0.length, flatO (h0.length + L0.length) o) :
  kclean (h0 ++ L0) vs (h0 ++ L) = (vs, h0 ++ L.take L0.length) := by
 have htake : (h0 ++ L).take (h0 ++ L0).length = h0 ++ L.take L0.length := by
  rw [List.length_append, List.take_append]
  simp [List.take_of_length_le]
 have hc : okT (h0 ++ L0).length (h0 ++ L0) ((h0 ++ L).take (h0 ++ L0).length) ∧ flatL (h0 ++ L0).length [] (h0 ++ L) := by
  refine ⟨?_, fun i hi => by cases hi⟩
  rw [htake]
  exact okT_app hf
 unfold kclean cleanup
 rw [keepL_nil hv, if_pos hc, htake]
 simp only [List.filterMap_nil, List.append_nil, Prod.mk.injEq, and_true]
 have : ∀ v ∈ vs, tren (renOf (h0 ++ L0).length []) v = v := fun v h => tren_old (hv v h) fun i hi => by simp only [renOf, if_pos hi]
 exact (List.map_congr_left this).trans (by simp)
@[simp] theorem cleanup_drop {h L : VH} {vs : List Value} (hv : ∀ v ∈ vs, Old h.length v) : kclean h vs (h ++ L) = (vs, h) := by
 have := cleanup_app (h0 := h) (L0 := []) (L := L) (vs := vs) (by simpa using hv) (by simp)
 simpa using this
@[simp] theorem cleanup_same {h : VH} {vs : List Value} (hv : ∀ v ∈ vs, Old h.length v) : kclean h vs h = (vs, h) := by
 have := cleanup_drop (h := h) (L := []) hv
 simpa using this
theorem cleanup_keep {h L : VH} {vs : List Value} {ks : List Nat} (hk : keepL h.length vs = ks) (hf : flatL h.length ks (h ++ L)) :
  kclean h vs (h ++ L) = (vs.map (tren (renOf h.length ks)), h ++ ks.filterMap fun i => (h ++ L)[i]?) := by
 have hc : okT h.length h ((h ++ L).take h.length) ∧ flatL h.length ks (h ++ L) := by
  refine ⟨fun i o ho => ?_, hf⟩
  left
  rw [List.getElem?_take] at ho
  split at ho
  ·rename_i hi
   rw [List.getElem?_append_left hi] at ho
   exact ho
  ·cases ho
 unfold kclean cleanup
 rw [hk, if_pos hc]
 simp
@[simp] theorem hget0 (h L : VH) : (h ++ L)[h.length]? = L[0]? := by rw [List.getElem?_append_right (Nat.le_refl _)]; simp
@[simp] theorem hgetk (h L : VH) (k : Nat) : (h ++ L)[h.length + k]? = L[k]? := by rw [List.getElem?_append_right (by omega)]; congr 1; omega
@[simp] theorem hset0 (h L : VH) (o : VO) : (h ++ L).set h.length o = h ++ L.set 0 o := by rw [List.set_append_right _ _ (Nat.le_refl _)]; simp
@[simp] theorem hsetk (h L : VH) (k : Nat) (o : VO) : (h ++ L).set (h.length + k) o = h ++ L.set k o := by rw [List.set_append_right _ _ (by omega)]; congr 2; omega
def vlen (h : VH) : Value → Option (Value × VH)
 | .slice none 0 0 => some (.int .i64 0, h)
 | .slice none 0 1 => some (.int .i64 0, h)
 | .slice (some a) n tot => match h[a.block]? with
  | some o => if tot = o.cells.length then some (.int .i64 n, h) else none
  | none => none
 | _ => none
def vidx (sz : Nat) (h : VH) : Value → Value → Option (Value × VH)
 | .slice (some a) n tot, .int _ j =>
  match h[a.block]? with
  | some o => if o.sz = sz ∧ tot = o.cells.length ∧ 0 ≤ j ∧ j < n then some (.pointer (some ⟨a.block, a.off + j.toNat * sz, some tot⟩), h) else none
  | none => none
 | _, _ => none
def vpick (c a b : Value) (h : VH) : Option (Value × VH) := match c with
 | .bool t => some (if t then a else b, h)
 | _ => none
def vext (h : VH) (i : Nat) : Value → Option (Value × VH)
 | .tuple vs => match vs[i]? with
   | some v => some (v, h)
   | none => none
 | _ => none
def vconv (k : IntKind) (h : VH) : Value → Option (Value × VH)
 | .int _ n => some (.int k (k.wrap n), h)
 | _ => none
def vfld (off : Nat) (h : VH) : Value → Option (Value × VH)
 | .pointer (some a) => if vlive h a = true then some (.pointer (some { a with off := a.off + off }), h) else none
 | _ => none
def vfieldv (agg : Bool) (off n : Nat) (h : VH) : Value → Option (Value × VH)
 | .agg cs => if off + n ≤ cs.size then (if agg then some (.agg (cs.extract off (off + n)), h) else match cs[off]? with
   | some v => some (v, h)
   | none => none) else none
 | _ => none
def vmk (sz : Nat) (zero : List Value) (bytes : Nat) (h : VH) : Value → Value → Option (Value × VH)
 | .int .i64 n, .int .i64 m => if n = m ∧ 0 ≤ n ∧ bytes * n ≤ 2 ^ 47 ∧ n ≤ 2 ^ 47 then some (.slice (some ⟨h.length, 0, none⟩) n.toNat (n.toNat * sz), h ++ [⟨sz, (List.replicate n.toNat zero).flatten⟩]) else none
 | _, _ => none
def vbox (n : Nat) (h : VH) (x : Value) : Option (Value × VH) := if (vcells x).length = n ∧ isJunk x = false then some (.pointer (some ⟨h.length, 0, some n⟩), h ++ [⟨0, vcells x⟩]) else none
def vnil (h : VH) : Value → Option (Value × VH)
 | .pointer (some a) => if vlive h a = true then some (.pointer (some a), h) else none
 | .func (.func f) a c => some (.func (.func f) a c, h)
 | _ => none
def vlenStr (h : VH) : Value → Option (Value × VH)
 | .string s => some (.int .i64 s.size, h)
 | _ => none
def vmvStr (h : VH) : Value → Option (Value × VH)
 | .string s => some (.string s, h)
 | _ => none
def veqnilS (neg : Bool) (h : VH) : Value → Option (Value × VH)
 | .slice none 0 0 => some (.bool !neg, h)
 | .slice (some a) _ tot => match h[a.block]? with
   | some o => if tot = o.cells.length then some (.bool neg, h) else none
   | none => none
 | _ => none
def veqnilF (neg : Bool) (h : VH) : Value → Option (Value × VH)
 | .nilFunc => some (.bool !neg, h)
 | .func .. => some (.bool neg, h)
 | _ => none
def vcallv (call : VCall) (h : VH) (f : Value) (args : List Value) : Option (Value × VH) := match f with
 | .func (.func g) first caps => call g (first.toList ++ args ++ caps.toList) h
 | _ => none
variable (ev : Operand → Value) (h : VH)
@[simp] theorem vop_mv (x : Operand) : vop call nro ev h (.mv x) = some (ev x, h) := rfl
@[simp] theorem vop_pick (c a b : Operand) : vop call nro ev h (.pick c a b) = vpick (ev c) (ev a) (ev b) h := rfl
@[simp] theorem vop_bin (o : BinOp) (x y : Operand) : vop call nro ev h (.bin o x y) = (vbin o (ev x) (ev y)).map (·, h) := rfl
@[simp] theorem vop_beq (n : Bool) (x y : Operand) : vop call nro ev h (.beq n x y) = (vbeq n (ev x) (ev y)).map (·, h) := rfl
@[simp] theorem vop_un (o : UnOp) (x : Operand) : vop call nro ev h (.un o x) = (vun o (ev x)).map (·, h) := rfl
@[simp] theorem vop_conv (k : IntKind) (x : Operand) : vop call nro ev h (.conv k x) = vconv k h (ev x) := rfl
@[simp] theorem vop_box (n : Nat) (x : Operand) : vop call nro ev h (.box n x) = vbox n h (ev x) := rfl
@[simp] theorem vop_alloc (z : List Value) : vop call nro ev h (.alloc z) = some (.pointer (some ⟨h.length, 0, some z.length⟩), h ++ [⟨0, z⟩]) := rfl
@[simp] theorem vop_build (z : List Value) (ps : List (Nat × Nat × Operand)) : vop call nro ev h (.build z ps) = (vfill z (ps.map fun p => (p.1, p.2.1, ev p.2.2))).map fun cs => (.agg cs.toArray, h) := rfl
@[simp] theorem vop_buildSl (sz : Nat) (z : List Value) (ps : List (Nat × Nat × Operand)) (n : Nat) : vop call nro ev h (.buildSl sz z ps n) = (vfill z (ps.map fun p => (p.1, p.2.1, ev p.2.2))).map fun cs => (.slice (some ⟨h.length, 0, none⟩) n z.length, h ++ [⟨sz, cs⟩]) := rfl
@[simp] theorem vop_load (g : Bool) (n : Nat) (p : Operand) : vop call nro ev h (.load g n p) = (vload g n h (ev p)).map (·, h) := rfl
@[simp] theorem vop_store (n : Nat) (p x : Operand) : vop call nro ev h (.store n p x) = (vstore nro n h (ev p) (ev x)).map (undef, ·) := rfl
@[simp] theorem vop_nilchk (x : Operand) : vop call nro ev h (.nilchk x) = vnil h (ev x) := rfl
@[simp] theorem vop_fld (n : Nat) (p : Operand) : vop call nro ev h (.fld n p) = vfld n h (ev p) := rfl
@[simp] theorem vop_fieldv (g : Bool) (o n : Nat) (x : Operand) : vop call nro ev h (.fieldv g o n x) = vfieldv g o n h (ev x) := rfl
@[simp] theorem vop_idx (n : Nat) (s i : Operand) : vop call nro ev h (.idx n s i) = vidx n h (ev s) (ev i) := rfl
@[simp] theorem vop_mkSl (sz : Nat) (z : List Value) (b : Nat) (l c : Operand) : vop call nro ev h (.mkSl sz z b l c) = vmk sz z b h (ev l) (ev c) := rfl
@[simp] theorem vop_slc (sz : Nat) (x : Operand) (lo hi : Option Operand) : vop call nro ev h (.slc sz x lo hi) = (vslice sz h (ev x) (lo.map ev) (hi.map ev)).map (·, h) := rfl
@[simp] theorem vop_slcStr (x : Operand) (lo hi : Option Operand) : vop call nro ev h (.slcStr x lo hi) = (vsliceStr (ev x) (lo.map ev) (hi.map ev)).map (·, h) := rfl
@[simp] theorem vop_ext (x : Operand) (i : Nat) : vop call nro ev h (.ext x i) = vext h i (ev x) := rfl
@[simp] theorem vop_len (x : Operand) : vop call nro ev h (.len x) = vlen h (ev x) := rfl
@[simp] theorem vop_lenStr (x : Operand) : vop call nro ev h (.lenStr x) = vlenStr h (ev x) := rfl
@[simp] theorem vop_mvStr (x : Operand) : vop call nro ev h (.mvStr x) = vmvStr h (ev x) := rfl
@[simp] theorem vop_eqnilS (n : Bool) (x : Operand) : vop call nro ev h (.eqnilS n x) = veqnilS n h (ev x) := rfl
@[simp] theorem vop_eqnilF (n : Bool) (x : Operand) : vop call nro ev h (.eqnilF n x) = veqnilF n h (ev x) := rfl
@[simp] theorem vop_app (sz b : Nat) (z : List Value) (s x : Operand) : vop call nro ev h (.app sz b z s x) = vappend nro sz b h (ev s) (ev x) := rfl
@[simp] theorem vop_minmax (m : Bool) (xs : List Operand) : vop call nro ev h (.minmax m xs) = (vminmax m (xs.map ev)).map (·, h) := rfl
@[simp] theorem vop_call (f : Nat) (xs : List Operand) : vop call nro ev h (.call f xs) = call f (xs.map ev) h := rfl
@[simp] theorem vop_callv (f : Operand) (xs : List Operand) : vop call nro ev h (.callv f xs) = vcallv call h (ev f) (xs.map ev) := rfl
@[simp] theorem vop_clr (sz : Nat) (z : List Value) (x : Operand) : vop call nro ev h (.clr sz z x) = vclear nro sz z h (ev x) := rfl
@[simp] theorem vop_cpy (sz : Nat) (x y : Operand) : vop call nro ev h (.cpy sz x y) = vcopy nro sz h (ev x) (ev y) := rfl
@[simp] theorem vop_stop : vop call nro ev h .stop = none := rfl
@[simp] theorem vop_mkfn (f : Nat) (a b : List Operand) : vop call nro ev h (.mkfn f a b) = if (a.map ev).all isAtom && (b.map ev).all isAtom then some (.func (.func f) (a.map ev).toArray (b.map ev).toArray, h) else none := rfl
attribute [simp] VOp.eff
@[simp] theorem vpick_bool (c : Bool) (a b : Value) : vpick (.bool c) a b h = some (if c = true then a else b, h) := rfl
@[simp] theorem vconv_int (k k' : IntKind) (n : Int) : vconv k h (.int k' n) = some (.int k (k.wrap n), h) := rfl
@[simp] theorem vlenStr_str (s : ByteArray) : vlenStr h (.string s) = some (.int .i64 s.size, h) := rfl
@[simp] theorem vmvStr_str (s : ByteArray) : vmvStr h (.string s) = some (.string s, h) := rfl
@[simp] theorem vlen_nil : vlen h (.slice none 0 0) = some (.int .i64 0, h) := rfl
@[simp] theorem vlen_ref (a : Addr) (n tot : Nat) : vlen h (.slice (some a) n tot) = match h[a.block]? with
  | some o => if tot = o.cells.length then some (.int .i64 n, h) else none
  | none => none := rfl
@[simp] theorem vidx_ref (sz : Nat) (a : Addr) (n tot : Nat) (k : IntKind) (j : Int) : vidx sz h (.slice (some a) n tot) (.int k j) = match h[a.block]? with
  | some o => if o.sz = sz ∧ tot = o.cells.length ∧ 0 ≤ j ∧ j < n then some (.pointer (some ⟨a.block, a.off + j.toNat * sz, some tot⟩), h) else none
  | none => none := rfl
@[simp] theorem vext_tup (vs : Array Value) (i : Nat) : vext h i (.tuple vs) = match vs[i]? with
      | some v => some (v, h)
      | none => none := rfl
@[simp] theorem vfld_ref (off : Nat) (a : Addr) : vfld off h (.pointer (some a)) = if vlive h a = true then some (.pointer (some { a with off := a.off + off }), h) else none := rfl
@[simp] theorem vfieldv_agg (g : Bool) (off n : Nat) (cs : Array Value) : vfieldv g off n h (.agg cs) = if off + n ≤ cs.size then (if g then some (.agg (cs.extract off (off + n)), h) else match cs[off]? with
      | some v => some (v, h)
      | none => none) else none := rfl
@[simp] theorem vmk_int (sz : Nat) (z : List Value) (b : Nat) (n m : Int) : vmk sz z b h (.int .i64 n) (.int .i64 m) = if n = m ∧ 0 ≤ n ∧ b * n ≤ 2 ^ 47 ∧ n ≤ 2 ^ 47 then some (.slice (some ⟨h.length, 0, none⟩) n.toNat (n.toNat * sz), h ++ [⟨sz, (List.replicate n.toNat z).flatten⟩]) else none := rfl
@[simp] theorem vnil_ref (a : Addr) : vnil h (.pointer (some a)) = if vlive h a = true then some (.pointer (some a), h) else none := rfl
@[simp] theorem vnil_func (f : Nat) (a c : Array Value) : vnil h (.func (.func f) a c) = some (.func (.func f) a c, h) := rfl
@[simp] theorem veqnilS_nil (n : Bool) : veqnilS n h (.slice none 0 0) = some (.bool !n, h) := rfl
@[simp] theorem veqnilS_ref (n : Bool) (a : Addr) (k tot : Nat) : veqnilS n h (.slice (some a) k tot) = match h[a.block]? with
      | some o => if tot = o.cells.length then some (.bool n, h) else none
      | none => none := rfl
@[simp] theorem vcallv_func (f : Nat) (first caps : Array Value) (args : List Value) : vcallv call h (.func (.func f) first caps) args = call f (first.toList ++ args ++ caps.toList) h := rfl
attribute [simp] vbox vget vlive vfill isJunk vminmax vminmaxL vminmax2 vsliceStr
@[simp] theorem vload_ref (g : Bool) (n : Nat) (a : Addr) : vload g n h (.pointer (some a)) = match vget h a n with
  | some cs => if g then some (.agg cs.toArray) else match cs with
   | [v] => some v
   | _ => none
  | none => none := rfl
@[simp] theorem vstore_ref (nro n : Nat) (a : Addr) (x : Value) : vstore nro n h (.pointer (some a)) x = match h[a.block]? with
  | some o =>
   if nro ≤ a.block ∧ a.spot = some o.cells.length ∧ a.off + n ≤ o.cells.length ∧ (vcells x).length = n ∧ (vcells x).all (fun v => !isJunk v) = true then
    some (h.set a.block { o with cells := splice a.off (vcells x) o.cells })
   else none
  | none => none := rfl
@[simp] theorem splice_zero (v : Value) (vs : List Value) (c : Value) (cs : List Value) : splice 0 (v :: vs) (c :: cs) = v :: vs ++ cs.drop vs.length := by simp [splice]
@[simp] theorem splice_succ (k : Nat) (vs : List Value) (c : Value) (cs : List Value) : splice (k + 1) vs (c :: cs) = c :: splice k vs cs := by
 simp [splice, Nat.add_right_comm]
@[simp] theorem vsrc_nil (sz : Nat) : vsrc sz h (.slice none 0 0) = some ([], 0) := rfl
@[simp] theorem vsrc_ref (sz : Nat) (a : Addr) (n tot : Nat) : vsrc sz h (.slice (some a) n tot) = match h[a.block]? with
  | some o => if o.sz = sz ∧ tot = o.cells.length ∧ a.off + n * sz ≤ tot then some ((o.cells.drop a.off).take (n * sz), n) else none
  | none => none := rfl
def vapp (nro sz bytes : Nat) (h : VH) (s : Value) : Option (List Value × Nat) → Option (Value × VH)
 | none => none
 | some (cs, m) =>
  if cs.all (fun v => !isJunk v) = true ∧ 1 ≤ sz then
   match s with
   | .slice none 0 0 =>
    if m = 0 then some (.slice none 0 0, h)
    else if m * bytes ≤ 2 ^ 40 ∧ m ≤ 2 ^ 40 then some (.slice (some ⟨h.length, 0, none⟩) m cs.length, h ++ [⟨sz, cs⟩]) else none
   | .slice (some a) n tot =>
    match h[a.block]? with
    | some o =>
     if nro ≤ a.block ∧ o.sz = sz ∧ tot = o.cells.length ∧ a.off = 0 ∧ n * sz = tot ∧ (n + m) * bytes ≤ 2 ^ 40 ∧ n + m ≤ 2 ^ 40 then
      some (.slice (some a) (n + m) (tot + cs.length), h.set a.block { o with cells := o.cells ++ cs })
     else none
    | none => none
   | _ => none
  else none
@[simp] theorem vappend_eq (nro sz b : Nat) (s x : Value) : vappend nro sz b h s x = vapp nro sz b h s (vsrc sz h x) := by
 unfold vappend vapp
 cases vsrc sz h x <;> rfl
@[simp] theorem vapp_nil (nro sz b : Nat) (cs : List Value) (m : Nat) : vapp nro sz b h (.slice none 0 0) (some (cs, m)) = if cs.all (fun v => !isJunk v) = true ∧ 1 ≤ sz then (if m = 0 then some (.slice none 0 0, h) else if m * b ≤ 2 ^ 40 ∧ m ≤ 2 ^ 40 then some (.slice (some ⟨h.length, 0, none⟩) m cs.length, h ++ [⟨sz, cs⟩]) else none) else none := rfl
@[simp] theorem vapp_ref (nro sz b : Nat) (a : Addr) (n tot : Nat) (cs : List Value) (m : Nat) : vapp nro sz b h (.slice (some a) n tot) (some (cs, m)) = if cs.all (fun v => !isJunk v) = true ∧ 1 ≤ sz then (match h[a.block]? with
        | some o =>
          if nro ≤ a.block ∧ o.sz = sz ∧ tot = o.cells.length ∧ a.off = 0 ∧ n * sz = tot ∧ (n + m) * b ≤ 2 ^ 40 ∧ n + m ≤ 2 ^ 40 then
            some (.slice (some a) (n + m) (tot + cs.length), h.set a.block { o with cells := o.cells ++ cs })
          else none
        | none => none) else none := rfl
@[simp] theorem vslice_nil (sz : Nat) (lo hi : Option Value) : vslice sz h (.slice none 0 0) lo hi = match lo.getD (.int .i64 0), hi.getD (.int .i64 0) with
  | .int _ 0, .int _ 0 => some (.slice none 0 0)
  | _, _ => none := rfl
@[simp] theorem vslice_ref (sz : Nat) (a : Addr) (n tot : Nat) (lo hi : Option Value) : vslice sz h (.slice (some a) n tot) lo hi = match h[a.block]? with
  | some o =>
   if o.sz = sz ∧ tot = o.cells.length then
    match lo.getD (.int .i64 0), hi.getD (.int .i64 n) with
    | .int _ l, .int _ u => if 0 ≤ l ∧ l ≤ u ∧ u ≤ n then some (.slice (some { a with off := a.off + l.toNat * sz }) (u.toNat - l.toNat) tot) else none
    | _, _ => none
   else none
  | none => none := rfl
@[simp] theorem vcells_agg (cs : Array Value) : vcells (.agg cs) = cs.toList := rfl
@[simp] theorem vcells_int (k : IntKind) (n : Int) : vcells (.int k n) = [.int k n] := rfl
@[simp] theorem vcells_bool (b : Bool) : vcells (.bool b) = [.bool b] := rfl
@[simp] theorem vcells_str (b : ByteArray) : vcells (.string b) = [.string b] := rfl
@[simp] theorem vcells_sl (a : Option Addr) (n c : Nat) : vcells (.slice a n c) = [.slice a n c] := rfl
@[simp] theorem vcells_ptr (a : Option Addr) : vcells (.pointer a) = [.pointer a] := rfl
end
end

/- Numbers: the operations on integers, and bits. -/
section
open Go
theorem wrap64 {n : Int} (h1 : -9223372036854775808 ≤ n) (h2 : n ≤ 9223372036854775807) : IntKind.i64.wrap n = n := IntWalk.i64_in n ⟨h1, h2⟩
theorem wrapu64 {n : Int} (h1 : 0 ≤ n) (h2 : n ≤ 18446744073709551615) : IntKind.u64.wrap n = n := IntWalk.u64_in n ⟨h1, h2⟩
theorem wrapu8 {n : Int} (h1 : 0 ≤ n) (h2 : n ≤ 255) : IntKind.u8.wrap n = n := IntWalk.u8_in n ⟨h1, h2⟩
theorem ex_eq {α : Type} (a : α) : ∃ b, b = a := ⟨a, rfl⟩
noncomputable def iand : IntKind → Int → Int → Int := Classical.choose (ex_eq fun (k : IntKind) (a b : Int) => (k.wrap (BitVec.ofInt k.bits a &&& BitVec.ofInt k.bits b).toNat : Int))
theorem iand_eq (k : IntKind) (a b : Int) : iand k a b = k.wrap (BitVec.ofInt k.bits a &&& BitVec.ofInt k.bits b).toNat := congrFun (congrFun (congrFun (Classical.choose_spec (ex_eq fun (k : IntKind) (a b : Int) => (k.wrap (BitVec.ofInt k.bits a &&& BitVec.ofInt k.bits b).toNat : Int))) k) a) b
noncomputable def ior : IntKind → Int → Int → Int := Classical.choose (ex_eq fun (k : IntKind) (a b : Int) => (k.wrap (BitVec.ofInt k.bits a ||| BitVec.ofInt k.bits b).toNat : Int))
theorem ior_eq (k : IntKind) (a b : Int) : ior k a b = k.wrap (BitVec.ofInt k.bits a ||| BitVec.ofInt k.bits b).toNat := congrFun (congrFun (congrFun (Classical.choose_spec (ex_eq fun (k : IntKind) (a b : Int) => (k.wrap (BitVec.ofInt k.bits a ||| BitVec.ofInt k.bits b).toNat : Int))) k) a) b
noncomputable def ixor : IntKind → Int → Int → Int := Classical.choose (ex_eq fun (k : IntKind) (a b : Int) => (k.wrap (BitVec.ofInt k.bits a ^^^ BitVec.ofInt k.bits b).toNat : Int))
theorem ixor_eq (k : IntKind) (a b : Int) : ixor k a b = k.wrap (BitVec.ofInt k.bits a ^^^ BitVec.ofInt k.bits b).toNat := congrFun (congrFun (congrFun (Classical.choose_spec (ex_eq fun (k : IntKind) (a b : Int) => (k.wrap (BitVec.ofInt k.bits a ^^^ BitVec.ofInt k.bits b).toNat : Int))) k) a) b
noncomputable def iandNot : IntKind → Int → Int → Int := Classical.choose (ex_eq fun (k : IntKind) (a b : Int) => (k.wrap (BitVec.ofInt k.bits a &&& ~~~ BitVec.ofInt k.bits b).toNat : Int))
theorem iandNot_eq (k : IntKind) (a b : Int) : iandNot k a b = k.wrap (BitVec.ofInt k.bits a &&& ~~~ BitVec.ofInt k.bits b).toNat := congrFun (congrFun (congrFun (Classical.choose_spec (ex_eq fun (k : IntKind) (a b : Int) => (k.wrap (BitVec.ofInt k.bits a &&& ~~~ BitVec.ofInt k.bits b).toNat : Int))) k) a) b
noncomputable def ishl : IntKind → Int → Int → Int := Classical.choose (ex_eq fun (k : IntKind) (a b : Int) => (k.wrap (a * 2 ^ (min b.toNat k.bits)) : Int))
theorem ishl_eq (k : IntKind) (a b : Int) : ishl k a b = k.wrap (a * 2 ^ (min b.toNat k.bits)) := congrFun (congrFun (congrFun (Classical.choose_spec (ex_eq fun (k : IntKind) (a b : Int) => (k.wrap (a * 2 ^ (min b.toNat k.bits)) : Int))) k) a) b
noncomputable def ishr : IntKind → Int → Int → Int := Classical.choose (ex_eq fun (k : IntKind) (a b : Int) => (a.fdiv (2 ^ (min b.toNat k.bits)) : Int))
theorem ishr_eq (k : IntKind) (a b : Int) : ishr k a b = a.fdiv (2 ^ (min b.toNat k.bits)) := congrFun (congrFun (congrFun (Classical.choose_spec (ex_eq fun (k : IntKind) (a b : Int) => (a.fdiv (2 ^ (min b.toNat k.bits)) : Int))) k) a) b
section
variable (k : IntKind) (a b : Int)
@[simp] theorem vbin_add : vbin .add (.int k a) (.int k b) = some (.int k (k.wrap (a + b))) := by simp [vbin]
@[simp] theorem vbin_sub : vbin .sub (.int k a) (.int k b) = some (.int k (k.wrap (a - b))) := by simp [vbin]
@[simp] theorem vbin_mul : vbin .mul (.int k a) (.int k b) = some (.int k (k.wrap (a * b))) := by simp [vbin]
@[simp] theorem vbin_quo (hb : b ≠ 0) : vbin .quo (.int k a) (.int k b) = some (.int k (k.wrap (a.tdiv b))) := by simp [vbin, hb]
@[simp] theorem vbin_rem (hb : b ≠ 0) : vbin .rem (.int k a) (.int k b) = some (.int k (a.tmod b)) := by simp [vbin, hb]
@[simp] theorem vbin_and : vbin .and (.int k a) (.int k b) = some (.int k (iand k a b)) := by simp [vbin, iand_eq]
@[simp] theorem vbin_or : vbin .or (.int k a) (.int k b) = some (.int k (ior k a b)) := by simp [vbin, ior_eq]
@[simp] theorem vbin_xor : vbin .xor (.int k a) (.int k b) = some (.int k (ixor k a b)) := by simp [vbin, ixor_eq]
@[simp] theorem vbin_andNot : vbin .andNot (.int k a) (.int k b) = some (.int k (iandNot k a b)) := by simp [vbin, iandNot_eq]
@[simp] theorem vbin_shl (k' : IntKind) (hb : 0 ≤ b) : vbin .shl (.int k a) (.int k' b) = some (.int k (ishl k a b)) := by
 have : ¬ b < 0 := by omega
 simp [vbin, ishl_eq, this]
@[simp] theorem vbin_shr (k' : IntKind) (hb : 0 ≤ b) : vbin .shr (.int k a) (.int k' b) = some (.int k (ishr k a b)) := by
 have : ¬ b < 0 := by omega
 simp [vbin, ishr_eq, this]
@[simp] theorem vbin_eql : vbin .eql (.int k a) (.int k b) = some (.bool (decide (a = b))) := by simp [vbin]; rfl
@[simp] theorem vbin_neq : vbin .neq (.int k a) (.int k b) = some (.bool (decide (a ≠ b))) := by
 simp [vbin]
 by_cases h : a = b <;> simp [h]
@[simp] theorem vbin_lss : vbin .lss (.int k a) (.int k b) = some (.bool (decide (a < b))) := by simp [vbin]
@[simp] theorem vbin_leq : vbin .leq (.int k a) (.int k b) = some (.bool (decide (a ≤ b))) := by simp [vbin]
@[simp] theorem vbin_gtr : vbin .gtr (.int k a) (.int k b) = some (.bool (decide (b < a))) := by simp [vbin]
@[simp] theorem vbin_geq : vbin .geq (.int k a) (.int k b) = some (.bool (decide (b ≤ a))) := by simp [vbin]
@[simp] theorem vbeq_bool (n : Bool) (x y : Bool) : vbeq n (.bool x) (.bool y) = some (.bool (if n = true then !(x == y) else x == y)) := rfl
@[simp] theorem vun_not (x : Bool) : vun .not (.bool x) = some (.bool !x) := rfl
@[simp] theorem vun_neg : vun .neg (.int k a) = some (.int k (k.wrap (0 - a))) := rfl
end
theorem ofInt_nat (w n : Nat) (h : n < 2 ^ w) : (BitVec.ofInt w (n : Int)).toNat = n := by
 simp
 exact Nat.mod_eq_of_lt h
theorem iand_nat {a b : Nat} (ha : a < 2 ^ 63) (hb : b < 2 ^ 63) : iand .i64 a b = ((a &&& b : Nat) : Int) := by
 rw [iand_eq]
 rw [BitVec.toNat_and]
 have e : IntKind.i64.bits = 64 := rfl
 rw [e, ofInt_nat 64 a (by omega), ofInt_nat 64 b (by omega)]
 have : a &&& b ≤ a := Nat.and_le_left
 exact wrap64 (by omega) (by omega)
theorem ior_nat {a b : Nat} (ha : a < 2 ^ 63) (hb : b < 2 ^ 63) : ior .i64 a b = ((a ||| b : Nat) : Int) := by
 rw [ior_eq]
 rw [BitVec.toNat_or]
 have e : IntKind.i64.bits = 64 := rfl
 rw [e, ofInt_nat 64 a (by omega), ofInt_nat 64 b (by omega)]
 have : a ||| b < 2 ^ 63 := Nat.or_lt_two_pow ha hb
 exact wrap64 (by omega) (by omega)
theorem ishr_nat {a : Nat} {b : Int} (hb : b ≤ 64) : ishr .i64 a b = ((a >>> b.toNat : Nat) : Int) := by
 rw [ishr_eq]
 have e : min b.toNat IntKind.i64.bits = b.toNat := by
  have : IntKind.i64.bits = 64 := rfl
  omega
 rw [e]
 have h1 : (a : Int).fdiv (2 ^ b.toNat) = ((a / 2 ^ b.toNat : Nat) : Int) := by
  rw [Int.fdiv_eq_ediv_of_nonneg _ (Int.pow_nonneg (by decide))]
  simp
 rw [h1, Nat.shiftRight_eq_div_pow]
theorem ishl_one {b : Int} (h1 : b ≤ 62) : ishl .i64 1 b = ((2 ^ b.toNat : Nat) : Int) := by
 rw [ishl_eq]
 have e : min b.toNat IntKind.i64.bits = b.toNat := by
  have : IntKind.i64.bits = 64 := rfl
  omega
 rw [e]
 have : 2 ^ b.toNat ≤ 4611686018427387904 := Nat.le_trans (Nat.pow_le_pow_right (by decide : 0 < 2) (by omega : b.toNat ≤ 62)) (by decide)
 have h2 : (1 : Int) * 2 ^ b.toNat = ((2 ^ b.toNat : Nat) : Int) := by simp
 rw [h2]
 generalize 2 ^ b.toNat = q at *
 exact wrap64 (by omega) (by omega)
theorem iand_one {a : Nat} (ha : a < 2 ^ 63) : iand .i64 a 1 = ((a % 2 : Nat) : Int) := by
 have := iand_nat (a := a) (b := 1) ha (by omega)
 rw [Nat.and_one_is_mod] at this
 exact this
theorem bit_nat {a : Nat} {b : Int} (ha : a < 2 ^ 63) (hb : b ≤ 64) : (iand .i64 (ishr .i64 a b) 1 = 1) ↔ a.testBit b.toNat = true := by
 rw [ishr_nat hb, iand_one]
 ·rw [Nat.testBit_eq_decide_div_mod_eq, Nat.shiftRight_eq_div_pow]
  simp only [decide_eq_true_eq]
  omega
 ·rw [Nat.shiftRight_eq_div_pow]
  exact Nat.lt_of_le_of_lt (Nat.div_le_self _ _) ha
end

/- What the library's TrailingZeros64 does: it reads the table. -/
section
open Go
theorem tz_idx (x : Int) : 0 ≤ tzIdx x ∧ tzIdx x < 64 := by
 unfold tzIdx IntKind.wrap
 simp [IntKind.signed, IntKind.bits]
 omega
theorem tz_idx_nat (x : Int) : (tzIdx x).toNat < 64 := by
 have := tz_idx x
 omega
theorem tz_get (i : Nat) (hi : i < 64) : tzCells[i]? = some (.int .u8 (tzTab.getD i 0)) := by
 have e : tzCells[i]? = (tzTab[i]?).map (Value.int .u8) := by simp [tzCells]
 have hl : tzTab.length = 64 := by decide
 rw [e, List.getD_eq_getElem?_getD, List.getElem?_eq_getElem (by omega)]
 rfl
theorem tz_lo (i : Nat) : 0 ≤ tzTab.getD i 0 ∧ tzTab.getD i 0 < 64 := by
 by_cases hi : i < 64
 ·have : ∀ i < 64, 0 ≤ tzTab.getD i 0 ∧ tzTab.getD i 0 < 64 := by decide
  exact this i hi
 ·have hl : tzTab.length = 64 := by decide
  rw [List.getD_eq_getElem?_getD, List.getElem?_eq_none (by omega)]
  decide
theorem tz_cell (w : World) (ty fz) (hw : w.heap[0]? = some (.cells tzCells ty fz)) (i : Nat) (hi : i < 64) : w.cell? { block := 0, off := i } = some (.int .u8 (tzTab.getD i 0)) := by
 simp only [World.cell?, hw]
 exact tz_get i hi
theorem tz_idx2 (x : Int) : 0 ≤ IntKind.u64.wrap (bits BinOp.and IntKind.u64 x (IntKind.u64.wrap (-x)) * 285870213051353865) / 288230376151711744 ∧ IntKind.u64.wrap (bits BinOp.and IntKind.u64 x (IntKind.u64.wrap (-x)) * 285870213051353865) / 288230376151711744 < 64 := tz_idx x
theorem tz_walk0 (w : World) :
  Calls Tryd.prog 46 #[.int .u64 0] w fun e w' => e = .returned (.int .i64 64) ∧ w' = w := by
 go_enter Tryd.func46, Tryd.ntmps46
 go_wp2
 go_ret
 exact ⟨rfl, rfl⟩
theorem tz_walk1 (x : Int) (h0 : ¬ x = 0) (t : Int) (w : World) (hT : w.cell? { block := 0, off := (IntKind.u64.wrap (bits BinOp.and IntKind.u64 x (IntKind.u64.wrap (-x)) * 285870213051353865) / 288230376151711744).toNat } = some (.int .u8 t)) :
  Calls Tryd.prog 46 #[.int .u64 x] w fun e w' => e = .returned (.int .i64 (RowKit.wrap64 t)) ∧ w' = w := by
 go_enter Tryd.func46, Tryd.ntmps46
 go_wp2
 ·go_ret
  exact ⟨rfl, rfl⟩
 ·rename_i hb
  exact absurd (tz_idx2 x) hb
theorem tz_ext (nro : Nat) : ExtOK Tryd.prog nro 46 tzX := by
 intro f args h v h' hv φ w args' hnr hR ha
 simp only at hv
 split at hv
 ·rename_i hf
  subst hf
  refine ⟨⟨_, Tryd.func46, by kernel_rfl, by kernel_rfl⟩, ?_⟩
  unfold tzX at hv
  split at hv
  ·rename_i x
   simp only [Option.some.injEq, Prod.mk.injEq] at hv
   obtain ⟨rfl, rfl⟩ := hv
   cases ha with
   | cons h1 h2 =>
    cases h2
    have e := h1.inv_int
    subst e
    obtain ⟨⟨ty, fz, hw⟩, _⟩ := hR.glob 0 tzCells rfl
    have key : Calls Tryd.prog 46 #[.int .u64 x] w fun e w' => e = .returned (.int .i64 (tzv x)) ∧ w' = w := by
     by_cases h0 : x = 0
     ·subst h0
      exact tz_walk0 w
     ·have hwr : RowKit.wrap64 (tzTab.getD (tzIdx x).toNat 0) = tzTab.getD (tzIdx x).toNat 0 := by
       have := tz_lo (tzIdx x).toNat
       unfold RowKit.wrap64
       omega
      have := tz_walk1 x h0 _ w (tz_cell w ty fz hw (tzIdx x).toNat (tz_idx_nat x))
      rw [hwr] at this
      unfold tzv
      rw [if_neg h0]
      exact this
    refine key.mono fun e w' ⟨he, hw'⟩ => ?_
    subst hw'
    exact ⟨φ, _, he, hR, X.refl .., .val (.cell (.atom (.int _ _)))⟩
  ·cases hv
 ·cases hv
end

/- What the library's slices.Grow does to the nil slice: a new row. -/
section
open Go
theorem grow_walk (n : Nat) (h1 : 1 ≤ n) (h2 : n ≤ 1048576) (w : World) : Calls Tryd.prog 37 #[.slice none 0 0, .int .i64 n] w fun e w' =>
  e = .returned (.slice (some ⟨w.heap.size, 0, none⟩) 0 (grownCap w n 0 2)) ∧
  w' = w.drew.alloc (.cells (#[] ++ Builtin.zeroCells (Value.int .i64 0).cells n ++ Builtin.zeroCells (Value.int .i64 0).cells (grownCap w n 0 2 - n)) 2) := by
 have hg : ¬ ((n : Int) < 0) := by omega
 have w1 : RowKit.wrap64 ((0 : Int) - 0) = 0 := by unfold RowKit.wrap64; omega
 have w2 : RowKit.wrap64 ((n : Int) - 0) = n := by unfold RowKit.wrap64; omega
 have hp : (n : Int) > 0 := by omega
 obtain ⟨i0, hi, hz, hs, hb⟩ : ∃ i0, Tryd.prog.info? 2 = some i0 ∧ i0.zero = some (.int .i64 0) ∧ i0.size = 1 ∧ i0.bytes = 8 := ⟨(Tryd.prog.info? 2).getD default, by kernel_rfl, by kernel_rfl, by kernel_rfl, by kernel_rfl⟩
 have hold : (Builtin.firstCells i0.size 0 (.slice none 0 0)).run Tryd.prog w.drew = .ok ([] : List Value).toArray w.drew := Go.run_firstCells_none w.drew i0.size 0 0 0
 have hrz : ∀ ty, (Builtin.append_ #[22, 3] ty #[.slice none 0 0, .int .i64 (n : Int)]).run Tryd.prog w = _ := fun ty =>
  Lib.run_append_grow_zeros w 22 3 ty 2 i0 (.int .i64 0)  .i64 .i64 (by kernel_rfl) (by kernel_rfl) hi hz none 0 0 [] hold n (by omega) (by omega) (by omega) (by omega) (by rw [hb]; omega) (by rw [hb]; exact growslice_fits (by omega) (by omega))
 simp only [Nat.zero_add] at hrz
 have hGn : n ≤ grownCap w n 0 2 := grownCap_ge w _ _ _
 obtain ⟨G, hG⟩ : ∃ G, G = grownCap w n 0 2 := ⟨_, rfl⟩
 rw [← hG] at hrz hGn ⊢
 clear hold hi hz hs hb
 go_enter Tryd.func37, Tryd.ntmps37
 go_wp2_with (at_builtin; refine Lib.wpList_append_run _ rfl _ _ _ _ rfl _ _ rfl rfl _ _ (hrz _) ?_)
 all_goals (go_ret; exact ⟨rfl, rfl⟩)
theorem grow_ext (nro : Nat) : ExtOK Tryd.prog nro 37 growX := by
 intro f args h v h' hv φ w args' hnr hR ha
 simp only at hv
 split at hv
 ·rename_i hf
  subst hf
  refine ⟨⟨_, Tryd.func37, by kernel_rfl, by kernel_rfl⟩, ?_⟩
  unfold growX at hv
  split at hv
  ·rename_i n
   split at hv
   ·rename_i hn
    simp only [Option.some.injEq, Prod.mk.injEq] at hv
    obtain ⟨rfl, rfl⟩ := hv
    obtain ⟨m, rfl⟩ : ∃ m : Nat, n = m := ⟨n.toNat, by omega⟩
    cases ha with
    | cons a1 a2 =>
     cases a2 with
     | cons b1 b2 =>
      cases b2
      have e := b1.inv_int
      subst e
      cases a1.inv_sl
      refine (grow_walk m (by omega) (by omega) w).mono fun e w' ⟨he, hw'⟩ => ?_
      have hC : ∀ (j : Nat) v, (⟨1, []⟩ : VO).cells[j]? = some v → ∃ v', (#[] ++ Builtin.zeroCells (Value.int .i64 0).cells m ++ Builtin.zeroCells (Value.int .i64 0).cells (grownCap w m 0 2 - m))[j]? = some v' ∧ CellR φ h.ph v v' := fun j v hj => by simp at hj
      obtain ⟨r1, r2⟩ := hR.push (w1 := w') ⟨1, []⟩ _ 2 (by rw [hw']; rfl) (by rw [hw']; exact ⟨rfl, rfl, rfl⟩) hC
      have hcs : (#[] ++ Builtin.zeroCells (Value.int .i64 0).cells m ++ Builtin.zeroCells (Value.int .i64 0).cells (grownCap w m 0 2 - m)).size = grownCap w m 0 2 := by
       have := grownCap_ge w m 0 2
       have h1 : (Value.int .i64 0).cells.size = 1 := rfl
       simp [Builtin.zeroCells, h1]
       omega
      refine ⟨_, _, he, r1, r2, .val (.cell (.atom ?_))⟩
      have es : setE φ h.length ⟨w.heap.size, 0, (#[] ++ Builtin.zeroCells (Value.int .i64 0).cells m ++ Builtin.zeroCells (Value.int .i64 0).cells (grownCap w m 0 2 - m)).size⟩ h.length = ⟨w.heap.size, 0, grownCap w m 0 2⟩ := by unfold setE; rw [if_pos rfl, hcs]
      refine AtomR.sl (o := ⟨1, []⟩) (by unfold VH.ph; simp) rfl (by simp) (by simp) (Nat.zero_le _) ?_ (.inr ?_)
      ·rw [es]; simp
      ·rw [es]
   ·cases hv
  ·cases hv
 ·cases hv
end

/- Slices that are read: what a slice's value tells of a list. -/
section
open Go
def Sl (h : VH) (v : Value) (cs : List Value) : Prop := vsrc 1 h v = some (cs, cs.length)
def vptr (s : Value) (j : Nat) : Value := match s with
 | .slice (some a) _ tot => .pointer (some ⟨a.block, a.off + j, some tot⟩)
 | _ => junk
def ints (xs : List Int) : List Value := xs.map (Value.int .i64)
@[simp] theorem ints_length (xs : List Int) : (ints xs).length = xs.length := by simp [ints]
@[simp] theorem ints_nil : ints [] = [] := rfl
@[simp] theorem ints_cons (x : Int) (xs : List Int) : ints (x :: xs) = .int .i64 x :: ints xs := rfl
theorem ints_set (xs : List Int) (j : Nat) (x : Int) : (ints xs).set j (.int .i64 x) = ints (xs.set j x) := by simp [ints, List.map_set]
theorem Sl.inv {h : VH} {v : Value} {cs : List Value} (hs : Sl h v cs) :
  (v = .slice none 0 0 ∧ cs = []) ∨ (v = .slice none 0 1 ∧ cs = []) ∨
  ∃ a n tot o, v = .slice (some a) n tot ∧ h[a.block]? = some o ∧ o.sz = 1 ∧ tot = o.cells.length ∧ a.off + n ≤ tot ∧ n = cs.length ∧ ∀ j, j < n → o.cells[a.off + j]? = cs[j]? := by
 unfold Sl vsrc at hs
 split at hs
 ·left; simp at hs; exact ⟨rfl, hs.1⟩
 ·right; left; simp at hs; exact ⟨rfl, hs.1⟩
 ·rename_i a n tot
  split at hs
  ·rename_i o ho
   split at hs
   ·rename_i hc
    simp only [Nat.mul_one, Option.some.injEq, Prod.mk.injEq] at hs
    refine .inr (.inr ⟨a, n, tot, o, rfl, ho, hc.1, hc.2.1, by simpa using hc.2.2, hs.2, fun j hj => ?_⟩)
    rw [← hs.1, List.getElem?_take, if_pos hj, List.getElem?_drop]
   ·cases hs
  ·cases hs
 ·cases hs
@[simp] theorem flatO_ints (n k : Nat) (xs : List Int) : flatO n ⟨k, ints xs⟩ := by
 intro r hr
 simp only [orefs, ints, List.flatMap_map, List.mem_flatMap] at hr
 obtain ⟨x, _, hx⟩ := hr
 simp [crefs, arefs] at hx
@[simp] theorem ints_all (xs : List Int) : (ints xs).all (fun v => !isJunk v) = true := by simp [ints]
theorem splice_ints {xs : List Int} {j : Nat} {v : Int} (hj : j < xs.length) : splice j [.int .i64 v] (ints xs) = ints (xs.set j v) := by
 rw [← ints_set]
 unfold splice
 rw [List.set_eq_take_append_cons_drop, if_pos (by simpa using hj)]
 simp
theorem take1_ints {xs : List Int} {j : Nat} (hj : j < xs.length) : List.take 1 (List.drop j (ints xs)) = [.int .i64 xs[j]] := by
 rw [List.drop_eq_getElem_cons (by simpa using hj)]
 simp [ints]
@[simp] theorem ints_rep (n : Nat) (x : Int) : List.replicate n (Value.int .i64 x) = ints (List.replicate n x) := by simp [ints]
@[simp] theorem ints_rep' (n : Nat) (x : Int) : (List.replicate n [Value.int .i64 x]).flatten = ints (List.replicate n x) := by
 induction n with
 | zero => rfl
 | succ n ih => simp only [List.replicate_succ, List.flatten_cons, ih, ints_cons]; rfl
attribute [simp] Nat.add_one_le_iff
section
variable {h : VH} {v : Value} {cs : List Value}
theorem Sl.app (hs : Sl h v cs) (L : VH) : Sl (h ++ L) v cs := by
 unfold Sl at hs ⊢
 unfold vsrc at hs ⊢
 split at hs
 ·exact hs
 ·exact hs
 ·rename_i a n tot
  split at hs
  ·rename_i o ho
   have : (h ++ L)[a.block]? = some o := by rw [List.getElem?_append_left (List.getElem?_eq_some_iff.mp ho).1]; exact ho
   simp only [this]
   exact hs
  ·cases hs
 ·cases hs
theorem Sl.old (hs : Sl h v cs) : Old h.length v := by
 rcases hs.inv with ⟨rfl, _⟩ | ⟨rfl, _⟩ | ⟨a, n, tot, o, rfl, ho, _⟩
 ·simp
 ·simp
 ·rw [old_sl]; exact (List.getElem?_eq_some_iff.mp ho).1
theorem Sl.vlen (hs : Sl h v cs) : vlen h v = some (.int .i64 cs.length, h) := by
 rcases hs.inv with ⟨rfl, rfl⟩ | ⟨rfl, rfl⟩ | ⟨a, n, tot, o, rfl, ho, _, ht, _, hn, _⟩
 ·rfl
 ·rfl
 ·simp [ho, ht, hn]
theorem Sl.vidx (hs : Sl h v cs) {k : IntKind} {j : Int} (h0 : 0 ≤ j) (hj : j < cs.length) : vidx 1 h v (.int k j) = some (vptr v j.toNat, h) := by
 rcases hs.inv with ⟨rfl, rfl⟩ | ⟨rfl, rfl⟩ | ⟨a, n, tot, o, rfl, ho, hz, ht, _, hn, _⟩
 ·simp at hj; omega
 ·simp at hj; omega
 ·simp only [vidx_ref, ho, hz, ht, vptr, Nat.mul_one]
  rw [if_pos ⟨trivial, trivial, h0, by omega⟩]
theorem Sl.vload (hs : Sl h v cs) {j : Nat} (hj : j < cs.length) : vload false 1 h (vptr v j) = some cs[j] := by
 rcases hs.inv with ⟨rfl, rfl⟩ | ⟨rfl, rfl⟩ | ⟨a, n, tot, o, rfl, ho, hz, ht, hle, hn, hg⟩
 ·simp at hj
 ·simp at hj
 ·have h1 := hg j (by omega)
  rw [List.getElem?_eq_getElem hj] at h1
  have h2 : a.off + j < o.cells.length := by omega
  have h3 : (o.cells.drop (a.off + j)).take 1 = [cs[j]] := by
   rw [List.getElem?_eq_getElem h2, Option.some.injEq] at h1
   rw [List.drop_eq_getElem_cons h2, h1]
   rfl
  simp only [vptr, Zv.vload, vget, ho]
  rw [if_pos ⟨by simp [ht], by omega⟩, h3]
  rfl
theorem Sl.vlive (hs : Sl h v cs) {j : Nat} (hj : j < cs.length) : ∃ a, vptr v j = .pointer (some a) ∧ vlive h a = true := by
 rcases hs.inv with ⟨rfl, rfl⟩ | ⟨rfl, rfl⟩ | ⟨a, n, tot, o, rfl, ho, hz, ht, hle, hn, hg⟩
 ·simp at hj
 ·simp at hj
 ·exact ⟨_, rfl, by simp [ho, ht]⟩
variable {L : VH}
theorem Sl.vlen' (hs : Sl h v cs) : Zv.vlen (h ++ L) v = some (.int .i64 cs.length, h ++ L) := (hs.app _).vlen
theorem Sl.vidx' (hs : Sl h v cs) {k : IntKind} {j : Int} (h0 : 0 ≤ j) (hj : j < cs.length) : Zv.vidx 1 (h ++ L) v (.int k j) = some (vptr v j.toNat, h ++ L) := (hs.app _).vidx h0 hj
theorem Sl.vload' (hs : Sl h v cs) {j : Nat} (hj : j < cs.length) : Zv.vload false 1 (h ++ L) (vptr v j) = some cs[j] := (hs.app _).vload hj
end
def Sli (h : VH) (v : Value) (xs : List Int) : Prop := Sl h v (ints xs)
section
variable {h : VH} {v : Value} {xs : List Int}
theorem Sli.app (hs : Sli h v xs) (L : VH) : Sli (h ++ L) v xs := Sl.app hs L
theorem Sli.old (hs : Sli h v xs) : Old h.length v := Sl.old hs
theorem Sli.oldk (hs : Sli h v xs) {k : Nat} : Old (h.length + k) v := hs.old.le (Nat.le_add_right _ _)
theorem Sli.vlen (hs : Sli h v xs) : Zv.vlen h v = some (.int .i64 xs.length, h) := by rw [Sl.vlen hs, ints_length]
theorem Sli.vidx (hs : Sli h v xs) {k : IntKind} {j : Int} (h0 : 0 ≤ j) (hj : j < xs.length) : Zv.vidx 1 h v (.int k j) = some (vptr v j.toNat, h) := Sl.vidx hs h0 (by rw [ints_length]; exact hj)
theorem Sli.vload (hs : Sli h v xs) {j : Nat} (hj : j < xs.length) : Zv.vload false 1 h (vptr v j) = some (.int .i64 xs[j]) := by
 rw [Sl.vload hs (by rw [ints_length]; exact hj)]
 simp [ints]
variable {L : VH}
theorem Sli.vlen' (hs : Sli h v xs) : Zv.vlen (h ++ L) v = some (.int .i64 xs.length, h ++ L) := (hs.app _).vlen
theorem Sli.vidx' (hs : Sli h v xs) {k : IntKind} {j : Int} (h0 : 0 ≤ j) (hj : j < xs.length) : Zv.vidx 1 (h ++ L) v (.int k j) = some (vptr v j.toNat, h ++ L) := (hs.app _).vidx h0 hj
theorem Sli.vload' (hs : Sli h v xs) {j : Nat} (hj : j < xs.length) : Zv.vload false 1 (h ++ L) (vptr v j) = some (.int .i64 xs[j]) := (hs.app _).vload hj
end
def unint : Value → Int
 | .int _ n => n
 | _ => 0
def unints (cs : List Value) : List Int := cs.map unint
def isI64 : Value → Bool
 | .int .i64 _ => true
 | _ => false
@[simp] theorem unints_ints (xs : List Int) : unints (ints xs) = xs := by simp [unints, ints, unint, Function.comp_def]
@[simp] theorem all_ints (xs : List Int) : (ints xs).all isI64 = true := by simp [ints, isI64]
@[simp] theorem take_ints (xs : List Int) : List.take xs.length (ints xs) = ints xs := List.take_of_length_le (by simp)
theorem ints_unints {cs : List Value} (h : cs.all isI64 = true) : ints (unints cs) = cs := by
 unfold ints unints
 rw [List.map_map]
 have : ∀ v ∈ cs, (Value.int .i64 ∘ unint) v = v := by
  intro v hv
  have := List.all_eq_true.mp h v hv
  unfold isI64 at this
  split at this
  ·rfl
  ·cases this
 exact (List.map_congr_left this).trans (by simp)
def rd (h : VH) (v : Value) : List Int := match vsrc 1 h v with
 | some (cs, _) => unints cs
 | none => []
def isSli (h : VH) (v : Value) : Prop := match vsrc 1 h v with
 | some (cs, n) => cs.length = n ∧ cs.all isI64 = true
 | none => False
theorem isSli.sli {h : VH} {v : Value} (hs : isSli h v) : Sli h v (rd h v) := by
 unfold isSli at hs
 unfold Sli Sl rd
 split at hs
 ·rename_i cs n hv
  rw [hv]
  simp only [ints_unints hs.2, hs.1]
 ·exact hs.elim
theorem Sli.rd {h : VH} {v : Value} {xs : List Int} (hs : Sli h v xs) : rd h v = xs := by
 unfold Sli Sl at hs
 unfold Zv.rd
 rw [hs]
 exact unints_ints xs
theorem Sli.is {h : VH} {v : Value} {xs : List Int} (hs : Sli h v xs) : isSli h v := by
 unfold Sli Sl at hs
 unfold isSli
 rw [hs]
 simp
theorem Sli.rd' {h L : VH} {v : Value} {xs : List Int} (hs : Sli h v xs) : Zv.rd (h ++ L) v = xs := (hs.app L).rd
theorem Sli.is' {h L : VH} {v : Value} {xs : List Int} (hs : Sli h v xs) : isSli (h ++ L) v := (hs.app L).is
@[simp] theorem rd_nil (h : VH) : rd h (.slice none 0 0) = [] := by simp [rd, unints]
@[simp] theorem isSli_nil (h : VH) : isSli h (.slice none 0 0) := ⟨rfl, rfl⟩
@[simp] theorem rd_ref (h : VH) (a : Addr) (n tot : Nat) : rd h (.slice (some a) n tot) = match h[a.block]? with
  | some o => if o.sz = 1 ∧ tot = o.cells.length ∧ a.off + n ≤ tot then unints ((o.cells.drop a.off).take n) else []
  | none => [] := by
 unfold rd
 rw [vsrc_ref]
 cases h[a.block]? with
 | none => rfl
 | some o =>
  simp only [Nat.mul_one]
  by_cases hc : o.sz = 1 ∧ tot = o.cells.length ∧ a.off + n ≤ tot
  ·rw [if_pos hc, if_pos hc]
  ·rw [if_neg hc, if_neg hc]
@[simp] theorem isSli_ref (h : VH) (a : Addr) (n tot : Nat) : isSli h (.slice (some a) n tot) ↔ match h[a.block]? with
  | some o => o.sz = 1 ∧ tot = o.cells.length ∧ a.off + n ≤ tot ∧ ((o.cells.drop a.off).take n).all isI64 = true
  | none => False := by
 unfold isSli
 rw [vsrc_ref]
 cases h[a.block]? with
 | none => exact Iff.rfl
 | some o =>
  simp only [Nat.mul_one]
  by_cases hc : o.sz = 1 ∧ tot = o.cells.length ∧ a.off + n ≤ tot
  ·have : ((o.cells.drop a.off).take n).length = n := by simp; omega
   rw [if_pos hc]
   simp [hc, this]
   intro _
   omega
  ·rw [if_neg hc]
   constructor
   ·exact False.elim
   ·rintro ⟨h1, h2, h3, _⟩; exact hc ⟨h1, h2, h3⟩
end

/- At a function's end: one fresh object is handed out. -/
section
open Go
theorem cleanup_one {h L : VH} {v : Value} {k : Nat} {o : VO} (hv : trefs v = [h.length + k]) (hk : L[k]? = some o) (hf : flatO h.length o) :
  kclean h [v] (h ++ L) = ([tren (renOf h.length [h.length + k]) v], h ++ [o]) := by
 have e : keepL h.length [v] = [h.length + k] := by
  unfold keepL
  simp [hv, dedup]
 have hg : (h ++ L)[h.length + k]? = some o := by rw [hgetk]; exact hk
 rw [cleanup_keep e fun i hi => ⟨o, ?_, hf⟩]
 ·simp [hk]
 ·simp only [List.mem_singleton] at hi
  rw [hi]
  exact hg
theorem renOf_one (n k : Nat) : renOf n [n + k] (n + k) = n := by simp [renOf]; omega
theorem renOf_one0 (n : Nat) : renOf n [n] n = n := by simp [renOf]
@[simp] theorem clean_slk (h L : VH) (k : Nat) (off n t : Nat) (hk : k < L.length) (hf : flatO h.length (L.getD k ⟨0, []⟩)) :
  kclean h [.slice (some ⟨h.length + k, off, none⟩) n t] (h ++ L) = ([.slice (some ⟨h.length, off, none⟩) n t], h ++ [L.getD k ⟨0, []⟩]) := by
 rw [cleanup_one (k := k) (o := L.getD k ⟨0, []⟩) (by simp [trefs, vrefs, crefs, arefs]) (by simp [List.getD_eq_getElem?_getD, hk]) hf]
 simp [tren, vren, cren, aren, renOf_one]
@[simp] theorem clean_sl0 (h L : VH) (off n t : Nat) (o : VO) (hf : flatO h.length o) :
  kclean h [.slice (some ⟨h.length, off, none⟩) n t] (h ++ o :: L) = ([.slice (some ⟨h.length, off, none⟩) n t], h ++ [o]) := by
 rw [cleanup_one (k := 0) (o := o) (by simp [trefs, vrefs, crefs, arefs]) (by simp) hf]
 simp [tren, vren, cren, aren, renOf_one0]
@[simp] theorem clean_aggk (h L : VH) (k : Nat) (off n t : Nat) (k1 : IntKind) (x : Int) (hk : k < L.length) (hf : flatO h.length (L.getD k ⟨0, []⟩)) :
  kclean h [.agg #[.int k1 x, .slice (some ⟨h.length + k, off, none⟩) n t]] (h ++ L) = ([.agg #[.int k1 x, .slice (some ⟨h.length, off, none⟩) n t]], h ++ [L.getD k ⟨0, []⟩]) := by
 rw [cleanup_one (k := k) (o := L.getD k ⟨0, []⟩) (by simp [trefs, vrefs, crefs, arefs]) (by simp [List.getD_eq_getElem?_getD, hk]) hf]
 simp [tren, vren, cren, aren, renOf_one]
@[simp] theorem clean_agg0 (h L : VH) (off n t : Nat) (k1 : IntKind) (x : Int) (o : VO) (hf : flatO h.length o) :
  kclean h [.agg #[.int k1 x, .slice (some ⟨h.length, off, none⟩) n t]] (h ++ o :: L) = ([.agg #[.int k1 x, .slice (some ⟨h.length, off, none⟩) n t]], h ++ [o]) := by
 rw [cleanup_one (k := 0) (o := o) (by simp [trefs, vrefs, crefs, arefs]) (by simp) hf]
 simp [tren, vren, cren, aren, renOf_one0]
@[simp] theorem clean_taggk (h L : VH) (k : Nat) (off n t : Nat) (k1 : IntKind) (x : Int) (k2 : IntKind) (y : Int) (hk : k < L.length) (hf : flatO h.length (L.getD k ⟨0, []⟩)) :
  kclean h [.tuple #[.agg #[.int k1 x, .slice (some ⟨h.length + k, off, none⟩) n t], .int k2 y]] (h ++ L) = ([.tuple #[.agg #[.int k1 x, .slice (some ⟨h.length, off, none⟩) n t], .int k2 y]], h ++ [L.getD k ⟨0, []⟩]) := by
 rw [cleanup_one (k := k) (o := L.getD k ⟨0, []⟩) (by simp [trefs, vrefs, crefs, arefs]) (by simp [List.getD_eq_getElem?_getD, hk]) hf]
 simp [tren, vren, cren, aren, renOf_one]
@[simp] theorem clean_tagg0 (h L : VH) (off n t : Nat) (k1 : IntKind) (x : Int) (k2 : IntKind) (y : Int) (o : VO) (hf : flatO h.length o) :
  kclean h [.tuple #[.agg #[.int k1 x, .slice (some ⟨h.length, off, none⟩) n t], .int k2 y]] (h ++ o :: L) = ([.tuple #[.agg #[.int k1 x, .slice (some ⟨h.length, off, none⟩) n t], .int k2 y]], h ++ [o]) := by
 rw [cleanup_one (k := 0) (o := o) (by simp [trefs, vrefs, crefs, arefs]) (by simp) hf]
 simp [tren, vren, cren, aren, renOf_one0]
@[simp] theorem clean_tslk (h L : VH) (k : Nat) (off n t : Nat) (k2 : IntKind) (y : Int) (hk : k < L.length) (hf : flatO h.length (L.getD k ⟨0, []⟩)) :
  kclean h [.tuple #[.slice (some ⟨h.length + k, off, none⟩) n t, .int k2 y]] (h ++ L) = ([.tuple #[.slice (some ⟨h.length, off, none⟩) n t, .int k2 y]], h ++ [L.getD k ⟨0, []⟩]) := by
 rw [cleanup_one (k := k) (o := L.getD k ⟨0, []⟩) (by simp [trefs, vrefs, crefs, arefs]) (by simp [List.getD_eq_getElem?_getD, hk]) hf]
 simp [tren, vren, cren, aren, renOf_one]
@[simp] theorem clean_tsl0 (h L : VH) (off n t : Nat) (k2 : IntKind) (y : Int) (o : VO) (hf : flatO h.length o) :
  kclean h [.tuple #[.slice (some ⟨h.length, off, none⟩) n t, .int k2 y]] (h ++ o :: L) = ([.tuple #[.slice (some ⟨h.length, off, none⟩) n t, .int k2 y]], h ++ [o]) := by
 rw [cleanup_one (k := 0) (o := o) (by simp [trefs, vrefs, crefs, arefs]) (by simp) hf]
 simp [tren, vren, cren, aren, renOf_one0]
@[simp] theorem clean_tslbk (h L : VH) (k : Nat) (off n t : Nat) (y2 : Bool) (hk : k < L.length) (hf : flatO h.length (L.getD k ⟨0, []⟩)) :
  kclean h [.tuple #[.slice (some ⟨h.length + k, off, none⟩) n t, .bool y2]] (h ++ L) = ([.tuple #[.slice (some ⟨h.length, off, none⟩) n t, .bool y2]], h ++ [L.getD k ⟨0, []⟩]) := by
 rw [cleanup_one (k := k) (o := L.getD k ⟨0, []⟩) (by simp [trefs, vrefs, crefs, arefs]) (by simp [List.getD_eq_getElem?_getD, hk]) hf]
 simp [tren, vren, cren, aren, renOf_one]
@[simp] theorem clean_tslb0 (h L : VH) (off n t : Nat) (y2 : Bool) (o : VO) (hf : flatO h.length o) :
  kclean h [.tuple #[.slice (some ⟨h.length, off, none⟩) n t, .bool y2]] (h ++ o :: L) = ([.tuple #[.slice (some ⟨h.length, off, none⟩) n t, .bool y2]], h ++ [o]) := by
 rw [cleanup_one (k := 0) (o := o) (by simp [trefs, vrefs, crefs, arefs]) (by simp) hf]
 simp [tren, vren, cren, aren, renOf_one0]
@[simp] theorem clean_taggbk (h L : VH) (k : Nat) (off n t : Nat) (k1 : IntKind) (x : Int) (y2 : Bool) (hk : k < L.length) (hf : flatO h.length (L.getD k ⟨0, []⟩)) :
  kclean h [.tuple #[.agg #[.int k1 x, .slice (some ⟨h.length + k, off, none⟩) n t], .bool y2]] (h ++ L) = ([.tuple #[.agg #[.int k1 x, .slice (some ⟨h.length, off, none⟩) n t], .bool y2]], h ++ [L.getD k ⟨0, []⟩]) := by
 rw [cleanup_one (k := k) (o := L.getD k ⟨0, []⟩) (by simp [trefs, vrefs, crefs, arefs]) (by simp [List.getD_eq_getElem?_getD, hk]) hf]
 simp [tren, vren, cren, aren, renOf_one]
@[simp] theorem clean_taggb0 (h L : VH) (off n t : Nat) (k1 : IntKind) (x : Int) (y2 : Bool) (o : VO) (hf : flatO h.length o) :
  kclean h [.tuple #[.agg #[.int k1 x, .slice (some ⟨h.length, off, none⟩) n t], .bool y2]] (h ++ o :: L) = ([.tuple #[.agg #[.int k1 x, .slice (some ⟨h.length, off, none⟩) n t], .bool y2]], h ++ [o]) := by
 rw [cleanup_one (k := 0) (o := o) (by simp [trefs, vrefs, crefs, arefs]) (by simp) hf]
 simp [tren, vren, cren, aren, renOf_one0]
@[simp] theorem old_agg2 (n : Nat) (k : IntKind) (x : Int) (s : Value) (hs : isAtom s = true) : Old n (.agg #[.int k x, s]) ↔ Old n s := by
 unfold Old trefs vrefs
 cases s <;> simp_all [crefs, arefs, isAtom]
def Upd (h h' : VH) : Prop := h'.length = h.length ∧ okT h.length h h'
theorem Upd.rfl' (h : VH) : Upd h h := ⟨rfl, fun _ _ ho => .inl ho⟩
theorem Upd.set' {h h' : VH} (hu : Upd h h') {b : Nat} {o : VO} (ho : flatO h.length o) : Upd h (h'.set b o) := by
 refine ⟨by rw [List.length_set]; exact hu.1, fun i p hp => ?_⟩
 rw [List.getElem?_set] at hp
 split at hp
 ·split at hp
  ·cases hp; exact .inr ho
  ·cases hp
 ·exact hu.2 i p hp
@[simp] theorem upd_rfl (h : VH) : Upd h h := Upd.rfl' h
@[simp] theorem upd_set (h : VH) (b k : Nat) (xs : List Int) : Upd h (h.set b ⟨k, ints xs⟩) := (Upd.rfl' h).set' (flatO_ints _ _ _)
theorem cleanup_upd {h h' L : VH} {vs : List Value} (hu : Upd h h') (hv : ∀ v ∈ vs, Old h.length v) : kclean h vs (h' ++ L) = (vs, h') := by
 have htake : (h' ++ L).take h.length = h' := by rw [← hu.1]; simp
 have hc : okT h.length h ((h' ++ L).take h.length) ∧ flatL h.length [] (h' ++ L) := by
  refine ⟨?_, fun i hi => by cases hi⟩
  rw [htake]
  exact hu.2
 unfold kclean cleanup
 rw [keepL_nil hv, if_pos hc, htake]
 simp only [List.filterMap_nil, List.append_nil, Prod.mk.injEq, and_true]
 have : ∀ v ∈ vs, tren (renOf h.length []) v = v := fun v h => tren_old (hv v h) fun i hi => by simp only [renOf, if_pos hi]
 exact (List.map_congr_left this).trans (by simp)
@[simp] theorem cleanup_set {h L : VH} {b k : Nat} {xs : List Int} {vs : List Value} (hv : ∀ v ∈ vs, Old h.length v) : kclean h vs (h.set b ⟨k, ints xs⟩ ++ L) = (vs, h.set b ⟨k, ints xs⟩) := cleanup_upd (upd_set h b k xs) hv
@[simp] theorem cleanup_set0 {h : VH} {b k : Nat} {xs : List Int} {vs : List Value} (hv : ∀ v ∈ vs, Old h.length v) : kclean h vs (h.set b ⟨k, ints xs⟩) = (vs, h.set b ⟨k, ints xs⟩) := by
 have := cleanup_set (h := h) (L := []) (b := b) (k := k) (xs := xs) hv
 simpa using this
theorem hget_old {h : VH} {b : Nat} {o : VO} (hb : h[b]? = some o) (L : VH) : (h ++ L)[b]? = some o := by
 rw [List.getElem?_append_left (List.getElem?_eq_some_iff.mp hb).1]; exact hb
theorem hset_self {h : VH} {b : Nat} {o : VO} (hb : h[b]? = some o) : h.set b o = h := by
 obtain ⟨h1, h2⟩ := List.getElem?_eq_some_iff.mp hb
 rw [← h2]; exact List.set_getElem_self h1
@[simp] theorem flatO_nil (n k : Nat) : flatO n ⟨k, []⟩ := fun r hr => by simp [orefs] at hr
@[simp] theorem flatO_cons (n k : Nat) (v : Value) (cs : List Value) : flatO n ⟨k, v :: cs⟩ ↔ OldC n v ∧ flatO n ⟨k, cs⟩ := by
 unfold flatO OldC orefs
 simp only [List.flatMap_cons, List.mem_append]
 exact ⟨fun h => ⟨fun r hr => h r (.inl hr), fun r hr => h r (.inr hr)⟩, fun h r hr => hr.elim (h.1 r) (h.2 r)⟩
@[simp] theorem oldC_int (n : Nat) (k : IntKind) (i : Int) : OldC n (.int k i) := fun r hr => by simp [crefs, arefs] at hr
@[simp] theorem oldC_bool (n : Nat) (b : Bool) : OldC n (.bool b) := fun r hr => by simp [crefs, arefs] at hr
@[simp] theorem oldC_str (n : Nat) (b : ByteArray) : OldC n (.string b) := fun r hr => by simp [crefs, arefs] at hr
@[simp] theorem oldC_slN (n a b : Nat) : OldC n (.slice none a b) := fun r hr => by simp [crefs, arefs] at hr
@[simp] theorem oldC_ptrN (n : Nat) : OldC n (.pointer none) := fun r hr => by simp [crefs, arefs] at hr
@[simp] theorem oldC_nilF (n : Nat) : OldC n .nilFunc := fun r hr => by simp [crefs, arefs] at hr
@[simp] theorem oldC_sl (n : Nat) (a : Addr) (k t : Nat) : OldC n (.slice (some a) k t) ↔ a.block < n := by simp [OldC, crefs, arefs]
@[simp] theorem oldC_ptr (n : Nat) (a : Addr) : OldC n (.pointer (some a)) ↔ a.block < n := by simp [OldC, crefs, arefs]
theorem OldC.le {n m : Nat} {v : Value} (h : OldC n v) (hm : n ≤ m) : OldC m v := fun r hr => Nat.lt_of_lt_of_le (h r hr) hm
theorem Sl.oldC {h : VH} {v : Value} {cs : List Value} (hs : Sl h v cs) : OldC h.length v := by
 rcases hs.inv with ⟨rfl, _⟩ | ⟨rfl, _⟩ | ⟨a, n, tot, o, rfl, ho, _⟩
 ·simp
 ·simp
 ·rw [oldC_sl]; exact (List.getElem?_eq_some_iff.mp ho).1
theorem Sli.oldCk {h : VH} {v : Value} {xs : List Int} (hs : Sli h v xs) {k : Nat} : OldC (h.length + k) v := (Sl.oldC hs).le (Nat.le_add_right _ _)
@[simp] theorem old_tagg_nil (n : Nat) (k k2 : IntKind) (x y : Int) (a b : Nat) : Old n (.tuple #[.agg #[.int k x, .slice none a b], .int k2 y]) := by
 intro r hr
 simp [trefs, vrefs, crefs, arefs] at hr
@[simp] theorem old_agg_nil (n : Nat) (k : IntKind) (x : Int) (a b : Nat) : Old n (.agg #[.int k x, .slice none a b]) := by
 intro r hr
 simp [trefs, vrefs, crefs, arefs] at hr
@[simp] theorem old_tsl_nil (n : Nat) (k : IntKind) (x : Int) (a b : Nat) : Old n (.tuple #[.slice none a b, .int k x]) := by
 intro r hr
 simp [trefs, vrefs, crefs, arefs] at hr
@[simp] theorem old_tup2 (k : Nat) (a b : Value) (ha : ∀ vs, a ≠ .tuple vs) (hb : ∀ vs, b ≠ .tuple vs) : Old k (.tuple #[a, b]) ↔ Old k a ∧ Old k b := by
 have e : ∀ v : Value, (∀ vs, v ≠ .tuple vs) → trefs v = vrefs v := by
  intro v hv
  unfold trefs
  split
  ·exact absurd rfl (hv _)
  ·rfl
 unfold Old
 rw [e a ha, e b hb]
 simp only [trefs, List.flatMap_cons, List.flatMap_nil, List.append_nil, List.mem_append]
 exact ⟨fun h => ⟨fun r hr => h r (.inl hr), fun r hr => h r (.inr hr)⟩, fun h r hr => hr.elim (h.1 r) (h.2 r)⟩
end

/- A row's arguments: what they are to the virtual interpreter; and a law that it tells true. -/
section
open Go Go.ChangeShapes Go.WideShapes Go.ChangeAt Go.RowKit
def IsRow (k : IntKind) (w : World) (a : Option Addr) (len cap : Nat) (zs : List Int) : Prop :=
 (a = none ∧ len = 0 ∧ cap = 0 ∧ zs = []) ∨
 ∃ x, a = some x ∧ len ≤ cap ∧ cap ≤ maxLen ∧ zs.length = cap ∧ (∀ i, i < zs.length → w.cell? (x.add i) = some (.int k (zs.getD i 0))) ∧ ∀ n ∈ zs, (Lit.int k n).wf = true
theorem IsRow.of {H : Type} {enc : TypeId × Value → H} {P : Program} {W : World} {held : Bool} {t e : TypeId} {k : IntKind} {fuel : Nat} {v : Value} {x : DataW H × List MemPlace} (ht : P.underlying t = some (.slice e)) (he : P.underlying e = some (.int k)) (hc : P.cellsOf e = 1)
  (h : DataW.trod enc P W 0 (fun _ => true) held fuel t [v] = some x) : ∃ a len cap zs, v = .slice a len cap ∧ IsRow k W a len cap zs := by
 rcases open_ints ht he hc h with ⟨hcs, _⟩ | ⟨x, l, c, zs, hcs, _, hl, hm, hz, _, hcell, hwz⟩
 ·simp at hcs
  exact ⟨none, 0, 0, [], hcs, .inl ⟨rfl, rfl, rfl, rfl⟩⟩
 ·simp at hcs
  exact ⟨some x, l, c, zs, hcs, .inr ⟨x, rfl, hl, hm, by simpa using hz, hcell, hwz⟩⟩
def RA (φ : Em) (h : VH) (W : World) : Prop := RH h.length φ (VH.ph h) W
theorem RA.nil (W : World) (hg : ∀ b C, globTab b = some C → ∃ ty fz, W.heap[b]? = some (.cells C ty fz)) : RA (fun _ => ⟨0, 0, 0⟩) [] W :=
 ⟨fun i o h => by simp [VH.ph] at h, fun i j h => by simp [VH.ph] at h, fun b C hb => ⟨hg b C hb, fun i h => by simp [VH.ph] at h⟩⟩
theorem Grow.refl (φ : Em) (L : PH) : Grow φ L φ L := fun _ o h => ⟨o, h, rfl, Nat.le_refl _, fun _ => rfl⟩
theorem RA.slice {k : IntKind} {φ : Em} {h : VH} {W : World} {a : Option Addr} {len cap : Nat} {zs : List Int} (hR : RA φ h W) (hr : IsRow k W a len cap zs) :
  ∃ φ' L v, RA φ' (h ++ L) W ∧ Grow φ (VH.ph h) φ' (VH.ph (h ++ L)) ∧ AtomR φ' (VH.ph (h ++ L)) v (.slice a len cap) ∧ Sl (h ++ L) v ((zs.take len).map (.int k)) := by
 rcases hr with ⟨rfl, rfl, rfl, rfl⟩ | ⟨x, rfl, hl, hm, hz, hcell, hw⟩
 ·exact ⟨φ, [], .slice none 0 0, by simpa using hR, by simpa using Grow.refl _ _, .slN, rfl⟩
 ·by_cases h0 : len = 0
  ·subst h0
   exact ⟨φ, [], .slice none 0 1, by simpa using hR, by simpa using Grow.refl _ _, .slE x cap, by simp [Sl, vsrc]⟩
  ·have hlen : len ≤ zs.length := by omega
   have hspot : x.spot = none := by
    have := World.cell?_spot (hcell 0 (by omega))
    simpa [Addr.add] using this
   -- the cells lie in a block
   have hcl : ∀ j, j < zs.length → ∃ C ty fz, W.heap[x.block]? = some (.cells C ty fz) ∧ C[x.off + j]? = some (.int k (zs.getD j 0)) := by
    intro j hj
    have h1 := hcell j hj
    unfold World.cell? at h1
    have hb : (x.add j).block = x.block := by unfold Addr.add; split <;> rfl
    have ho : (x.add j).off = x.off + j := by
     unfold Addr.add
     split
     ·rename_i h; subst h; rfl
     ·rfl
    rw [hb] at h1
    split at h1
    ·rename_i C ty fz hC
     split at h1
     ·cases h1
     ·rw [ho] at h1
      exact ⟨C, ty, fz, hC, h1⟩
    ·cases h1
   let φ' : Em := fun i => if i = h.length then ⟨x.block, x.off, cap⟩ else φ i
   let ob : VO := ⟨1, (zs.take len).map (.int k)⟩
   have hlook : ∀ i o, VH.ph (h ++ [ob]) i = some o → (i < h.length ∧ VH.ph h i = some o) ∨ (i = h.length ∧ o = ob) := by
    intro i o hi
    simp only [VH.ph] at hi ⊢
    rcases Nat.lt_trichotomy i h.length with hlt | e | hgt
    ·left
     rw [List.getElem?_append_left hlt] at hi
     exact ⟨hlt, hi⟩
    ·right
     subst e
     rw [hget0] at hi
     simp at hi
     exact ⟨rfl, hi.symm⟩
    ·rw [List.getElem?_append_right (by omega)] at hi
     rw [List.getElem?_eq_none (by simp; omega)] at hi
     cases hi
   have hg : Grow φ (VH.ph h) φ' (VH.ph (h ++ [ob])) := by
    intro i o hi
    have hlt : i < h.length := (List.getElem?_eq_some_iff.mp hi).1
    refine ⟨o, ?_, rfl, Nat.le_refl _, fun _ => ?_⟩
    ·simp only [VH.ph] at hi ⊢
     rw [List.getElem?_append_left hlt]; exact hi
    ·simp only [φ']; rw [if_neg (by omega)]
   refine ⟨φ', [ob], .slice (some ⟨h.length, 0, none⟩) len len, ?_, hg, ?_, ?_⟩
   ·refine ⟨fun i o hi => ?_, fun i j hi _ hn => ?_, fun b C hb => ⟨(hR.glob b C hb).1, fun i hi hn => ?_⟩⟩
    ·rcases hlook i o hi with ⟨hlt, hi'⟩ | ⟨rfl, rfl⟩
     ·obtain ⟨C, ty, fz, h1, h2, _⟩ := hR.cells i o hi'
      have e : φ' i = φ i := by simp only [φ']; rw [if_neg (by omega)]
      rw [e]
      refine ⟨C, ty, fz, h1, fun j v hj => ?_, fun hn => by simp at hn; omega⟩
      obtain ⟨v', h3, h4⟩ := h2 j v hj
      exact ⟨v', h3, h4.grow hg⟩
     ·obtain ⟨C, ty, fz, h1, _⟩ := hcl 0 (by omega)
      have e : φ' h.length = ⟨x.block, x.off, cap⟩ := by simp [φ']
      rw [e]
      refine ⟨C, ty, fz, h1, fun j v hj => ?_, fun hn => by simp at hn⟩
      simp only [ob, List.getElem?_map] at hj
      have hjl : j < len := by
       rcases Nat.lt_or_ge j len with h' | h'
       ·exact h'
       ·rw [List.getElem?_eq_none (by simp; omega)] at hj; cases hj
      obtain ⟨C', ty', fz', h1', h2'⟩ := hcl j (by omega)
      rw [h1] at h1'
      simp only [Option.some.injEq, Obj.cells.injEq] at h1'
      obtain ⟨rfl, _, _⟩ := h1'
      refine ⟨_, h2', ?_⟩
      rw [List.getElem?_take, if_pos hjl, List.getElem?_eq_getElem (by omega)] at hj
      simp only [Option.map_some, Option.some.injEq] at hj
      subst hj
      rw [List.getD_eq_getElem?_getD, List.getElem?_eq_getElem (by omega)]
      exact .atom (.int _ _)
    ·exfalso
     have : i < (h ++ [ob]).length := by
      simp only [VH.ph] at hi
      rcases Nat.lt_or_ge i (h ++ [ob]).length with h' | h'
      ·exact h'
      ·rw [List.getElem?_eq_none h'] at hi; cases hi
     omega
    ·exfalso
     have : i < (h ++ [ob]).length := by
      simp only [VH.ph] at hi
      rcases Nat.lt_or_ge i (h ++ [ob]).length with h' | h'
      ·exact h'
      ·rw [List.getElem?_eq_none h'] at hi; cases hi
     omega
   ·have hL : VH.ph (h ++ [ob]) h.length = some ob := by simp [VH.ph]
    have e : φ' h.length = ⟨x.block, x.off, cap⟩ := by simp [φ']
    refine .sl (c := cap) hL (by simp [ob]; omega) (by simp [ob]) (by simp [ob]) hl (by rw [e]; simp [ob]) (.inr ?_)
    rw [e]
    obtain ⟨b, off, sp⟩ := x
    simp at hspot ⊢
    exact hspot
   ·simp only [Sl, vsrc_ref, hget0, ob]
    have e : (List.map (Value.int k) (List.take len zs)).length = len := by simp; omega
    simp only [List.getElem?_cons_zero, e, Nat.zero_add, Nat.mul_one, List.drop_zero, Nat.le_refl, and_self, if_true]
    rw [List.take_of_length_le (by omega)]
theorem law_true {P : Program} {call : VCall} {f : Nat} {φ : Em} {h : VH} {W : World} {vs : List Value} {vs' : List Value} (hS : CallSound P h.length call) (hR : RA φ h W) (ha : All2 (TopR φ (VH.ph h)) vs vs') {h' : VH}
  (hc : call f vs h = some (.bool true, h')) : Calls P f vs'.toArray W fun e W' => e = .returned (.bool true) ∧ Below W.heap.size W W' := by
 obtain ⟨_, hcalls⟩ := hS f vs h _ _ hc φ W vs' (Nat.le_refl _) hR ha
 refine hcalls.mono fun e W' ⟨φ', v', he, _, hX, hv⟩ => ?_
 have hb := hv.inv_bool
 subst hb
 refine ⟨he, hX.rest.1, hX.rest.2.1, hX.rest.2.2, hX.size, fun b hb => hX.frame b hb fun i hi hn => ?_⟩
 exfalso
 simp only [VH.ph] at hi
 rw [List.getElem?_eq_none hn] at hi
 cases hi
end

/- A row's arguments, opened: graphs, lists, numbers, desks. -/
section
open Go Go.ChangeShapes Go.WideShapes Go.ChangeAt Go.RowKit
theorem IsRow.len {k : IntKind} {W : World} {a : Option Addr} {len cap : Nat} {zs : List Int} (h : IsRow k W a len cap zs) : (zs.take len).length ≤ 9223372036854775807 := by
 rcases h with ⟨_, _, _, rfl⟩ | ⟨x, _, hl, hm, hz, _⟩
 ·simp
 ·have : maxLen = 9223372036854775807 := rfl
  simp; omega
variable {H : Type} {enc : TypeId × Value → H} {P : Program} {W : World} {held : Bool}
theorem in_graph {t e : TypeId} {f0 f1 : Field} {base : Nat} {v : Value} {d : DataW H} {p : List MemPlace} (hs : P.underlying t = some (.struct #[f0, f1])) (hone : Deep.oneCellFields P #[f0, f1] = true) (hC : P.cellsOf t = 2)
  (h0 : P.underlying f0.type = some (.int .i64)) (h1 : P.underlying f1.type = some (.slice e)) (he : P.underlying e = some (.int .i64)) (hc : P.cellsOf e = 1) (hv : Value.okWide P W .any base t v) (h : DataW.Trod enc P W 0 (fun _ => true) held t v d p) :
  ∃ n a len cap zs, v = .agg #[.int .i64 n, .slice a len cap] ∧ IsRow .i64 W a len cap zs := by
 obtain ⟨c0, c1, y0, y1, m, rfl, rfl, rfl, t0, t1⟩ := Joins.open_agg2 hs hone hC hv h
 obtain ⟨a0, e0, _, _⟩ := DataW.trod_int h0 t0
 simp at e0
 subst e0
 obtain ⟨a1, l1, cp1, z1, rfl, w1⟩ := IsRow.of h1 he hc t1
 exact ⟨_, _, _, _, _, rfl, w1⟩
end

/- What all rows of the seat share: the functions' table, the library's table of bit numbers. -/
section
open Go Go.ChangeShapes Go.WideShapes Go.ChangeAt Go.RowKit
open Go.Proofs.YtbdlmjnpglfkoaaDoor
theorem own : ownKnob Tryd.prog.godebug = none := by kernel_rfl
theorem laidOut : laidOutB Tryd.prog = true := by kernel_rfl
theorem mixed : Tryd.prog.follows .mixedOrders = true := by kernel_rfl
theorem F_ir : ∀ f fn, F f = some (.ir fn) → EntOK Tryd.prog (compD Tryd.prog) f fn := by
 intro f fn hf
 unfold F at hf
 split at hf
 ·rename_i g hl
  simp only [Option.some.injEq, Ent.ir.injEq] at hf
  subst hf
  have hm : (f, g) ∈ tab := by
   have h2 : ∀ (l : List (Nat × FF)), l.lookup f = some g → (f, g) ∈ l := by
    intro l
    induction l with
    | nil => intro h; cases h
    | cons p l ih =>
     intro h
     obtain ⟨a, b⟩ := p
     simp only [List.lookup] at h
     split at h
     ·rename_i e
      have e2 : f = a := by simpa using e
      cases h
      rw [e2]
      exact .head _
     ·exact .tail _ (ih h)
   exact h2 tab hl
  exact tabOK (f, g) hm
 ·split at hf
  ·cases hf
  ·split at hf <;> cases hf
theorem F_ext : ∀ f g, F f = some (.ext g) → ∀ nro, ExtOK Tryd.prog nro f g := by
 intro f g hf nro
 unfold F at hf
 split at hf
 ·cases hf
 ·split at hf
  ·rename_i e
   cases hf
   subst e
   exact tz_ext nro
  ·split at hf
   ·rename_i e
    cases hf
    subst e
    exact grow_ext nro
   ·cases hf
theorem allSound (nro : Nat) : CallSound Tryd.prog nro (vcall F nro) := sound mixed F F_ir fun f g h => F_ext f g h nro
theorem tz_global : Tryd.prog.globalNamed "math/bits.deBruijn64tab" = some 0 := by kernel_rfl
theorem tz_type : (Tryd.prog.globals[0]?).map (·.type) = some 84 := by kernel_rfl
theorem tz_cellsT : Tryd.prog.cellsOf 84 = 64 := by kernel_rfl
theorem tz_cells1 : Tryd.prog.cellsOf 5 = 1 := by kernel_rfl
theorem int_of_trod {H : Type} {enc : TypeId × Value → H} {P : Program} {w : World} {base : Nat} {sp : Nat → Bool} {held : Bool} {fuel : Nat} {t : TypeId} {k : IntKind} {c : Value} {y : DataW H × List MemPlace}
  (ht : P.underlying t = some (.int k)) (h : DataW.trod enc P w base sp held fuel t [c] = some y) : ∃ n, c = .int k n ∧ y = (.lit (.int k n), []) := by
 cases fuel with
 | zero => simp [DataW.trod] at h
 | succ fuel =>
  cases c <;> simp [DataW.trod, ht] at h
  rename_i k' n
  obtain ⟨⟨rfl, _⟩, rfl⟩ := h
  exact ⟨n, rfl, rfl⟩
theorem tz_datum : Rows.laid_math_bits_deBruijn64tab (H := Unit) = .agg (tzTab.map fun n => .lit (.int .u8 n)) := by kernel_rfl
theorem read_cells (f : Nat → Option (DataW Unit × List MemPlace)) (l : List Value) (hf : ∀ i y, i < l.length → f i = some y → ∃ n, l[i]? = some (.int .u8 n) ∧ y.1 = .lit (.int .u8 n)) :
  ∀ (k s : Nat) xs, (List.range' s k).mapM f = some xs → s + k ≤ l.length → ∃ ns : List Int, (l.drop s).take k = ns.map (Value.int .u8) ∧ xs.map (fun x => x.1) = ns.map fun n => .lit (.int .u8 n)
 | 0, s, xs, h, _ => by
  simp at h
  subst h
  exact ⟨[], by simp, rfl⟩
 | k + 1, s, xs, h, hl => by
  rw [List.range'_succ] at h
  simp only [List.mapM_cons, Option.bind_eq_bind, Option.bind_eq_some_iff, Option.pure_def, Option.some.injEq] at h
  obtain ⟨y, hy, ys, hys, rfl⟩ := h
  obtain ⟨n, h1, h2⟩ := hf s y (by omega) hy
  obtain ⟨ns, h3, h4⟩ := read_cells f l hf k (s + 1) ys hys (by omega)
  refine ⟨n :: ns, ?_, ?_⟩
  ·have hs : s < l.length := by omega
   rw [List.getElem?_eq_getElem hs] at h1
   rw [List.drop_eq_getElem_cons hs, List.take_succ_cons, h3, Option.some.inj h1]
   rfl
  ·simp [h2, h4]
theorem cells_of_laid {W : World} (h : laidMet Tryd.prog [("math/bits.deBruijn64tab", Rows.laid_math_bits_deBruijn64tab)] W) : ∃ ty fz, W.heap[0]? = some (.cells tzCells ty fz) := by
 obtain ⟨ps, ⟨g, t, cs, fuel, p, q, hg, ht, hvar, hd, _, _⟩, _⟩ := h
 obtain rfl := Option.some.inj (tz_global.symm.trans hg)
 obtain rfl := Option.some.inj (tz_type.symm.trans ht)
 obtain ⟨l⟩ := cs
 rw [tz_datum] at hd
 have hl : l = tzTab.map (Value.int .u8) := by
  cases fuel with
  | zero => simp [DataW.trod] at hd
  | succ fuel =>
   simp only [DataW.trod, Tryd.underlying84, tz_cellsT, tz_cells1] at hd
   split at hd
   ·rename_i hlen
    rw [Option.map_eq_some_iff] at hd
    obtain ⟨xs, hm, hx⟩ := hd
    rw [List.range_eq_range'] at hm
    obtain ⟨ns, h1, h2⟩ := read_cells _ l (fun i y hi hy => by
     have e : List.take 1 (List.drop (i * 1) l) = [l[i]] := by rw [Nat.mul_one, List.drop_eq_getElem_cons hi]; rfl
     rw [e] at hy
     obtain ⟨n, h1, h2⟩ := int_of_trod Tryd.underlying5 hy
     exact ⟨n, by rw [List.getElem?_eq_getElem hi, h1], by rw [h2]⟩) 64 0 xs hm (by omega)
    rw [List.drop_zero, List.take_of_length_le (by omega)] at h1
    have h3 : xs.map (fun x => x.1) = tzTab.map fun n => (.lit (.int .u8 n) : DataW Unit) := by
     have := congrArg Prod.fst hx
     simpa using this
    rw [h2] at h3
    have h4 : ns = tzTab := List.map_inj_right (f := fun n => (.lit (.int .u8 n) : DataW Unit)) (fun a b h => by injection h with h; injection h) |>.mp h3
    rw [h1, h4]
   ·cases hd
 subst hl
 simp only [World.var?, tz_global, Option.bind_some] at hvar
 split at hvar
 ·rename_i c ty fz hc
  cases hvar
  exact ⟨_, _, hc⟩
 ·cases hvar
noncomputable def laidWorld (os : Os) : World :=
 { World.holding Tryd.prog os ⟨#[], #[], []⟩ with heap := (World.holding Tryd.prog os ⟨#[], #[], []⟩).heap.modify 0 fun
   | .cells _ t frozen => .cells tzCells t frozen
   | o => o }
theorem tz_read (w : World) : DataW.trod (fun _ => ()) Tryd.prog w 0 (fun _ => true) false 8 84 tzCells.toList = some (Rows.laid_math_bits_deBruijn64tab, []) := by kernel_rfl
theorem tz_nodup : (MemPlace.row ⟨0, 0, none⟩ tzCells.size ++ [] ++ []).Nodup := by decide +kernel
theorem tz_noface (w : World) (off : Nat) (u : TypeId) (v : Value) (h0 : w.heap[0]? = some (.cells tzCells 84 (0, 0))) (hc : w.cell? ⟨0, off, none⟩ = some (.iface u v)) : False := by
 by_cases ho : off < 64
 ·have := (tz_cell w _ _ h0 off ho).symm.trans hc
  injection this with h1
  cases h1
 ·have e : w.cell? ⟨0, off, none⟩ = tzCells[off]? := by
   unfold World.cell?
   rw [h0]
   rfl
  rw [e] at hc
  have hs : tzCells.size = 64 := by decide +kernel
  rw [Array.getElem?_eq_none (by omega)] at hc
  cases hc
set_option maxRecDepth 100000 in
theorem tz_laid (w : World) (h0 : w.heap[0]? = some (.cells tzCells 84 (0, 0))) : laidMet Tryd.prog [("math/bits.deBruijn64tab", Rows.laid_math_bits_deBruijn64tab)] w := by
 refine ⟨_, ⟨0, 84, tzCells, 8, [], [], tz_global, tz_type, ?_, tz_read w, rfl, rfl⟩, tz_nodup, fun b off h => ?_⟩
 ·simp only [World.var?, tz_global, Option.bind_some, h0]
 ·have hb : b = 0 := by
   rw [List.append_nil, List.append_nil] at h
   unfold MemPlace.row at h
   rw [List.mem_map] at h
   obtain ⟨i, _, hi⟩ := h
   injection hi with h1 h2
   exact h1.symm
  clear h
  subst hb
  refine ⟨⟨tzCells, 84, h0⟩, fun u v hc => ?_⟩
  exact (tz_noface w off u v h0 hc).elim
theorem tz_glob {W : World} (h : laidMet Tryd.prog [("math/bits.deBruijn64tab", Rows.laid_math_bits_deBruijn64tab)] W) : ∀ b C, globTab b = some C → ∃ ty fz, W.heap[b]? = some (.cells C ty fz) := by
 intro b C hb
 unfold globTab at hb
 split at hb
 ·cases hb
  exact cells_of_laid h
 ·cases hb
end

/- Loops that count up, told once. -/
section
open Go
def upF {α : Type} (f : Nat → α → α) (n i : Nat) (a : α) : α := if i < n then upF f n (i + 1) (f i a) else a
 termination_by n - i
theorem upF_end {α : Type} {f : Nat → α → α} {n i : Nat} {a : α} (h : ¬ i < n) : upF f n i a = a := by rw [upF, if_neg h]
theorem upF_step {α : Type} {f : Nat → α → α} {n i : Nat} {a : α} (h : i < n) : upF f n i a = upF f n (i + 1) (f i a) := by conv => lhs; rw [upF, if_pos h]
theorem upF_inv {α : Type} {f : Nat → α → α} {n : Nat} (I : Nat → α → Prop) (hs : ∀ i a, i < n → I i a → I (i + 1) (f i a)) (i : Nat) (a : α) (hi : i ≤ n) (h : I i a) : I n (upF f n i a) := by
  by_cases hlt : i < n
  · rw [upF_step hlt]
    exact upF_inv I hs (i + 1) (f i a) hlt (hs i a hlt h)
  · rw [upF_end hlt]
    have : i = n := by omega
    rw [← this]; exact h
 termination_by n - i
section
variable {call : VCall} {nro : Nat} {live : List Nat} {c : FC} {h0 : VH} {n : Nat}
theorem for_up {α : Type} (V : Nat → α → List Value) (H : Nat → α → VH) (f : Nat → α → α) (I : Nat → α → Prop) (R : α → Option (VX × FE × VH))
    (step : ∀ i a, i < n → (i : Int) < n → I i a → I (i + 1) (f i a) ∧ floop call nro live c h0 (V i a) (H i a) = floop call nro live c h0 (V (i + 1) (f i a)) (H (i + 1) (f i a)))
    (stop : ∀ a, I n a → floop call nro live c h0 (V n a) (H n a) = R a) (i : Nat) (a : α) (hi : i ≤ n) (h : I i a) :
    floop call nro live c h0 (V i a) (H i a) = R (upF f n i a) ∧ I n (upF f n i a) := by
  by_cases hlt : i < n
  · obtain ⟨h1, h2⟩ := step i a hlt (by omega) h
    rw [h2, upF_step hlt]
    exact for_up V H f I R step stop (i + 1) (f i a) hlt h1
  · have : i = n := by omega
    subst this
    rw [upF_end hlt]
    exact ⟨stop a h, h⟩
 termination_by n - i
open Classical in
theorem for_find (V : Nat → List Value) (h : VH) (bad : Nat → Prop) (r d : Option (VX × FE × VH))
    (step : ∀ i, i < n → (i : Int) < n → (bad i → floop call nro live c h0 (V i) h = r) ∧ (¬ bad i → floop call nro live c h0 (V i) h = floop call nro live c h0 (V (i + 1)) h))
    (stop : floop call nro live c h0 (V n) h = d) (i : Nat) (hi : i ≤ n) :
    floop call nro live c h0 (V i) h = if ∃ j, i ≤ j ∧ j < n ∧ bad j then r else d := by
  by_cases hlt : i < n
  · obtain ⟨h1, h2⟩ := step i hlt (by omega)
    by_cases hb : bad i
    · rw [h1 hb, if_pos ⟨i, Nat.le_refl _, hlt, hb⟩]
    · rw [h2 hb, for_find V h bad r d step stop (i + 1) hlt]
      have : (∃ j, i + 1 ≤ j ∧ j < n ∧ bad j) ↔ ∃ j, i ≤ j ∧ j < n ∧ bad j := by
        constructor
        · rintro ⟨j, h1, h2, h3⟩; exact ⟨j, by omega, h2, h3⟩
        · rintro ⟨j, h1, h2, h3⟩
          refine ⟨j, ?_, h2, h3⟩
          have : j ≠ i := fun e => hb (e ▸ h3)
          omega
      simp only [this]
  · have : i = n := by omega
    subst this
    rw [stop, if_neg]
    rintro ⟨j, h1, h2, _⟩
    omega
 termination_by n - i
theorem for_upR {α : Type} (V : Nat → α → List Value) (H : Nat → α → VH) (I : Nat → α → Prop) (R : α → Option (VX × FE × VH))
    (step : ∀ i a, i < n → (i : Int) < n → I i a → ∃ a', I (i + 1) a' ∧ floop call nro live c h0 (V i a) (H i a) = floop call nro live c h0 (V (i + 1) a') (H (i + 1) a'))
    (stop : ∀ a, I n a → floop call nro live c h0 (V n a) (H n a) = R a) (i : Nat) (a : α) (hi : i ≤ n) (h : I i a) :
    ∃ a', I n a' ∧ floop call nro live c h0 (V i a) (H i a) = R a' := by
  by_cases hlt : i < n
  · obtain ⟨a', h1, h2⟩ := step i a hlt (by omega) h
    rw [h2]
    exact for_upR V H I R step stop (i + 1) a' hlt h1
  · have : i = n := by omega
    subst this
    exact ⟨a, h, stop a h⟩
 termination_by n - i
end
end

end Go.Proofs.YtbdlmjnpglfkoaaDoor.Zv

