/- Part D of the proof: ZwIr, ZvSym, ZvNum, ZwTz, ZwGrow, ZvSl, ZvEnd. Conditions: none. -/
import Derived.IntWalk
import Derived.Laws.Pointers
import Derived.Lib.AppendZerosOnto
import Derived.Lib.Hide
import Derived.Lib.SliceRun
import Derived.Lib.Walk
import Derived.RegionTactic
import Derived.Shelf.RegionOpenPlain
import Derived.StillTactics
import Derived.Tactics
import Derived.Tactics2
import Derived.Test.YtbomdghbblakoaaGreatDoorProg
import Derived.Test.YtbomdghbblakoaaGreatDoorZpB
import Derived.Test.YtbomdghbblakoaaGreatDoorZpC
import Derived.WalkKit
set_option linter.unusedSimpArgs false
set_option linter.unusedVariables false
set_option linter.unusedSectionVars false
namespace Go.Proofs.YtbomdghbblakoaaGreatDoor.Zv
/- The functions' intermediate form. -/
section
open Go
/-- slices.partialInsertionSortOrdered[int64] -/
def i_zz1_B1:FC:=
 .seq (.seq (.dops [
 vM 17 7,
 vM 18 2,
 vO 19 (.bin .lss (vT 17) (vT 18)),
 vM 20 19,
 ⟨some 21,.mv (vT 0),some (20,true),0⟩,
 ⟨some 22,.mv (vT 7),some (20,true),0⟩,
 ⟨some 23,.idx 1 (vT 21) (vT 22),some (20,true),0⟩,
 ⟨some 24,.load false 1 (vT 23),some (20,true),0⟩,
 ⟨some 25,.mv (vT 0),some (20,true),0⟩,
 ⟨some 26,.mv (vT 7),some (20,true),0⟩,
 ⟨some 27,.bin .sub (vT 26) (vC 1),some (20,true),0⟩,
 ⟨some 28,.idx 1 (vT 25) (vT 27),some (20,true),0⟩,
 ⟨some 29,.load false 1 (vT 28),some (20,true),0⟩,
 ⟨some 30,.call k_zz71 [vT 24,vT 29],some (20,true),0⟩,
 ⟨some 31,.un .not (vT 30),some (20,true),0⟩,
 vO 32 (.pick (vT 20) (vT 31) (.const (.bool false)))])<|
 .cond (vT 32)
 (.skip)
 (.keep [0,1,2,7,8]<|
 .exit 2))<|
 .block 3<|
 .ops [
 vM 33 7,
 vO 34 (.bin .add (vT 33) (vC 1)),
 vM 7 34]
def i_zz1_B2:FC:=
 .seq (.seq (.ops [
 vM 64 9,
 vO 65 (.bin .geq (vT 64) (vC 1))])<|
 .cond (vT 65)
 (.skip)
 (.keep [0,1,2,7,8]<|
 .exit 4))<|
 .seq (.block 5<|
 .seq (.seq (.dops [
 vM 68 0,
 vM 69 9,
 vO 70 (.idx 1 (vT 68) (vT 69)),
 vO 71 (.load false 1 (vT 70)),
 vM 72 0,
 vM 73 9,
 vO 74 (.bin .sub (vT 73) (vC 1)),
 vO 75 (.idx 1 (vT 72) (vT 74)),
 vO 76 (.load false 1 (vT 75)),
 vO 77 (.call k_zz71 [vT 71,vT 76]),
 vO 78 (.un .not (vT 77))])<|
 .cond (vT 78)
 (.keep [0,1,2,7,8]<|
 .exit 4)
 (.skip))<|
 .dops [
 vM 79 0,
 vM 80 9,
 vM 84 0,
 vM 85 9,
 vO 86 (.bin .sub (vT 85) (vC 1)),
 vO 87 (.idx 1 (vT 84) (vT 86)),
 vO 88 (.load false 1 (vT 87)),
 vM 89 0,
 vM 90 9,
 vO 91 (.idx 1 (vT 89) (vT 90)),
 vO 92 (.load false 1 (vT 91)),
 vO 93 (.idx 1 (vT 79) (vT 80)),
 ⟨none,.store 1 (vT 93) (vT 88),none,0⟩,
 ⟨some 81,.mv (vT 0),none,1⟩,
 ⟨some 82,.mv (vT 9),none,1⟩,
 ⟨some 83,.bin .sub (vT 82) (vC 1),none,1⟩,
 vO 94 (.idx 1 (vT 81) (vT 83)),
 ⟨none,.store 1 (vT 94) (vT 92),none,0⟩])<|
 .ops [
 vM 66 9,
 vO 67 (.bin .sub (vT 66) (vC 1)),
 vM 9 67]
def i_zz1_B3:FC:=
 .seq (.seq (.ops [
 vM 101 10,
 vM 102 2,
 vO 103 (.bin .lss (vT 101) (vT 102))])<|
 .cond (vT 103)
 (.skip)
 (.keep [0,1,2,7,8]<|
 .exit 6))<|
 .seq (.block 7<|
 .seq (.seq (.dops [
 vM 106 0,
 vM 107 10,
 vO 108 (.idx 1 (vT 106) (vT 107)),
 vO 109 (.load false 1 (vT 108)),
 vM 110 0,
 vM 111 10,
 vO 112 (.bin .sub (vT 111) (vC 1)),
 vO 113 (.idx 1 (vT 110) (vT 112)),
 vO 114 (.load false 1 (vT 113)),
 vO 115 (.call k_zz71 [vT 109,vT 114]),
 vO 116 (.un .not (vT 115))])<|
 .cond (vT 116)
 (.keep [0,1,2,7,8]<|
 .exit 6)
 (.skip))<|
 .dops [
 vM 117 0,
 vM 118 10,
 vM 122 0,
 vM 123 10,
 vO 124 (.bin .sub (vT 123) (vC 1)),
 vO 125 (.idx 1 (vT 122) (vT 124)),
 vO 126 (.load false 1 (vT 125)),
 vM 127 0,
 vM 128 10,
 vO 129 (.idx 1 (vT 127) (vT 128)),
 vO 130 (.load false 1 (vT 129)),
 vO 131 (.idx 1 (vT 117) (vT 118)),
 ⟨none,.store 1 (vT 131) (vT 126),none,0⟩,
 ⟨some 119,.mv (vT 0),none,1⟩,
 ⟨some 120,.mv (vT 10),none,1⟩,
 ⟨some 121,.bin .sub (vT 120) (vC 1),none,1⟩,
 vO 132 (.idx 1 (vT 119) (vT 121)),
 ⟨none,.store 1 (vT 132) (vT 130),none,0⟩])<|
 .ops [
 vM 104 10,
 vO 105 (.bin .add (vT 104) (vC 1)),
 vM 10 105]
def i_zz1_B4:FC:=
 .seq (.seq (.ops [
 vM 13 8,
 vO 14 (.bin .lss (vT 13) (vC 5))])<|
 .cond (vT 14)
 (.skip)
 (.keep []<|
 .exit 0))<|
 .seq (.block 1<|
 .seq (.block 2<|
 .loop [0,1,2,7,8] i_zz1_B1)<|
 .seq (.seq (.ops [
 vM 35 7,
 vM 36 2,
 vO 37 (.bin .eql (vT 35) (vT 36))])<|
 .cond (vT 37)
 (.seq (.ops [
 vO 6 (.mv (.const (.bool true)))])<|
 .keep [6]<|
 .ret)
 (.skip))<|
 .seq (.seq (.ops [
 vM 38 2,
 vM 39 1,
 vO 40 (.bin .sub (vT 38) (vT 39)),
 vO 41 (.bin .lss (vT 40) (vC 50))])<|
 .cond (vT 41)
 (.seq (.ops [
 vO 6 (.mv (.const (.bool false)))])<|
 .keep [6]<|
 .ret)
 (.skip))<|
 .seq (.dops [
 vM 42 0,
 vM 43 7,
 vM 47 0,
 vM 48 7,
 vO 49 (.bin .sub (vT 48) (vC 1)),
 vO 50 (.idx 1 (vT 47) (vT 49)),
 vO 51 (.load false 1 (vT 50)),
 vM 52 0,
 vM 53 7,
 vO 54 (.idx 1 (vT 52) (vT 53)),
 vO 55 (.load false 1 (vT 54)),
 vO 56 (.idx 1 (vT 42) (vT 43)),
 ⟨none,.store 1 (vT 56) (vT 51),none,0⟩,
 ⟨some 44,.mv (vT 0),none,1⟩,
 ⟨some 45,.mv (vT 7),none,1⟩,
 ⟨some 46,.bin .sub (vT 45) (vC 1),none,1⟩,
 vO 57 (.idx 1 (vT 44) (vT 46)),
 ⟨none,.store 1 (vT 57) (vT 55),none,0⟩])<|
 .seq (.seq (.ops [
 vM 58 7,
 vM 59 1,
 vO 60 (.bin .sub (vT 58) (vT 59)),
 vO 61 (.bin .geq (vT 60) (vC 2))])<|
 .cond (vT 61)
 (.seq (.ops [
 vM 62 7,
 vO 63 (.bin .sub (vT 62) (vC 1)),
 vM 9 63])<|
 .block 4<|
 .loop [0,1,2,7,8,9] i_zz1_B2)
 (.skip))<|
 .seq (.ops [
 vM 95 2,
 vM 96 7,
 vO 97 (.bin .sub (vT 95) (vT 96)),
 vO 98 (.bin .geq (vT 97) (vC 2))])<|
 .cond (vT 98)
 (.seq (.ops [
 vM 99 7,
 vO 100 (.bin .add (vT 99) (vC 1)),
 vM 10 100])<|
 .block 6<|
 .loop [0,1,2,7,8,10] i_zz1_B3)
 (.skip))<|
 .ops [
 vM 15 8,
 vO 16 (.bin .add (vT 15) (vC 1)),
 vM 8 16]
def i_zz1:FF:=⟨133,[.tmp 6],
 .seq (.ops [
 vO 6 (.mv (.const (.bool false)))])<|
 .seq (.ops [
 vM 11 1,
 vO 12 (.bin .add (vT 11) (vC 1)),
 vM 7 12])<|
 .seq (.seq (.ops [
 vO 8 (.mv (vC 0))])<|
 .block 0<|
 .loop [0,1,2,7,8] i_zz1_B4)<|
 .seq (.ops [
 vO 6 (.mv (.const (.bool false)))])<|
 .keep [6]<|
 .ret⟩
theorem e_zz1:EntOK Tryz.prog (compD Tryz.prog) k_zz1 i_zz1.vf:=
 ⟨Tryz.f179,Tryz.f179.body.getD .skip,Tryz.func179,by kernel_rfl,by kernel_rfl,by kernel_rfl,by kernel_rfl,by kernel_rfl⟩
/-- cmp.Less[int64] -/
def i_zz71:FF:=⟨17,[.tmp 4],
 .seq (.ops [
 vO 4 (.mv (.const (.bool false)))])<|
 .seq (.ops [
 vM 5 0,
 vO 6 (.call k_zz63 [vT 5]),
 vM 7 6,
 ⟨some 8,.mv (vT 1),some (7,true),0⟩,
 ⟨some 9,.call k_zz63 [vT 8],some (7,true),0⟩,
 ⟨some 10,.un .not (vT 9),some (7,true),0⟩,
 vO 11 (.pick (vT 7) (vT 10) (.const (.bool false))),
 vM 12 11,
 ⟨some 13,.mv (vT 0),some (12,false),0⟩,
 ⟨some 14,.mv (vT 1),some (12,false),0⟩,
 ⟨some 15,.bin .lss (vT 13) (vT 14),some (12,false),0⟩,
 vO 16 (.pick (vT 12) (.const (.bool true)) (vT 15)),
 vM 4 16])<|
 .keep [4]<|
 .ret⟩
theorem e_zz71:EntOK Tryz.prog (compD Tryz.prog) k_zz71 i_zz71.vf:=
 ⟨Tryz.f180,Tryz.f180.body.getD .skip,Tryz.func180,by kernel_rfl,by kernel_rfl,by kernel_rfl,by kernel_rfl,by kernel_rfl⟩
/-- slices.partitionEqualOrdered[int64] -/
def i_zz10_B1:FC:=
 .seq (.seq (.dops [
 vM 29 9,
 vM 30 10,
 vO 31 (.bin .leq (vT 29) (vT 30)),
 vM 32 31,
 ⟨some 33,.mv (vT 0),some (32,true),0⟩,
 ⟨some 34,.mv (vT 1),some (32,true),0⟩,
 ⟨some 35,.idx 1 (vT 33) (vT 34),some (32,true),0⟩,
 ⟨some 36,.load false 1 (vT 35),some (32,true),0⟩,
 ⟨some 37,.mv (vT 0),some (32,true),0⟩,
 ⟨some 38,.mv (vT 9),some (32,true),0⟩,
 ⟨some 39,.idx 1 (vT 37) (vT 38),some (32,true),0⟩,
 ⟨some 40,.load false 1 (vT 39),some (32,true),0⟩,
 ⟨some 41,.call k_zz71 [vT 36,vT 40],some (32,true),0⟩,
 ⟨some 42,.un .not (vT 41),some (32,true),0⟩,
 vO 43 (.pick (vT 32) (vT 42) (.const (.bool false)))])<|
 .cond (vT 43)
 (.skip)
 (.keep [0,1,9,10]<|
 .exit 2))<|
 .block 3<|
 .ops [
 vM 44 9,
 vO 45 (.bin .add (vT 44) (vC 1)),
 vM 9 45]
def i_zz10_B2:FC:=
 .seq (.seq (.dops [
 vM 46 9,
 vM 47 10,
 vO 48 (.bin .leq (vT 46) (vT 47)),
 vM 49 48,
 ⟨some 50,.mv (vT 0),some (49,true),0⟩,
 ⟨some 51,.mv (vT 1),some (49,true),0⟩,
 ⟨some 52,.idx 1 (vT 50) (vT 51),some (49,true),0⟩,
 ⟨some 53,.load false 1 (vT 52),some (49,true),0⟩,
 ⟨some 54,.mv (vT 0),some (49,true),0⟩,
 ⟨some 55,.mv (vT 10),some (49,true),0⟩,
 ⟨some 56,.idx 1 (vT 54) (vT 55),some (49,true),0⟩,
 ⟨some 57,.load false 1 (vT 56),some (49,true),0⟩,
 ⟨some 58,.call k_zz71 [vT 53,vT 57],some (49,true),0⟩,
 vO 59 (.pick (vT 49) (vT 58) (.const (.bool false)))])<|
 .cond (vT 59)
 (.skip)
 (.keep [0,1,9,10]<|
 .exit 4))<|
 .block 5<|
 .ops [
 vM 60 10,
 vO 61 (.bin .sub (vT 60) (vC 1)),
 vM 10 61]
def i_zz10_B3:FC:=
 .block 1<|
 .seq (.block 2<|
 .loop [0,1,9,10] i_zz10_B1)<|
 .seq (.block 4<|
 .loop [0,1,9,10] i_zz10_B2)<|
 .seq (.seq (.ops [
 vM 62 9,
 vM 63 10,
 vO 64 (.bin .gtr (vT 62) (vT 63))])<|
 .cond (vT 64)
 (.keep [9]<|
 .exit 0)
 (.skip))<|
 .seq (.dops [
 vM 65 0,
 vM 66 9,
 vM 69 0,
 vM 70 10,
 vO 71 (.idx 1 (vT 69) (vT 70)),
 vO 72 (.load false 1 (vT 71)),
 vM 73 0,
 vM 74 9,
 vO 75 (.idx 1 (vT 73) (vT 74)),
 vO 76 (.load false 1 (vT 75)),
 vO 77 (.idx 1 (vT 65) (vT 66)),
 ⟨none,.store 1 (vT 77) (vT 72),none,0⟩,
 ⟨some 67,.mv (vT 0),none,1⟩,
 ⟨some 68,.mv (vT 10),none,1⟩,
 vO 78 (.idx 1 (vT 67) (vT 68)),
 ⟨none,.store 1 (vT 78) (vT 76),none,0⟩])<|
 .seq (.ops [
 vM 79 9,
 vO 80 (.bin .add (vT 79) (vC 1)),
 vM 9 80])<|
 .ops [
 vM 81 10,
 vO 82 (.bin .sub (vT 81) (vC 1)),
 vM 10 82]
def i_zz10:FF:=⟨84,[.tmp 8],
 .seq (.ops [
 vO 8 (.mv (vC 0))])<|
 .seq (.dops [
 vM 11 0,
 vM 12 1,
 vM 15 0,
 vM 16 3,
 vO 17 (.idx 1 (vT 15) (vT 16)),
 vO 18 (.load false 1 (vT 17)),
 vM 19 0,
 vM 20 1,
 vO 21 (.idx 1 (vT 19) (vT 20)),
 vO 22 (.load false 1 (vT 21)),
 vO 23 (.idx 1 (vT 11) (vT 12)),
 ⟨none,.store 1 (vT 23) (vT 18),none,0⟩,
 ⟨some 13,.mv (vT 0),none,1⟩,
 ⟨some 14,.mv (vT 3),none,1⟩,
 vO 24 (.idx 1 (vT 13) (vT 14)),
 ⟨none,.store 1 (vT 24) (vT 22),none,0⟩])<|
 .seq (.ops [
 vM 25 1,
 vO 26 (.bin .add (vT 25) (vC 1)),
 vM 27 2,
 vO 28 (.bin .sub (vT 27) (vC 1)),
 vM 9 26,
 vM 10 28])<|
 .seq (.block 0<|
 .loop [0,1,9,10] i_zz10_B3)<|
 .seq (.ops [
 vM 83 9,
 vM 8 83])<|
 .keep [8]<|
 .ret⟩
theorem e_zz10:EntOK Tryz.prog (compD Tryz.prog) k_zz10 i_zz10.vf:=
 ⟨Tryz.f181,Tryz.f181.body.getD .skip,Tryz.func181,by kernel_rfl,by kernel_rfl,by kernel_rfl,by kernel_rfl,by kernel_rfl⟩
/-- slices.partitionOrdered[int64] -/
def i_zz21_B1:FC:=
 .seq (.seq (.dops [
 vM 30 10,
 vM 31 11,
 vO 32 (.bin .leq (vT 30) (vT 31)),
 vM 33 32,
 ⟨some 34,.mv (vT 0),some (33,true),0⟩,
 ⟨some 35,.mv (vT 10),some (33,true),0⟩,
 ⟨some 36,.idx 1 (vT 34) (vT 35),some (33,true),0⟩,
 ⟨some 37,.load false 1 (vT 36),some (33,true),0⟩,
 ⟨some 38,.mv (vT 0),some (33,true),0⟩,
 ⟨some 39,.mv (vT 1),some (33,true),0⟩,
 ⟨some 40,.idx 1 (vT 38) (vT 39),some (33,true),0⟩,
 ⟨some 41,.load false 1 (vT 40),some (33,true),0⟩,
 ⟨some 42,.call k_zz71 [vT 37,vT 41],some (33,true),0⟩,
 vO 43 (.pick (vT 33) (vT 42) (.const (.bool false)))])<|
 .cond (vT 43)
 (.skip)
 (.keep [0,1,10,11]<|
 .exit 0))<|
 .block 1<|
 .ops [
 vM 44 10,
 vO 45 (.bin .add (vT 44) (vC 1)),
 vM 10 45]
def i_zz21_B2:FC:=
 .seq (.seq (.dops [
 vM 46 10,
 vM 47 11,
 vO 48 (.bin .leq (vT 46) (vT 47)),
 vM 49 48,
 ⟨some 50,.mv (vT 0),some (49,true),0⟩,
 ⟨some 51,.mv (vT 11),some (49,true),0⟩,
 ⟨some 52,.idx 1 (vT 50) (vT 51),some (49,true),0⟩,
 ⟨some 53,.load false 1 (vT 52),some (49,true),0⟩,
 ⟨some 54,.mv (vT 0),some (49,true),0⟩,
 ⟨some 55,.mv (vT 1),some (49,true),0⟩,
 ⟨some 56,.idx 1 (vT 54) (vT 55),some (49,true),0⟩,
 ⟨some 57,.load false 1 (vT 56),some (49,true),0⟩,
 ⟨some 58,.call k_zz71 [vT 53,vT 57],some (49,true),0⟩,
 ⟨some 59,.un .not (vT 58),some (49,true),0⟩,
 vO 60 (.pick (vT 49) (vT 59) (.const (.bool false)))])<|
 .cond (vT 60)
 (.skip)
 (.keep [0,1,10,11]<|
 .exit 2))<|
 .block 3<|
 .ops [
 vM 61 11,
 vO 62 (.bin .sub (vT 61) (vC 1)),
 vM 11 62]
def i_zz21_B3:FC:=
 .seq (.seq (.dops [
 vM 99 10,
 vM 100 11,
 vO 101 (.bin .leq (vT 99) (vT 100)),
 vM 102 101,
 ⟨some 103,.mv (vT 0),some (102,true),0⟩,
 ⟨some 104,.mv (vT 10),some (102,true),0⟩,
 ⟨some 105,.idx 1 (vT 103) (vT 104),some (102,true),0⟩,
 ⟨some 106,.load false 1 (vT 105),some (102,true),0⟩,
 ⟨some 107,.mv (vT 0),some (102,true),0⟩,
 ⟨some 108,.mv (vT 1),some (102,true),0⟩,
 ⟨some 109,.idx 1 (vT 107) (vT 108),some (102,true),0⟩,
 ⟨some 110,.load false 1 (vT 109),some (102,true),0⟩,
 ⟨some 111,.call k_zz71 [vT 106,vT 110],some (102,true),0⟩,
 vO 112 (.pick (vT 102) (vT 111) (.const (.bool false)))])<|
 .cond (vT 112)
 (.skip)
 (.keep [0,1,10,11]<|
 .exit 6))<|
 .block 7<|
 .ops [
 vM 113 10,
 vO 114 (.bin .add (vT 113) (vC 1)),
 vM 10 114]
def i_zz21_B4:FC:=
 .seq (.seq (.dops [
 vM 115 10,
 vM 116 11,
 vO 117 (.bin .leq (vT 115) (vT 116)),
 vM 118 117,
 ⟨some 119,.mv (vT 0),some (118,true),0⟩,
 ⟨some 120,.mv (vT 11),some (118,true),0⟩,
 ⟨some 121,.idx 1 (vT 119) (vT 120),some (118,true),0⟩,
 ⟨some 122,.load false 1 (vT 121),some (118,true),0⟩,
 ⟨some 123,.mv (vT 0),some (118,true),0⟩,
 ⟨some 124,.mv (vT 1),some (118,true),0⟩,
 ⟨some 125,.idx 1 (vT 123) (vT 124),some (118,true),0⟩,
 ⟨some 126,.load false 1 (vT 125),some (118,true),0⟩,
 ⟨some 127,.call k_zz71 [vT 122,vT 126],some (118,true),0⟩,
 ⟨some 128,.un .not (vT 127),some (118,true),0⟩,
 vO 129 (.pick (vT 118) (vT 128) (.const (.bool false)))])<|
 .cond (vT 129)
 (.skip)
 (.keep [0,1,10,11]<|
 .exit 8))<|
 .block 9<|
 .ops [
 vM 130 11,
 vO 131 (.bin .sub (vT 130) (vC 1)),
 vM 11 131]
def i_zz21_B5:FC:=
 .block 5<|
 .seq (.block 6<|
 .loop [0,1,10,11] i_zz21_B3)<|
 .seq (.block 8<|
 .loop [0,1,10,11] i_zz21_B4)<|
 .seq (.seq (.ops [
 vM 132 10,
 vM 133 11,
 vO 134 (.bin .gtr (vT 132) (vT 133))])<|
 .cond (vT 134)
 (.keep [0,1,11]<|
 .exit 4)
 (.skip))<|
 .seq (.dops [
 vM 135 0,
 vM 136 10,
 vM 139 0,
 vM 140 11,
 vO 141 (.idx 1 (vT 139) (vT 140)),
 vO 142 (.load false 1 (vT 141)),
 vM 143 0,
 vM 144 10,
 vO 145 (.idx 1 (vT 143) (vT 144)),
 vO 146 (.load false 1 (vT 145)),
 vO 147 (.idx 1 (vT 135) (vT 136)),
 ⟨none,.store 1 (vT 147) (vT 142),none,0⟩,
 ⟨some 137,.mv (vT 0),none,1⟩,
 ⟨some 138,.mv (vT 11),none,1⟩,
 vO 148 (.idx 1 (vT 137) (vT 138)),
 ⟨none,.store 1 (vT 148) (vT 146),none,0⟩])<|
 .seq (.ops [
 vM 149 10,
 vO 150 (.bin .add (vT 149) (vC 1)),
 vM 10 150])<|
 .ops [
 vM 151 11,
 vO 152 (.bin .sub (vT 151) (vC 1)),
 vM 11 152]
def i_zz21:FF:=⟨168,[.tmp 8,.tmp 9],
 .seq (.ops [
 vO 8 (.mv (vC 0)),
 vO 9 (.mv (.const (.bool false)))])<|
 .seq (.dops [
 vM 12 0,
 vM 13 1,
 vM 16 0,
 vM 17 3,
 vO 18 (.idx 1 (vT 16) (vT 17)),
 vO 19 (.load false 1 (vT 18)),
 vM 20 0,
 vM 21 1,
 vO 22 (.idx 1 (vT 20) (vT 21)),
 vO 23 (.load false 1 (vT 22)),
 vO 24 (.idx 1 (vT 12) (vT 13)),
 ⟨none,.store 1 (vT 24) (vT 19),none,0⟩,
 ⟨some 14,.mv (vT 0),none,1⟩,
 ⟨some 15,.mv (vT 3),none,1⟩,
 vO 25 (.idx 1 (vT 14) (vT 15)),
 ⟨none,.store 1 (vT 25) (vT 23),none,0⟩])<|
 .seq (.ops [
 vM 26 1,
 vO 27 (.bin .add (vT 26) (vC 1)),
 vM 28 2,
 vO 29 (.bin .sub (vT 28) (vC 1)),
 vM 10 27,
 vM 11 29])<|
 .seq (.block 0<|
 .loop [0,1,10,11] i_zz21_B1)<|
 .seq (.block 2<|
 .loop [0,1,10,11] i_zz21_B2)<|
 .seq (.seq (.ops [
 vM 63 10,
 vM 64 11,
 vO 65 (.bin .gtr (vT 63) (vT 64))])<|
 .cond (vT 65)
 (.seq (.dops [
 vM 66 0,
 vM 67 11,
 vM 70 0,
 vM 71 1,
 vO 72 (.idx 1 (vT 70) (vT 71)),
 vO 73 (.load false 1 (vT 72)),
 vM 74 0,
 vM 75 11,
 vO 76 (.idx 1 (vT 74) (vT 75)),
 vO 77 (.load false 1 (vT 76)),
 vO 78 (.idx 1 (vT 66) (vT 67)),
 ⟨none,.store 1 (vT 78) (vT 73),none,0⟩,
 ⟨some 68,.mv (vT 0),none,1⟩,
 ⟨some 69,.mv (vT 1),none,1⟩,
 vO 79 (.idx 1 (vT 68) (vT 69)),
 ⟨none,.store 1 (vT 79) (vT 77),none,0⟩])<|
 .seq (.ops [
 vM 80 11,
 vM 8 80,
 vO 9 (.mv (.const (.bool true)))])<|
 .keep [8,9]<|
 .ret)
 (.skip))<|
 .seq (.dops [
 vM 81 0,
 vM 82 10,
 vM 85 0,
 vM 86 11,
 vO 87 (.idx 1 (vT 85) (vT 86)),
 vO 88 (.load false 1 (vT 87)),
 vM 89 0,
 vM 90 10,
 vO 91 (.idx 1 (vT 89) (vT 90)),
 vO 92 (.load false 1 (vT 91)),
 vO 93 (.idx 1 (vT 81) (vT 82)),
 ⟨none,.store 1 (vT 93) (vT 88),none,0⟩,
 ⟨some 83,.mv (vT 0),none,1⟩,
 ⟨some 84,.mv (vT 11),none,1⟩,
 vO 94 (.idx 1 (vT 83) (vT 84)),
 ⟨none,.store 1 (vT 94) (vT 92),none,0⟩])<|
 .seq (.ops [
 vM 95 10,
 vO 96 (.bin .add (vT 95) (vC 1)),
 vM 10 96])<|
 .seq (.ops [
 vM 97 11,
 vO 98 (.bin .sub (vT 97) (vC 1)),
 vM 11 98])<|
 .seq (.block 4<|
 .loop [0,1,10,11] i_zz21_B5)<|
 .seq (.dops [
 vM 153 0,
 vM 154 11,
 vM 157 0,
 vM 158 1,
 vO 159 (.idx 1 (vT 157) (vT 158)),
 vO 160 (.load false 1 (vT 159)),
 vM 161 0,
 vM 162 11,
 vO 163 (.idx 1 (vT 161) (vT 162)),
 vO 164 (.load false 1 (vT 163)),
 vO 165 (.idx 1 (vT 153) (vT 154)),
 ⟨none,.store 1 (vT 165) (vT 160),none,0⟩,
 ⟨some 155,.mv (vT 0),none,1⟩,
 ⟨some 156,.mv (vT 1),none,1⟩,
 vO 166 (.idx 1 (vT 155) (vT 156)),
 ⟨none,.store 1 (vT 166) (vT 164),none,0⟩])<|
 .seq (.ops [
 vM 167 11,
 vM 8 167,
 vO 9 (.mv (.const (.bool false)))])<|
 .keep [8,9]<|
 .ret⟩
theorem e_zz21:EntOK Tryz.prog (compD Tryz.prog) k_zz21 i_zz21.vf:=
 ⟨Tryz.f182,Tryz.f182.body.getD .skip,Tryz.func182,by kernel_rfl,by kernel_rfl,by kernel_rfl,by kernel_rfl,by kernel_rfl⟩
/-- spec.l01Own -/
def i_zz97:FF:=⟨6,[.tmp 2],
 .seq (.ops [
 vO 2 (.mv (.const (.slice none 0 0)))])<|
 .seq (.ops [
 vO 3 (.buildSl 1 [] [] 0),
 vM 4 0,
 vO 5 (.app 1 8 [.int .i64 0] (vT 3) (vT 4)),
 vM 2 5])<|
 .keep [2]<|
 .ret⟩
theorem e_zz97:EntOK Tryz.prog (compD Tryz.prog) k_zz97 i_zz97.vf:=
 ⟨Tryz.f184,Tryz.f184.body.getD .skip,Tryz.func184,by kernel_rfl,by kernel_rfl,by kernel_rfl,by kernel_rfl,by kernel_rfl⟩
/-- spec.l02From -/
def i_zz93_B1:FC:=
 .seq (.seq (.ops [
 vM 16 10,
 vO 17 (.fld 0 (vT 4)),
 vO 18 (.load false 1 (vT 17)),
 vO 19 (.bin .lss (vT 16) (vT 18))])<|
 .cond (vT 19)
 (.skip)
 (.keep [1,2,3,4,9]<|
 .exit 0))<|
 .seq (.block 1<|
 .ops [
 vM 22 9,
 vO 23 (.buildSl 1 [.int .i64 0] [(0,1,(vC (-1)))] 1),
 vO 24 (.app 1 8 [.int .i64 0] (vT 22) (vT 23)),
 vM 9 24])<|
 .ops [
 vM 20 10,
 vO 21 (.bin .add (vT 20) (vC 1)),
 vM 10 21]
def i_zz93_B2:FC:=
 .seq (.seq (.ops [
 vM 40 14,
 vO 41 (.fld 0 (vT 4)),
 vO 42 (.load false 1 (vT 41)),
 vO 43 (.bin .lss (vT 40) (vT 42))])<|
 .cond (vT 43)
 (.skip)
 (.keep [2,3,4,9,11,12]<|
 .exit 4))<|
 .seq (.block 5<|
 .seq (.seq (.ops [
 vO 46 (.fld 1 (vT 4)),
 vO 47 (.load false 1 (vT 46)),
 vM 48 13,
 vO 49 (.idx 1 (vT 47) (vT 48)),
 vO 50 (.load false 1 (vT 49)),
 vM 51 14,
 vO 52 (.conv .u64 (vT 51)),
 vO 53 (.bin .shr (vT 50) (vT 52)),
 vO 54 (.bin .and (vT 53) (vC 1)),
 vO 55 (.bin .eql (vT 54) (vC 0)),
 vM 56 55,
 ⟨some 57,.mv (vT 9),some (56,false),0⟩,
 ⟨some 58,.mv (vT 14),some (56,false),0⟩,
 ⟨some 59,.idx 1 (vT 57) (vT 58),some (56,false),0⟩,
 ⟨some 60,.load false 1 (vT 59),some (56,false),0⟩,
 ⟨some 61,.bin .geq (vT 60) (vC 0),some (56,false),0⟩,
 vO 62 (.pick (vT 56) (.const (.bool true)) (vT 61)),
 vM 63 62,
 ⟨some 64,.mv (vT 13),some (63,false),0⟩,
 ⟨some 65,.mv (vT 2),some (63,false),0⟩,
 ⟨some 66,.bin .eql (vT 64) (vT 65),some (63,false),0⟩,
 ⟨some 67,.mv (vT 66),some (63,false),0⟩,
 ⟨some 68,.mv (vT 14),some (67,true),0⟩,
 ⟨some 69,.mv (vT 3),some (67,true),0⟩,
 ⟨some 70,.bin .eql (vT 68) (vT 69),some (67,true),0⟩,
 ⟨some 71,.pick (vT 67) (vT 70) (.const (.bool false)),some (63,false),0⟩,
 vO 72 (.pick (vT 63) (.const (.bool true)) (vT 71)),
 vM 73 72,
 ⟨some 74,.mv (vT 13),some (73,false),0⟩,
 ⟨some 75,.mv (vT 3),some (73,false),0⟩,
 ⟨some 76,.bin .eql (vT 74) (vT 75),some (73,false),0⟩,
 ⟨some 77,.mv (vT 76),some (73,false),0⟩,
 ⟨some 78,.mv (vT 14),some (77,true),0⟩,
 ⟨some 79,.mv (vT 2),some (77,true),0⟩,
 ⟨some 80,.bin .eql (vT 78) (vT 79),some (77,true),0⟩,
 ⟨some 81,.pick (vT 77) (vT 80) (.const (.bool false)),some (73,false),0⟩,
 vO 82 (.pick (vT 73) (.const (.bool true)) (vT 81))])<|
 .cond (vT 82)
 (.keep [2,3,4,9,11,12,13,14]<|
 .exit 5)
 (.skip))<|
 .seq (.ops [
 vM 83 9,
 vM 84 14,
 vM 85 9,
 vM 86 13,
 vO 87 (.idx 1 (vT 85) (vT 86)),
 vO 88 (.load false 1 (vT 87)),
 vO 89 (.bin .add (vT 88) (vC 1)),
 vO 90 (.idx 1 (vT 83) (vT 84)),
 ⟨none,.store 1 (vT 90) (vT 89),none,0⟩])<|
 .ops [
 vM 91 11,
 vM 92 14,
 vO 93 (.buildSl 1 [.int .i64 0] [(0,1,(vT 92))] 1),
 vO 94 (.app 1 8 [.int .i64 0] (vT 91) (vT 93)),
 vM 11 94])<|
 .ops [
 vM 44 14,
 vO 45 (.bin .add (vT 44) (vC 1)),
 vM 14 45]
def i_zz93_B3:FC:=
 .seq (.seq (.ops [
 vM 30 12,
 vM 31 11,
 vO 32 (.len (vT 31)),
 vO 33 (.bin .lss (vT 30) (vT 32))])<|
 .cond (vT 33)
 (.skip)
 (.keep [9]<|
 .exit 2))<|
 .seq (.block 3<|
 .seq (.ops [
 vM 36 11,
 vM 37 12,
 vO 38 (.idx 1 (vT 36) (vT 37)),
 vO 39 (.load false 1 (vT 38)),
 vM 13 39])<|
 .seq (.ops [
 vO 14 (.mv (vC 0))])<|
 .block 4<|
 .loop [2,3,4,9,11,12,13,14] i_zz93_B2)<|
 .ops [
 vM 34 12,
 vO 35 (.bin .add (vT 34) (vC 1)),
 vM 12 35]
def i_zz93:FF:=⟨96,[.tmp 8],
 .seq (.ops [
 vO 4 (.box 2 (vT 0)),
 vO 8 (.mv (.const (.slice none 0 0)))])<|
 .seq (.ops [
 vO 15 (.buildSl 1 [] [] 0),
 vM 9 15])<|
 .seq (.seq (.ops [
 vO 10 (.mv (vC 0))])<|
 .block 0<|
 .loop [1,2,3,4,9,10] i_zz93_B1)<|
 .seq (.ops [
 vM 25 9,
 vM 26 1,
 vO 27 (.idx 1 (vT 25) (vT 26)),
 ⟨none,.store 1 (vT 27) (vC 0),none,0⟩])<|
 .seq (.ops [
 vM 28 1,
 vO 29 (.buildSl 1 [.int .i64 0] [(0,1,(vT 28))] 1),
 vM 11 29])<|
 .seq (.seq (.ops [
 vO 12 (.mv (vC 0))])<|
 .block 2<|
 .loop [2,3,4,9,11,12] i_zz93_B3)<|
 .seq (.ops [
 vM 95 9,
 vM 8 95])<|
 .keep [8]<|
 .ret⟩
theorem e_zz93:EntOK Tryz.prog (compD Tryz.prog) k_zz93 i_zz93.vf:=
 ⟨Tryz.f185,Tryz.f185.body.getD .skip,Tryz.func185,by kernel_rfl,by kernel_rfl,by kernel_rfl,by kernel_rfl,by kernel_rfl⟩
/-- slices.Concat[[]int64,int64] -/
def i_zz30_B1:FC:=
 .seq (.ops [
 vO 12 (.bin .lss (vT 11) (vT 10))])<|
 .seq (.cond (vT 12)
 (.skip)
 (.keep [0,3]<|
 .exit 0))<|
 .seq (.block 1<|
 .seq (.ops [
 vO 13 (.idx 1 (vT 9) (vT 11)),
 vO 14 (.load false 1 (vT 13)),
 vM 5 14])<|
 .seq (.ops [
 vM 15 3,
 vM 16 5,
 vO 17 (.len (vT 16)),
 vO 18 (.bin .add (vT 15) (vT 17)),
 vM 3 18])<|
 .seq (.ops [
 vM 19 3,
 vO 20 (.bin .lss (vT 19) (vC 0))])<|
 .cond (vT 20)
 (.ops [
 vO 21 (.stop),
 ⟨none,.stop,none,0⟩])
 (.skip))<|
 .ops [
 vO 22 (.bin .add (vT 11) (vC 1)),
 vM 11 22]
def i_zz30_B2:FC:=
 .seq (.ops [
 vO 28 (.bin .lss (vT 27) (vT 26))])<|
 .seq (.cond (vT 28)
 (.skip)
 (.keep [6]<|
 .exit 2))<|
 .seq (.block 3<|
 .seq (.ops [
 vO 29 (.idx 1 (vT 25) (vT 27)),
 vO 30 (.load false 1 (vT 29)),
 vM 8 30])<|
 .ops [
 vM 31 6,
 vM 32 8,
 vO 33 (.app 1 8 [.int .i64 0] (vT 31) (vT 32)),
 vM 6 33])<|
 .ops [
 vO 34 (.bin .add (vT 27) (vC 1)),
 vM 27 34]
def i_zz30:FF:=⟨36,[.tmp 2],
 .seq (.ops [
 vO 2 (.mv (.const (.slice none 0 0)))])<|
 .seq (.ops [
 vO 3 (.mv (vC 0))])<|
 .seq (.seq (.ops [
 vM 9 0,
 vO 10 (.len (vT 9)),
 vO 11 (.mv (vC 0))])<|
 .block 0<|
 .loop [0,3,9,10,11] i_zz30_B1)<|
 .seq (.ops [
 vM 23 3,
 vO 24 (.call k_slices_Grow_int64_int64 [(.const (.slice none 0 0)),vT 23]),
 vM 6 24])<|
 .seq (.seq (.ops [
 vM 25 0,
 vO 26 (.len (vT 25)),
 vO 27 (.mv (vC 0))])<|
 .block 2<|
 .loop [6,25,26,27] i_zz30_B2)<|
 .seq (.ops [
 vM 35 6,
 vM 2 35])<|
 .keep [2]<|
 .ret⟩
theorem e_zz30:EntOK Tryz.prog (compD Tryz.prog) k_zz30 i_zz30.vf:=
 ⟨Tryz.f186,Tryz.f186.body.getD .skip,Tryz.func186,by kernel_rfl,by kernel_rfl,by kernel_rfl,by kernel_rfl,by kernel_rfl⟩
def i_zz45_B1:FC:=
 .seq (.ops [
 vO 41 (.bin .lss (vT 40) (vT 39))])<|
 .seq (.cond (vT 41)
 (.skip)
 (.keep [0,2,3,4,5,6,23,24,25]<|
 .exit 4))<|
 .seq (.block 5<|
 .seq (.ops [
 vM 42 40,
 vO 43 (.idx 1 (vT 38) (vT 40)),
 vO 44 (.load false 1 (vT 43)),
 vM 7 42,
 vM 8 44])<|
 .dops [
 vM 45 6,
 vM 46 8,
 vO 47 (.idx 1 (vT 45) (vT 46)),
 vO 48 (.load false 1 (vT 47)),
 vM 49 7,
 vO 50 (.bin .shl (vC 1) (vT 49)),
 vO 51 (.bin .or (vT 48) (vT 50)),
 vO 52 (.idx 1 (vT 45) (vT 46)),
 ⟨none,.store 1 (vT 52) (vT 51),none,0⟩])<|
 .ops [
 vO 53 (.bin .add (vT 40) (vC 1)),
 vM 40 53]
def i_zz45_B2:FC:=
 .seq (.ops [
 vO 72 (.bin .lss (vT 71) (vT 70))])<|
 .seq (.cond (vT 72)
 (.skip)
 (.keep [0,2,3,4,5,6,9,11,23,24,25,60,61,62]<|
 .exit 8))<|
 .seq (.block 9<|
 .seq (.ops [
 vO 73 (.idx 1 (vT 69) (vT 71)),
 vO 74 (.load false 1 (vT 73)),
 vM 13 74])<|
 .ops [
 vM 75 11,
 vO 76 (.fld 1 (vT 5)),
 vO 77 (.load false 1 (vT 76)),
 vM 78 9,
 vO 79 (.idx 1 (vT 77) (vT 78)),
 vO 80 (.load false 1 (vT 79)),
 vM 81 13,
 vO 82 (.bin .and (vT 80) (vT 81)),
 vO 83 (.call k_zz106 [vT 82]),
 vO 84 (.buildSl 1 [.int .i64 0] [(0,1,(vT 83))] 1),
 vO 85 (.app 1 8 [.int .i64 0] (vT 75) (vT 84)),
 vM 11 85])<|
 .ops [
 vO 86 (.bin .add (vT 71) (vC 1)),
 vM 71 86]
def i_zz45_B3:FC:=
 .seq (.ops [
 vO 63 (.bin .lss (vT 62) (vT 61))])<|
 .seq (.cond (vT 63)
 (.skip)
 (.keep [0,2,3,23,24,25]<|
 .exit 6))<|
 .seq (.block 7<|
 .seq (.ops [
 vM 64 62,
 vO 65 (.idx 1 (vT 60) (vT 62)),
 vO 66 (.load false 1 (vT 65)),
 vM 9 64,
 vM 10 66])<|
 .seq (.ops [
 vM 67 10,
 vO 68 (.buildSl 1 [.int .i64 0] [(0,1,(vT 67))] 1),
 vM 11 68])<|
 .seq (.seq (.ops [
 vM 69 6,
 vO 70 (.len (vT 69)),
 vO 71 (.mv (vC 0))])<|
 .block 8<|
 .loop [0,2,3,4,5,6,9,11,23,24,25,60,61,62,69,70,71] i_zz45_B2)<|
 .ops [
 vM 87 3,
 vM 88 4,
 vM 89 9,
 vM 90 11,
 vO 91 (.build [.int .i64 0,.int .i64 0,.slice none 0 0] [(0,1,(vT 88)),(1,1,(vT 89)),(2,1,(vT 90))]),
 vO 92 (.buildSl 3 [.int .i64 0,.int .i64 0,.slice none 0 0] [(0,3,(vT 91))] 1),
 vO 93 (.app 3 40 [.int .i64 0,.int .i64 0,.slice none 0 0] (vT 87) (vT 92)),
 vM 3 93])<|
 .ops [
 vO 94 (.bin .add (vT 62) (vC 1)),
 vM 62 94]
def i_zz45_B4:FC:=
 .seq (.ops [
 vO 26 (.bin .lss (vT 25) (vT 24))])<|
 .seq (.cond (vT 26)
 (.skip)
 (.keep [0,2,3]<|
 .exit 2))<|
 .seq (.block 3<|
 .seq (.ops [
 vM 27 25,
 vO 28 (.idx 2 (vT 23) (vT 25)),
 vO 29 (.load true 2 (vT 28)),
 vO 5 (.alloc [.int .i64 0,.slice none 0 0]),
 vM 4 27,
 ⟨none,.store 2 (vT 5) (vT 29),none,0⟩])<|
 .seq (.ops [
 vM 30 2,
 vO 31 (.mkSl 1 [.int .i64 0] 8 (vT 30) (vT 30)),
 vM 6 31])<|
 .seq (.seq (.ops [
 vM 32 0,
 vO 33 (.nilchk (vT 32)),
 vO 34 (.fld 1 (vT 33)),
 vO 35 (.load false 1 (vT 34)),
 vM 36 4,
 vO 37 (.idx 1 (vT 35) (vT 36)),
 vO 38 (.load false 1 (vT 37)),
 vO 39 (.len (vT 38)),
 vO 40 (.mv (vC 0))])<|
 .block 4<|
 .loop [0,2,3,4,5,6,23,24,25,38,39,40] i_zz45_B1)<|
 .seq (.ops [
 vM 54 0,
 vO 55 (.nilchk (vT 54)),
 vO 56 (.fld 1 (vT 55)),
 vO 57 (.load false 1 (vT 56)),
 vM 58 4,
 vO 59 (.idx 1 (vT 57) (vT 58)),
 vO 60 (.load false 1 (vT 59)),
 vO 61 (.len (vT 60)),
 vO 62 (.mv (vC 0))])<|
 .block 6<|
 .loop [0,2,3,4,5,6,23,24,25,60,61,62] i_zz45_B3)<|
 .ops [
 vO 95 (.bin .add (vT 25) (vC 1)),
 vM 25 95]
def i_zz45_B5:FC:=
 .seq (.ops [
 vO 101 (.bin .lss (vT 100) (vT 99))])<|
 .seq (.cond (vT 101)
 (.skip)
 (.keep [0,2,14]<|
 .exit 10))<|
 .seq (.block 11<|
 .seq (.ops [
 vM 102 100,
 vO 103 (.idx 3 (vT 98) (vT 100)),
 vO 104 (.load true 3 (vT 103)),
 vO 16 (.alloc [.int .i64 0,.int .i64 0,.slice none 0 0]),
 vM 15 102,
 ⟨none,.store 3 (vT 16) (vT 104),none,0⟩])<|
 .seq (.seq (.dops [
 vM 105 15,
 vO 106 (.bin .eql (vT 105) (vC 0)),
 vM 107 106,
 ⟨some 108,.fld 2 (vT 16),some (107,false),0⟩,
 ⟨some 109,.load false 1 (vT 108),some (107,false),0⟩,
 ⟨some 110,.mv (vT 3),some (107,false),0⟩,
 ⟨some 111,.mv (vT 15),some (107,false),0⟩,
 ⟨some 112,.bin .sub (vT 111) (vC 1),some (107,false),0⟩,
 ⟨some 113,.idx 3 (vT 110) (vT 112),some (107,false),0⟩,
 ⟨some 114,.fld 2 (vT 113),some (107,false),0⟩,
 ⟨some 115,.load false 1 (vT 114),some (107,false),0⟩,
 ⟨some 116,.call k_zz27 [vT 109,vT 115],some (107,false),0⟩,
 ⟨some 117,.bin .neq (vT 116) (vC 0),some (107,false),0⟩,
 vO 118 (.pick (vT 107) (.const (.bool true)) (vT 117))])<|
 .cond (vT 118)
 (.ops [
 vM 119 14,
 vO 120 (.bin .add (vT 119) (vC 1)),
 vM 14 120])
 (.skip))<|
 .dops [
 vM 121 0,
 vO 122 (.nilchk (vT 121)),
 vO 123 (.fld 1 (vT 122)),
 vO 124 (.load false 1 (vT 123)),
 vO 125 (.fld 0 (vT 16)),
 vO 126 (.load false 1 (vT 125)),
 vO 127 (.idx 1 (vT 124) (vT 126)),
 vO 128 (.load false 1 (vT 127)),
 vO 129 (.fld 1 (vT 16)),
 vO 130 (.load false 1 (vT 129)),
 vM 131 14,
 vO 132 (.idx 1 (vT 128) (vT 130)),
 ⟨none,.store 1 (vT 132) (vT 131),none,0⟩])<|
 .ops [
 vO 133 (.bin .add (vT 100) (vC 1)),
 vM 100 133]
def i_zz45_B6:FC:=
 .block 1<|
 .seq (.ops [
 vM 17 0,
 vO 18 (.call k_zz55 [vT 17]),
 vM 2 18])<|
 .seq (.ops [
 vO 19 (.buildSl 3 [] [] 0),
 vM 3 19])<|
 .seq (.seq (.ops [
 vM 20 0,
 vO 21 (.nilchk (vT 20)),
 vO 22 (.fld 0 (vT 21)),
 vO 23 (.load false 1 (vT 22)),
 vO 24 (.len (vT 23)),
 vO 25 (.mv (vC 0))])<|
 .block 2<|
 .loop [0,2,3,23,24,25] i_zz45_B4)<|
 .seq (.ops [
 vM 96 3,
 vO 97 (.call k_zz7 [vT 96,(.func k_zz37)])])<|
 .seq (.ops [
 vO 14 (.mv (vC (-1)))])<|
 .seq (.seq (.ops [
 vM 98 3,
 vO 99 (.len (vT 98)),
 vO 100 (.mv (vC 0))])<|
 .block 10<|
 .loop [0,2,3,14,98,99,100] i_zz45_B5)<|
 .seq (.ops [
 vM 134 14,
 vO 135 (.bin .add (vT 134) (vC 1)),
 vM 136 2,
 vO 137 (.bin .eql (vT 135) (vT 136))])<|
 .cond (vT 137)
 (.keep []<|
 .ret)
 (.skip)
def i_zz45:FF:=⟨138,[],
 .block 0<|
 .loop [0] i_zz45_B6⟩
theorem e_zz45:EntOK Tryz.prog (compD Tryz.prog) k_zz45 i_zz45.vf:=
 ⟨Tryz.f187,Tryz.f187.body.getD .skip,Tryz.func187,by kernel_rfl,by kernel_rfl,by kernel_rfl,by kernel_rfl,by kernel_rfl⟩
def i_zz47:FF:=⟨26,[.tmp 2],
 .seq (.ops [
 vO 2 (.mv (.const (.bool false)))])<|
 .seq (.dops [
 vM 5 0,
 vO 6 (.nilchk (vT 5)),
 vO 7 (.fld 1 (vT 6)),
 vO 8 (.load false 1 (vT 7)),
 vO 9 (.idx 1 (vT 8) (vC 0)),
 vO 10 (.load false 1 (vT 9)),
 vO 11 (.call k_zz32 [vT 10]),
 ⟨some 12,.mv (vT 0),none,1⟩,
 ⟨some 13,.nilchk (vT 12),none,1⟩,
 ⟨some 14,.fld 1 (vT 13),none,1⟩,
 ⟨some 15,.load false 1 (vT 14),none,1⟩,
 ⟨some 16,.idx 1 (vT 15) (vC 1),none,1⟩,
 ⟨some 17,.load false 1 (vT 16),none,1⟩,
 vO 18 (.call k_zz32 [vT 17]),
 vM 3 11,
 vM 4 18])<|
 .seq (.ops [
 vM 19 3,
 vO 20 (.call k_zz36 [vT 19])])<|
 .seq (.ops [
 vM 21 4,
 vO 22 (.call k_zz36 [vT 21])])<|
 .seq (.ops [
 vM 23 3,
 vM 24 4,
 vO 25 (.call k_zz33 [vT 23,vT 24]),
 vM 2 25])<|
 .keep [2]<|
 .ret⟩
theorem e_zz47:EntOK Tryz.prog (compD Tryz.prog) k_zz47 i_zz47.vf:=
 ⟨Tryz.f188,Tryz.f188.body.getD .skip,Tryz.func188,by kernel_rfl,by kernel_rfl,by kernel_rfl,by kernel_rfl,by kernel_rfl⟩
def i_zz55_B1:FC:=
 .seq (.ops [
 vO 12 (.bin .lss (vT 11) (vT 10))])<|
 .seq (.cond (vT 12)
 (.skip)
 (.keep [3]<|
 .exit 0))<|
 .seq (.block 1<|
 .seq (.ops [
 vO 13 (.idx 1 (vT 9) (vT 11)),
 vO 14 (.load false 1 (vT 13)),
 vM 5 14])<|
 .ops [
 vM 15 3,
 vM 16 5,
 vO 17 (.call k_zz38 [vT 16]),
 vO 18 (.minmax true [vT 15,vT 17]),
 vM 3 18])<|
 .ops [
 vO 19 (.bin .add (vT 11) (vC 1)),
 vM 11 19]
def i_zz55:FF:=⟨22,[.tmp 2],
 .seq (.ops [
 vO 2 (.mv (vC 0))])<|
 .seq (.ops [
 vO 3 (.mv (vC 0))])<|
 .seq (.seq (.ops [
 vM 6 0,
 vO 7 (.nilchk (vT 6)),
 vO 8 (.fld 1 (vT 7)),
 vO 9 (.load false 1 (vT 8)),
 vO 10 (.len (vT 9)),
 vO 11 (.mv (vC 0))])<|
 .block 0<|
 .loop [3,9,10,11] i_zz55_B1)<|
 .seq (.ops [
 vM 20 3,
 vO 21 (.bin .add (vT 20) (vC 1)),
 vM 2 21])<|
 .keep [2]<|
 .ret⟩
theorem e_zz55:EntOK Tryz.prog (compD Tryz.prog) k_zz55 i_zz55.vf:=
 ⟨Tryz.f189,Tryz.f189.body.getD .skip,Tryz.func189,by kernel_rfl,by kernel_rfl,by kernel_rfl,by kernel_rfl,by kernel_rfl⟩
/-- slices.IndexFunc[[]int64,int64] -/
def i_zz22_B1:FC:=
 .seq (.ops [
 vO 9 (.bin .lss (vT 8) (vT 7))])<|
 .seq (.cond (vT 9)
 (.skip)
 (.keep []<|
 .exit 0))<|
 .seq (.block 1<|
 .seq (.ops [
 vM 10 8,
 vM 5 10])<|
 .seq (.ops [
 vM 11 1,
 vM 12 0,
 vM 13 5,
 vO 14 (.idx 1 (vT 12) (vT 13)),
 vO 15 (.load false 1 (vT 14)),
 vO 16 (.callv (vT 11) [vT 15])])<|
 .cond (vT 16)
 (.seq (.ops [
 vM 17 5,
 vM 4 17])<|
 .keep [4]<|
 .ret)
 (.skip))<|
 .ops [
 vO 18 (.bin .add (vT 8) (vC 1)),
 vM 8 18]
def i_zz22:FF:=⟨19,[.tmp 4],
 .seq (.ops [
 vO 4 (.mv (vC 0))])<|
 .seq (.seq (.ops [
 vM 6 0,
 vO 7 (.len (vT 6)),
 vO 8 (.mv (vC 0))])<|
 .block 0<|
 .loop [0,1,7,8] i_zz22_B1)<|
 .seq (.ops [
 vO 4 (.mv (vC (-1)))])<|
 .keep [4]<|
 .ret⟩
theorem e_zz22:EntOK Tryz.prog (compD Tryz.prog) k_zz22 i_zz22.vf:=
 ⟨Tryz.f190,Tryz.f190.body.getD .skip,Tryz.func190,by kernel_rfl,by kernel_rfl,by kernel_rfl,by kernel_rfl,by kernel_rfl⟩
def i_zz35:FF:=⟨21,[.tmp 3],
 .seq (.ops [
 vO 3 (.mv (.const (.bool false)))])<|
 .seq (.dops [
 vO 4 (.load false 1 (vT 1)),
 vO 5 (.nilchk (vT 4)),
 vO 6 (.fld 1 (vT 5)),
 vO 7 (.load false 1 (vT 6)),
 vO 8 (.idx 1 (vT 7) (vC 0)),
 vO 9 (.load false 1 (vT 8)),
 vM 10 0,
 vO 11 (.call k_zz34 [vT 9,vT 10]),
 ⟨some 12,.load false 1 (vT 1),none,1⟩,
 ⟨some 13,.nilchk (vT 12),none,1⟩,
 ⟨some 14,.fld 1 (vT 13),none,1⟩,
 ⟨some 15,.load false 1 (vT 14),none,1⟩,
 ⟨some 16,.idx 1 (vT 15) (vC 0),none,1⟩,
 ⟨some 17,.load false 1 (vT 16),none,1⟩,
 ⟨some 18,.mv (vT 0),none,1⟩,
 vO 19 (.call k_zz76 [vT 17,vT 18]),
 vO 20 (.bin .neq (vT 11) (vT 19)),
 vM 3 20])<|
 .keep [3]<|
 .ret⟩
theorem e_zz35:EntOK Tryz.prog (compD Tryz.prog) k_zz35 i_zz35.vf:=
 ⟨Tryz.f191,Tryz.f191.body.getD .skip,Tryz.func191,by kernel_rfl,by kernel_rfl,by kernel_rfl,by kernel_rfl,by kernel_rfl⟩
/-- impl.lastIndex -/
def i_zz76_B1:FC:=
 .seq (.seq (.ops [
 vM 9 5,
 vO 10 (.bin .geq (vT 9) (vC 0))])<|
 .cond (vT 10)
 (.skip)
 (.keep []<|
 .exit 0))<|
 .seq (.block 1<|
 .seq (.ops [
 vM 13 0,
 vM 14 5,
 vO 15 (.idx 1 (vT 13) (vT 14)),
 vO 16 (.load false 1 (vT 15)),
 vM 17 1,
 vO 18 (.bin .eql (vT 16) (vT 17))])<|
 .cond (vT 18)
 (.seq (.ops [
 vM 19 5,
 vM 4 19])<|
 .keep [4]<|
 .ret)
 (.skip))<|
 .ops [
 vM 11 5,
 vO 12 (.bin .sub (vT 11) (vC 1)),
 vM 5 12]
def i_zz76:FF:=⟨20,[.tmp 4],
 .seq (.ops [
 vO 4 (.mv (vC 0))])<|
 .seq (.seq (.ops [
 vM 6 0,
 vO 7 (.len (vT 6)),
 vO 8 (.bin .sub (vT 7) (vC 1)),
 vM 5 8])<|
 .block 0<|
 .loop [0,1,5] i_zz76_B1)<|
 .seq (.ops [
 vO 4 (.mv (vC (-1)))])<|
 .keep [4]<|
 .ret⟩
theorem e_zz76:EntOK Tryz.prog (compD Tryz.prog) k_zz76 i_zz76.vf:=
 ⟨Tryz.f192,Tryz.f192.body.getD .skip,Tryz.func192,by kernel_rfl,by kernel_rfl,by kernel_rfl,by kernel_rfl,by kernel_rfl⟩
/-- slices.nextPowerOfTwo -/
def i_zz43:FF:=⟨7,[.tmp 2],
 .seq (.ops [
 vO 2 (.mv (.const (.int .u64 0)))])<|
 .seq (.ops [
 vM 3 0,
 vO 4 (.conv .u64 (vT 3)),
 vO 5 (.call k_zz82 [vT 4]),
 vO 6 (.bin .shl (.const (.int .u64 1)) (vT 5)),
 vM 2 6])<|
 .keep [2]<|
 .ret⟩
theorem e_zz43:EntOK Tryz.prog (compD Tryz.prog) k_zz43 i_zz43.vf:=
 ⟨Tryz.f194,Tryz.f194.body.getD .skip,Tryz.func194,by kernel_rfl,by kernel_rfl,by kernel_rfl,by kernel_rfl,by kernel_rfl⟩
def i_zz46:FF:=⟨33,[.tmp 2],
 .seq (.ops [
 vO 2 (.mv (.const (.int .u64 0)))])<|
 .seq (.dops [
 vM 3 0,
 vO 4 (.nilchk (vT 3)),
 vO 5 (.load false 1 (vT 4)),
 vM 6 0,
 vO 7 (.nilchk (vT 6)),
 vO 8 (.load false 1 (vT 7)),
 vO 9 (.bin .shl (vT 8) (.const (.int .u64 13))),
 vO 10 (.bin .xor (vT 5) (vT 9)),
 vO 11 (.nilchk (vT 3)),
 ⟨none,.store 1 (vT 11) (vT 10),none,0⟩])<|
 .seq (.dops [
 vM 12 0,
 vO 13 (.nilchk (vT 12)),
 vO 14 (.load false 1 (vT 13)),
 vM 15 0,
 vO 16 (.nilchk (vT 15)),
 vO 17 (.load false 1 (vT 16)),
 vO 18 (.bin .shr (vT 17) (.const (.int .u64 7))),
 vO 19 (.bin .xor (vT 14) (vT 18)),
 vO 20 (.nilchk (vT 12)),
 ⟨none,.store 1 (vT 20) (vT 19),none,0⟩])<|
 .seq (.dops [
 vM 21 0,
 vO 22 (.nilchk (vT 21)),
 vO 23 (.load false 1 (vT 22)),
 vM 24 0,
 vO 25 (.nilchk (vT 24)),
 vO 26 (.load false 1 (vT 25)),
 vO 27 (.bin .shl (vT 26) (.const (.int .u64 17))),
 vO 28 (.bin .xor (vT 23) (vT 27)),
 vO 29 (.nilchk (vT 21)),
 ⟨none,.store 1 (vT 29) (vT 28),none,0⟩])<|
 .seq (.ops [
 vM 30 0,
 vO 31 (.nilchk (vT 30)),
 vO 32 (.load false 1 (vT 31)),
 vM 2 32])<|
 .keep [2]<|
 .ret⟩
theorem e_zz46:EntOK Tryz.prog (compD Tryz.prog) k_zz46 i_zz46.vf:=
 ⟨Tryz.f195,Tryz.f195.body.getD .skip,Tryz.func195,by kernel_rfl,by kernel_rfl,by kernel_rfl,by kernel_rfl,by kernel_rfl⟩
/-- math/bits.Mul -/
def i_zz83:FF:=⟨30,[.tmp 4,.tmp 5],
 .seq (.ops [
 vO 4 (.mv (.const (.int .u64 0))),
 vO 5 (.mv (.const (.int .u64 0)))])<|
 .seq (.cond (.const (.bool false))
 (.seq (.ops [
 vM 11 0,
 vO 12 (.conv .u32 (vT 11)),
 vM 13 1,
 vO 14 (.conv .u32 (vT 13)),
 vO 15 (.call k_zz69 [vT 12,vT 14]),
 vM 10 15,
 vO 16 (.ext (vT 10) 0),
 vO 17 (.ext (vT 10) 1),
 vM 6 16,
 vM 7 17])<|
 .seq (.ops [
 vM 18 6,
 vO 19 (.conv .u64 (vT 18)),
 vM 20 7,
 vO 21 (.conv .u64 (vT 20)),
 vM 4 19,
 vM 5 21])<|
 .keep [4,5]<|
 .ret)
 (.skip))<|
 .seq (.ops [
 vM 23 0,
 vM 24 1,
 vO 25 (.call k_zz70 [vT 23,vT 24]),
 vM 22 25,
 vO 26 (.ext (vT 22) 0),
 vO 27 (.ext (vT 22) 1),
 vM 8 26,
 vM 9 27])<|
 .seq (.ops [
 vM 28 8,
 vM 29 9,
 vM 4 28,
 vM 5 29])<|
 .keep [4,5]<|
 .ret⟩
theorem e_zz83:EntOK Tryz.prog (compD Tryz.prog) k_zz83 i_zz83.vf:=
 ⟨Tryz.f200,Tryz.f200.body.getD .skip,Tryz.func200,by kernel_rfl,by kernel_rfl,by kernel_rfl,by kernel_rfl,by kernel_rfl⟩
/-- slices.siftDownOrdered[int64] -/
def i_zz24_B1:FC:=
 .block 1<|
 .seq (.ops [
 vM 11 8,
 vO 12 (.bin .mul (vC 2) (vT 11)),
 vO 13 (.bin .add (vT 12) (vC 1)),
 vM 9 13])<|
 .seq (.seq (.ops [
 vM 14 9,
 vM 15 2,
 vO 16 (.bin .geq (vT 14) (vT 15))])<|
 .cond (vT 16)
 (.keep []<|
 .exit 0)
 (.skip))<|
 .seq (.seq (.dops [
 vM 17 9,
 vO 18 (.bin .add (vT 17) (vC 1)),
 vM 19 2,
 vO 20 (.bin .lss (vT 18) (vT 19)),
 vM 21 20,
 ⟨some 22,.mv (vT 0),some (21,true),0⟩,
 ⟨some 23,.mv (vT 3),some (21,true),0⟩,
 ⟨some 24,.mv (vT 9),some (21,true),0⟩,
 ⟨some 25,.bin .add (vT 23) (vT 24),some (21,true),0⟩,
 ⟨some 26,.idx 1 (vT 22) (vT 25),some (21,true),0⟩,
 ⟨some 27,.load false 1 (vT 26),some (21,true),0⟩,
 ⟨some 28,.mv (vT 0),some (21,true),0⟩,
 ⟨some 29,.mv (vT 3),some (21,true),0⟩,
 ⟨some 30,.mv (vT 9),some (21,true),0⟩,
 ⟨some 31,.bin .add (vT 29) (vT 30),some (21,true),0⟩,
 ⟨some 32,.bin .add (vT 31) (vC 1),some (21,true),0⟩,
 ⟨some 33,.idx 1 (vT 28) (vT 32),some (21,true),0⟩,
 ⟨some 34,.load false 1 (vT 33),some (21,true),0⟩,
 ⟨some 35,.call k_zz71 [vT 27,vT 34],some (21,true),0⟩,
 vO 36 (.pick (vT 21) (vT 35) (.const (.bool false)))])<|
 .cond (vT 36)
 (.ops [
 vM 37 9,
 vO 38 (.bin .add (vT 37) (vC 1)),
 vM 9 38])
 (.skip))<|
 .seq (.seq (.dops [
 vM 39 0,
 vM 40 3,
 vM 41 8,
 vO 42 (.bin .add (vT 40) (vT 41)),
 vO 43 (.idx 1 (vT 39) (vT 42)),
 vO 44 (.load false 1 (vT 43)),
 vM 45 0,
 vM 46 3,
 vM 47 9,
 vO 48 (.bin .add (vT 46) (vT 47)),
 vO 49 (.idx 1 (vT 45) (vT 48)),
 vO 50 (.load false 1 (vT 49)),
 vO 51 (.call k_zz71 [vT 44,vT 50]),
 vO 52 (.un .not (vT 51))])<|
 .cond (vT 52)
 (.keep []<|
 .ret)
 (.skip))<|
 .seq (.dops [
 vM 53 0,
 vM 54 3,
 vM 55 8,
 vO 56 (.bin .add (vT 54) (vT 55)),
 vM 61 0,
 vM 62 3,
 vM 63 9,
 vO 64 (.bin .add (vT 62) (vT 63)),
 vO 65 (.idx 1 (vT 61) (vT 64)),
 vO 66 (.load false 1 (vT 65)),
 vM 67 0,
 vM 68 3,
 vM 69 8,
 vO 70 (.bin .add (vT 68) (vT 69)),
 vO 71 (.idx 1 (vT 67) (vT 70)),
 vO 72 (.load false 1 (vT 71)),
 vO 73 (.idx 1 (vT 53) (vT 56)),
 ⟨none,.store 1 (vT 73) (vT 66),none,0⟩,
 ⟨some 57,.mv (vT 0),none,1⟩,
 ⟨some 58,.mv (vT 3),none,1⟩,
 ⟨some 59,.mv (vT 9),none,1⟩,
 ⟨some 60,.bin .add (vT 58) (vT 59),none,1⟩,
 vO 74 (.idx 1 (vT 57) (vT 60)),
 ⟨none,.store 1 (vT 74) (vT 72),none,0⟩])<|
 .ops [
 vM 75 9,
 vM 8 75]
def i_zz24:FF:=⟨76,[],
 .seq (.ops [
 vM 10 1,
 vM 8 10])<|
 .block 0<|
 .loop [0,2,3,8] i_zz24_B1⟩
theorem e_zz24:EntOK Tryz.prog (compD Tryz.prog) k_zz24 i_zz24.vf:=
 ⟨Tryz.f201,Tryz.f201.body.getD .skip,Tryz.func201,by kernel_rfl,by kernel_rfl,by kernel_rfl,by kernel_rfl,by kernel_rfl⟩
/-- slices.medianAdjacentOrdered[int64] -/
def i_zz9:FF:=⟨15,[.tmp 6],
 .seq (.ops [
 vO 6 (.mv (vC 0))])<|
 .seq (.ops [
 vM 7 0,
 vM 8 1,
 vO 9 (.bin .sub (vT 8) (vC 1)),
 vM 10 1,
 vM 11 1,
 vO 12 (.bin .add (vT 11) (vC 1)),
 vM 13 2,
 vO 14 (.call k_zz28 [vT 7,vT 9,vT 10,vT 12,vT 13]),
 vM 6 14])<|
 .keep [6]<|
 .ret⟩
theorem e_zz9:EntOK Tryz.prog (compD Tryz.prog) k_zz9 i_zz9.vf:=
 ⟨Tryz.f202,Tryz.f202.body.getD .skip,Tryz.func202,by kernel_rfl,by kernel_rfl,by kernel_rfl,by kernel_rfl,by kernel_rfl⟩
/-- slices.medianOrdered[int64] -/
def i_zz28:FF:=⟨36,[.tmp 10],
 .seq (.ops [
 vO 10 (.mv (vC 0))])<|
 .seq (.ops [
 vM 12 0,
 vM 13 1,
 vM 14 2,
 vM 15 4,
 vO 16 (.call k_zz29 [vT 12,vT 13,vT 14,vT 15]),
 vM 11 16,
 vO 17 (.ext (vT 11) 0),
 vO 18 (.ext (vT 11) 1),
 vM 1 17,
 vM 2 18])<|
 .seq (.ops [
 vM 20 0,
 vM 21 2,
 vM 22 3,
 vM 23 4,
 vO 24 (.call k_zz29 [vT 20,vT 21,vT 22,vT 23]),
 vM 19 24,
 vO 25 (.ext (vT 19) 0),
 vO 26 (.ext (vT 19) 1),
 vM 2 25,
 vM 3 26])<|
 .seq (.ops [
 vM 28 0,
 vM 29 1,
 vM 30 2,
 vM 31 4,
 vO 32 (.call k_zz29 [vT 28,vT 29,vT 30,vT 31]),
 vM 27 32,
 vO 33 (.ext (vT 27) 0),
 vO 34 (.ext (vT 27) 1),
 vM 1 33,
 vM 2 34])<|
 .seq (.ops [
 vM 35 2,
 vM 10 35])<|
 .keep [10]<|
 .ret⟩
theorem e_zz28:EntOK Tryz.prog (compD Tryz.prog) k_zz28 i_zz28.vf:=
 ⟨Tryz.f203,Tryz.f203.body.getD .skip,Tryz.func203,by kernel_rfl,by kernel_rfl,by kernel_rfl,by kernel_rfl,by kernel_rfl⟩
/-- slices.SortFunc[[]loop.example/g01331/impl.told,loop.example/g01331/impl.told] -/
def i_zz7:FF:=⟨14,[],
 .seq (.ops [
 vM 5 0,
 vO 6 (.len (vT 5)),
 vM 4 6])<|
 .ops [
 vM 7 0,
 vM 8 4,
 vM 9 4,
 vO 10 (.conv .u64 (vT 9)),
 vO 11 (.call k_zz82 [vT 10]),
 vM 12 1,
 vO 13 (.call k_zz18 [vT 7,(vC 0),vT 8,vT 11,vT 12])]⟩
theorem e_zz7:EntOK Tryz.prog (compD Tryz.prog) k_zz7 i_zz7.vf:=
 ⟨Tryz.f205,Tryz.f205.body.getD .skip,Tryz.func205,by kernel_rfl,by kernel_rfl,by kernel_rfl,by kernel_rfl,by kernel_rfl⟩
def i_zz37:FF:=⟨10,[.tmp 4],
 .seq (.ops [
 vO 2 (.box 3 (vT 0)),
 vO 3 (.box 3 (vT 1)),
 vO 4 (.mv (vC 0))])<|
 .seq (.ops [
 vO 5 (.fld 2 (vT 2)),
 vO 6 (.load false 1 (vT 5)),
 vO 7 (.fld 2 (vT 3)),
 vO 8 (.load false 1 (vT 7)),
 vO 9 (.call k_zz27 [vT 6,vT 8]),
 vM 4 9])<|
 .keep [4]<|
 .ret⟩
theorem e_zz37:EntOK Tryz.prog (compD Tryz.prog) k_zz37 i_zz37.vf:=
 ⟨Tryz.f206,Tryz.f206.body.getD .skip,Tryz.func206,by kernel_rfl,by kernel_rfl,by kernel_rfl,by kernel_rfl,by kernel_rfl⟩
/-- math/bits.Mul32 -/
def i_zz69:FF:=⟨17,[.tmp 4,.tmp 5],
 .seq (.ops [
 vO 4 (.mv (.const (.int .u32 0))),
 vO 5 (.mv (.const (.int .u32 0)))])<|
 .seq (.ops [
 vM 7 0,
 vO 8 (.conv .u64 (vT 7)),
 vM 9 1,
 vO 10 (.conv .u64 (vT 9)),
 vO 11 (.bin .mul (vT 8) (vT 10)),
 vM 6 11])<|
 .seq (.ops [
 vM 12 6,
 vO 13 (.bin .shr (vT 12) (.const (.int .u64 32))),
 vO 14 (.conv .u32 (vT 13)),
 vM 15 6,
 vO 16 (.conv .u32 (vT 15)),
 vM 4 14,
 vM 5 16])<|
 .keep [4,5]<|
 .ret⟩
theorem e_zz69:EntOK Tryz.prog (compD Tryz.prog) k_zz69 i_zz69.vf:=
 ⟨Tryz.f208,Tryz.f208.body.getD .skip,Tryz.func208,by kernel_rfl,by kernel_rfl,by kernel_rfl,by kernel_rfl,by kernel_rfl⟩
/-- math/bits.Mul64 -/
def i_zz70:FF:=⟨51,[.tmp 4,.tmp 5],
 .seq (.ops [
 vO 4 (.mv (.const (.int .u64 0))),
 vO 5 (.mv (.const (.int .u64 0)))])<|
 .seq (.ops [
 vM 14 0,
 vO 15 (.bin .and (vT 14) (.const (.int .u64 4294967295))),
 vM 6 15])<|
 .seq (.ops [
 vM 16 0,
 vO 17 (.bin .shr (vT 16) (.const (.int .u64 32))),
 vM 7 17])<|
 .seq (.ops [
 vM 18 1,
 vO 19 (.bin .and (vT 18) (.const (.int .u64 4294967295))),
 vM 8 19])<|
 .seq (.ops [
 vM 20 1,
 vO 21 (.bin .shr (vT 20) (.const (.int .u64 32))),
 vM 9 21])<|
 .seq (.ops [
 vM 22 6,
 vM 23 8,
 vO 24 (.bin .mul (vT 22) (vT 23)),
 vM 10 24])<|
 .seq (.ops [
 vM 25 7,
 vM 26 8,
 vO 27 (.bin .mul (vT 25) (vT 26)),
 vM 28 10,
 vO 29 (.bin .shr (vT 28) (.const (.int .u64 32))),
 vO 30 (.bin .add (vT 27) (vT 29)),
 vM 11 30])<|
 .seq (.ops [
 vM 31 11,
 vO 32 (.bin .and (vT 31) (.const (.int .u64 4294967295))),
 vM 12 32])<|
 .seq (.ops [
 vM 33 11,
 vO 34 (.bin .shr (vT 33) (.const (.int .u64 32))),
 vM 13 34])<|
 .seq (.ops [
 vM 35 12,
 vM 36 6,
 vM 37 9,
 vO 38 (.bin .mul (vT 36) (vT 37)),
 vO 39 (.bin .add (vT 35) (vT 38)),
 vM 12 39])<|
 .seq (.ops [
 vM 40 7,
 vM 41 9,
 vO 42 (.bin .mul (vT 40) (vT 41)),
 vM 43 13,
 vO 44 (.bin .add (vT 42) (vT 43)),
 vM 45 12,
 vO 46 (.bin .shr (vT 45) (.const (.int .u64 32))),
 vO 47 (.bin .add (vT 44) (vT 46)),
 vM 4 47])<|
 .seq (.ops [
 vM 48 0,
 vM 49 1,
 vO 50 (.bin .mul (vT 48) (vT 49)),
 vM 5 50])<|
 .keep [4,5]<|
 .ret⟩
theorem e_zz70:EntOK Tryz.prog (compD Tryz.prog) k_zz70 i_zz70.vf:=
 ⟨Tryz.f209,Tryz.f209.body.getD .skip,Tryz.func209,by kernel_rfl,by kernel_rfl,by kernel_rfl,by kernel_rfl,by kernel_rfl⟩
/-- slices.order2Ordered[int64] -/
def i_zz29:FF:=⟨28,[.tmp 8,.tmp 9],
 .seq (.ops [
 vO 8 (.mv (vC 0)),
 vO 9 (.mv (vC 0))])<|
 .seq (.seq (.dops [
 vM 10 0,
 vM 11 2,
 vO 12 (.idx 1 (vT 10) (vT 11)),
 vO 13 (.load false 1 (vT 12)),
 vM 14 0,
 vM 15 1,
 vO 16 (.idx 1 (vT 14) (vT 15)),
 vO 17 (.load false 1 (vT 16)),
 vO 18 (.call k_zz71 [vT 13,vT 17])])<|
 .cond (vT 18)
 (.seq (.ops [
 vM 19 3,
 vO 20 (.nilchk (vT 19)),
 vO 21 (.load false 1 (vT 20)),
 vO 22 (.bin .add (vT 21) (vC 1)),
 vO 23 (.nilchk (vT 19)),
 ⟨none,.store 1 (vT 23) (vT 22),none,0⟩])<|
 .seq (.ops [
 vM 24 2,
 vM 25 1,
 vM 8 24,
 vM 9 25])<|
 .keep [8,9]<|
 .ret)
 (.skip))<|
 .seq (.ops [
 vM 26 1,
 vM 27 2,
 vM 8 26,
 vM 9 27])<|
 .keep [8,9]<|
 .ret⟩
theorem e_zz29:EntOK Tryz.prog (compD Tryz.prog) k_zz29 i_zz29.vf:=
 ⟨Tryz.f210,Tryz.f210.body.getD .skip,Tryz.func210,by kernel_rfl,by kernel_rfl,by kernel_rfl,by kernel_rfl,by kernel_rfl⟩
/-- slices.pdqsortCmpFunc[loop.example/g01331/impl.told] -/
def i_zz18_B1:FC:=
 .block 1<|
 .seq (.ops [
 vM 21 2,
 vM 22 1,
 vO 23 (.bin .sub (vT 21) (vT 22)),
 vM 12 23])<|
 .seq (.seq (.ops [
 vM 24 12,
 vO 25 (.bin .leq (vT 24) (vC 12))])<|
 .cond (vT 25)
 (.seq (.ops [
 vM 26 0,
 vM 27 1,
 vM 28 2,
 vM 29 4,
 vO 30 (.call k_zz5 [vT 26,vT 27,vT 28,vT 29])])<|
 .keep []<|
 .ret)
 (.skip))<|
 .seq (.seq (.ops [
 vM 31 3,
 vO 32 (.bin .eql (vT 31) (vC 0))])<|
 .cond (vT 32)
 (.seq (.ops [
 vM 33 0,
 vM 34 1,
 vM 35 2,
 vM 36 4,
 vO 37 (.call k_zz14 [vT 33,vT 34,vT 35,vT 36])])<|
 .keep []<|
 .ret)
 (.skip))<|
 .seq (.seq (.ops [
 vM 38 10,
 vO 39 (.un .not (vT 38))])<|
 .cond (vT 39)
 (.seq (.ops [
 vM 40 0,
 vM 41 1,
 vM 42 2,
 vM 43 4,
 vO 44 (.call k_zz4 [vT 40,vT 41,vT 42,vT 43])])<|
 .ops [
 vM 45 3,
 vO 46 (.bin .sub (vT 45) (vC 1)),
 vM 3 46])
 (.skip))<|
 .seq (.ops [
 vM 48 0,
 vM 49 1,
 vM 50 2,
 vM 51 4,
 vO 52 (.call k_zz8 [vT 48,vT 49,vT 50,vT 51]),
 vM 47 52,
 vO 53 (.ext (vT 47) 0),
 vO 54 (.ext (vT 47) 1),
 vM 13 53,
 vM 14 54])<|
 .seq (.seq (.ops [
 vM 55 14,
 vO 56 (.bin .eql (vT 55) (vC 2))])<|
 .cond (vT 56)
 (.seq (.ops [
 vM 57 0,
 vM 58 1,
 vM 59 2,
 vM 60 4,
 vO 61 (.call k_zz6 [vT 57,vT 58,vT 59,vT 60])])<|
 .seq (.ops [
 vM 62 2,
 vO 63 (.bin .sub (vT 62) (vC 1)),
 vM 64 13,
 vM 65 1,
 vO 66 (.bin .sub (vT 64) (vT 65)),
 vO 67 (.bin .sub (vT 63) (vT 66)),
 vM 13 67])<|
 .ops [
 vO 14 (.mv (vC 1))])
 (.skip))<|
 .seq (.seq (.ops [
 vM 68 10,
 vM 69 68,
 ⟨some 70,.mv (vT 11),some (69,true),0⟩,
 vO 71 (.pick (vT 69) (vT 70) (.const (.bool false))),
 vM 72 71,
 ⟨some 73,.mv (vT 14),some (72,true),0⟩,
 ⟨some 74,.bin .eql (vT 73) (vC 1),some (72,true),0⟩,
 vO 75 (.pick (vT 72) (vT 74) (.const (.bool false)))])<|
 .cond (vT 75)
 (.seq (.ops [
 vM 76 0,
 vM 77 1,
 vM 78 2,
 vM 79 4,
 vO 80 (.call k_zz0 [vT 76,vT 77,vT 78,vT 79])])<|
 .cond (vT 80)
 (.keep []<|
 .ret)
 (.skip))
 (.skip))<|
 .seq (.seq (.dops [
 vM 81 1,
 vO 82 (.bin .gtr (vT 81) (vC 0)),
 vM 83 82,
 ⟨some 84,.mv (vT 4),some (83,true),0⟩,
 ⟨some 85,.mv (vT 0),some (83,true),0⟩,
 ⟨some 86,.mv (vT 1),some (83,true),0⟩,
 ⟨some 87,.bin .sub (vT 86) (vC 1),some (83,true),0⟩,
 ⟨some 88,.idx 3 (vT 85) (vT 87),some (83,true),0⟩,
 ⟨some 89,.load true 3 (vT 88),some (83,true),0⟩,
 ⟨some 90,.mv (vT 0),some (83,true),0⟩,
 ⟨some 91,.mv (vT 13),some (83,true),0⟩,
 ⟨some 92,.idx 3 (vT 90) (vT 91),some (83,true),0⟩,
 ⟨some 93,.load true 3 (vT 92),some (83,true),0⟩,
 ⟨some 94,.callv (vT 84) [vT 89,vT 93],some (83,true),0⟩,
 ⟨some 95,.bin .lss (vT 94) (vC 0),some (83,true),0⟩,
 ⟨some 96,.un .not (vT 95),some (83,true),0⟩,
 vO 97 (.pick (vT 83) (vT 96) (.const (.bool false)))])<|
 .cond (vT 97)
 (.seq (.ops [
 vM 98 0,
 vM 99 1,
 vM 100 2,
 vM 101 13,
 vM 102 4,
 vO 103 (.call k_zz3 [vT 98,vT 99,vT 100,vT 101,vT 102]),
 vM 15 103])<|
 .seq (.ops [
 vM 104 15,
 vM 1 104])<|
 .keep [0,1,2,3,4,10,11]<|
 .exit 1)
 (.skip))<|
 .seq (.ops [
 vM 106 0,
 vM 107 1,
 vM 108 2,
 vM 109 13,
 vM 110 4,
 vO 111 (.call k_zz13 [vT 106,vT 107,vT 108,vT 109,vT 110]),
 vM 105 111,
 vO 112 (.ext (vT 105) 0),
 vO 113 (.ext (vT 105) 1),
 vM 16 112,
 vM 17 113])<|
 .seq (.ops [
 vM 114 17,
 vM 11 114])<|
 .seq (.ops [
 vM 115 16,
 vM 116 1,
 vO 117 (.bin .sub (vT 115) (vT 116)),
 vM 118 2,
 vM 119 16,
 vO 120 (.bin .sub (vT 118) (vT 119)),
 vM 18 117,
 vM 19 120])<|
 .seq (.ops [
 vM 121 12,
 vO 122 (.bin .quo (vT 121) (vC 8)),
 vM 20 122])<|
 .seq (.ops [
 vM 123 18,
 vM 124 19,
 vO 125 (.bin .lss (vT 123) (vT 124))])<|
 .cond (vT 125)
 (.seq (.ops [
 vM 126 18,
 vM 127 20,
 vO 128 (.bin .geq (vT 126) (vT 127)),
 vM 10 128])<|
 .seq (.ops [
 vM 129 0,
 vM 130 1,
 vM 131 16,
 vM 132 3,
 vM 133 4,
 vO 134 (.call k_zz18 [vT 129,vT 130,vT 131,vT 132,vT 133])])<|
 .ops [
 vM 135 16,
 vO 136 (.bin .add (vT 135) (vC 1)),
 vM 1 136])
 (.seq (.ops [
 vM 137 19,
 vM 138 20,
 vO 139 (.bin .geq (vT 137) (vT 138)),
 vM 10 139])<|
 .seq (.ops [
 vM 140 0,
 vM 141 16,
 vO 142 (.bin .add (vT 141) (vC 1)),
 vM 143 2,
 vM 144 3,
 vM 145 4,
 vO 146 (.call k_zz18 [vT 140,vT 142,vT 143,vT 144,vT 145])])<|
 .ops [
 vM 147 16,
 vM 2 147])
def i_zz18:FF:=⟨148,[],
 .seq (.ops [
 vO 10 (.mv (.const (.bool true)))])<|
 .seq (.ops [
 vO 11 (.mv (.const (.bool true)))])<|
 .block 0<|
 .loop [0,1,2,3,4,10,11] i_zz18_B1⟩
theorem e_zz18:EntOK Tryz.prog (compD Tryz.prog) k_zz18 i_zz18.vf:=
 ⟨Tryz.f211,Tryz.f211.body.getD .skip,Tryz.func211,by kernel_rfl,by kernel_rfl,by kernel_rfl,by kernel_rfl,by kernel_rfl⟩
/-- slices.insertionSortCmpFunc[loop.example/g01331/impl.told] -/
def i_zz5_B1:FC:=
 .seq (.seq (.dops [
 vM 18 9,
 vM 19 1,
 vO 20 (.bin .gtr (vT 18) (vT 19)),
 vM 21 20,
 ⟨some 22,.mv (vT 3),some (21,true),0⟩,
 ⟨some 23,.mv (vT 0),some (21,true),0⟩,
 ⟨some 24,.mv (vT 9),some (21,true),0⟩,
 ⟨some 25,.idx 3 (vT 23) (vT 24),some (21,true),0⟩,
 ⟨some 26,.load true 3 (vT 25),some (21,true),0⟩,
 ⟨some 27,.mv (vT 0),some (21,true),0⟩,
 ⟨some 28,.mv (vT 9),some (21,true),0⟩,
 ⟨some 29,.bin .sub (vT 28) (vC 1),some (21,true),0⟩,
 ⟨some 30,.idx 3 (vT 27) (vT 29),some (21,true),0⟩,
 ⟨some 31,.load true 3 (vT 30),some (21,true),0⟩,
 ⟨some 32,.callv (vT 22) [vT 26,vT 31],some (21,true),0⟩,
 ⟨some 33,.bin .lss (vT 32) (vC 0),some (21,true),0⟩,
 vO 34 (.pick (vT 21) (vT 33) (.const (.bool false)))])<|
 .cond (vT 34)
 (.skip)
 (.keep [0,1,2,3,8]<|
 .exit 2))<|
 .seq (.block 3<|
 .dops [
 vM 37 0,
 vM 38 9,
 vM 42 0,
 vM 43 9,
 vO 44 (.bin .sub (vT 43) (vC 1)),
 vO 45 (.idx 3 (vT 42) (vT 44)),
 vO 46 (.load true 3 (vT 45)),
 vM 47 0,
 vM 48 9,
 vO 49 (.idx 3 (vT 47) (vT 48)),
 vO 50 (.load true 3 (vT 49)),
 vO 51 (.idx 3 (vT 37) (vT 38)),
 ⟨none,.store 3 (vT 51) (vT 46),none,0⟩,
 ⟨some 39,.mv (vT 0),none,1⟩,
 ⟨some 40,.mv (vT 9),none,1⟩,
 ⟨some 41,.bin .sub (vT 40) (vC 1),none,1⟩,
 vO 52 (.idx 3 (vT 39) (vT 41)),
 ⟨none,.store 3 (vT 52) (vT 50),none,0⟩])<|
 .ops [
 vM 35 9,
 vO 36 (.bin .sub (vT 35) (vC 1)),
 vM 9 36]
def i_zz5_B2:FC:=
 .seq (.seq (.ops [
 vM 12 8,
 vM 13 2,
 vO 14 (.bin .lss (vT 12) (vT 13))])<|
 .cond (vT 14)
 (.skip)
 (.keep []<|
 .exit 0))<|
 .seq (.block 1<|
 .seq (.ops [
 vM 17 8,
 vM 9 17])<|
 .block 2<|
 .loop [0,1,2,3,8,9] i_zz5_B1)<|
 .ops [
 vM 15 8,
 vO 16 (.bin .add (vT 15) (vC 1)),
 vM 8 16]
def i_zz5:FF:=⟨53,[],
 .seq (.ops [
 vM 10 1,
 vO 11 (.bin .add (vT 10) (vC 1)),
 vM 8 11])<|
 .block 0<|
 .loop [0,1,2,3,8] i_zz5_B2⟩
theorem e_zz5:EntOK Tryz.prog (compD Tryz.prog) k_zz5 i_zz5.vf:=
 ⟨Tryz.f212,Tryz.f212.body.getD .skip,Tryz.func212,by kernel_rfl,by kernel_rfl,by kernel_rfl,by kernel_rfl,by kernel_rfl⟩
/-- slices.heapSortCmpFunc[loop.example/g01331/impl.told] -/
def i_zz14_B1:FC:=
 .seq (.seq (.ops [
 vM 20 11,
 vO 21 (.bin .geq (vT 20) (vC 0))])<|
 .cond (vT 21)
 (.skip)
 (.keep [0,3,8,9,10]<|
 .exit 0))<|
 .seq (.block 1<|
 .ops [
 vM 24 0,
 vM 25 11,
 vM 26 10,
 vM 27 8,
 vM 28 3,
 vO 29 (.call k_zz16 [vT 24,vT 25,vT 26,vT 27,vT 28])])<|
 .ops [
 vM 22 11,
 vO 23 (.bin .sub (vT 22) (vC 1)),
 vM 11 23]
def i_zz14_B2:FC:=
 .seq (.seq (.ops [
 vM 32 12,
 vO 33 (.bin .geq (vT 32) (vC 0))])<|
 .cond (vT 33)
 (.skip)
 (.keep []<|
 .exit 2))<|
 .seq (.block 3<|
 .seq (.dops [
 vM 36 0,
 vM 37 8,
 vM 42 0,
 vM 43 8,
 vM 44 12,
 vO 45 (.bin .add (vT 43) (vT 44)),
 vO 46 (.idx 3 (vT 42) (vT 45)),
 vO 47 (.load true 3 (vT 46)),
 vM 48 0,
 vM 49 8,
 vO 50 (.idx 3 (vT 48) (vT 49)),
 vO 51 (.load true 3 (vT 50)),
 vO 52 (.idx 3 (vT 36) (vT 37)),
 ⟨none,.store 3 (vT 52) (vT 47),none,0⟩,
 ⟨some 38,.mv (vT 0),none,1⟩,
 ⟨some 39,.mv (vT 8),none,1⟩,
 ⟨some 40,.mv (vT 12),none,1⟩,
 ⟨some 41,.bin .add (vT 39) (vT 40),none,1⟩,
 vO 53 (.idx 3 (vT 38) (vT 41)),
 ⟨none,.store 3 (vT 53) (vT 51),none,0⟩])<|
 .ops [
 vM 54 0,
 vM 55 9,
 vM 56 12,
 vM 57 8,
 vM 58 3,
 vO 59 (.call k_zz16 [vT 54,vT 55,vT 56,vT 57,vT 58])])<|
 .ops [
 vM 34 12,
 vO 35 (.bin .sub (vT 34) (vC 1)),
 vM 12 35]
def i_zz14:FF:=⟨60,[],
 .seq (.ops [
 vM 13 1,
 vM 8 13])<|
 .seq (.ops [
 vO 9 (.mv (vC 0))])<|
 .seq (.ops [
 vM 14 2,
 vM 15 1,
 vO 16 (.bin .sub (vT 14) (vT 15)),
 vM 10 16])<|
 .seq (.seq (.ops [
 vM 17 10,
 vO 18 (.bin .sub (vT 17) (vC 1)),
 vO 19 (.bin .quo (vT 18) (vC 2)),
 vM 11 19])<|
 .block 0<|
 .loop [0,3,8,9,10,11] i_zz14_B1)<|
 .seq (.ops [
 vM 30 10,
 vO 31 (.bin .sub (vT 30) (vC 1)),
 vM 12 31])<|
 .block 2<|
 .loop [0,3,8,9,12] i_zz14_B2⟩
theorem e_zz14:EntOK Tryz.prog (compD Tryz.prog) k_zz14 i_zz14.vf:=
 ⟨Tryz.f213,Tryz.f213.body.getD .skip,Tryz.func213,by kernel_rfl,by kernel_rfl,by kernel_rfl,by kernel_rfl,by kernel_rfl⟩
/-- slices.breakPatternsCmpFunc[loop.example/g01331/impl.told] -/
def i_zz4_B1:FC:=
 .seq (.seq (.ops [
 vM 28 11,
 vM 29 1,
 vM 30 8,
 vO 31 (.bin .quo (vT 30) (vC 4)),
 vO 32 (.bin .mul (vT 31) (vC 2)),
 vO 33 (.bin .add (vT 29) (vT 32)),
 vO 34 (.bin .add (vT 33) (vC 1)),
 vO 35 (.bin .leq (vT 28) (vT 34))])<|
 .cond (vT 35)
 (.skip)
 (.keep []<|
 .exit 0))<|
 .seq (.block 1<|
 .seq (.ops [
 vO 38 (.call k_zz46 [vT 9]),
 vM 39 10,
 vO 40 (.bin .sub (vT 39) (.const (.int .u64 1))),
 vO 41 (.bin .and (vT 38) (vT 40)),
 vO 42 (.conv .i64 (vT 41)),
 vM 12 42])<|
 .seq (.seq (.ops [
 vM 43 12,
 vM 44 8,
 vO 45 (.bin .geq (vT 43) (vT 44))])<|
 .cond (vT 45)
 (.ops [
 vM 46 12,
 vM 47 8,
 vO 48 (.bin .sub (vT 46) (vT 47)),
 vM 12 48])
 (.skip))<|
 .dops [
 vM 49 0,
 vM 50 11,
 vM 55 0,
 vM 56 1,
 vM 57 12,
 vO 58 (.bin .add (vT 56) (vT 57)),
 vO 59 (.idx 3 (vT 55) (vT 58)),
 vO 60 (.load true 3 (vT 59)),
 vM 61 0,
 vM 62 11,
 vO 63 (.idx 3 (vT 61) (vT 62)),
 vO 64 (.load true 3 (vT 63)),
 vO 65 (.idx 3 (vT 49) (vT 50)),
 ⟨none,.store 3 (vT 65) (vT 60),none,0⟩,
 ⟨some 51,.mv (vT 0),none,1⟩,
 ⟨some 52,.mv (vT 1),none,1⟩,
 ⟨some 53,.mv (vT 12),none,1⟩,
 ⟨some 54,.bin .add (vT 52) (vT 53),none,1⟩,
 vO 66 (.idx 3 (vT 51) (vT 54)),
 ⟨none,.store 3 (vT 66) (vT 64),none,0⟩])<|
 .ops [
 vM 36 11,
 vO 37 (.bin .add (vT 36) (vC 1)),
 vM 11 37]
def i_zz4:FF:=⟨67,[],
 .seq (.ops [
 vM 13 2,
 vM 14 1,
 vO 15 (.bin .sub (vT 13) (vT 14)),
 vM 8 15])<|
 .seq (.ops [
 vM 16 8,
 vO 17 (.bin .geq (vT 16) (vC 8))])<|
 .cond (vT 17)
 (.seq (.ops [
 vM 18 8,
 vO 19 (.conv .u64 (vT 18)),
 vO 9 (.alloc [.int .u64 0]),
 ⟨none,.store 1 (vT 9) (vT 19),none,0⟩])<|
 .seq (.ops [
 vM 20 8,
 vO 21 (.call k_zz43 [vT 20]),
 vM 10 21])<|
 .seq (.ops [
 vM 22 1,
 vM 23 8,
 vO 24 (.bin .quo (vT 23) (vC 4)),
 vO 25 (.bin .mul (vT 24) (vC 2)),
 vO 26 (.bin .add (vT 22) (vT 25)),
 vO 27 (.bin .sub (vT 26) (vC 1)),
 vM 11 27])<|
 .block 0<|
 .loop [0,1,8,9,10,11] i_zz4_B1)
 (.skip)⟩
theorem e_zz4:EntOK Tryz.prog (compD Tryz.prog) k_zz4 i_zz4.vf:=
 ⟨Tryz.f214,Tryz.f214.body.getD .skip,Tryz.func214,by kernel_rfl,by kernel_rfl,by kernel_rfl,by kernel_rfl,by kernel_rfl⟩
/-- slices.choosePivotCmpFunc[loop.example/g01331/impl.told] -/
def i_zz8:FF:=⟨63,[.tmp 8,.tmp 9],
 .seq (.ops [
 vO 8 (.mv (vC 0)),
 vO 9 (.mv (vC 0))])<|
 .seq (.ops [
 vM 15 2,
 vM 16 1,
 vO 17 (.bin .sub (vT 15) (vT 16)),
 vM 10 17])<|
 .seq (.ops [
 vO 11 (.alloc [.int .i64 0])])<|
 .seq (.ops [
 vM 18 1,
 vM 19 10,
 vO 20 (.bin .quo (vT 19) (vC 4)),
 vO 21 (.bin .mul (vT 20) (vC 1)),
 vO 22 (.bin .add (vT 18) (vT 21)),
 vM 12 22])<|
 .seq (.ops [
 vM 23 1,
 vM 24 10,
 vO 25 (.bin .quo (vT 24) (vC 4)),
 vO 26 (.bin .mul (vT 25) (vC 2)),
 vO 27 (.bin .add (vT 23) (vT 26)),
 vM 13 27])<|
 .seq (.ops [
 vM 28 1,
 vM 29 10,
 vO 30 (.bin .quo (vT 29) (vC 4)),
 vO 31 (.bin .mul (vT 30) (vC 3)),
 vO 32 (.bin .add (vT 28) (vT 31)),
 vM 14 32])<|
 .seq (.seq (.ops [
 vM 33 10,
 vO 34 (.bin .geq (vT 33) (vC 8))])<|
 .cond (vT 34)
 (.seq (.seq (.ops [
 vM 35 10,
 vO 36 (.bin .geq (vT 35) (vC 50))])<|
 .cond (vT 36)
 (.seq (.ops [
 vM 37 0,
 vM 38 12,
 vM 39 3,
 vO 40 (.call k_zz2 [vT 37,vT 38,vT 11,vT 39]),
 vM 12 40])<|
 .seq (.ops [
 vM 41 0,
 vM 42 13,
 vM 43 3,
 vO 44 (.call k_zz2 [vT 41,vT 42,vT 11,vT 43]),
 vM 13 44])<|
 .ops [
 vM 45 0,
 vM 46 14,
 vM 47 3,
 vO 48 (.call k_zz2 [vT 45,vT 46,vT 11,vT 47]),
 vM 14 48])
 (.skip))<|
 .ops [
 vM 49 0,
 vM 50 12,
 vM 51 13,
 vM 52 14,
 vM 53 3,
 vO 54 (.call k_zz19 [vT 49,vT 50,vT 51,vT 52,vT 11,vT 53]),
 vM 13 54])
 (.skip))<|
 .seq (.ops [
 vO 55 (.load false 1 (vT 11))])<|
 .block 0<|
 .seq (.ops [
 vO 58 (.bin .eql (vT 55) (vC 0)),
 vM 57 58])<|
 .cond (vT 57)
 (.seq (.ops [
 vM 59 13,
 vM 8 59,
 vO 9 (.mv (vC 1))])<|
 .keep [8,9]<|
 .ret)
 (.seq (.ops [
 vO 61 (.bin .eql (vT 55) (vC 12)),
 vM 60 61])<|
 .cond (vT 60)
 (.seq (.ops [
 vM 62 13,
 vM 8 62,
 vO 9 (.mv (vC 2))])<|
 .keep [8,9]<|
 .ret)
 (.seq (.ops [
 vM 56 13,
 vM 8 56,
 vO 9 (.mv (vC 0))])<|
 .keep [8,9]<|
 .ret))⟩
theorem e_zz8:EntOK Tryz.prog (compD Tryz.prog) k_zz8 i_zz8.vf:=
 ⟨Tryz.f215,Tryz.f215.body.getD .skip,Tryz.func215,by kernel_rfl,by kernel_rfl,by kernel_rfl,by kernel_rfl,by kernel_rfl⟩
/-- slices.reverseRangeCmpFunc[loop.example/g01331/impl.told] -/
def i_zz6_B1:FC:=
 .seq (.seq (.ops [
 vM 13 8,
 vM 14 9,
 vO 15 (.bin .lss (vT 13) (vT 14))])<|
 .cond (vT 15)
 (.skip)
 (.keep []<|
 .exit 0))<|
 .block 1<|
 .seq (.dops [
 vM 16 0,
 vM 17 8,
 vM 20 0,
 vM 21 9,
 vO 22 (.idx 3 (vT 20) (vT 21)),
 vO 23 (.load true 3 (vT 22)),
 vM 24 0,
 vM 25 8,
 vO 26 (.idx 3 (vT 24) (vT 25)),
 vO 27 (.load true 3 (vT 26)),
 vO 28 (.idx 3 (vT 16) (vT 17)),
 ⟨none,.store 3 (vT 28) (vT 23),none,0⟩,
 ⟨some 18,.mv (vT 0),none,1⟩,
 ⟨some 19,.mv (vT 9),none,1⟩,
 vO 29 (.idx 3 (vT 18) (vT 19)),
 ⟨none,.store 3 (vT 29) (vT 27),none,0⟩])<|
 .seq (.ops [
 vM 30 8,
 vO 31 (.bin .add (vT 30) (vC 1)),
 vM 8 31])<|
 .ops [
 vM 32 9,
 vO 33 (.bin .sub (vT 32) (vC 1)),
 vM 9 33]
def i_zz6:FF:=⟨34,[],
 .seq (.ops [
 vM 10 1,
 vM 8 10])<|
 .seq (.ops [
 vM 11 2,
 vO 12 (.bin .sub (vT 11) (vC 1)),
 vM 9 12])<|
 .block 0<|
 .loop [0,8,9] i_zz6_B1⟩
theorem e_zz6:EntOK Tryz.prog (compD Tryz.prog) k_zz6 i_zz6.vf:=
 ⟨Tryz.f216,Tryz.f216.body.getD .skip,Tryz.func216,by kernel_rfl,by kernel_rfl,by kernel_rfl,by kernel_rfl,by kernel_rfl⟩
/-- slices.partialInsertionSortCmpFunc[loop.example/g01331/impl.told] -/
def i_zz0_B1:FC:=
 .seq (.seq (.dops [
 vM 19 9,
 vM 20 2,
 vO 21 (.bin .lss (vT 19) (vT 20)),
 vM 22 21,
 ⟨some 23,.mv (vT 3),some (22,true),0⟩,
 ⟨some 24,.mv (vT 0),some (22,true),0⟩,
 ⟨some 25,.mv (vT 9),some (22,true),0⟩,
 ⟨some 26,.idx 3 (vT 24) (vT 25),some (22,true),0⟩,
 ⟨some 27,.load true 3 (vT 26),some (22,true),0⟩,
 ⟨some 28,.mv (vT 0),some (22,true),0⟩,
 ⟨some 29,.mv (vT 9),some (22,true),0⟩,
 ⟨some 30,.bin .sub (vT 29) (vC 1),some (22,true),0⟩,
 ⟨some 31,.idx 3 (vT 28) (vT 30),some (22,true),0⟩,
 ⟨some 32,.load true 3 (vT 31),some (22,true),0⟩,
 ⟨some 33,.callv (vT 23) [vT 27,vT 32],some (22,true),0⟩,
 ⟨some 34,.bin .lss (vT 33) (vC 0),some (22,true),0⟩,
 ⟨some 35,.un .not (vT 34),some (22,true),0⟩,
 vO 36 (.pick (vT 22) (vT 35) (.const (.bool false)))])<|
 .cond (vT 36)
 (.skip)
 (.keep [0,1,2,3,9,10]<|
 .exit 2))<|
 .block 3<|
 .ops [
 vM 37 9,
 vO 38 (.bin .add (vT 37) (vC 1)),
 vM 9 38]
def i_zz0_B2:FC:=
 .seq (.seq (.ops [
 vM 68 11,
 vO 69 (.bin .geq (vT 68) (vC 1))])<|
 .cond (vT 69)
 (.skip)
 (.keep [0,1,2,3,9,10]<|
 .exit 4))<|
 .seq (.block 5<|
 .seq (.seq (.dops [
 vM 72 3,
 vM 73 0,
 vM 74 11,
 vO 75 (.idx 3 (vT 73) (vT 74)),
 vO 76 (.load true 3 (vT 75)),
 vM 77 0,
 vM 78 11,
 vO 79 (.bin .sub (vT 78) (vC 1)),
 vO 80 (.idx 3 (vT 77) (vT 79)),
 vO 81 (.load true 3 (vT 80)),
 vO 82 (.callv (vT 72) [vT 76,vT 81]),
 vO 83 (.bin .lss (vT 82) (vC 0)),
 vO 84 (.un .not (vT 83))])<|
 .cond (vT 84)
 (.keep [0,1,2,3,9,10]<|
 .exit 4)
 (.skip))<|
 .dops [
 vM 85 0,
 vM 86 11,
 vM 90 0,
 vM 91 11,
 vO 92 (.bin .sub (vT 91) (vC 1)),
 vO 93 (.idx 3 (vT 90) (vT 92)),
 vO 94 (.load true 3 (vT 93)),
 vM 95 0,
 vM 96 11,
 vO 97 (.idx 3 (vT 95) (vT 96)),
 vO 98 (.load true 3 (vT 97)),
 vO 99 (.idx 3 (vT 85) (vT 86)),
 ⟨none,.store 3 (vT 99) (vT 94),none,0⟩,
 ⟨some 87,.mv (vT 0),none,1⟩,
 ⟨some 88,.mv (vT 11),none,1⟩,
 ⟨some 89,.bin .sub (vT 88) (vC 1),none,1⟩,
 vO 100 (.idx 3 (vT 87) (vT 89)),
 ⟨none,.store 3 (vT 100) (vT 98),none,0⟩])<|
 .ops [
 vM 70 11,
 vO 71 (.bin .sub (vT 70) (vC 1)),
 vM 11 71]
def i_zz0_B3:FC:=
 .seq (.seq (.ops [
 vM 107 12,
 vM 108 2,
 vO 109 (.bin .lss (vT 107) (vT 108))])<|
 .cond (vT 109)
 (.skip)
 (.keep [0,1,2,3,9,10]<|
 .exit 6))<|
 .seq (.block 7<|
 .seq (.seq (.dops [
 vM 112 3,
 vM 113 0,
 vM 114 12,
 vO 115 (.idx 3 (vT 113) (vT 114)),
 vO 116 (.load true 3 (vT 115)),
 vM 117 0,
 vM 118 12,
 vO 119 (.bin .sub (vT 118) (vC 1)),
 vO 120 (.idx 3 (vT 117) (vT 119)),
 vO 121 (.load true 3 (vT 120)),
 vO 122 (.callv (vT 112) [vT 116,vT 121]),
 vO 123 (.bin .lss (vT 122) (vC 0)),
 vO 124 (.un .not (vT 123))])<|
 .cond (vT 124)
 (.keep [0,1,2,3,9,10]<|
 .exit 6)
 (.skip))<|
 .dops [
 vM 125 0,
 vM 126 12,
 vM 130 0,
 vM 131 12,
 vO 132 (.bin .sub (vT 131) (vC 1)),
 vO 133 (.idx 3 (vT 130) (vT 132)),
 vO 134 (.load true 3 (vT 133)),
 vM 135 0,
 vM 136 12,
 vO 137 (.idx 3 (vT 135) (vT 136)),
 vO 138 (.load true 3 (vT 137)),
 vO 139 (.idx 3 (vT 125) (vT 126)),
 ⟨none,.store 3 (vT 139) (vT 134),none,0⟩,
 ⟨some 127,.mv (vT 0),none,1⟩,
 ⟨some 128,.mv (vT 12),none,1⟩,
 ⟨some 129,.bin .sub (vT 128) (vC 1),none,1⟩,
 vO 140 (.idx 3 (vT 127) (vT 129)),
 ⟨none,.store 3 (vT 140) (vT 138),none,0⟩])<|
 .ops [
 vM 110 12,
 vO 111 (.bin .add (vT 110) (vC 1)),
 vM 12 111]
def i_zz0_B4:FC:=
 .seq (.seq (.ops [
 vM 15 10,
 vO 16 (.bin .lss (vT 15) (vC 5))])<|
 .cond (vT 16)
 (.skip)
 (.keep []<|
 .exit 0))<|
 .seq (.block 1<|
 .seq (.block 2<|
 .loop [0,1,2,3,9,10] i_zz0_B1)<|
 .seq (.seq (.ops [
 vM 39 9,
 vM 40 2,
 vO 41 (.bin .eql (vT 39) (vT 40))])<|
 .cond (vT 41)
 (.seq (.ops [
 vO 8 (.mv (.const (.bool true)))])<|
 .keep [8]<|
 .ret)
 (.skip))<|
 .seq (.seq (.ops [
 vM 42 2,
 vM 43 1,
 vO 44 (.bin .sub (vT 42) (vT 43)),
 vO 45 (.bin .lss (vT 44) (vC 50))])<|
 .cond (vT 45)
 (.seq (.ops [
 vO 8 (.mv (.const (.bool false)))])<|
 .keep [8]<|
 .ret)
 (.skip))<|
 .seq (.dops [
 vM 46 0,
 vM 47 9,
 vM 51 0,
 vM 52 9,
 vO 53 (.bin .sub (vT 52) (vC 1)),
 vO 54 (.idx 3 (vT 51) (vT 53)),
 vO 55 (.load true 3 (vT 54)),
 vM 56 0,
 vM 57 9,
 vO 58 (.idx 3 (vT 56) (vT 57)),
 vO 59 (.load true 3 (vT 58)),
 vO 60 (.idx 3 (vT 46) (vT 47)),
 ⟨none,.store 3 (vT 60) (vT 55),none,0⟩,
 ⟨some 48,.mv (vT 0),none,1⟩,
 ⟨some 49,.mv (vT 9),none,1⟩,
 ⟨some 50,.bin .sub (vT 49) (vC 1),none,1⟩,
 vO 61 (.idx 3 (vT 48) (vT 50)),
 ⟨none,.store 3 (vT 61) (vT 59),none,0⟩])<|
 .seq (.seq (.ops [
 vM 62 9,
 vM 63 1,
 vO 64 (.bin .sub (vT 62) (vT 63)),
 vO 65 (.bin .geq (vT 64) (vC 2))])<|
 .cond (vT 65)
 (.seq (.ops [
 vM 66 9,
 vO 67 (.bin .sub (vT 66) (vC 1)),
 vM 11 67])<|
 .block 4<|
 .loop [0,1,2,3,9,10,11] i_zz0_B2)
 (.skip))<|
 .seq (.ops [
 vM 101 2,
 vM 102 9,
 vO 103 (.bin .sub (vT 101) (vT 102)),
 vO 104 (.bin .geq (vT 103) (vC 2))])<|
 .cond (vT 104)
 (.seq (.ops [
 vM 105 9,
 vO 106 (.bin .add (vT 105) (vC 1)),
 vM 12 106])<|
 .block 6<|
 .loop [0,1,2,3,9,10,12] i_zz0_B3)
 (.skip))<|
 .ops [
 vM 17 10,
 vO 18 (.bin .add (vT 17) (vC 1)),
 vM 10 18]
def i_zz0:FF:=⟨141,[.tmp 8],
 .seq (.ops [
 vO 8 (.mv (.const (.bool false)))])<|
 .seq (.ops [
 vM 13 1,
 vO 14 (.bin .add (vT 13) (vC 1)),
 vM 9 14])<|
 .seq (.seq (.ops [
 vO 10 (.mv (vC 0))])<|
 .block 0<|
 .loop [0,1,2,3,9,10] i_zz0_B4)<|
 .seq (.ops [
 vO 8 (.mv (.const (.bool false)))])<|
 .keep [8]<|
 .ret⟩
theorem e_zz0:EntOK Tryz.prog (compD Tryz.prog) k_zz0 i_zz0.vf:=
 ⟨Tryz.f217,Tryz.f217.body.getD .skip,Tryz.func217,by kernel_rfl,by kernel_rfl,by kernel_rfl,by kernel_rfl,by kernel_rfl⟩
/-- slices.partitionEqualCmpFunc[loop.example/g01331/impl.told] -/
def i_zz3_B1:FC:=
 .seq (.seq (.dops [
 vM 31 11,
 vM 32 12,
 vO 33 (.bin .leq (vT 31) (vT 32)),
 vM 34 33,
 ⟨some 35,.mv (vT 4),some (34,true),0⟩,
 ⟨some 36,.mv (vT 0),some (34,true),0⟩,
 ⟨some 37,.mv (vT 1),some (34,true),0⟩,
 ⟨some 38,.idx 3 (vT 36) (vT 37),some (34,true),0⟩,
 ⟨some 39,.load true 3 (vT 38),some (34,true),0⟩,
 ⟨some 40,.mv (vT 0),some (34,true),0⟩,
 ⟨some 41,.mv (vT 11),some (34,true),0⟩,
 ⟨some 42,.idx 3 (vT 40) (vT 41),some (34,true),0⟩,
 ⟨some 43,.load true 3 (vT 42),some (34,true),0⟩,
 ⟨some 44,.callv (vT 35) [vT 39,vT 43],some (34,true),0⟩,
 ⟨some 45,.bin .lss (vT 44) (vC 0),some (34,true),0⟩,
 ⟨some 46,.un .not (vT 45),some (34,true),0⟩,
 vO 47 (.pick (vT 34) (vT 46) (.const (.bool false)))])<|
 .cond (vT 47)
 (.skip)
 (.keep [0,1,4,11,12]<|
 .exit 2))<|
 .block 3<|
 .ops [
 vM 48 11,
 vO 49 (.bin .add (vT 48) (vC 1)),
 vM 11 49]
def i_zz3_B2:FC:=
 .seq (.seq (.dops [
 vM 50 11,
 vM 51 12,
 vO 52 (.bin .leq (vT 50) (vT 51)),
 vM 53 52,
 ⟨some 54,.mv (vT 4),some (53,true),0⟩,
 ⟨some 55,.mv (vT 0),some (53,true),0⟩,
 ⟨some 56,.mv (vT 1),some (53,true),0⟩,
 ⟨some 57,.idx 3 (vT 55) (vT 56),some (53,true),0⟩,
 ⟨some 58,.load true 3 (vT 57),some (53,true),0⟩,
 ⟨some 59,.mv (vT 0),some (53,true),0⟩,
 ⟨some 60,.mv (vT 12),some (53,true),0⟩,
 ⟨some 61,.idx 3 (vT 59) (vT 60),some (53,true),0⟩,
 ⟨some 62,.load true 3 (vT 61),some (53,true),0⟩,
 ⟨some 63,.callv (vT 54) [vT 58,vT 62],some (53,true),0⟩,
 ⟨some 64,.bin .lss (vT 63) (vC 0),some (53,true),0⟩,
 vO 65 (.pick (vT 53) (vT 64) (.const (.bool false)))])<|
 .cond (vT 65)
 (.skip)
 (.keep [0,1,4,11,12]<|
 .exit 4))<|
 .block 5<|
 .ops [
 vM 66 12,
 vO 67 (.bin .sub (vT 66) (vC 1)),
 vM 12 67]
def i_zz3_B3:FC:=
 .block 1<|
 .seq (.block 2<|
 .loop [0,1,4,11,12] i_zz3_B1)<|
 .seq (.block 4<|
 .loop [0,1,4,11,12] i_zz3_B2)<|
 .seq (.seq (.ops [
 vM 68 11,
 vM 69 12,
 vO 70 (.bin .gtr (vT 68) (vT 69))])<|
 .cond (vT 70)
 (.keep [11]<|
 .exit 0)
 (.skip))<|
 .seq (.dops [
 vM 71 0,
 vM 72 11,
 vM 75 0,
 vM 76 12,
 vO 77 (.idx 3 (vT 75) (vT 76)),
 vO 78 (.load true 3 (vT 77)),
 vM 79 0,
 vM 80 11,
 vO 81 (.idx 3 (vT 79) (vT 80)),
 vO 82 (.load true 3 (vT 81)),
 vO 83 (.idx 3 (vT 71) (vT 72)),
 ⟨none,.store 3 (vT 83) (vT 78),none,0⟩,
 ⟨some 73,.mv (vT 0),none,1⟩,
 ⟨some 74,.mv (vT 12),none,1⟩,
 vO 84 (.idx 3 (vT 73) (vT 74)),
 ⟨none,.store 3 (vT 84) (vT 82),none,0⟩])<|
 .seq (.ops [
 vM 85 11,
 vO 86 (.bin .add (vT 85) (vC 1)),
 vM 11 86])<|
 .ops [
 vM 87 12,
 vO 88 (.bin .sub (vT 87) (vC 1)),
 vM 12 88]
def i_zz3:FF:=⟨90,[.tmp 10],
 .seq (.ops [
 vO 10 (.mv (vC 0))])<|
 .seq (.dops [
 vM 13 0,
 vM 14 1,
 vM 17 0,
 vM 18 3,
 vO 19 (.idx 3 (vT 17) (vT 18)),
 vO 20 (.load true 3 (vT 19)),
 vM 21 0,
 vM 22 1,
 vO 23 (.idx 3 (vT 21) (vT 22)),
 vO 24 (.load true 3 (vT 23)),
 vO 25 (.idx 3 (vT 13) (vT 14)),
 ⟨none,.store 3 (vT 25) (vT 20),none,0⟩,
 ⟨some 15,.mv (vT 0),none,1⟩,
 ⟨some 16,.mv (vT 3),none,1⟩,
 vO 26 (.idx 3 (vT 15) (vT 16)),
 ⟨none,.store 3 (vT 26) (vT 24),none,0⟩])<|
 .seq (.ops [
 vM 27 1,
 vO 28 (.bin .add (vT 27) (vC 1)),
 vM 29 2,
 vO 30 (.bin .sub (vT 29) (vC 1)),
 vM 11 28,
 vM 12 30])<|
 .seq (.block 0<|
 .loop [0,1,4,11,12] i_zz3_B3)<|
 .seq (.ops [
 vM 89 11,
 vM 10 89])<|
 .keep [10]<|
 .ret⟩
theorem e_zz3:EntOK Tryz.prog (compD Tryz.prog) k_zz3 i_zz3.vf:=
 ⟨Tryz.f218,Tryz.f218.body.getD .skip,Tryz.func218,by kernel_rfl,by kernel_rfl,by kernel_rfl,by kernel_rfl,by kernel_rfl⟩
/-- slices.partitionCmpFunc[loop.example/g01331/impl.told] -/
def i_zz13_B1:FC:=
 .seq (.seq (.dops [
 vM 32 12,
 vM 33 13,
 vO 34 (.bin .leq (vT 32) (vT 33)),
 vM 35 34,
 ⟨some 36,.mv (vT 4),some (35,true),0⟩,
 ⟨some 37,.mv (vT 0),some (35,true),0⟩,
 ⟨some 38,.mv (vT 12),some (35,true),0⟩,
 ⟨some 39,.idx 3 (vT 37) (vT 38),some (35,true),0⟩,
 ⟨some 40,.load true 3 (vT 39),some (35,true),0⟩,
 ⟨some 41,.mv (vT 0),some (35,true),0⟩,
 ⟨some 42,.mv (vT 1),some (35,true),0⟩,
 ⟨some 43,.idx 3 (vT 41) (vT 42),some (35,true),0⟩,
 ⟨some 44,.load true 3 (vT 43),some (35,true),0⟩,
 ⟨some 45,.callv (vT 36) [vT 40,vT 44],some (35,true),0⟩,
 ⟨some 46,.bin .lss (vT 45) (vC 0),some (35,true),0⟩,
 vO 47 (.pick (vT 35) (vT 46) (.const (.bool false)))])<|
 .cond (vT 47)
 (.skip)
 (.keep [0,1,4,12,13]<|
 .exit 0))<|
 .block 1<|
 .ops [
 vM 48 12,
 vO 49 (.bin .add (vT 48) (vC 1)),
 vM 12 49]
def i_zz13_B2:FC:=
 .seq (.seq (.dops [
 vM 50 12,
 vM 51 13,
 vO 52 (.bin .leq (vT 50) (vT 51)),
 vM 53 52,
 ⟨some 54,.mv (vT 4),some (53,true),0⟩,
 ⟨some 55,.mv (vT 0),some (53,true),0⟩,
 ⟨some 56,.mv (vT 13),some (53,true),0⟩,
 ⟨some 57,.idx 3 (vT 55) (vT 56),some (53,true),0⟩,
 ⟨some 58,.load true 3 (vT 57),some (53,true),0⟩,
 ⟨some 59,.mv (vT 0),some (53,true),0⟩,
 ⟨some 60,.mv (vT 1),some (53,true),0⟩,
 ⟨some 61,.idx 3 (vT 59) (vT 60),some (53,true),0⟩,
 ⟨some 62,.load true 3 (vT 61),some (53,true),0⟩,
 ⟨some 63,.callv (vT 54) [vT 58,vT 62],some (53,true),0⟩,
 ⟨some 64,.bin .lss (vT 63) (vC 0),some (53,true),0⟩,
 ⟨some 65,.un .not (vT 64),some (53,true),0⟩,
 vO 66 (.pick (vT 53) (vT 65) (.const (.bool false)))])<|
 .cond (vT 66)
 (.skip)
 (.keep [0,1,4,12,13]<|
 .exit 2))<|
 .block 3<|
 .ops [
 vM 67 13,
 vO 68 (.bin .sub (vT 67) (vC 1)),
 vM 13 68]
def i_zz13_B3:FC:=
 .seq (.seq (.dops [
 vM 105 12,
 vM 106 13,
 vO 107 (.bin .leq (vT 105) (vT 106)),
 vM 108 107,
 ⟨some 109,.mv (vT 4),some (108,true),0⟩,
 ⟨some 110,.mv (vT 0),some (108,true),0⟩,
 ⟨some 111,.mv (vT 12),some (108,true),0⟩,
 ⟨some 112,.idx 3 (vT 110) (vT 111),some (108,true),0⟩,
 ⟨some 113,.load true 3 (vT 112),some (108,true),0⟩,
 ⟨some 114,.mv (vT 0),some (108,true),0⟩,
 ⟨some 115,.mv (vT 1),some (108,true),0⟩,
 ⟨some 116,.idx 3 (vT 114) (vT 115),some (108,true),0⟩,
 ⟨some 117,.load true 3 (vT 116),some (108,true),0⟩,
 ⟨some 118,.callv (vT 109) [vT 113,vT 117],some (108,true),0⟩,
 ⟨some 119,.bin .lss (vT 118) (vC 0),some (108,true),0⟩,
 vO 120 (.pick (vT 108) (vT 119) (.const (.bool false)))])<|
 .cond (vT 120)
 (.skip)
 (.keep [0,1,4,12,13]<|
 .exit 6))<|
 .block 7<|
 .ops [
 vM 121 12,
 vO 122 (.bin .add (vT 121) (vC 1)),
 vM 12 122]
def i_zz13_B4:FC:=
 .seq (.seq (.dops [
 vM 123 12,
 vM 124 13,
 vO 125 (.bin .leq (vT 123) (vT 124)),
 vM 126 125,
 ⟨some 127,.mv (vT 4),some (126,true),0⟩,
 ⟨some 128,.mv (vT 0),some (126,true),0⟩,
 ⟨some 129,.mv (vT 13),some (126,true),0⟩,
 ⟨some 130,.idx 3 (vT 128) (vT 129),some (126,true),0⟩,
 ⟨some 131,.load true 3 (vT 130),some (126,true),0⟩,
 ⟨some 132,.mv (vT 0),some (126,true),0⟩,
 ⟨some 133,.mv (vT 1),some (126,true),0⟩,
 ⟨some 134,.idx 3 (vT 132) (vT 133),some (126,true),0⟩,
 ⟨some 135,.load true 3 (vT 134),some (126,true),0⟩,
 ⟨some 136,.callv (vT 127) [vT 131,vT 135],some (126,true),0⟩,
 ⟨some 137,.bin .lss (vT 136) (vC 0),some (126,true),0⟩,
 ⟨some 138,.un .not (vT 137),some (126,true),0⟩,
 vO 139 (.pick (vT 126) (vT 138) (.const (.bool false)))])<|
 .cond (vT 139)
 (.skip)
 (.keep [0,1,4,12,13]<|
 .exit 8))<|
 .block 9<|
 .ops [
 vM 140 13,
 vO 141 (.bin .sub (vT 140) (vC 1)),
 vM 13 141]
def i_zz13_B5:FC:=
 .block 5<|
 .seq (.block 6<|
 .loop [0,1,4,12,13] i_zz13_B3)<|
 .seq (.block 8<|
 .loop [0,1,4,12,13] i_zz13_B4)<|
 .seq (.seq (.ops [
 vM 142 12,
 vM 143 13,
 vO 144 (.bin .gtr (vT 142) (vT 143))])<|
 .cond (vT 144)
 (.keep [0,1,13]<|
 .exit 4)
 (.skip))<|
 .seq (.dops [
 vM 145 0,
 vM 146 12,
 vM 149 0,
 vM 150 13,
 vO 151 (.idx 3 (vT 149) (vT 150)),
 vO 152 (.load true 3 (vT 151)),
 vM 153 0,
 vM 154 12,
 vO 155 (.idx 3 (vT 153) (vT 154)),
 vO 156 (.load true 3 (vT 155)),
 vO 157 (.idx 3 (vT 145) (vT 146)),
 ⟨none,.store 3 (vT 157) (vT 152),none,0⟩,
 ⟨some 147,.mv (vT 0),none,1⟩,
 ⟨some 148,.mv (vT 13),none,1⟩,
 vO 158 (.idx 3 (vT 147) (vT 148)),
 ⟨none,.store 3 (vT 158) (vT 156),none,0⟩])<|
 .seq (.ops [
 vM 159 12,
 vO 160 (.bin .add (vT 159) (vC 1)),
 vM 12 160])<|
 .ops [
 vM 161 13,
 vO 162 (.bin .sub (vT 161) (vC 1)),
 vM 13 162]
def i_zz13:FF:=⟨178,[.tmp 10,.tmp 11],
 .seq (.ops [
 vO 10 (.mv (vC 0)),
 vO 11 (.mv (.const (.bool false)))])<|
 .seq (.dops [
 vM 14 0,
 vM 15 1,
 vM 18 0,
 vM 19 3,
 vO 20 (.idx 3 (vT 18) (vT 19)),
 vO 21 (.load true 3 (vT 20)),
 vM 22 0,
 vM 23 1,
 vO 24 (.idx 3 (vT 22) (vT 23)),
 vO 25 (.load true 3 (vT 24)),
 vO 26 (.idx 3 (vT 14) (vT 15)),
 ⟨none,.store 3 (vT 26) (vT 21),none,0⟩,
 ⟨some 16,.mv (vT 0),none,1⟩,
 ⟨some 17,.mv (vT 3),none,1⟩,
 vO 27 (.idx 3 (vT 16) (vT 17)),
 ⟨none,.store 3 (vT 27) (vT 25),none,0⟩])<|
 .seq (.ops [
 vM 28 1,
 vO 29 (.bin .add (vT 28) (vC 1)),
 vM 30 2,
 vO 31 (.bin .sub (vT 30) (vC 1)),
 vM 12 29,
 vM 13 31])<|
 .seq (.block 0<|
 .loop [0,1,4,12,13] i_zz13_B1)<|
 .seq (.block 2<|
 .loop [0,1,4,12,13] i_zz13_B2)<|
 .seq (.seq (.ops [
 vM 69 12,
 vM 70 13,
 vO 71 (.bin .gtr (vT 69) (vT 70))])<|
 .cond (vT 71)
 (.seq (.dops [
 vM 72 0,
 vM 73 13,
 vM 76 0,
 vM 77 1,
 vO 78 (.idx 3 (vT 76) (vT 77)),
 vO 79 (.load true 3 (vT 78)),
 vM 80 0,
 vM 81 13,
 vO 82 (.idx 3 (vT 80) (vT 81)),
 vO 83 (.load true 3 (vT 82)),
 vO 84 (.idx 3 (vT 72) (vT 73)),
 ⟨none,.store 3 (vT 84) (vT 79),none,0⟩,
 ⟨some 74,.mv (vT 0),none,1⟩,
 ⟨some 75,.mv (vT 1),none,1⟩,
 vO 85 (.idx 3 (vT 74) (vT 75)),
 ⟨none,.store 3 (vT 85) (vT 83),none,0⟩])<|
 .seq (.ops [
 vM 86 13,
 vM 10 86,
 vO 11 (.mv (.const (.bool true)))])<|
 .keep [10,11]<|
 .ret)
 (.skip))<|
 .seq (.dops [
 vM 87 0,
 vM 88 12,
 vM 91 0,
 vM 92 13,
 vO 93 (.idx 3 (vT 91) (vT 92)),
 vO 94 (.load true 3 (vT 93)),
 vM 95 0,
 vM 96 12,
 vO 97 (.idx 3 (vT 95) (vT 96)),
 vO 98 (.load true 3 (vT 97)),
 vO 99 (.idx 3 (vT 87) (vT 88)),
 ⟨none,.store 3 (vT 99) (vT 94),none,0⟩,
 ⟨some 89,.mv (vT 0),none,1⟩,
 ⟨some 90,.mv (vT 13),none,1⟩,
 vO 100 (.idx 3 (vT 89) (vT 90)),
 ⟨none,.store 3 (vT 100) (vT 98),none,0⟩])<|
 .seq (.ops [
 vM 101 12,
 vO 102 (.bin .add (vT 101) (vC 1)),
 vM 12 102])<|
 .seq (.ops [
 vM 103 13,
 vO 104 (.bin .sub (vT 103) (vC 1)),
 vM 13 104])<|
 .seq (.block 4<|
 .loop [0,1,4,12,13] i_zz13_B5)<|
 .seq (.dops [
 vM 163 0,
 vM 164 13,
 vM 167 0,
 vM 168 1,
 vO 169 (.idx 3 (vT 167) (vT 168)),
 vO 170 (.load true 3 (vT 169)),
 vM 171 0,
 vM 172 13,
 vO 173 (.idx 3 (vT 171) (vT 172)),
 vO 174 (.load true 3 (vT 173)),
 vO 175 (.idx 3 (vT 163) (vT 164)),
 ⟨none,.store 3 (vT 175) (vT 170),none,0⟩,
 ⟨some 165,.mv (vT 0),none,1⟩,
 ⟨some 166,.mv (vT 1),none,1⟩,
 vO 176 (.idx 3 (vT 165) (vT 166)),
 ⟨none,.store 3 (vT 176) (vT 174),none,0⟩])<|
 .seq (.ops [
 vM 177 13,
 vM 10 177,
 vO 11 (.mv (.const (.bool false)))])<|
 .keep [10,11]<|
 .ret⟩
theorem e_zz13:EntOK Tryz.prog (compD Tryz.prog) k_zz13 i_zz13.vf:=
 ⟨Tryz.f219,Tryz.f219.body.getD .skip,Tryz.func219,by kernel_rfl,by kernel_rfl,by kernel_rfl,by kernel_rfl,by kernel_rfl⟩
/-- slices.siftDownCmpFunc[loop.example/g01331/impl.told] -/
def i_zz16_B1:FC:=
 .block 1<|
 .seq (.ops [
 vM 13 10,
 vO 14 (.bin .mul (vC 2) (vT 13)),
 vO 15 (.bin .add (vT 14) (vC 1)),
 vM 11 15])<|
 .seq (.seq (.ops [
 vM 16 11,
 vM 17 2,
 vO 18 (.bin .geq (vT 16) (vT 17))])<|
 .cond (vT 18)
 (.keep []<|
 .exit 0)
 (.skip))<|
 .seq (.seq (.dops [
 vM 19 11,
 vO 20 (.bin .add (vT 19) (vC 1)),
 vM 21 2,
 vO 22 (.bin .lss (vT 20) (vT 21)),
 vM 23 22,
 ⟨some 24,.mv (vT 4),some (23,true),0⟩,
 ⟨some 25,.mv (vT 0),some (23,true),0⟩,
 ⟨some 26,.mv (vT 3),some (23,true),0⟩,
 ⟨some 27,.mv (vT 11),some (23,true),0⟩,
 ⟨some 28,.bin .add (vT 26) (vT 27),some (23,true),0⟩,
 ⟨some 29,.idx 3 (vT 25) (vT 28),some (23,true),0⟩,
 ⟨some 30,.load true 3 (vT 29),some (23,true),0⟩,
 ⟨some 31,.mv (vT 0),some (23,true),0⟩,
 ⟨some 32,.mv (vT 3),some (23,true),0⟩,
 ⟨some 33,.mv (vT 11),some (23,true),0⟩,
 ⟨some 34,.bin .add (vT 32) (vT 33),some (23,true),0⟩,
 ⟨some 35,.bin .add (vT 34) (vC 1),some (23,true),0⟩,
 ⟨some 36,.idx 3 (vT 31) (vT 35),some (23,true),0⟩,
 ⟨some 37,.load true 3 (vT 36),some (23,true),0⟩,
 ⟨some 38,.callv (vT 24) [vT 30,vT 37],some (23,true),0⟩,
 ⟨some 39,.bin .lss (vT 38) (vC 0),some (23,true),0⟩,
 vO 40 (.pick (vT 23) (vT 39) (.const (.bool false)))])<|
 .cond (vT 40)
 (.ops [
 vM 41 11,
 vO 42 (.bin .add (vT 41) (vC 1)),
 vM 11 42])
 (.skip))<|
 .seq (.seq (.dops [
 vM 43 4,
 vM 44 0,
 vM 45 3,
 vM 46 10,
 vO 47 (.bin .add (vT 45) (vT 46)),
 vO 48 (.idx 3 (vT 44) (vT 47)),
 vO 49 (.load true 3 (vT 48)),
 vM 50 0,
 vM 51 3,
 vM 52 11,
 vO 53 (.bin .add (vT 51) (vT 52)),
 vO 54 (.idx 3 (vT 50) (vT 53)),
 vO 55 (.load true 3 (vT 54)),
 vO 56 (.callv (vT 43) [vT 49,vT 55]),
 vO 57 (.bin .lss (vT 56) (vC 0)),
 vO 58 (.un .not (vT 57))])<|
 .cond (vT 58)
 (.keep []<|
 .ret)
 (.skip))<|
 .seq (.dops [
 vM 59 0,
 vM 60 3,
 vM 61 10,
 vO 62 (.bin .add (vT 60) (vT 61)),
 vM 67 0,
 vM 68 3,
 vM 69 11,
 vO 70 (.bin .add (vT 68) (vT 69)),
 vO 71 (.idx 3 (vT 67) (vT 70)),
 vO 72 (.load true 3 (vT 71)),
 vM 73 0,
 vM 74 3,
 vM 75 10,
 vO 76 (.bin .add (vT 74) (vT 75)),
 vO 77 (.idx 3 (vT 73) (vT 76)),
 vO 78 (.load true 3 (vT 77)),
 vO 79 (.idx 3 (vT 59) (vT 62)),
 ⟨none,.store 3 (vT 79) (vT 72),none,0⟩,
 ⟨some 63,.mv (vT 0),none,1⟩,
 ⟨some 64,.mv (vT 3),none,1⟩,
 ⟨some 65,.mv (vT 11),none,1⟩,
 ⟨some 66,.bin .add (vT 64) (vT 65),none,1⟩,
 vO 80 (.idx 3 (vT 63) (vT 66)),
 ⟨none,.store 3 (vT 80) (vT 78),none,0⟩])<|
 .ops [
 vM 81 11,
 vM 10 81]
def i_zz16:FF:=⟨82,[],
 .seq (.ops [
 vM 12 1,
 vM 10 12])<|
 .block 0<|
 .loop [0,2,3,4,10] i_zz16_B1⟩
theorem e_zz16:EntOK Tryz.prog (compD Tryz.prog) k_zz16 i_zz16.vf:=
 ⟨Tryz.f220,Tryz.f220.body.getD .skip,Tryz.func220,by kernel_rfl,by kernel_rfl,by kernel_rfl,by kernel_rfl,by kernel_rfl⟩
/-- slices.medianAdjacentCmpFunc[loop.example/g01331/impl.told] -/
def i_zz2:FF:=⟨18,[.tmp 8],
 .seq (.ops [
 vO 8 (.mv (vC 0))])<|
 .seq (.ops [
 vM 9 0,
 vM 10 1,
 vO 11 (.bin .sub (vT 10) (vC 1)),
 vM 12 1,
 vM 13 1,
 vO 14 (.bin .add (vT 13) (vC 1)),
 vM 15 2,
 vM 16 3,
 vO 17 (.call k_zz19 [vT 9,vT 11,vT 12,vT 14,vT 15,vT 16]),
 vM 8 17])<|
 .keep [8]<|
 .ret⟩
theorem e_zz2:EntOK Tryz.prog (compD Tryz.prog) k_zz2 i_zz2.vf:=
 ⟨Tryz.f221,Tryz.f221.body.getD .skip,Tryz.func221,by kernel_rfl,by kernel_rfl,by kernel_rfl,by kernel_rfl,by kernel_rfl⟩
/-- slices.medianCmpFunc[loop.example/g01331/impl.told] -/
def i_zz19:FF:=⟨41,[.tmp 12],
 .seq (.ops [
 vO 12 (.mv (vC 0))])<|
 .seq (.ops [
 vM 14 0,
 vM 15 1,
 vM 16 2,
 vM 17 4,
 vM 18 5,
 vO 19 (.call k_zz20 [vT 14,vT 15,vT 16,vT 17,vT 18]),
 vM 13 19,
 vO 20 (.ext (vT 13) 0),
 vO 21 (.ext (vT 13) 1),
 vM 1 20,
 vM 2 21])<|
 .seq (.ops [
 vM 23 0,
 vM 24 2,
 vM 25 3,
 vM 26 4,
 vM 27 5,
 vO 28 (.call k_zz20 [vT 23,vT 24,vT 25,vT 26,vT 27]),
 vM 22 28,
 vO 29 (.ext (vT 22) 0),
 vO 30 (.ext (vT 22) 1),
 vM 2 29,
 vM 3 30])<|
 .seq (.ops [
 vM 32 0,
 vM 33 1,
 vM 34 2,
 vM 35 4,
 vM 36 5,
 vO 37 (.call k_zz20 [vT 32,vT 33,vT 34,vT 35,vT 36]),
 vM 31 37,
 vO 38 (.ext (vT 31) 0),
 vO 39 (.ext (vT 31) 1),
 vM 1 38,
 vM 2 39])<|
 .seq (.ops [
 vM 40 2,
 vM 12 40])<|
 .keep [12]<|
 .ret⟩
theorem e_zz19:EntOK Tryz.prog (compD Tryz.prog) k_zz19 i_zz19.vf:=
 ⟨Tryz.f222,Tryz.f222.body.getD .skip,Tryz.func222,by kernel_rfl,by kernel_rfl,by kernel_rfl,by kernel_rfl,by kernel_rfl⟩
/-- slices.order2CmpFunc[loop.example/g01331/impl.told] -/
def i_zz20:FF:=⟨32,[.tmp 10,.tmp 11],
 .seq (.ops [
 vO 10 (.mv (vC 0)),
 vO 11 (.mv (vC 0))])<|
 .seq (.seq (.dops [
 vM 12 4,
 vM 13 0,
 vM 14 2,
 vO 15 (.idx 3 (vT 13) (vT 14)),
 vO 16 (.load true 3 (vT 15)),
 vM 17 0,
 vM 18 1,
 vO 19 (.idx 3 (vT 17) (vT 18)),
 vO 20 (.load true 3 (vT 19)),
 vO 21 (.callv (vT 12) [vT 16,vT 20]),
 vO 22 (.bin .lss (vT 21) (vC 0))])<|
 .cond (vT 22)
 (.seq (.ops [
 vM 23 3,
 vO 24 (.nilchk (vT 23)),
 vO 25 (.load false 1 (vT 24)),
 vO 26 (.bin .add (vT 25) (vC 1)),
 vO 27 (.nilchk (vT 23)),
 ⟨none,.store 1 (vT 27) (vT 26),none,0⟩])<|
 .seq (.ops [
 vM 28 2,
 vM 29 1,
 vM 10 28,
 vM 11 29])<|
 .keep [10,11]<|
 .ret)
 (.skip))<|
 .seq (.ops [
 vM 30 1,
 vM 31 2,
 vM 10 30,
 vM 11 31])<|
 .keep [10,11]<|
 .ret⟩
theorem e_zz20:EntOK Tryz.prog (compD Tryz.prog) k_zz20 i_zz20.vf:=
 ⟨Tryz.f223,Tryz.f223.body.getD .skip,Tryz.func223,by kernel_rfl,by kernel_rfl,by kernel_rfl,by kernel_rfl,by kernel_rfl⟩
def tab:List (Nat × FF):= [(k_zz102,i_zz102),(k_zz109,i_zz109),(k_zz95,i_zz95),(k_zz85,i_zz85),(k_zz107,i_zz107),(k_zz66,i_zz66),(k_zz87,i_zz87),(k_zz90,i_zz90),(k_zz89,i_zz89),(k_zz54,i_zz54),(k_zz49,i_zz49),(k_zz48,i_zz48),(k_zz78,i_zz78),(k_zz103,i_zz103),(k_zz81,i_zz81),(k_zz106,i_zz106),(k_zz27,i_zz27),(k_zz105,i_zz105),(k_zz86,i_zz86),(k_zz72,i_zz72),(k_zz104,i_zz104),(k_zz52,i_zz52),(k_zz59,i_zz59),(k_zz100,i_zz100),(k_zz73,i_zz73),(k_zz36,i_zz36),(k_zz34,i_zz34),(k_zz101,i_zz101),(k_zz60,i_zz60),(k_zz98,i_zz98),(k_zz26,i_zz26),(k_zz80,i_zz80),(k_zz108,i_zz108),(k_zz99,i_zz99),(k_zz96,i_zz96),(k_zz92,i_zz92),(k_zz84,i_zz84),(k_zz32,i_zz32),(k_zz33,i_zz33),(k_zz79,i_zz79),(k_zz57,i_zz57),(k_zz53,i_zz53),(k_zz74,i_zz74),(k_zz88,i_zz88),(k_zz65,i_zz65),(k_zz42,i_zz42),(k_zz82,i_zz82),(k_zz56,i_zz56),(k_zz50,i_zz50),(k_zz39,i_zz39),(k_zz38,i_zz38),(k_zz44,i_zz44),(k_zz25,i_zz25),(k_zz51,i_zz51),(k_zz75,i_zz75),(k_zz62,i_zz62),(k_zz91,i_zz91),(k_zz77,i_zz77),(k_zz64,i_zz64),(k_zz61,i_zz61),(k_zz40,i_zz40),(k_zz41,i_zz41),(k_zz94,i_zz94),(k_zz67,i_zz67),(k_zz68,i_zz68),(k_zz63,i_zz63),(k_zz58,i_zz58),(k_zz31,i_zz31),(k_zz12,i_zz12),(k_zz23,i_zz23),(k_zz11,i_zz11),(k_zz17,i_zz17),(k_zz15,i_zz15),(k_zz1,i_zz1),(k_zz71,i_zz71),(k_zz10,i_zz10),(k_zz21,i_zz21),(k_zz97,i_zz97),(k_zz93,i_zz93),(k_zz30,i_zz30),(k_zz45,i_zz45),(k_zz47,i_zz47),(k_zz55,i_zz55),(k_zz22,i_zz22),(k_zz35,i_zz35),(k_zz76,i_zz76),(k_zz43,i_zz43),(k_zz46,i_zz46),(k_zz83,i_zz83),(k_zz24,i_zz24),(k_zz9,i_zz9),(k_zz28,i_zz28),(k_zz7,i_zz7),(k_zz37,i_zz37),(k_zz69,i_zz69),(k_zz70,i_zz70),(k_zz29,i_zz29),(k_zz18,i_zz18),(k_zz5,i_zz5),(k_zz14,i_zz14),(k_zz4,i_zz4),(k_zz8,i_zz8),(k_zz6,i_zz6),(k_zz0,i_zz0),(k_zz3,i_zz3),(k_zz13,i_zz13),(k_zz16,i_zz16),(k_zz2,i_zz2),(k_zz19,i_zz19),(k_zz20,i_zz20)]
theorem tabOK: ∀p∈tab,EntOK Tryz.prog (compD Tryz.prog) p.1 p.2.vf:=by
 intro p hp
 simp only[tab,List.mem_cons,List.not_mem_nil,or_false]at hp
 rcases hp with rfl|rfl|rfl|rfl|rfl|rfl|rfl|rfl|rfl|rfl|rfl|rfl|rfl|rfl|rfl|rfl|rfl|rfl|rfl|rfl|rfl|rfl|rfl|rfl|rfl|rfl|rfl|rfl|rfl|rfl|rfl|rfl|rfl|rfl|rfl|rfl|rfl|rfl|rfl|rfl|rfl|rfl|rfl|rfl|rfl|rfl|rfl|rfl|rfl|rfl|rfl|rfl|rfl|rfl|rfl|rfl|rfl|rfl|rfl|rfl|rfl|rfl|rfl|rfl|rfl|rfl|rfl|rfl|rfl|rfl|rfl|rfl|rfl|rfl|rfl|rfl|rfl|rfl|rfl|rfl|rfl|rfl|rfl|rfl|rfl|rfl|rfl|rfl|rfl|rfl|rfl|rfl|rfl|rfl|rfl|rfl|rfl|rfl|rfl|rfl|rfl|rfl|rfl|rfl|rfl|rfl|rfl|rfl|rfl|rfl
 ·exact e_zz102
 ·exact e_zz109
 ·exact e_zz95
 ·exact e_zz85
 ·exact e_zz107
 ·exact e_zz66
 ·exact e_zz87
 ·exact e_zz90
 ·exact e_zz89
 ·exact e_zz54
 ·exact e_zz49
 ·exact e_zz48
 ·exact e_zz78
 ·exact e_zz103
 ·exact e_zz81
 ·exact e_zz106
 ·exact e_zz27
 ·exact e_zz105
 ·exact e_zz86
 ·exact e_zz72
 ·exact e_zz104
 ·exact e_zz52
 ·exact e_zz59
 ·exact e_zz100
 ·exact e_zz73
 ·exact e_zz36
 ·exact e_zz34
 ·exact e_zz101
 ·exact e_zz60
 ·exact e_zz98
 ·exact e_zz26
 ·exact e_zz80
 ·exact e_zz108
 ·exact e_zz99
 ·exact e_zz96
 ·exact e_zz92
 ·exact e_zz84
 ·exact e_zz32
 ·exact e_zz33
 ·exact e_zz79
 ·exact e_zz57
 ·exact e_zz53
 ·exact e_zz74
 ·exact e_zz88
 ·exact e_zz65
 ·exact e_zz42
 ·exact e_zz82
 ·exact e_zz56
 ·exact e_zz50
 ·exact e_zz39
 ·exact e_zz38
 ·exact e_zz44
 ·exact e_zz25
 ·exact e_zz51
 ·exact e_zz75
 ·exact e_zz62
 ·exact e_zz91
 ·exact e_zz77
 ·exact e_zz64
 ·exact e_zz61
 ·exact e_zz40
 ·exact e_zz41
 ·exact e_zz94
 ·exact e_zz67
 ·exact e_zz68
 ·exact e_zz63
 ·exact e_zz58
 ·exact e_zz31
 ·exact e_zz12
 ·exact e_zz23
 ·exact e_zz11
 ·exact e_zz17
 ·exact e_zz15
 ·exact e_zz1
 ·exact e_zz71
 ·exact e_zz10
 ·exact e_zz21
 ·exact e_zz97
 ·exact e_zz93
 ·exact e_zz30
 ·exact e_zz45
 ·exact e_zz47
 ·exact e_zz55
 ·exact e_zz22
 ·exact e_zz35
 ·exact e_zz76
 ·exact e_zz43
 ·exact e_zz46
 ·exact e_zz83
 ·exact e_zz24
 ·exact e_zz9
 ·exact e_zz28
 ·exact e_zz7
 ·exact e_zz37
 ·exact e_zz69
 ·exact e_zz70
 ·exact e_zz29
 ·exact e_zz18
 ·exact e_zz5
 ·exact e_zz14
 ·exact e_zz4
 ·exact e_zz8
 ·exact e_zz6
 ·exact e_zz0
 ·exact e_zz3
 ·exact e_zz13
 ·exact e_zz16
 ·exact e_zz2
 ·exact e_zz19
 ·exact e_zz20
def F (n:Nat):Option Ent:=match tab.lookup n with
 | some f => some (.ir f.vf)
 | none => if n = k_math_bits_TrailingZeros64 then some (.ext tzX) else if n = k_slices_Grow_int64_int64 then some (.ext growX) else none
variable {nro:Nat} {args:List Value} {h:VH} {r:Value × VH}
theorem v_zz102 (ha:args.length≤i_zz102.ntmps) (hr:fbody (vcall F nro) nro i_zz102 args h=some r):vcall F nro k_zz102 args h=some r:=vcall_f (by kernel_rfl) (by kernel_rfl) ha hr
theorem v_zz109 (ha:args.length≤i_zz109.ntmps) (hr:fbody (vcall F nro) nro i_zz109 args h=some r):vcall F nro k_zz109 args h=some r:=vcall_f (by kernel_rfl) (by kernel_rfl) ha hr
theorem v_zz95 (ha:args.length≤i_zz95.ntmps) (hr:fbody (vcall F nro) nro i_zz95 args h=some r):vcall F nro k_zz95 args h=some r:=vcall_f (by kernel_rfl) (by kernel_rfl) ha hr
theorem v_zz85 (ha:args.length≤i_zz85.ntmps) (hr:fbody (vcall F nro) nro i_zz85 args h=some r):vcall F nro k_zz85 args h=some r:=vcall_f (by kernel_rfl) (by kernel_rfl) ha hr
theorem v_zz107 (ha:args.length≤i_zz107.ntmps) (hr:fbody (vcall F nro) nro i_zz107 args h=some r):vcall F nro k_zz107 args h=some r:=vcall_f (by kernel_rfl) (by kernel_rfl) ha hr
theorem v_zz66 (ha:args.length≤i_zz66.ntmps) (hr:fbody (vcall F nro) nro i_zz66 args h=some r):vcall F nro k_zz66 args h=some r:=vcall_f (by kernel_rfl) (by kernel_rfl) ha hr
theorem v_zz87 (ha:args.length≤i_zz87.ntmps) (hr:fbody (vcall F nro) nro i_zz87 args h=some r):vcall F nro k_zz87 args h=some r:=vcall_f (by kernel_rfl) (by kernel_rfl) ha hr
theorem v_zz90 (ha:args.length≤i_zz90.ntmps) (hr:fbody (vcall F nro) nro i_zz90 args h=some r):vcall F nro k_zz90 args h=some r:=vcall_f (by kernel_rfl) (by kernel_rfl) ha hr
theorem v_zz89 (ha:args.length≤i_zz89.ntmps) (hr:fbody (vcall F nro) nro i_zz89 args h=some r):vcall F nro k_zz89 args h=some r:=vcall_f (by kernel_rfl) (by kernel_rfl) ha hr
theorem v_zz54 (ha:args.length≤i_zz54.ntmps) (hr:fbody (vcall F nro) nro i_zz54 args h=some r):vcall F nro k_zz54 args h=some r:=vcall_f (by kernel_rfl) (by kernel_rfl) ha hr
theorem v_zz49 (ha:args.length≤i_zz49.ntmps) (hr:fbody (vcall F nro) nro i_zz49 args h=some r):vcall F nro k_zz49 args h=some r:=vcall_f (by kernel_rfl) (by kernel_rfl) ha hr
theorem v_zz48 (ha:args.length≤i_zz48.ntmps) (hr:fbody (vcall F nro) nro i_zz48 args h=some r):vcall F nro k_zz48 args h=some r:=vcall_f (by kernel_rfl) (by kernel_rfl) ha hr
theorem v_zz78 (ha:args.length≤i_zz78.ntmps) (hr:fbody (vcall F nro) nro i_zz78 args h=some r):vcall F nro k_zz78 args h=some r:=vcall_f (by kernel_rfl) (by kernel_rfl) ha hr
theorem v_zz103 (ha:args.length≤i_zz103.ntmps) (hr:fbody (vcall F nro) nro i_zz103 args h=some r):vcall F nro k_zz103 args h=some r:=vcall_f (by kernel_rfl) (by kernel_rfl) ha hr
theorem v_zz81 (ha:args.length≤i_zz81.ntmps) (hr:fbody (vcall F nro) nro i_zz81 args h=some r):vcall F nro k_zz81 args h=some r:=vcall_f (by kernel_rfl) (by kernel_rfl) ha hr
theorem v_zz106 (ha:args.length≤i_zz106.ntmps) (hr:fbody (vcall F nro) nro i_zz106 args h=some r):vcall F nro k_zz106 args h=some r:=vcall_f (by kernel_rfl) (by kernel_rfl) ha hr
theorem v_zz27 (ha:args.length≤i_zz27.ntmps) (hr:fbody (vcall F nro) nro i_zz27 args h=some r):vcall F nro k_zz27 args h=some r:=vcall_f (by kernel_rfl) (by kernel_rfl) ha hr
theorem v_zz105 (ha:args.length≤i_zz105.ntmps) (hr:fbody (vcall F nro) nro i_zz105 args h=some r):vcall F nro k_zz105 args h=some r:=vcall_f (by kernel_rfl) (by kernel_rfl) ha hr
theorem v_zz86 (ha:args.length≤i_zz86.ntmps) (hr:fbody (vcall F nro) nro i_zz86 args h=some r):vcall F nro k_zz86 args h=some r:=vcall_f (by kernel_rfl) (by kernel_rfl) ha hr
theorem v_zz72 (ha:args.length≤i_zz72.ntmps) (hr:fbody (vcall F nro) nro i_zz72 args h=some r):vcall F nro k_zz72 args h=some r:=vcall_f (by kernel_rfl) (by kernel_rfl) ha hr
theorem v_zz104 (ha:args.length≤i_zz104.ntmps) (hr:fbody (vcall F nro) nro i_zz104 args h=some r):vcall F nro k_zz104 args h=some r:=vcall_f (by kernel_rfl) (by kernel_rfl) ha hr
theorem v_zz52 (ha:args.length≤i_zz52.ntmps) (hr:fbody (vcall F nro) nro i_zz52 args h=some r):vcall F nro k_zz52 args h=some r:=vcall_f (by kernel_rfl) (by kernel_rfl) ha hr
theorem v_zz59 (ha:args.length≤i_zz59.ntmps) (hr:fbody (vcall F nro) nro i_zz59 args h=some r):vcall F nro k_zz59 args h=some r:=vcall_f (by kernel_rfl) (by kernel_rfl) ha hr
theorem v_zz100 (ha:args.length≤i_zz100.ntmps) (hr:fbody (vcall F nro) nro i_zz100 args h=some r):vcall F nro k_zz100 args h=some r:=vcall_f (by kernel_rfl) (by kernel_rfl) ha hr
theorem v_zz73 (ha:args.length≤i_zz73.ntmps) (hr:fbody (vcall F nro) nro i_zz73 args h=some r):vcall F nro k_zz73 args h=some r:=vcall_f (by kernel_rfl) (by kernel_rfl) ha hr
theorem v_zz36 (ha:args.length≤i_zz36.ntmps) (hr:fbody (vcall F nro) nro i_zz36 args h=some r):vcall F nro k_zz36 args h=some r:=vcall_f (by kernel_rfl) (by kernel_rfl) ha hr
theorem v_zz34 (ha:args.length≤i_zz34.ntmps) (hr:fbody (vcall F nro) nro i_zz34 args h=some r):vcall F nro k_zz34 args h=some r:=vcall_f (by kernel_rfl) (by kernel_rfl) ha hr
theorem v_zz101 (ha:args.length≤i_zz101.ntmps) (hr:fbody (vcall F nro) nro i_zz101 args h=some r):vcall F nro k_zz101 args h=some r:=vcall_f (by kernel_rfl) (by kernel_rfl) ha hr
theorem v_zz60 (ha:args.length≤i_zz60.ntmps) (hr:fbody (vcall F nro) nro i_zz60 args h=some r):vcall F nro k_zz60 args h=some r:=vcall_f (by kernel_rfl) (by kernel_rfl) ha hr
theorem v_zz98 (ha:args.length≤i_zz98.ntmps) (hr:fbody (vcall F nro) nro i_zz98 args h=some r):vcall F nro k_zz98 args h=some r:=vcall_f (by kernel_rfl) (by kernel_rfl) ha hr
theorem v_zz26 (ha:args.length≤i_zz26.ntmps) (hr:fbody (vcall F nro) nro i_zz26 args h=some r):vcall F nro k_zz26 args h=some r:=vcall_f (by kernel_rfl) (by kernel_rfl) ha hr
theorem v_zz80 (ha:args.length≤i_zz80.ntmps) (hr:fbody (vcall F nro) nro i_zz80 args h=some r):vcall F nro k_zz80 args h=some r:=vcall_f (by kernel_rfl) (by kernel_rfl) ha hr
theorem v_zz108 (ha:args.length≤i_zz108.ntmps) (hr:fbody (vcall F nro) nro i_zz108 args h=some r):vcall F nro k_zz108 args h=some r:=vcall_f (by kernel_rfl) (by kernel_rfl) ha hr
theorem v_zz99 (ha:args.length≤i_zz99.ntmps) (hr:fbody (vcall F nro) nro i_zz99 args h=some r):vcall F nro k_zz99 args h=some r:=vcall_f (by kernel_rfl) (by kernel_rfl) ha hr
theorem v_zz96 (ha:args.length≤i_zz96.ntmps) (hr:fbody (vcall F nro) nro i_zz96 args h=some r):vcall F nro k_zz96 args h=some r:=vcall_f (by kernel_rfl) (by kernel_rfl) ha hr
theorem v_zz92 (ha:args.length≤i_zz92.ntmps) (hr:fbody (vcall F nro) nro i_zz92 args h=some r):vcall F nro k_zz92 args h=some r:=vcall_f (by kernel_rfl) (by kernel_rfl) ha hr
theorem v_zz84 (ha:args.length≤i_zz84.ntmps) (hr:fbody (vcall F nro) nro i_zz84 args h=some r):vcall F nro k_zz84 args h=some r:=vcall_f (by kernel_rfl) (by kernel_rfl) ha hr
theorem v_zz32 (ha:args.length≤i_zz32.ntmps) (hr:fbody (vcall F nro) nro i_zz32 args h=some r):vcall F nro k_zz32 args h=some r:=vcall_f (by kernel_rfl) (by kernel_rfl) ha hr
theorem v_zz33 (ha:args.length≤i_zz33.ntmps) (hr:fbody (vcall F nro) nro i_zz33 args h=some r):vcall F nro k_zz33 args h=some r:=vcall_f (by kernel_rfl) (by kernel_rfl) ha hr
theorem v_zz79 (ha:args.length≤i_zz79.ntmps) (hr:fbody (vcall F nro) nro i_zz79 args h=some r):vcall F nro k_zz79 args h=some r:=vcall_f (by kernel_rfl) (by kernel_rfl) ha hr
theorem v_zz57 (ha:args.length≤i_zz57.ntmps) (hr:fbody (vcall F nro) nro i_zz57 args h=some r):vcall F nro k_zz57 args h=some r:=vcall_f (by kernel_rfl) (by kernel_rfl) ha hr
theorem v_zz53 (ha:args.length≤i_zz53.ntmps) (hr:fbody (vcall F nro) nro i_zz53 args h=some r):vcall F nro k_zz53 args h=some r:=vcall_f (by kernel_rfl) (by kernel_rfl) ha hr
theorem v_zz74 (ha:args.length≤i_zz74.ntmps) (hr:fbody (vcall F nro) nro i_zz74 args h=some r):vcall F nro k_zz74 args h=some r:=vcall_f (by kernel_rfl) (by kernel_rfl) ha hr
theorem v_zz88 (ha:args.length≤i_zz88.ntmps) (hr:fbody (vcall F nro) nro i_zz88 args h=some r):vcall F nro k_zz88 args h=some r:=vcall_f (by kernel_rfl) (by kernel_rfl) ha hr
theorem v_zz65 (ha:args.length≤i_zz65.ntmps) (hr:fbody (vcall F nro) nro i_zz65 args h=some r):vcall F nro k_zz65 args h=some r:=vcall_f (by kernel_rfl) (by kernel_rfl) ha hr
theorem v_zz42 (ha:args.length≤i_zz42.ntmps) (hr:fbody (vcall F nro) nro i_zz42 args h=some r):vcall F nro k_zz42 args h=some r:=vcall_f (by kernel_rfl) (by kernel_rfl) ha hr
theorem v_zz82 (ha:args.length≤i_zz82.ntmps) (hr:fbody (vcall F nro) nro i_zz82 args h=some r):vcall F nro k_zz82 args h=some r:=vcall_f (by kernel_rfl) (by kernel_rfl) ha hr
theorem v_zz56 (ha:args.length≤i_zz56.ntmps) (hr:fbody (vcall F nro) nro i_zz56 args h=some r):vcall F nro k_zz56 args h=some r:=vcall_f (by kernel_rfl) (by kernel_rfl) ha hr
theorem v_zz50 (ha:args.length≤i_zz50.ntmps) (hr:fbody (vcall F nro) nro i_zz50 args h=some r):vcall F nro k_zz50 args h=some r:=vcall_f (by kernel_rfl) (by kernel_rfl) ha hr
theorem v_zz39 (ha:args.length≤i_zz39.ntmps) (hr:fbody (vcall F nro) nro i_zz39 args h=some r):vcall F nro k_zz39 args h=some r:=vcall_f (by kernel_rfl) (by kernel_rfl) ha hr
theorem v_zz38 (ha:args.length≤i_zz38.ntmps) (hr:fbody (vcall F nro) nro i_zz38 args h=some r):vcall F nro k_zz38 args h=some r:=vcall_f (by kernel_rfl) (by kernel_rfl) ha hr
theorem v_zz44 (ha:args.length≤i_zz44.ntmps) (hr:fbody (vcall F nro) nro i_zz44 args h=some r):vcall F nro k_zz44 args h=some r:=vcall_f (by kernel_rfl) (by kernel_rfl) ha hr
theorem v_zz25 (ha:args.length≤i_zz25.ntmps) (hr:fbody (vcall F nro) nro i_zz25 args h=some r):vcall F nro k_zz25 args h=some r:=vcall_f (by kernel_rfl) (by kernel_rfl) ha hr
theorem v_zz51 (ha:args.length≤i_zz51.ntmps) (hr:fbody (vcall F nro) nro i_zz51 args h=some r):vcall F nro k_zz51 args h=some r:=vcall_f (by kernel_rfl) (by kernel_rfl) ha hr
theorem v_zz75 (ha:args.length≤i_zz75.ntmps) (hr:fbody (vcall F nro) nro i_zz75 args h=some r):vcall F nro k_zz75 args h=some r:=vcall_f (by kernel_rfl) (by kernel_rfl) ha hr
theorem v_zz62 (ha:args.length≤i_zz62.ntmps) (hr:fbody (vcall F nro) nro i_zz62 args h=some r):vcall F nro k_zz62 args h=some r:=vcall_f (by kernel_rfl) (by kernel_rfl) ha hr
theorem v_zz91 (ha:args.length≤i_zz91.ntmps) (hr:fbody (vcall F nro) nro i_zz91 args h=some r):vcall F nro k_zz91 args h=some r:=vcall_f (by kernel_rfl) (by kernel_rfl) ha hr
theorem v_zz77 (ha:args.length≤i_zz77.ntmps) (hr:fbody (vcall F nro) nro i_zz77 args h=some r):vcall F nro k_zz77 args h=some r:=vcall_f (by kernel_rfl) (by kernel_rfl) ha hr
theorem v_zz64 (ha:args.length≤i_zz64.ntmps) (hr:fbody (vcall F nro) nro i_zz64 args h=some r):vcall F nro k_zz64 args h=some r:=vcall_f (by kernel_rfl) (by kernel_rfl) ha hr
theorem v_zz61 (ha:args.length≤i_zz61.ntmps) (hr:fbody (vcall F nro) nro i_zz61 args h=some r):vcall F nro k_zz61 args h=some r:=vcall_f (by kernel_rfl) (by kernel_rfl) ha hr
theorem v_zz40 (ha:args.length≤i_zz40.ntmps) (hr:fbody (vcall F nro) nro i_zz40 args h=some r):vcall F nro k_zz40 args h=some r:=vcall_f (by kernel_rfl) (by kernel_rfl) ha hr
theorem v_zz41 (ha:args.length≤i_zz41.ntmps) (hr:fbody (vcall F nro) nro i_zz41 args h=some r):vcall F nro k_zz41 args h=some r:=vcall_f (by kernel_rfl) (by kernel_rfl) ha hr
theorem v_zz94 (ha:args.length≤i_zz94.ntmps) (hr:fbody (vcall F nro) nro i_zz94 args h=some r):vcall F nro k_zz94 args h=some r:=vcall_f (by kernel_rfl) (by kernel_rfl) ha hr
theorem v_zz67 (ha:args.length≤i_zz67.ntmps) (hr:fbody (vcall F nro) nro i_zz67 args h=some r):vcall F nro k_zz67 args h=some r:=vcall_f (by kernel_rfl) (by kernel_rfl) ha hr
theorem v_zz68 (ha:args.length≤i_zz68.ntmps) (hr:fbody (vcall F nro) nro i_zz68 args h=some r):vcall F nro k_zz68 args h=some r:=vcall_f (by kernel_rfl) (by kernel_rfl) ha hr
theorem v_zz63 (ha:args.length≤i_zz63.ntmps) (hr:fbody (vcall F nro) nro i_zz63 args h=some r):vcall F nro k_zz63 args h=some r:=vcall_f (by kernel_rfl) (by kernel_rfl) ha hr
theorem v_zz58 (ha:args.length≤i_zz58.ntmps) (hr:fbody (vcall F nro) nro i_zz58 args h=some r):vcall F nro k_zz58 args h=some r:=vcall_f (by kernel_rfl) (by kernel_rfl) ha hr
theorem v_zz31 (ha:args.length≤i_zz31.ntmps) (hr:fbody (vcall F nro) nro i_zz31 args h=some r):vcall F nro k_zz31 args h=some r:=vcall_f (by kernel_rfl) (by kernel_rfl) ha hr
theorem v_zz12 (ha:args.length≤i_zz12.ntmps) (hr:fbody (vcall F nro) nro i_zz12 args h=some r):vcall F nro k_zz12 args h=some r:=vcall_f (by kernel_rfl) (by kernel_rfl) ha hr
theorem v_zz23 (ha:args.length≤i_zz23.ntmps) (hr:fbody (vcall F nro) nro i_zz23 args h=some r):vcall F nro k_zz23 args h=some r:=vcall_f (by kernel_rfl) (by kernel_rfl) ha hr
theorem v_zz11 (ha:args.length≤i_zz11.ntmps) (hr:fbody (vcall F nro) nro i_zz11 args h=some r):vcall F nro k_zz11 args h=some r:=vcall_f (by kernel_rfl) (by kernel_rfl) ha hr
theorem v_zz17 (ha:args.length≤i_zz17.ntmps) (hr:fbody (vcall F nro) nro i_zz17 args h=some r):vcall F nro k_zz17 args h=some r:=vcall_f (by kernel_rfl) (by kernel_rfl) ha hr
theorem v_zz15 (ha:args.length≤i_zz15.ntmps) (hr:fbody (vcall F nro) nro i_zz15 args h=some r):vcall F nro k_zz15 args h=some r:=vcall_f (by kernel_rfl) (by kernel_rfl) ha hr
theorem v_zz1 (ha:args.length≤i_zz1.ntmps) (hr:fbody (vcall F nro) nro i_zz1 args h=some r):vcall F nro k_zz1 args h=some r:=vcall_f (by kernel_rfl) (by kernel_rfl) ha hr
theorem v_zz71 (ha:args.length≤i_zz71.ntmps) (hr:fbody (vcall F nro) nro i_zz71 args h=some r):vcall F nro k_zz71 args h=some r:=vcall_f (by kernel_rfl) (by kernel_rfl) ha hr
theorem v_zz10 (ha:args.length≤i_zz10.ntmps) (hr:fbody (vcall F nro) nro i_zz10 args h=some r):vcall F nro k_zz10 args h=some r:=vcall_f (by kernel_rfl) (by kernel_rfl) ha hr
theorem v_zz21 (ha:args.length≤i_zz21.ntmps) (hr:fbody (vcall F nro) nro i_zz21 args h=some r):vcall F nro k_zz21 args h=some r:=vcall_f (by kernel_rfl) (by kernel_rfl) ha hr
theorem v_zz97 (ha:args.length≤i_zz97.ntmps) (hr:fbody (vcall F nro) nro i_zz97 args h=some r):vcall F nro k_zz97 args h=some r:=vcall_f (by kernel_rfl) (by kernel_rfl) ha hr
theorem v_zz93 (ha:args.length≤i_zz93.ntmps) (hr:fbody (vcall F nro) nro i_zz93 args h=some r):vcall F nro k_zz93 args h=some r:=vcall_f (by kernel_rfl) (by kernel_rfl) ha hr
theorem v_zz30 (ha:args.length≤i_zz30.ntmps) (hr:fbody (vcall F nro) nro i_zz30 args h=some r):vcall F nro k_zz30 args h=some r:=vcall_f (by kernel_rfl) (by kernel_rfl) ha hr
theorem v_zz45 (ha:args.length≤i_zz45.ntmps) (hr:fbody (vcall F nro) nro i_zz45 args h=some r):vcall F nro k_zz45 args h=some r:=vcall_f (by kernel_rfl) (by kernel_rfl) ha hr
theorem v_zz47 (ha:args.length≤i_zz47.ntmps) (hr:fbody (vcall F nro) nro i_zz47 args h=some r):vcall F nro k_zz47 args h=some r:=vcall_f (by kernel_rfl) (by kernel_rfl) ha hr
theorem v_zz55 (ha:args.length≤i_zz55.ntmps) (hr:fbody (vcall F nro) nro i_zz55 args h=some r):vcall F nro k_zz55 args h=some r:=vcall_f (by kernel_rfl) (by kernel_rfl) ha hr
theorem v_zz22 (ha:args.length≤i_zz22.ntmps) (hr:fbody (vcall F nro) nro i_zz22 args h=some r):vcall F nro k_zz22 args h=some r:=vcall_f (by kernel_rfl) (by kernel_rfl) ha hr
theorem v_zz35 (ha:args.length≤i_zz35.ntmps) (hr:fbody (vcall F nro) nro i_zz35 args h=some r):vcall F nro k_zz35 args h=some r:=vcall_f (by kernel_rfl) (by kernel_rfl) ha hr
theorem v_zz76 (ha:args.length≤i_zz76.ntmps) (hr:fbody (vcall F nro) nro i_zz76 args h=some r):vcall F nro k_zz76 args h=some r:=vcall_f (by kernel_rfl) (by kernel_rfl) ha hr
theorem v_zz43 (ha:args.length≤i_zz43.ntmps) (hr:fbody (vcall F nro) nro i_zz43 args h=some r):vcall F nro k_zz43 args h=some r:=vcall_f (by kernel_rfl) (by kernel_rfl) ha hr
theorem v_zz46 (ha:args.length≤i_zz46.ntmps) (hr:fbody (vcall F nro) nro i_zz46 args h=some r):vcall F nro k_zz46 args h=some r:=vcall_f (by kernel_rfl) (by kernel_rfl) ha hr
theorem v_zz83 (ha:args.length≤i_zz83.ntmps) (hr:fbody (vcall F nro) nro i_zz83 args h=some r):vcall F nro k_zz83 args h=some r:=vcall_f (by kernel_rfl) (by kernel_rfl) ha hr
theorem v_zz24 (ha:args.length≤i_zz24.ntmps) (hr:fbody (vcall F nro) nro i_zz24 args h=some r):vcall F nro k_zz24 args h=some r:=vcall_f (by kernel_rfl) (by kernel_rfl) ha hr
theorem v_zz9 (ha:args.length≤i_zz9.ntmps) (hr:fbody (vcall F nro) nro i_zz9 args h=some r):vcall F nro k_zz9 args h=some r:=vcall_f (by kernel_rfl) (by kernel_rfl) ha hr
theorem v_zz28 (ha:args.length≤i_zz28.ntmps) (hr:fbody (vcall F nro) nro i_zz28 args h=some r):vcall F nro k_zz28 args h=some r:=vcall_f (by kernel_rfl) (by kernel_rfl) ha hr
theorem v_zz7 (ha:args.length≤i_zz7.ntmps) (hr:fbody (vcall F nro) nro i_zz7 args h=some r):vcall F nro k_zz7 args h=some r:=vcall_f (by kernel_rfl) (by kernel_rfl) ha hr
theorem v_zz37 (ha:args.length≤i_zz37.ntmps) (hr:fbody (vcall F nro) nro i_zz37 args h=some r):vcall F nro k_zz37 args h=some r:=vcall_f (by kernel_rfl) (by kernel_rfl) ha hr
theorem v_zz69 (ha:args.length≤i_zz69.ntmps) (hr:fbody (vcall F nro) nro i_zz69 args h=some r):vcall F nro k_zz69 args h=some r:=vcall_f (by kernel_rfl) (by kernel_rfl) ha hr
theorem v_zz70 (ha:args.length≤i_zz70.ntmps) (hr:fbody (vcall F nro) nro i_zz70 args h=some r):vcall F nro k_zz70 args h=some r:=vcall_f (by kernel_rfl) (by kernel_rfl) ha hr
theorem v_zz29 (ha:args.length≤i_zz29.ntmps) (hr:fbody (vcall F nro) nro i_zz29 args h=some r):vcall F nro k_zz29 args h=some r:=vcall_f (by kernel_rfl) (by kernel_rfl) ha hr
theorem v_zz18 (ha:args.length≤i_zz18.ntmps) (hr:fbody (vcall F nro) nro i_zz18 args h=some r):vcall F nro k_zz18 args h=some r:=vcall_f (by kernel_rfl) (by kernel_rfl) ha hr
theorem v_zz5 (ha:args.length≤i_zz5.ntmps) (hr:fbody (vcall F nro) nro i_zz5 args h=some r):vcall F nro k_zz5 args h=some r:=vcall_f (by kernel_rfl) (by kernel_rfl) ha hr
theorem v_zz14 (ha:args.length≤i_zz14.ntmps) (hr:fbody (vcall F nro) nro i_zz14 args h=some r):vcall F nro k_zz14 args h=some r:=vcall_f (by kernel_rfl) (by kernel_rfl) ha hr
theorem v_zz4 (ha:args.length≤i_zz4.ntmps) (hr:fbody (vcall F nro) nro i_zz4 args h=some r):vcall F nro k_zz4 args h=some r:=vcall_f (by kernel_rfl) (by kernel_rfl) ha hr
theorem v_zz8 (ha:args.length≤i_zz8.ntmps) (hr:fbody (vcall F nro) nro i_zz8 args h=some r):vcall F nro k_zz8 args h=some r:=vcall_f (by kernel_rfl) (by kernel_rfl) ha hr
theorem v_zz6 (ha:args.length≤i_zz6.ntmps) (hr:fbody (vcall F nro) nro i_zz6 args h=some r):vcall F nro k_zz6 args h=some r:=vcall_f (by kernel_rfl) (by kernel_rfl) ha hr
theorem v_zz0 (ha:args.length≤i_zz0.ntmps) (hr:fbody (vcall F nro) nro i_zz0 args h=some r):vcall F nro k_zz0 args h=some r:=vcall_f (by kernel_rfl) (by kernel_rfl) ha hr
theorem v_zz3 (ha:args.length≤i_zz3.ntmps) (hr:fbody (vcall F nro) nro i_zz3 args h=some r):vcall F nro k_zz3 args h=some r:=vcall_f (by kernel_rfl) (by kernel_rfl) ha hr
theorem v_zz13 (ha:args.length≤i_zz13.ntmps) (hr:fbody (vcall F nro) nro i_zz13 args h=some r):vcall F nro k_zz13 args h=some r:=vcall_f (by kernel_rfl) (by kernel_rfl) ha hr
theorem v_zz16 (ha:args.length≤i_zz16.ntmps) (hr:fbody (vcall F nro) nro i_zz16 args h=some r):vcall F nro k_zz16 args h=some r:=vcall_f (by kernel_rfl) (by kernel_rfl) ha hr
theorem v_zz2 (ha:args.length≤i_zz2.ntmps) (hr:fbody (vcall F nro) nro i_zz2 args h=some r):vcall F nro k_zz2 args h=some r:=vcall_f (by kernel_rfl) (by kernel_rfl) ha hr
theorem v_zz19 (ha:args.length≤i_zz19.ntmps) (hr:fbody (vcall F nro) nro i_zz19 args h=some r):vcall F nro k_zz19 args h=some r:=vcall_f (by kernel_rfl) (by kernel_rfl) ha hr
theorem v_zz20 (ha:args.length≤i_zz20.ntmps) (hr:fbody (vcall F nro) nro i_zz20 args h=some r):vcall F nro k_zz20 args h=some r:=vcall_f (by kernel_rfl) (by kernel_rfl) ha hr
end

/- Symbolic steps: what simp needs to walk through code. -/
section
open Go
section
variable {call:VCall} {nro:Nat}
@[simp] theorem fput_some (e : FE) (d t : Nat) (v : Value) : fput e (some d) v t = if t = d then v else e t := rfl
@[simp] theorem fput_none (e : FE) (v : Value) : fput e none v = e := rfl
@[simp] theorem fl_cons (i : Nat) (v : Value) (r : List (Nat × Value)) (t : Nat) : fl ((i, v) :: r) t = if t = i then v else fl r t := rfl
@[simp] theorem fargs_cons (a : Value) (r : List Value) : fargs (a :: r) 0 = a := rfl
@[simp] theorem fargs_succ (a : Value) (r : List Value) (t : Nat) : fargs (a :: r) (t + 1) = fargs r t := rfl
@[simp] theorem fev_tmp (e : FE) (t : Nat) : fev e (.tmp t) = e t := rfl
@[simp] theorem fev_const (e : FE) (v : Value) : fev e (.const v) = v := rfl
@[simp] theorem fev_func (e : FE) (f : Nat) : fev e (.func f) = .func (.func f) #[] #[] := rfl
def kops (call:VCall) (nro:Nat) (d:Option Nat) (os:List VOper) (e:FE):Option (Value × VH)→Option (FE × VH)
 | some (v, h) => fops call nro os (fput e d v) h
 | none => none
theorem fput_self (e:FE) (g:Nat) (v:Value) (h:e g=v):fput e (some g) v=e:=by
 funext t
 simp only[fput_some]
 split
 ·rename_i ht;rw[ht,h]
 ·rfl
def kguard (call:VCall) (nro:Nat) (g:Nat) (b:Bool) (d:Option Nat) (op:VOp) (os:List VOper) (e:FE) (h:VH):Value→Option (FE × VH)
 | .bool c => if c = b then kops call nro d os (fput e (some g) (.bool b)) (vop call nro (fev (fput e (some g) (.bool b))) h op) else fops call nro os (fput (fput e (some g) (.bool !b)) d undef) h
 | .tuple vs => if vs.size = 0 then fops call nro os (fput e d undef) h else none
 | _ => none
@[simp] theorem fops_nil (e : FE) (h : VH) : fops call nro [] e h = some (e, h) := rfl
@[simp] theorem fops_cons (d : Option Nat) (op : VOp) (k : Nat) (os : List VOper) (e : FE) (h : VH) : fops call nro (⟨d, op, none, k⟩ :: os) e h = kops call nro d os e (vop call nro (fev e) h op) := by
 simp only[fops,fwanted]
 cases vop call nro (fev e) h op<;>rfl
@[simp] theorem fops_guard (d : Option Nat) (op : VOp) (g : Nat) (b : Bool) (k : Nat) (os : List VOper) (e : FE) (h : VH) : fops call nro (⟨d, op, some (g, b), k⟩ :: os) e h = kguard call nro g b d op os e h (e g) := by
 simp only[fops,fwanted]
 generalize hg:e g=x
 cases x with
 | bool c =>
  simp only[kguard]
  cases c<;>cases b<;>simp[kops,fput_self _ _ _ hg]<;>cases vop call nro (fev e) h op<;>rfl
 | tuple vs => simp only [kguard]; split <;> simp_all
 | _ => rfl
@[simp] theorem kops_some (d : Option Nat) (os : List VOper) (e : FE) (v : Value) (h : VH) : kops call nro d os e (some (v, h)) = fops call nro os (fput e d v) h := rfl
@[simp] theorem kops_none (d : Option Nat) (os : List VOper) (e : FE) : kops call nro d os e none = none := rfl
@[simp] theorem kops_ite (d : Option Nat) (os : List VOper) (e : FE) (c : Prop) [Decidable c] (x y : Option (Value × VH)) : kops call nro d os e (if c then x else y) = if c then kops call nro d os e x else kops call nro d os e y := by split <;> rfl
@[simp] theorem kguard_bool (g : Nat) (b c : Bool) (d : Option Nat) (op : VOp) (os : List VOper) (e : FE) (h : VH) : kguard call nro g b d op os e h (.bool c) = if c = b then kops call nro d os (fput e (some g) (.bool b)) (vop call nro (fev (fput e (some g) (.bool b))) h op) else fops call nro os (fput (fput e (some g) (.bool !b)) d undef) h := rfl
@[simp] theorem kguard_undef (g : Nat) (b : Bool) (d : Option Nat) (op : VOp) (os : List VOper) (e : FE) (h : VH) : kguard call nro g b d op os e h undef = fops call nro os (fput e d undef) h := rfl
open Classical in
noncomputable def kdops (call:VCall) (nro:Nat) (d:Option Nat) (op:VOp) (k:Nat) (os:List VOper) (e:FE) (h:VH) (hs:List VH):Option (Value × VH)→Option (FE × VH)
 | some (v, h') => if op.eff = true then fdops call nro os (fput e d v) h' (h :: hs) else if ∀ g ∈ hs.take k, vop call nro (fev e) g op = some (v, g) then fdops call nro os (fput e d v) h' hs else none
 | none => none
noncomputable def kdguard (call:VCall) (nro:Nat) (g:Nat) (b:Bool) (d:Option Nat) (op:VOp) (k:Nat) (os:List VOper) (e:FE) (h:VH) (hs:List VH):Value→Option (FE × VH)
 | .bool c => if c = b then kdops call nro d op k os (fput e (some g) (.bool b)) h hs (vop call nro (fev (fput e (some g) (.bool b))) h op) else fdops call nro os (fput (fput e (some g) (.bool !b)) d undef) h (if op.eff = true then h :: hs else hs)
 | .tuple vs => if vs.size = 0 then fdops call nro os (fput e d undef) h (if op.eff = true then h :: hs else hs) else none
 | _ => none
@[simp] theorem fdops_nil (e : FE) (h : VH) (hs : List VH) : fdops call nro [] e h hs = some (e, h) := rfl
@[simp] theorem fdops_cons (d : Option Nat) (op : VOp) (k : Nat) (os : List VOper) (e : FE) (h : VH) (hs : List VH) : fdops call nro (⟨d, op, none, k⟩ :: os) e h hs = kdops call nro d op k os e h hs (vop call nro (fev e) h op) := by
 simp only[fdops,fwanted]
 cases vop call nro (fev e) h op<;>rfl
@[simp] theorem fdops_guard (d : Option Nat) (op : VOp) (g : Nat) (b : Bool) (k : Nat) (os : List VOper) (e : FE) (h : VH) (hs : List VH) : fdops call nro (⟨d, op, some (g, b), k⟩ :: os) e h hs = kdguard call nro g b d op k os e h hs (e g) := by
 simp only[fdops,fwanted]
 generalize hg:e g=x
 cases x with
 | bool c =>
  simp only[kdguard]
  by_cases hcb:c=b
  ·subst hcb
   rw[if_pos rfl,fput_self _ _ _ hg]
   simp only[beq_self_eq_true]
   cases vop call nro (fev e) h op<;>rfl
  ·have h1:(c==b)=false:=by simpa using hcb
   have h2:(!b)=c:=by cases c<;>cases b<;>simp_all
   rw[if_neg hcb,h1,h2,fput_self _ _ _ hg]
 | tuple vs => simp only [kdguard]; split <;> simp_all
 | _ => rfl
open Classical in
@[simp] theorem kdops_some (d : Option Nat) (op : VOp) (k : Nat) (os : List VOper) (e : FE) (h : VH) (hs : List VH) (v : Value) (h' : VH) : kdops call nro d op k os e h hs (some (v, h')) = if op.eff = true then fdops call nro os (fput e d v) h' (h :: hs) else if ∀ g ∈ hs.take k, vop call nro (fev e) g op = some (v, g) then fdops call nro os (fput e d v) h' hs else none := rfl
@[simp] theorem kdops_none (d : Option Nat) (op : VOp) (k : Nat) (os : List VOper) (e : FE) (h : VH) (hs : List VH) : kdops call nro d op k os e h hs none = none := rfl
@[simp] theorem kdops_ite (d : Option Nat) (op : VOp) (k : Nat) (os : List VOper) (e : FE) (h : VH) (hs : List VH) (c : Prop) [Decidable c] (x y : Option (Value × VH)) : kdops call nro d op k os e h hs (if c then x else y) = if c then kdops call nro d op k os e h hs x else kdops call nro d op k os e h hs y := by split <;> rfl
@[simp] theorem kdguard_bool (g : Nat) (b c : Bool) (d : Option Nat) (op : VOp) (k : Nat) (os : List VOper) (e : FE) (h : VH) (hs : List VH) : kdguard call nro g b d op k os e h hs (.bool c) = if c = b then kdops call nro d op k os (fput e (some g) (.bool b)) h hs (vop call nro (fev (fput e (some g) (.bool b))) h op) else fdops call nro os (fput (fput e (some g) (.bool !b)) d undef) h (if op.eff = true then h :: hs else hs) := rfl
@[simp] theorem kdguard_undef (g : Nat) (b : Bool) (d : Option Nat) (op : VOp) (k : Nat) (os : List VOper) (e : FE) (h : VH) (hs : List VH) : kdguard call nro g b d op k os e h hs undef = fdops call nro os (fput e d undef) h (if op.eff = true then h :: hs else hs) := rfl
noncomputable def kclean (h0:VH) (vs:List Value) (h:VH):List Value × VH:=cleanup h0.length h0 vs h
def kn:Option (FE × VH)→Option (VX × FE × VH)
 | some (e, h) => some (.normal, e, h)
 | none => none
@[simp] theorem kn_some (e : FE) (h : VH) : kn (some (e, h)) = some (.normal, e, h) := rfl
@[simp] theorem kn_none : kn none = none := rfl
@[simp] theorem kn_ite (c : Prop) [Decidable c] (x y : Option (FE × VH)) : kn (if c then x else y) = if c then kn x else kn y := by split <;> rfl
noncomputable def kseq (call:VCall) (nro:Nat) (b:FC):Option (VX × FE × VH)→Option (VX × FE × VH)
 | some (.normal, e, h) => fcode call nro b e h
 | r => r
@[simp] theorem kseq_normal (b : FC) (e : FE) (h : VH) : kseq call nro b (some (.normal, e, h)) = fcode call nro b e h := rfl
@[simp] theorem kseq_ret (b : FC) (e : FE) (h : VH) : kseq call nro b (some (.ret, e, h)) = some (.ret, e, h) := rfl
@[simp] theorem kseq_exit (b : FC) (i : Nat) (e : FE) (h : VH) : kseq call nro b (some (.exit i, e, h)) = some (.exit i, e, h) := rfl
@[simp] theorem kseq_none (b : FC) : kseq call nro b none = none := rfl
@[simp] theorem kseq_ite (b : FC) (c : Prop) [Decidable c] (x y : Option (VX × FE × VH)) : kseq call nro b (if c then x else y) = if c then kseq call nro b x else kseq call nro b y := by split <;> rfl
noncomputable def kcond (call:VCall) (nro:Nat) (a b:FC) (e:FE) (h:VH):Value→Option (VX × FE × VH)
 | .bool true => fcode call nro a e h
 | .bool false => fcode call nro b e h
 | _ => none
@[simp] theorem kcond_bool (a b : FC) (e : FE) (h : VH) (c : Bool) : kcond call nro a b e h (.bool c) = if c = true then fcode call nro a e h else fcode call nro b e h := by cases c <;> rfl
def kblock (id:Nat):Option (VX × FE × VH)→Option (VX × FE × VH)
 | some (.exit i, e, h) => if i = id then some (.normal, e, h) else some (.exit i, e, h)
 | r => r
@[simp] theorem kblock_normal (id : Nat) (e : FE) (h : VH) : kblock id (some (.normal, e, h)) = some (.normal, e, h) := rfl
@[simp] theorem kblock_ret (id : Nat) (e : FE) (h : VH) : kblock id (some (.ret, e, h)) = some (.ret, e, h) := rfl
@[simp] theorem kblock_exit (id i : Nat) (e : FE) (h : VH) : kblock id (some (.exit i, e, h)) = if i = id then some (.normal, e, h) else some (.exit i, e, h) := rfl
@[simp] theorem kblock_none (id : Nat) : kblock id none = none := rfl
@[simp] theorem kblock_ite (id : Nat) (c : Prop) [Decidable c] (x y : Option (VX × FE × VH)) : kblock id (if c then x else y) = if c then kblock id x else kblock id y := by split <;> rfl
noncomputable def floop (call:VCall) (nro:Nat) (live:List Nat) (c:FC) (h0:VH) (vs:List Value) (h:VH):Option (VX × FE × VH):=
 iter (fun s:List Value × VH=>match fcode call nro c (fl (live.zip s.1)) s.2 with
   | some (.normal, e', h') => some (.inl (cleanup h0.length h0 (live.map e') h'))
   | some r => some (.inr r)
   | none => none) (vs, h)
noncomputable def kloop (call:VCall) (nro:Nat) (live:List Nat) (c:FC) (h0:VH) (p:List Value × VH):Option (VX × FE × VH):=floop call nro live c h0 p.1 p.2
@[simp] theorem kloop_mk (live : List Nat) (c : FC) (h0 : VH) (vs : List Value) (h : VH) : kloop call nro live c h0 (vs, h) = floop call nro live c h0 vs h := rfl
noncomputable def kback (call:VCall) (nro:Nat) (live:List Nat) (c:FC) (h0:VH):Option (VX × FE × VH)→Option (VX × FE × VH)
 | some (.normal, e, h) => kloop call nro live c h0 (kclean h0 (live.map e) h)
 | r => r
@[simp] theorem kback_normal (live : List Nat) (c : FC) (h0 : VH) (e : FE) (h : VH) : kback call nro live c h0 (some (.normal, e, h)) = kloop call nro live c h0 (kclean h0 (live.map e) h) := rfl
@[simp] theorem kback_exit (live : List Nat) (c : FC) (h0 : VH) (i : Nat) (e : FE) (h : VH) : kback call nro live c h0 (some (.exit i, e, h)) = some (.exit i, e, h) := rfl
@[simp] theorem kback_ret (live : List Nat) (c : FC) (h0 : VH) (e : FE) (h : VH) : kback call nro live c h0 (some (.ret, e, h)) = some (.ret, e, h) := rfl
@[simp] theorem kback_none (live : List Nat) (c : FC) (h0 : VH) : kback call nro live c h0 none = none := rfl
@[simp] theorem kback_ite (live : List Nat) (b : FC) (h0 : VH) (c : Prop) [Decidable c] (x y : Option (VX × FE × VH)) : kback call nro live b h0 (if c then x else y) = if c then kback call nro live b h0 x else kback call nro live b h0 y := by split <;> rfl
theorem floop_eq (live:List Nat) (c:FC) (h0:VH) (vs:List Value) (h:VH):floop call nro live c h0 vs h=kback call nro live c h0 (fcode call nro c (fl (live.zip vs)) h):=by
 unfold floop
 rw[iter]
 dsimp only
 generalize fcode call nro c (fl (live.zip vs)) h=q
 match q with
 | none => rfl
 | some (.normal, e, h') => rfl
 | some (.exit i, e, h') => rfl
 | some (.ret, e, h') => rfl
theorem floop_at {c c' :FC} (e:c=c') (live:List Nat) (h0:VH) (vs:List Value) (h:VH):floop call nro live c h0 vs h=kback call nro live c h0 (fcode call nro c' (fl (live.zip vs)) h):=by
 rw[floop_eq,←e]
@[simp] theorem fcode_skip (e : FE) (h : VH) : fcode call nro .skip e h = some (.normal, e, h) := rfl
@[simp] theorem fcode_ops (os : List VOper) (e : FE) (h : VH) : fcode call nro (.ops os) e h = kn (fops call nro os e h) := by
 simp only[fcode];cases fops call nro os e h<;>rfl
@[simp] theorem fcode_dops (os : List VOper) (e : FE) (h : VH) : fcode call nro (.dops os) e h = kn (fdops call nro os e h []) := by
 simp only[fcode];cases fdops call nro os e h []<;>rfl
@[simp] theorem fcode_seq (a b : FC) (e : FE) (h : VH) : fcode call nro (.seq a b) e h = kseq call nro b (fcode call nro a e h) := by
 simp only[fcode]
 generalize fcode call nro a e h=q
 match q with
 | none => rfl
 | some (.normal, e, h') => rfl
 | some (.exit i, e, h') => rfl
 | some (.ret, e, h') => rfl
@[simp] theorem fcode_cond (x : Operand) (a b : FC) (e : FE) (h : VH) : fcode call nro (.cond x a b) e h = kcond call nro a b e h (fev e x) := by
 simp only[fcode]
 generalize fev e x=v
 unfold kcond
 split<;>simp_all
@[simp] theorem fcode_block (id : Nat) (c : FC) (e : FE) (h : VH) : fcode call nro (.block id c) e h = kblock id (fcode call nro c e h) := by
 simp only[fcode]
 generalize fcode call nro c e h=q
 match q with
 | none => rfl
 | some (.normal, e, h') => rfl
 | some (.exit i, e, h') => rfl
 | some (.ret, e, h') => rfl
@[simp] theorem fcode_loop (live : List Nat) (c : FC) (e : FE) (h : VH) : fcode call nro (.loop live c) e h = floop call nro live c h (live.map e) h := rfl
@[simp] theorem fcode_keep (live : List Nat) (c : FC) (e : FE) (h : VH) : fcode call nro (.keep live c) e h = fcode call nro c (fl (live.zip (live.map e))) h := rfl
@[simp] theorem fcode_exit (i : Nat) (e : FE) (h : VH) : fcode call nro (.exit i) e h = some (.exit i, e, h) := rfl
@[simp] theorem fcode_ret (e : FE) (h : VH) : fcode call nro .ret e h = some (.ret, e, h) := rfl
noncomputable def kfin (p:List Value × VH):Option (Value × VH):=some (p.1.getD 0 undef,p.2)
@[simp] theorem kfin_mk (v : Value) (h : VH) : kfin ([v], h) = some (v, h) := rfl
noncomputable def kret (res:List VR) (h:VH):Option (VX × FE × VH)→Option (Value × VH)
 | some (.exit _, _, _) => none
 | some (_, e, h') => fend h (fresults e h' res) h'
 | none => none
@[simp] theorem kret_ret (res : List VR) (h : VH) (e : FE) (h' : VH) : kret res h (some (.ret, e, h')) = fend h (fresults e h' res) h' := rfl
@[simp] theorem kret_normal (res : List VR) (h : VH) (e : FE) (h' : VH) : kret res h (some (.normal, e, h')) = fend h (fresults e h' res) h' := rfl
@[simp] theorem kret_none (res : List VR) (h : VH) : kret res h none = none := rfl
@[simp] theorem kret_ite (res : List VR) (h : VH) (c : Prop) [Decidable c] (x y : Option (VX × FE × VH)) : kret res h (if c then x else y) = if c then kret res h x else kret res h y := by split <;> rfl
@[simp] theorem fend_some (h : VH) (v : Value) (h' : VH) : fend h (some v) h' = kfin (kclean h [v] h') := rfl
theorem fbody_eq (fn:FF) (args:List Value) (h:VH):fbody call nro fn args h=kret fn.res h (fcode call nro fn.body (fargs args) h):=by
 unfold fbody
 generalize fcode call nro fn.body (fargs args) h=q
 match q with
 | none => rfl
 | some (.normal, e, h') => rfl
 | some (.exit i, e, h') => rfl
 | some (.ret, e, h') => rfl
@[simp] theorem fresults1 (e : FE) (h : VH) (t : Nat) : fresults e h [.tmp t] = some (e t) := rfl
@[simp] theorem fresults2 (e : FE) (h : VH) (t s : Nat) : fresults e h [.tmp t, .tmp s] = if notTup (e t) = true ∧ notTup (e s) = true then some (.tuple #[e t, e s]) else none := by
 simp[fresults,fresL,fres1]
@[simp] theorem fresults3 (e : FE) (h : VH) (t s u : Nat) : fresults e h [.tmp t, .tmp s, .tmp u] = if notTup (e t) = true ∧ notTup (e s) = true ∧ notTup (e u) = true then some (.tuple #[e t, e s, e u]) else none := by
 simp[fresults,fresL,fres1]
@[simp] theorem fresultsN (e : FE) (h : VH) : fresults e h [] = some (.tuple #[]) := rfl
attribute [simp] notTup
def Old (n:Nat) (v:Value):Prop:= ∀r∈trefs v,r<n
theorem Old.le {n m:Nat} {v:Value} (h:Old n v) (hm:n≤m):Old m v:=fun r hr=>Nat.lt_of_lt_of_le (h r hr) hm
@[simp] theorem old_int (n : Nat) (k : IntKind) (i : Int) : Old n (.int k i) := fun r hr => by simp [trefs, vrefs, crefs, arefs] at hr
@[simp] theorem old_bool (n : Nat) (b : Bool) : Old n (.bool b) := fun r hr => by simp [trefs, vrefs, crefs, arefs] at hr
@[simp] theorem old_str (n : Nat) (b : ByteArray) : Old n (.string b) := fun r hr => by simp [trefs, vrefs, crefs, arefs] at hr
@[simp] theorem old_junk (n : Nat) : Old n junk := fun r hr => by simp [junk, trefs, vrefs, crefs, arefs] at hr
@[simp] theorem old_undef (n : Nat) : Old n undef := fun r hr => by simp [undef, trefs] at hr
@[simp] theorem old_slN (n a b : Nat) : Old n (.slice none a b) := fun r hr => by simp [trefs, vrefs, crefs, arefs] at hr
@[simp] theorem old_ptrN (n : Nat) : Old n (.pointer none) := fun r hr => by simp [trefs, vrefs, crefs, arefs] at hr
@[simp] theorem old_nilF (n : Nat) : Old n .nilFunc := fun r hr => by simp [trefs, vrefs, crefs, arefs] at hr
@[simp] theorem old_sl (n : Nat) (a : Addr) (k t : Nat) : Old n (.slice (some a) k t) ↔ a.block < n := by simp [Old, trefs, vrefs, crefs, arefs]
@[simp] theorem old_ptr (n : Nat) (a : Addr) : Old n (.pointer (some a)) ↔ a.block < n := by simp [Old, trefs, vrefs, crefs, arefs]
def OldC (n:Nat) (v:Value):Prop:= ∀r∈crefs v,r<n
theorem old_all (n:Nat) (vs:List Value):(∀r∈vs.flatMap trefs,r<n)↔ ∀v∈vs,Old n v:=by
 simp only[List.mem_flatMap,Old]
 constructor
 ·intro h v hv r hr
  exact h r ⟨v,hv,hr⟩
 ·rintro h r ⟨v,hv,hr⟩
  exact h v hv r hr
def flatO (n:Nat) (o:VO):Prop:= ∀r∈orefs o,r<n
theorem keepL_nil {base:Nat} {vs:List Value} (h: ∀v∈vs,Old base v):keepL base vs= []:=by
 unfold keepL
 rw[List.filter_eq_nil_iff.mpr]
 ·rfl
 ·intro r hr
  have:=(old_all base vs).mpr h r hr
  simp;omega
theorem tren_old {n:Nat} {v:Value} (h:Old n v) {r:Nat→Nat} (hr: ∀i,i<n→r i=i):tren r v=v:=by
 have ha: ∀v:Value,(∀i∈arefs v,i<n)→aren r v=v:=by
  intro v hv
  unfold aren
  split
  ·rename_i a
   rw[hr a.block (hv _ (by simp[arefs]))]
  ·rename_i a k c
   rw[hr a.block (hv _ (by simp[arefs]))]
  ·rfl
 have hmap: ∀(f:Value→Value) (vs:Array Value),(∀v∈vs,f v=v)→vs.map f=vs:=by
  intro f vs h
  exact(Array.map_congr_left (g:=id) h).trans (Array.map_id _)
 have hc: ∀v:Value,(∀i∈crefs v,i<n)→cren r v=v:=by
  intro v hv
  unfold cren
  split
  ·rename_i f a c
   simp only[crefs,List.mem_append,List.mem_flatMap]at hv
   rw[hmap _ a fun v h=>ha v fun i hi=>hv i (.inl ⟨v,by simpa using h,hi⟩),hmap _ c fun v h=>ha v fun i hi=>hv i (.inr ⟨v,by simpa using h,hi⟩)]
  ·rename_i hne
   refine ha v fun i hi=>hv i ?_
   unfold crefs
   split
   ·exact absurd rfl (hne _ _ _)
   ·exact hi
 have hvv: ∀v:Value,(∀i∈vrefs v,i<n)→vren r v=v:=by
  intro v hv
  unfold vren
  split
  ·rename_i cs
   simp only[vrefs,List.mem_flatMap]at hv
   rw[hmap _ cs fun v h=>hc v fun i hi=>hv i ⟨v,by simpa using h,hi⟩]
  ·rename_i hne
   refine hc v fun i hi=>hv i ?_
   unfold vrefs
   split
   ·exact absurd rfl (hne _)
   ·exact hi
 unfold tren
 split
 ·rename_i vs
  unfold Old at h
  simp only[trefs,List.mem_flatMap]at h
  rw[hmap _ vs fun v hv=>hvv v fun i hi=>h i ⟨v,by simpa using hv,hi⟩]
 ·rename_i hne
  refine hvv v fun i hi=>h i ?_
  unfold trefs
  split
  ·exact absurd rfl (hne _)
  ·exact hi
theorem okT_app {h0 L:VH} {L0:VH} (hL: ∀o∈L,flatO (h0.length+L0.length) o):okT (h0++L0).length (h0++L0) (h0++L):=by
 intro i o ho
 by_cases hi:i<h0.length
 ·left
  rw[List.getElem?_append_left hi]at ho⊢
  exact ho
 ·right
  rw[List.getElem?_append_right (by omega)]at ho
  have:=hL o (List.mem_of_getElem? ho)
  simpa [flatO]using this
@[simp] theorem cleanup_app {h0 L0 L : VH} {vs : List Value} (hv : ∀ v ∈ vs, Old (h0 ++ L0).length v) (hf : ∀ o ∈ L.take L0.length, flatO (h0.length + L0.length) o) :
  kclean (h0++L0) vs (h0++L)=(vs,h0++L.take L0.length):=by
 have htake:(h0++L).take (h0++L0).length=h0++L.take L0.length:=by
  rw[List.length_append,List.take_append]
  simp[List.take_of_length_le]
 have hc:okT (h0++L0).length (h0++L0) ((h0++L).take (h0++L0).length)∧flatL (h0++L0).length [] (h0++L):=by
  refine⟨?_,fun i hi=>by cases hi⟩
  rw[htake]
  exact okT_app hf
 unfold kclean cleanup
 rw[keepL_nil hv,if_pos hc,htake]
 simp only[List.filterMap_nil,List.append_nil,Prod.mk.injEq,and_true]
 have: ∀v∈vs,tren (renOf (h0++L0).length []) v=v:=fun v h=>tren_old (hv v h) fun i hi=>by simp only[renOf,if_pos hi]
 exact(List.map_congr_left this).trans (by simp)
@[simp] theorem cleanup_drop {h L : VH} {vs : List Value} (hv : ∀ v ∈ vs, Old h.length v) : kclean h vs (h ++ L) = (vs, h) := by
 have:=cleanup_app (h0:=h) (L0:= []) (L:=L) (vs:=vs) (by simpa using hv) (by simp)
 simpa using this
@[simp] theorem cleanup_same {h : VH} {vs : List Value} (hv : ∀ v ∈ vs, Old h.length v) : kclean h vs h = (vs, h) := by
 have:=cleanup_drop (h:=h) (L:= []) hv
 simpa using this
theorem cleanup_keep {h L:VH} {vs:List Value} {ks:List Nat} (hk:keepL h.length vs=ks) (hf:flatL h.length ks (h++L)):
  kclean h vs (h++L)=(vs.map (tren (renOf h.length ks)),h++ks.filterMap fun i=>(h++L)[i]?):=by
 have hc:okT h.length h ((h++L).take h.length)∧flatL h.length ks (h++L):=by
  refine⟨fun i o ho=> ?_,hf⟩
  left
  rw[List.getElem?_take]at ho
  split at ho
  ·rename_i hi
   rw[List.getElem?_append_left hi]at ho
   exact ho
  ·cases ho
 unfold kclean cleanup
 rw[hk,if_pos hc]
 simp
@[simp] theorem hget0 (h L : VH) : (h ++ L)[h.length]? = L[0]? := by rw [List.getElem?_append_right (Nat.le_refl _)]; simp
@[simp] theorem hgetk (h L : VH) (k : Nat) : (h ++ L)[h.length + k]? = L[k]? := by rw [List.getElem?_append_right (by omega)]; congr 1; omega
@[simp] theorem hset0 (h L : VH) (o : VO) : (h ++ L).set h.length o = h ++ L.set 0 o := by rw [List.set_append_right _ _ (Nat.le_refl _)]; simp
@[simp] theorem hsetk (h L : VH) (k : Nat) (o : VO) : (h ++ L).set (h.length + k) o = h ++ L.set k o := by rw [List.set_append_right _ _ (by omega)]; congr 2; omega
def vlen (h:VH):Value→Option (Value × VH)
 | .slice none 0 0 => some (.int .i64 0, h)
 | .slice none 0 1 => some (.int .i64 0, h)
 | .slice (some a) n tot => match h[a.block]? with
  | some o => if tot = o.cells.length then some (.int .i64 n, h) else none
  | none => none
 | _ => none
def vidx (sz:Nat) (h:VH):Value→Value→Option (Value × VH)
 | .slice (some a) n tot, .int _ j =>
  match h[a.block]? with
  | some o => if o.sz = sz ∧ tot = o.cells.length ∧ 0 ≤ j ∧ j < n then some (.pointer (some ⟨a.block, a.off + j.toNat * sz, some tot⟩), h) else none
  | none => none
 | _, _ => none
def vpick (c a b:Value) (h:VH):Option (Value × VH):=match c with
 | .bool t => some (if t then a else b, h)
 | _ => none
def vext (h:VH) (i:Nat):Value→Option (Value × VH)
 | .tuple vs => match vs[i]? with
   | some v => some (v, h)
   | none => none
 | _ => none
def vconv (k:IntKind) (h:VH):Value→Option (Value × VH)
 | .int _ n => some (.int k (k.wrap n), h)
 | _ => none
def vfld (off:Nat) (h:VH):Value→Option (Value × VH)
 | .pointer (some a) => if vlive h a = true then some (.pointer (some { a with off := a.off + off }), h) else none
 | _ => none
def vfieldv (agg:Bool) (off n:Nat) (h:VH):Value→Option (Value × VH)
 | .agg cs => if off + n ≤ cs.size then (if agg then some (.agg (cs.extract off (off + n)), h) else match cs[off]? with
   | some v => some (v, h)
   | none => none) else none
 | _ => none
def vmk (sz:Nat) (zero:List Value) (bytes:Nat) (h:VH):Value→Value→Option (Value × VH)
 | .int .i64 n, .int .i64 m => if n = m ∧ 0 ≤ n ∧ bytes * n ≤ 2 ^ 47 ∧ n ≤ 2 ^ 47 then some (.slice (some ⟨h.length, 0, none⟩) n.toNat (n.toNat * sz), h ++ [⟨sz, (List.replicate n.toNat zero).flatten⟩]) else none
 | _, _ => none
def vbox (n:Nat) (h:VH) (x:Value):Option (Value × VH):=if(vcells x).length=n∧isJunk x=false then some (.pointer (some ⟨h.length,0,some n⟩),h++ [⟨0,vcells x⟩])else none
def vnil (h:VH):Value→Option (Value × VH)
 | .pointer (some a) => if vlive h a = true then some (.pointer (some a), h) else none
 | .func (.func f) a c => some (.func (.func f) a c, h)
 | _ => none
def vlenStr (h:VH):Value→Option (Value × VH)
 | .string s => some (.int .i64 s.size, h)
 | _ => none
def vmvStr (h:VH):Value→Option (Value × VH)
 | .string s => some (.string s, h)
 | _ => none
def veqnilS (neg:Bool) (h:VH):Value→Option (Value × VH)
 | .slice none 0 0 => some (.bool !neg, h)
 | .slice (some a) _ tot => match h[a.block]? with
   | some o => if tot = o.cells.length then some (.bool neg, h) else none
   | none => none
 | _ => none
def veqnilF (neg:Bool) (h:VH):Value→Option (Value × VH)
 | .nilFunc => some (.bool !neg, h)
 | .func .. => some (.bool neg, h)
 | _ => none
def vcallv (call:VCall) (h:VH) (f:Value) (args:List Value):Option (Value × VH):=match f with
 | .func (.func g) first caps => call g (first.toList ++ args ++ caps.toList) h
 | _ => none
variable (ev:Operand→Value) (h:VH)
@[simp] theorem vop_mv (x : Operand) : vop call nro ev h (.mv x) = some (ev x, h) := rfl
@[simp] theorem vop_pick (c a b : Operand) : vop call nro ev h (.pick c a b) = vpick (ev c) (ev a) (ev b) h := rfl
@[simp] theorem vop_bin (o : BinOp) (x y : Operand) : vop call nro ev h (.bin o x y) = (vbin o (ev x) (ev y)).map (·, h) := rfl
@[simp] theorem vop_beq (n : Bool) (x y : Operand) : vop call nro ev h (.beq n x y) = (vbeq n (ev x) (ev y)).map (·, h) := rfl
@[simp] theorem vop_un (o : UnOp) (x : Operand) : vop call nro ev h (.un o x) = (vun o (ev x)).map (·, h) := rfl
@[simp] theorem vop_conv (k : IntKind) (x : Operand) : vop call nro ev h (.conv k x) = vconv k h (ev x) := rfl
@[simp] theorem vop_box (n : Nat) (x : Operand) : vop call nro ev h (.box n x) = vbox n h (ev x) := rfl
@[simp] theorem vop_alloc (z : List Value) : vop call nro ev h (.alloc z) = some (.pointer (some ⟨h.length, 0, some z.length⟩), h ++ [⟨0, z⟩]) := rfl
@[simp] theorem vop_build (z : List Value) (ps : List (Nat × Nat × Operand)) : vop call nro ev h (.build z ps) = (vfill z (ps.map fun p => (p.1, p.2.1, ev p.2.2))).map fun cs => (.agg cs.toArray, h) := rfl
@[simp] theorem vop_buildSl (sz : Nat) (z : List Value) (ps : List (Nat × Nat × Operand)) (n : Nat) : vop call nro ev h (.buildSl sz z ps n) = (vfill z (ps.map fun p => (p.1, p.2.1, ev p.2.2))).map fun cs => (.slice (some ⟨h.length, 0, none⟩) n z.length, h ++ [⟨sz, cs⟩]) := rfl
@[simp] theorem vop_load (g : Bool) (n : Nat) (p : Operand) : vop call nro ev h (.load g n p) = (vload g n h (ev p)).map (·, h) := rfl
@[simp] theorem vop_store (n : Nat) (p x : Operand) : vop call nro ev h (.store n p x) = (vstore nro n h (ev p) (ev x)).map (undef, ·) := rfl
@[simp] theorem vop_nilchk (x : Operand) : vop call nro ev h (.nilchk x) = vnil h (ev x) := rfl
@[simp] theorem vop_fld (n : Nat) (p : Operand) : vop call nro ev h (.fld n p) = vfld n h (ev p) := rfl
@[simp] theorem vop_fieldv (g : Bool) (o n : Nat) (x : Operand) : vop call nro ev h (.fieldv g o n x) = vfieldv g o n h (ev x) := rfl
@[simp] theorem vop_idx (n : Nat) (s i : Operand) : vop call nro ev h (.idx n s i) = vidx n h (ev s) (ev i) := rfl
@[simp] theorem vop_mkSl (sz : Nat) (z : List Value) (b : Nat) (l c : Operand) : vop call nro ev h (.mkSl sz z b l c) = vmk sz z b h (ev l) (ev c) := rfl
@[simp] theorem vop_slc (sz : Nat) (x : Operand) (lo hi : Option Operand) : vop call nro ev h (.slc sz x lo hi) = (vslice sz h (ev x) (lo.map ev) (hi.map ev)).map (·, h) := rfl
@[simp] theorem vop_slcStr (x : Operand) (lo hi : Option Operand) : vop call nro ev h (.slcStr x lo hi) = (vsliceStr (ev x) (lo.map ev) (hi.map ev)).map (·, h) := rfl
@[simp] theorem vop_ext (x : Operand) (i : Nat) : vop call nro ev h (.ext x i) = vext h i (ev x) := rfl
@[simp] theorem vop_len (x : Operand) : vop call nro ev h (.len x) = vlen h (ev x) := rfl
@[simp] theorem vop_lenStr (x : Operand) : vop call nro ev h (.lenStr x) = vlenStr h (ev x) := rfl
@[simp] theorem vop_mvStr (x : Operand) : vop call nro ev h (.mvStr x) = vmvStr h (ev x) := rfl
@[simp] theorem vop_eqnilS (n : Bool) (x : Operand) : vop call nro ev h (.eqnilS n x) = veqnilS n h (ev x) := rfl
@[simp] theorem vop_eqnilF (n : Bool) (x : Operand) : vop call nro ev h (.eqnilF n x) = veqnilF n h (ev x) := rfl
@[simp] theorem vop_app (sz b : Nat) (z : List Value) (s x : Operand) : vop call nro ev h (.app sz b z s x) = vappend nro sz b h (ev s) (ev x) := rfl
@[simp] theorem vop_minmax (m : Bool) (xs : List Operand) : vop call nro ev h (.minmax m xs) = (vminmax m (xs.map ev)).map (·, h) := rfl
@[simp] theorem vop_call (f : Nat) (xs : List Operand) : vop call nro ev h (.call f xs) = call f (xs.map ev) h := rfl
@[simp] theorem vop_callv (f : Operand) (xs : List Operand) : vop call nro ev h (.callv f xs) = vcallv call h (ev f) (xs.map ev) := rfl
@[simp] theorem vop_clr (sz : Nat) (z : List Value) (x : Operand) : vop call nro ev h (.clr sz z x) = vclear nro sz z h (ev x) := rfl
@[simp] theorem vop_cpy (sz : Nat) (x y : Operand) : vop call nro ev h (.cpy sz x y) = vcopy nro sz h (ev x) (ev y) := rfl
@[simp] theorem vop_stop : vop call nro ev h .stop = none := rfl
@[simp] theorem vop_mkfn (f : Nat) (a b : List Operand) : vop call nro ev h (.mkfn f a b) = if (a.map ev).all isAtom && (b.map ev).all isAtom then some (.func (.func f) (a.map ev).toArray (b.map ev).toArray, h) else none := rfl
attribute [simp] VOp.eff
@[simp] theorem vpick_bool (c : Bool) (a b : Value) : vpick (.bool c) a b h = some (if c = true then a else b, h) := rfl
@[simp] theorem vconv_int (k k' : IntKind) (n : Int) : vconv k h (.int k' n) = some (.int k (k.wrap n), h) := rfl
@[simp] theorem vlenStr_str (s : ByteArray) : vlenStr h (.string s) = some (.int .i64 s.size, h) := rfl
@[simp] theorem vmvStr_str (s : ByteArray) : vmvStr h (.string s) = some (.string s, h) := rfl
@[simp] theorem vlen_nil : vlen h (.slice none 0 0) = some (.int .i64 0, h) := rfl
@[simp] theorem vlen_ref (a : Addr) (n tot : Nat) : vlen h (.slice (some a) n tot) = match h[a.block]? with
  | some o => if tot = o.cells.length then some (.int .i64 n, h) else none
  | none => none := rfl
@[simp] theorem vidx_ref (sz : Nat) (a : Addr) (n tot : Nat) (k : IntKind) (j : Int) : vidx sz h (.slice (some a) n tot) (.int k j) = match h[a.block]? with
  | some o => if o.sz = sz ∧ tot = o.cells.length ∧ 0 ≤ j ∧ j < n then some (.pointer (some ⟨a.block, a.off + j.toNat * sz, some tot⟩), h) else none
  | none => none := rfl
@[simp] theorem vext_tup (vs : Array Value) (i : Nat) : vext h i (.tuple vs) = match vs[i]? with
      | some v => some (v, h)
      | none => none := rfl
@[simp] theorem vfld_ref (off : Nat) (a : Addr) : vfld off h (.pointer (some a)) = if vlive h a = true then some (.pointer (some { a with off := a.off + off }), h) else none := rfl
@[simp] theorem vfieldv_agg (g : Bool) (off n : Nat) (cs : Array Value) : vfieldv g off n h (.agg cs) = if off + n ≤ cs.size then (if g then some (.agg (cs.extract off (off + n)), h) else match cs[off]? with
      | some v => some (v, h)
      | none => none) else none := rfl
@[simp] theorem vmk_int (sz : Nat) (z : List Value) (b : Nat) (n m : Int) : vmk sz z b h (.int .i64 n) (.int .i64 m) = if n = m ∧ 0 ≤ n ∧ b * n ≤ 2 ^ 47 ∧ n ≤ 2 ^ 47 then some (.slice (some ⟨h.length, 0, none⟩) n.toNat (n.toNat * sz), h ++ [⟨sz, (List.replicate n.toNat z).flatten⟩]) else none := rfl
@[simp] theorem vnil_ref (a : Addr) : vnil h (.pointer (some a)) = if vlive h a = true then some (.pointer (some a), h) else none := rfl
@[simp] theorem vnil_func (f : Nat) (a c : Array Value) : vnil h (.func (.func f) a c) = some (.func (.func f) a c, h) := rfl
@[simp] theorem veqnilS_nil (n : Bool) : veqnilS n h (.slice none 0 0) = some (.bool !n, h) := rfl
@[simp] theorem veqnilS_ref (n : Bool) (a : Addr) (k tot : Nat) : veqnilS n h (.slice (some a) k tot) = match h[a.block]? with
      | some o => if tot = o.cells.length then some (.bool n, h) else none
      | none => none := rfl
@[simp] theorem vcallv_func (f : Nat) (first caps : Array Value) (args : List Value) : vcallv call h (.func (.func f) first caps) args = call f (first.toList ++ args ++ caps.toList) h := rfl
attribute [simp] vbox vget vlive vfill isJunk vminmax vminmaxL vminmax2 vsliceStr
@[simp] theorem vload_ref (g : Bool) (n : Nat) (a : Addr) : vload g n h (.pointer (some a)) = match vget h a n with
  | some cs => if g then some (.agg cs.toArray) else match cs with
   | [v] => some v
   | _ => none
  | none => none := rfl
@[simp] theorem vstore_ref (nro n : Nat) (a : Addr) (x : Value) : vstore nro n h (.pointer (some a)) x = match h[a.block]? with
  | some o =>
   if nro≤a.block∧a.spot=some o.cells.length∧a.off+n≤o.cells.length∧(vcells x).length=n∧(vcells x).all (fun v=> !isJunk v)=true then
    some (h.set a.block { o with cells:=splice a.off (vcells x) o.cells})
   else none
  | none => none := rfl
@[simp] theorem splice_zero (v : Value) (vs : List Value) (c : Value) (cs : List Value) : splice 0 (v :: vs) (c :: cs) = v :: vs ++ cs.drop vs.length := by simp [splice]
@[simp] theorem splice_succ (k : Nat) (vs : List Value) (c : Value) (cs : List Value) : splice (k + 1) vs (c :: cs) = c :: splice k vs cs := by
 simp[splice,Nat.add_right_comm]
@[simp] theorem vsrc_nil (sz : Nat) : vsrc sz h (.slice none 0 0) = some ([], 0) := rfl
@[simp] theorem vsrc_ref (sz : Nat) (a : Addr) (n tot : Nat) : vsrc sz h (.slice (some a) n tot) = match h[a.block]? with
  | some o => if o.sz = sz ∧ tot = o.cells.length ∧ a.off + n * sz ≤ tot then some ((o.cells.drop a.off).take (n * sz), n) else none
  | none => none := rfl
def vapp (nro sz bytes : Nat) (h : VH) (s : Value) : Option (List Value × Nat) → Option (Value × VH)
 | none => none
 | some (cs, m) =>
  if cs.all (fun v => !isJunk v) = true ∧ 1 ≤ sz then
   match s with
   | .slice none 0 0 =>
    if m=0 then some (.slice none 0 0,h)
    else if m * bytes≤2 ^ 40∧m≤2 ^ 40 then some (.slice (some ⟨h.length,0,none⟩) m cs.length,h++ [⟨sz,cs⟩])else none
   | .slice (some a) n tot =>
    match h[a.block]? with
    | some o =>
     if nro≤a.block∧o.sz=sz∧tot=o.cells.length∧a.off=0∧n * sz=tot∧(n+m) * bytes≤2 ^ 40∧n+m≤2 ^ 40 then
      some (.slice (some a) (n+m) (tot+cs.length),h.set a.block { o with cells:=o.cells++cs})
     else none
    | none => none
   | _ => none
  else none
@[simp] theorem vappend_eq (nro sz b : Nat) (s x : Value) : vappend nro sz b h s x = vapp nro sz b h s (vsrc sz h x) := by
 unfold vappend vapp
 cases vsrc sz h x<;>rfl
@[simp] theorem vapp_nil (nro sz b : Nat) (cs : List Value) (m : Nat) : vapp nro sz b h (.slice none 0 0) (some (cs, m)) = if cs.all (fun v => !isJunk v) = true ∧ 1 ≤ sz then (if m = 0 then some (.slice none 0 0, h) else if m * b ≤ 2 ^ 40 ∧ m ≤ 2 ^ 40 then some (.slice (some ⟨h.length, 0, none⟩) m cs.length, h ++ [⟨sz, cs⟩]) else none) else none := rfl
@[simp] theorem vapp_ref (nro sz b : Nat) (a : Addr) (n tot : Nat) (cs : List Value) (m : Nat) : vapp nro sz b h (.slice (some a) n tot) (some (cs, m)) = if cs.all (fun v => !isJunk v) = true ∧ 1 ≤ sz then (match h[a.block]? with
        | some o =>
          if nro≤a.block∧o.sz=sz∧tot=o.cells.length∧a.off=0∧n * sz=tot∧(n+m) * b≤2 ^ 40∧n+m≤2 ^ 40 then
            some (.slice (some a) (n+m) (tot+cs.length),h.set a.block { o with cells:=o.cells++cs})
          else none
        | none => none) else none := rfl
@[simp] theorem vslice_nil (sz : Nat) (lo hi : Option Value) : vslice sz h (.slice none 0 0) lo hi = match lo.getD (.int .i64 0), hi.getD (.int .i64 0) with
  | .int _ 0, .int _ 0 => some (.slice none 0 0)
  | _, _ => none := rfl
@[simp] theorem vslice_ref (sz : Nat) (a : Addr) (n tot : Nat) (lo hi : Option Value) : vslice sz h (.slice (some a) n tot) lo hi = match h[a.block]? with
  | some o =>
   if o.sz=sz∧tot=o.cells.length then
    match lo.getD (.int .i64 0),hi.getD (.int .i64 n)with
    | .int _ l, .int _ u => if 0 ≤ l ∧ l ≤ u ∧ u ≤ n then some (.slice (some { a with off := a.off + l.toNat * sz }) (u.toNat - l.toNat) tot) else none
    | _, _ => none
   else none
  | none => none := rfl
@[simp] theorem vcells_agg (cs : Array Value) : vcells (.agg cs) = cs.toList := rfl
@[simp] theorem vcells_int (k : IntKind) (n : Int) : vcells (.int k n) = [.int k n] := rfl
@[simp] theorem vcells_bool (b : Bool) : vcells (.bool b) = [.bool b] := rfl
@[simp] theorem vcells_str (b : ByteArray) : vcells (.string b) = [.string b] := rfl
@[simp] theorem vcells_sl (a : Option Addr) (n c : Nat) : vcells (.slice a n c) = [.slice a n c] := rfl
@[simp] theorem vcells_ptr (a : Option Addr) : vcells (.pointer a) = [.pointer a] := rfl
end
end

/- Numbers: the operations on integers, and bits. -/
section
open Go
theorem wrap64 {n:Int} (h1: -9223372036854775808≤n) (h2:n≤9223372036854775807):IntKind.i64.wrap n=n:=IntWalk.i64_in n ⟨h1,h2⟩
theorem wrapu64 {n:Int} (h1:0≤n) (h2:n≤18446744073709551615):IntKind.u64.wrap n=n:=IntWalk.u64_in n ⟨h1,h2⟩
theorem wrapu8 {n:Int} (h1:0≤n) (h2:n≤255):IntKind.u8.wrap n=n:=IntWalk.u8_in n ⟨h1,h2⟩
theorem ex_eq {α:Type} (a:α): ∃b,b=a:=⟨a,rfl⟩
noncomputable def iand:IntKind→Int→Int→Int:=Classical.choose (ex_eq fun(k:IntKind) (a b:Int)=>(k.wrap (BitVec.ofInt k.bits a &&& BitVec.ofInt k.bits b).toNat:Int))
theorem iand_eq (k:IntKind) (a b:Int):iand k a b=k.wrap (BitVec.ofInt k.bits a &&& BitVec.ofInt k.bits b).toNat:=congrFun (congrFun (congrFun (Classical.choose_spec (ex_eq fun(k:IntKind) (a b:Int)=>(k.wrap (BitVec.ofInt k.bits a &&& BitVec.ofInt k.bits b).toNat:Int))) k) a) b
noncomputable def ior:IntKind→Int→Int→Int:=Classical.choose (ex_eq fun(k:IntKind) (a b:Int)=>(k.wrap (BitVec.ofInt k.bits a|||BitVec.ofInt k.bits b).toNat:Int))
theorem ior_eq (k:IntKind) (a b:Int):ior k a b=k.wrap (BitVec.ofInt k.bits a|||BitVec.ofInt k.bits b).toNat:=congrFun (congrFun (congrFun (Classical.choose_spec (ex_eq fun(k:IntKind) (a b:Int)=>(k.wrap (BitVec.ofInt k.bits a|||BitVec.ofInt k.bits b).toNat:Int))) k) a) b
noncomputable def ixor:IntKind→Int→Int→Int:=Classical.choose (ex_eq fun(k:IntKind) (a b:Int)=>(k.wrap (BitVec.ofInt k.bits a ^^^ BitVec.ofInt k.bits b).toNat:Int))
theorem ixor_eq (k:IntKind) (a b:Int):ixor k a b=k.wrap (BitVec.ofInt k.bits a ^^^ BitVec.ofInt k.bits b).toNat:=congrFun (congrFun (congrFun (Classical.choose_spec (ex_eq fun(k:IntKind) (a b:Int)=>(k.wrap (BitVec.ofInt k.bits a ^^^ BitVec.ofInt k.bits b).toNat:Int))) k) a) b
noncomputable def iandNot:IntKind→Int→Int→Int:=Classical.choose (ex_eq fun(k:IntKind) (a b:Int)=>(k.wrap (BitVec.ofInt k.bits a &&& ~~~ BitVec.ofInt k.bits b).toNat:Int))
theorem iandNot_eq (k:IntKind) (a b:Int):iandNot k a b=k.wrap (BitVec.ofInt k.bits a &&& ~~~ BitVec.ofInt k.bits b).toNat:=congrFun (congrFun (congrFun (Classical.choose_spec (ex_eq fun(k:IntKind) (a b:Int)=>(k.wrap (BitVec.ofInt k.bits a &&& ~~~ BitVec.ofInt k.bits b).toNat:Int))) k) a) b
noncomputable def ishl:IntKind→Int→Int→Int:=Classical.choose (ex_eq fun(k:IntKind) (a b:Int)=>(k.wrap (a * 2 ^ (min b.toNat k.bits)):Int))
theorem ishl_eq (k:IntKind) (a b:Int):ishl k a b=k.wrap (a * 2 ^ (min b.toNat k.bits)):=congrFun (congrFun (congrFun (Classical.choose_spec (ex_eq fun(k:IntKind) (a b:Int)=>(k.wrap (a * 2 ^ (min b.toNat k.bits)):Int))) k) a) b
noncomputable def ishr:IntKind→Int→Int→Int:=Classical.choose (ex_eq fun(k:IntKind) (a b:Int)=>(a.fdiv (2 ^ (min b.toNat k.bits)):Int))
theorem ishr_eq (k:IntKind) (a b:Int):ishr k a b=a.fdiv (2 ^ (min b.toNat k.bits)):=congrFun (congrFun (congrFun (Classical.choose_spec (ex_eq fun(k:IntKind) (a b:Int)=>(a.fdiv (2 ^ (min b.toNat k.bits)):Int))) k) a) b
section
variable (k:IntKind) (a b:Int)
@[simp] theorem vbin_add : vbin .add (.int k a) (.int k b) = some (.int k (k.wrap (a + b))) := by simp [vbin]
@[simp] theorem vbin_sub : vbin .sub (.int k a) (.int k b) = some (.int k (k.wrap (a - b))) := by simp [vbin]
@[simp] theorem vbin_mul : vbin .mul (.int k a) (.int k b) = some (.int k (k.wrap (a * b))) := by simp [vbin]
@[simp] theorem vbin_quo (hb : b ≠ 0) : vbin .quo (.int k a) (.int k b) = some (.int k (k.wrap (a.tdiv b))) := by simp [vbin, hb]
@[simp] theorem vbin_rem (hb : b ≠ 0) : vbin .rem (.int k a) (.int k b) = some (.int k (a.tmod b)) := by simp [vbin, hb]
@[simp] theorem vbin_and : vbin .and (.int k a) (.int k b) = some (.int k (iand k a b)) := by simp [vbin, iand_eq]
@[simp] theorem vbin_or : vbin .or (.int k a) (.int k b) = some (.int k (ior k a b)) := by simp [vbin, ior_eq]
@[simp] theorem vbin_xor : vbin .xor (.int k a) (.int k b) = some (.int k (ixor k a b)) := by simp [vbin, ixor_eq]
@[simp] theorem vbin_andNot : vbin .andNot (.int k a) (.int k b) = some (.int k (iandNot k a b)) := by simp [vbin, iandNot_eq]
@[simp] theorem vbin_shl (k' : IntKind) (hb : 0 ≤ b) : vbin .shl (.int k a) (.int k' b) = some (.int k (ishl k a b)) := by
 have: ¬b<0:=by omega
 simp[vbin,ishl_eq,this]
@[simp] theorem vbin_shr (k' : IntKind) (hb : 0 ≤ b) : vbin .shr (.int k a) (.int k' b) = some (.int k (ishr k a b)) := by
 have: ¬b<0:=by omega
 simp[vbin,ishr_eq,this]
@[simp] theorem vbin_eql : vbin .eql (.int k a) (.int k b) = some (.bool (decide (a = b))) := by simp [vbin]; rfl
@[simp] theorem vbin_neq : vbin .neq (.int k a) (.int k b) = some (.bool (decide (a ≠ b))) := by
 simp[vbin]
 by_cases h:a=b<;>simp[h]
@[simp] theorem vbin_lss : vbin .lss (.int k a) (.int k b) = some (.bool (decide (a < b))) := by simp [vbin]
@[simp] theorem vbin_leq : vbin .leq (.int k a) (.int k b) = some (.bool (decide (a ≤ b))) := by simp [vbin]
@[simp] theorem vbin_gtr : vbin .gtr (.int k a) (.int k b) = some (.bool (decide (b < a))) := by simp [vbin]
@[simp] theorem vbin_geq : vbin .geq (.int k a) (.int k b) = some (.bool (decide (b ≤ a))) := by simp [vbin]
@[simp] theorem vbeq_bool (n : Bool) (x y : Bool) : vbeq n (.bool x) (.bool y) = some (.bool (if n = true then !(x == y) else x == y)) := rfl
@[simp] theorem vun_not (x : Bool) : vun .not (.bool x) = some (.bool !x) := rfl
@[simp] theorem vun_neg : vun .neg (.int k a) = some (.int k (k.wrap (0 - a))) := rfl
end
theorem ofInt_nat (w n:Nat) (h:n<2 ^ w):(BitVec.ofInt w (n:Int)).toNat=n:=by
 simp
 exact Nat.mod_eq_of_lt h
theorem iand_nat {a b:Nat} (ha:a<2 ^ 63) (hb:b<2 ^ 63):iand .i64 a b=((a &&& b:Nat):Int):=by
 rw[iand_eq]
 rw[BitVec.toNat_and]
 have e:IntKind.i64.bits=64:=rfl
 rw[e,ofInt_nat 64 a (by omega),ofInt_nat 64 b (by omega)]
 have:a &&& b≤a:=Nat.and_le_left
 exact wrap64 (by omega) (by omega)
theorem ior_nat {a b:Nat} (ha:a<2 ^ 63) (hb:b<2 ^ 63):ior .i64 a b=((a|||b:Nat):Int):=by
 rw[ior_eq]
 rw[BitVec.toNat_or]
 have e:IntKind.i64.bits=64:=rfl
 rw[e,ofInt_nat 64 a (by omega),ofInt_nat 64 b (by omega)]
 have:a|||b<2 ^ 63:=Nat.or_lt_two_pow ha hb
 exact wrap64 (by omega) (by omega)
theorem ishr_nat {a:Nat} {b:Int} (hb:b≤64):ishr .i64 a b=((a>>>b.toNat:Nat):Int):=by
 rw[ishr_eq]
 have e:min b.toNat IntKind.i64.bits=b.toNat:=by
  have:IntKind.i64.bits=64:=rfl
  omega
 rw[e]
 have h1:(a:Int).fdiv (2 ^ b.toNat)=((a / 2 ^ b.toNat:Nat):Int):=by
  rw[Int.fdiv_eq_ediv_of_nonneg _ (Int.pow_nonneg (by decide))]
  simp
 rw[h1,Nat.shiftRight_eq_div_pow]
theorem ishl_one {b:Int} (h1:b≤62):ishl .i64 1 b=((2 ^ b.toNat:Nat):Int):=by
 rw[ishl_eq]
 have e:min b.toNat IntKind.i64.bits=b.toNat:=by
  have:IntKind.i64.bits=64:=rfl
  omega
 rw[e]
 have:2 ^ b.toNat≤4611686018427387904:=Nat.le_trans (Nat.pow_le_pow_right (by decide:0<2) (by omega:b.toNat≤62)) (by decide)
 have h2:(1:Int) * 2 ^ b.toNat=((2 ^ b.toNat:Nat):Int):=by simp
 rw[h2]
 generalize 2 ^ b.toNat=q at *
 exact wrap64 (by omega) (by omega)
theorem iand_one {a:Nat} (ha:a<2 ^ 63):iand .i64 a 1=((a % 2:Nat):Int):=by
 have:=iand_nat (a:=a) (b:=1) ha (by omega)
 rw[Nat.and_one_is_mod]at this
 exact this
theorem bit_nat {a:Nat} {b:Int} (ha:a<2 ^ 63) (hb:b≤64):(iand .i64 (ishr .i64 a b) 1=1)↔a.testBit b.toNat=true:=by
 rw[ishr_nat hb,iand_one]
 ·rw[Nat.testBit_eq_decide_div_mod_eq,Nat.shiftRight_eq_div_pow]
  simp only[decide_eq_true_eq]
  omega
 ·rw[Nat.shiftRight_eq_div_pow]
  exact Nat.lt_of_le_of_lt (Nat.div_le_self _ _) ha
end

/- What the library's TrailingZeros64 does: it reads the table. -/
section
open Go
theorem tz_idx (x:Int):0≤tzIdx x∧tzIdx x<64:=by
 unfold tzIdx IntKind.wrap
 simp[IntKind.signed,IntKind.bits]
 omega
theorem tz_idx_nat (x:Int):(tzIdx x).toNat<64:=by
 have:=tz_idx x
 omega
theorem tz_get (i:Nat) (hi:i<64):tzCells[i]? =some (.int .u8 (tzTab.getD i 0)):=by
 have e:tzCells[i]? =(tzTab[i]?).map (Value.int .u8):=by simp[tzCells]
 have hl:tzTab.length=64:=by decide
 rw[e,List.getD_eq_getElem?_getD,List.getElem?_eq_getElem (by omega)]
 rfl
theorem tz_lo (i:Nat):0≤tzTab.getD i 0∧tzTab.getD i 0<64:=by
 by_cases hi:i<64
 ·have: ∀i<64,0≤tzTab.getD i 0∧tzTab.getD i 0<64:=by decide
  exact this i hi
 ·have hl:tzTab.length=64:=by decide
  rw[List.getD_eq_getElem?_getD,List.getElem?_eq_none (by omega)]
  decide
theorem tz_cell (w:World) (ty fz) (hw:w.heap[0]? =some (.cells tzCells ty fz)) (i:Nat) (hi:i<64):w.cell? { block:=0,off:=i}=some (.int .u8 (tzTab.getD i 0)):=by
 simp only[World.cell?,hw]
 exact tz_get i hi
theorem tz_idx2 (x:Int):0≤IntKind.u64.wrap (bits BinOp.and IntKind.u64 x (IntKind.u64.wrap (-x)) * 285870213051353865) / 288230376151711744∧IntKind.u64.wrap (bits BinOp.and IntKind.u64 x (IntKind.u64.wrap (-x)) * 285870213051353865) / 288230376151711744<64:=tz_idx x
theorem tz_walk0 (w:World):
  Calls Tryz.prog 126 #[.int .u64 0] w fun e w' =>e= .returned (.int .i64 64)∧w' =w:=by
 go_enter Tryz.func126,Tryz.ntmps126
 go_wp2
 go_ret
 exact⟨rfl,rfl⟩
theorem tz_walk1 (x:Int) (h0: ¬x=0) (t:Int) (w:World) (hT:w.cell? { block:=0,off:=(IntKind.u64.wrap (bits BinOp.and IntKind.u64 x (IntKind.u64.wrap (-x)) * 285870213051353865) / 288230376151711744).toNat}=some (.int .u8 t)):
  Calls Tryz.prog 126 #[.int .u64 x] w fun e w' =>e= .returned (.int .i64 (RowKit.wrap64 t))∧w' =w:=by
 go_enter Tryz.func126,Tryz.ntmps126
 go_wp2
 ·go_ret
  exact⟨rfl,rfl⟩
 ·rename_i hb
  exact absurd (tz_idx2 x) hb
theorem tz_ext (nro:Nat):ExtOK Tryz.prog nro 126 tzX:=by
 intro f args h v h' hv φ w args' hnr hR ha
 simp only at hv
 split at hv
 ·rename_i hf
  subst hf
  refine⟨⟨_,Tryz.func126,by kernel_rfl,by kernel_rfl⟩,?_⟩
  unfold tzX at hv
  split at hv
  ·rename_i x
   simp only[Option.some.injEq,Prod.mk.injEq]at hv
   obtain⟨rfl,rfl⟩:=hv
   cases ha with
   | cons h1 h2 =>
    cases h2
    have e:=h1.inv_int
    subst e
    obtain⟨⟨ty,fz,hw⟩,_⟩:=hR.glob 0 tzCells rfl
    have key:Calls Tryz.prog 126 #[.int .u64 x] w fun e w' =>e= .returned (.int .i64 (tzv x))∧w' =w:=by
     by_cases h0:x=0
     ·subst h0
      exact tz_walk0 w
     ·have hwr:RowKit.wrap64 (tzTab.getD (tzIdx x).toNat 0)=tzTab.getD (tzIdx x).toNat 0:=by
       have:=tz_lo (tzIdx x).toNat
       unfold RowKit.wrap64
       omega
      have:=tz_walk1 x h0 _ w (tz_cell w ty fz hw (tzIdx x).toNat (tz_idx_nat x))
      rw[hwr]at this
      unfold tzv
      rw[if_neg h0]
      exact this
    refine key.mono fun e w' ⟨he,hw'⟩=> ?_
    subst hw'
    exact⟨φ,_,he,hR,X.refl ..,.val (.cell (.atom (.int _ _)))⟩
  ·cases hv
 ·cases hv
end

/- What the library's slices.Grow does to the nil slice: a new row. -/
section
open Go
theorem grow_walk (n:Nat) (h1:1≤n) (h2:n≤1048576) (w:World):Calls Tryz.prog 204 #[.slice none 0 0,.int .i64 n] w fun e w' =>
  e= .returned (.slice (some ⟨w.heap.size,0,none⟩) 0 (grownCap w n 0 2))∧
  w' =w.drew.alloc (.cells (#[]++Builtin.zeroCells (Value.int .i64 0).cells n++Builtin.zeroCells (Value.int .i64 0).cells (grownCap w n 0 2 - n)) 2):=by
 have hg: ¬((n:Int)<0):=by omega
 have w1:RowKit.wrap64 ((0:Int) - 0)=0:=by unfold RowKit.wrap64;omega
 have w2:RowKit.wrap64 ((n:Int) - 0)=n:=by unfold RowKit.wrap64;omega
 have hp:(n:Int)>0:=by omega
 obtain⟨i0,hi,hz,hs,hb⟩: ∃i0,Tryz.prog.info? 2=some i0∧i0.zero=some (.int .i64 0)∧i0.size=1∧i0.bytes=8:=⟨(Tryz.prog.info? 2).getD default,by kernel_rfl,by kernel_rfl,by kernel_rfl,by kernel_rfl⟩
 have hold:(Builtin.firstCells i0.size 0 (.slice none 0 0)).run Tryz.prog w.drew= .ok ([]:List Value).toArray w.drew:=Go.run_firstCells_none w.drew i0.size 0 0 0
 have hrz: ∀ty,(Builtin.append_ #[26,3] ty #[.slice none 0 0,.int .i64 (n:Int)]).run Tryz.prog w=_:=fun ty=>
  Lib.run_append_grow_zeros w 26 3 ty 2 i0 (.int .i64 0)  .i64 .i64 (by kernel_rfl) (by kernel_rfl) hi hz none 0 0 [] hold n (by omega) (by omega) (by omega) (by omega) (by rw[hb];omega) (by rw[hb];exact growslice_fits (by omega) (by omega))
 simp only[Nat.zero_add]at hrz
 have hGn:n≤grownCap w n 0 2:=grownCap_ge w _ _ _
 obtain⟨G,hG⟩: ∃G,G=grownCap w n 0 2:=⟨_,rfl⟩
 rw[←hG]at hrz hGn⊢
 clear hold hi hz hs hb
 go_enter Tryz.func204,Tryz.ntmps204
 go_wp2_with (at_builtin;refine Lib.wpList_append_run _ rfl _ _ _ _ rfl _ _ rfl rfl _ _ (hrz _) ?_)
 all_goals (go_ret;exact⟨rfl,rfl⟩)
theorem grow_ext (nro:Nat):ExtOK Tryz.prog nro 204 growX:=by
 intro f args h v h' hv φ w args' hnr hR ha
 simp only at hv
 split at hv
 ·rename_i hf
  subst hf
  refine⟨⟨_,Tryz.func204,by kernel_rfl,by kernel_rfl⟩,?_⟩
  unfold growX at hv
  split at hv
  ·rename_i n
   split at hv
   ·rename_i hn
    simp only[Option.some.injEq,Prod.mk.injEq]at hv
    obtain⟨rfl,rfl⟩:=hv
    obtain⟨m,rfl⟩: ∃m:Nat,n=m:=⟨n.toNat,by omega⟩
    cases ha with
    | cons a1 a2 =>
     cases a2 with
     | cons b1 b2 =>
      cases b2
      have e:=b1.inv_int
      subst e
      cases a1.inv_sl
      refine(grow_walk m (by omega) (by omega) w).mono fun e w' ⟨he,hw'⟩=> ?_
      have hC: ∀(j:Nat) v,(⟨1,[]⟩:VO).cells[j]? =some v→ ∃v',(#[]++Builtin.zeroCells (Value.int .i64 0).cells m++Builtin.zeroCells (Value.int .i64 0).cells (grownCap w m 0 2 - m))[j]? =some v' ∧CellR φ h.ph v v' :=fun j v hj=>by simp at hj
      obtain⟨r1,r2⟩:=hR.push (w1:=w') ⟨1,[]⟩ _ 2 (by rw[hw'];rfl) (by rw[hw'];exact⟨rfl,rfl,rfl⟩) hC
      have hcs:(#[]++Builtin.zeroCells (Value.int .i64 0).cells m++Builtin.zeroCells (Value.int .i64 0).cells (grownCap w m 0 2 - m)).size=grownCap w m 0 2:=by
       have:=grownCap_ge w m 0 2
       have h1:(Value.int .i64 0).cells.size=1:=rfl
       simp[Builtin.zeroCells,h1]
       omega
      refine⟨_,_,he,r1,r2,.val (.cell (.atom ?_))⟩
      have es:setE φ h.length ⟨w.heap.size,0,(#[]++Builtin.zeroCells (Value.int .i64 0).cells m++Builtin.zeroCells (Value.int .i64 0).cells (grownCap w m 0 2 - m)).size⟩ h.length=⟨w.heap.size,0,grownCap w m 0 2⟩:=by unfold setE;rw[if_pos rfl,hcs]
      refine AtomR.sl (o:=⟨1,[]⟩) (by unfold VH.ph;simp) rfl (by simp) (by simp) (Nat.zero_le _) ?_ (.inr ?_)
      ·rw[es];simp
      ·rw[es]
   ·cases hv
  ·cases hv
 ·cases hv
end

/- Slices that are read: what a slice's value tells of a list. -/
section
open Go
def Sl (h:VH) (v:Value) (cs:List Value):Prop:=vsrc 1 h v=some (cs,cs.length)
def vptr (s:Value) (j:Nat):Value:=match s with
 | .slice (some a) _ tot => .pointer (some ⟨a.block, a.off + j, some tot⟩)
 | _ => junk
def ints (xs:List Int):List Value:=xs.map (Value.int .i64)
@[simp] theorem ints_length (xs : List Int) : (ints xs).length = xs.length := by simp [ints]
@[simp] theorem ints_nil : ints [] = [] := rfl
@[simp] theorem ints_cons (x : Int) (xs : List Int) : ints (x :: xs) = .int .i64 x :: ints xs := rfl
theorem ints_set (xs:List Int) (j:Nat) (x:Int):(ints xs).set j (.int .i64 x)=ints (xs.set j x):=by simp[ints,List.map_set]
theorem Sl.inv {h:VH} {v:Value} {cs:List Value} (hs:Sl h v cs):
  (v= .slice none 0 0∧cs= [])∨(v= .slice none 0 1∧cs= [])∨
  ∃a n tot o,v= .slice (some a) n tot∧h[a.block]? =some o∧o.sz=1∧tot=o.cells.length∧a.off+n≤tot∧n=cs.length∧ ∀j,j<n→o.cells[a.off+j]? =cs[j]? :=by
 unfold Sl vsrc at hs
 split at hs
 ·left;simp at hs;exact⟨rfl,hs.1⟩
 ·right;left;simp at hs;exact⟨rfl,hs.1⟩
 ·rename_i a n tot
  split at hs
  ·rename_i o ho
   split at hs
   ·rename_i hc
    simp only[Nat.mul_one,Option.some.injEq,Prod.mk.injEq]at hs
    refine .inr (.inr ⟨a,n,tot,o,rfl,ho,hc.1,hc.2.1,by simpa using hc.2.2,hs.2,fun j hj=> ?_⟩)
    rw[←hs.1,List.getElem?_take,if_pos hj,List.getElem?_drop]
   ·cases hs
  ·cases hs
 ·cases hs
@[simp] theorem flatO_ints (n k : Nat) (xs : List Int) : flatO n ⟨k, ints xs⟩ := by
 intro r hr
 simp only[orefs,ints,List.flatMap_map,List.mem_flatMap]at hr
 obtain⟨x,_,hx⟩:=hr
 simp[crefs,arefs]at hx
@[simp] theorem ints_all (xs : List Int) : (ints xs).all (fun v => !isJunk v) = true := by simp [ints]
theorem splice_ints {xs:List Int} {j:Nat} {v:Int} (hj:j<xs.length):splice j [.int .i64 v] (ints xs)=ints (xs.set j v):=by
 rw[←ints_set]
 unfold splice
 rw[List.set_eq_take_append_cons_drop,if_pos (by simpa using hj)]
 simp
theorem take1_ints {xs:List Int} {j:Nat} (hj:j<xs.length):List.take 1 (List.drop j (ints xs))= [.int .i64 xs[j]]:=by
 rw[List.drop_eq_getElem_cons (by simpa using hj)]
 simp[ints]
@[simp] theorem ints_rep (n : Nat) (x : Int) : List.replicate n (Value.int .i64 x) = ints (List.replicate n x) := by simp [ints]
@[simp] theorem ints_rep' (n : Nat) (x : Int) : (List.replicate n [Value.int .i64 x]).flatten = ints (List.replicate n x) := by
 induction n with
 | zero => rfl
 | succ n ih => simp only [List.replicate_succ, List.flatten_cons, ih, ints_cons]; rfl
attribute [simp] Nat.add_one_le_iff
section
variable {h:VH} {v:Value} {cs:List Value}
theorem Sl.app (hs:Sl h v cs) (L:VH):Sl (h++L) v cs:=by
 unfold Sl at hs⊢
 unfold vsrc at hs⊢
 split at hs
 ·exact hs
 ·exact hs
 ·rename_i a n tot
  split at hs
  ·rename_i o ho
   have:(h++L)[a.block]? =some o:=by rw[List.getElem?_append_left (List.getElem?_eq_some_iff.mp ho).1];exact ho
   simp only[this]
   exact hs
  ·cases hs
 ·cases hs
theorem Sl.old (hs:Sl h v cs):Old h.length v:=by
 rcases hs.inv with⟨rfl,_⟩|⟨rfl,_⟩|⟨a,n,tot,o,rfl,ho,_⟩
 ·simp
 ·simp
 ·rw[old_sl];exact(List.getElem?_eq_some_iff.mp ho).1
theorem Sl.vlen (hs:Sl h v cs):vlen h v=some (.int .i64 cs.length,h):=by
 rcases hs.inv with⟨rfl,rfl⟩|⟨rfl,rfl⟩|⟨a,n,tot,o,rfl,ho,_,ht,_,hn,_⟩
 ·rfl
 ·rfl
 ·simp[ho,ht,hn]
theorem Sl.vidx (hs:Sl h v cs) {k:IntKind} {j:Int} (h0:0≤j) (hj:j<cs.length):vidx 1 h v (.int k j)=some (vptr v j.toNat,h):=by
 rcases hs.inv with⟨rfl,rfl⟩|⟨rfl,rfl⟩|⟨a,n,tot,o,rfl,ho,hz,ht,_,hn,_⟩
 ·simp at hj;omega
 ·simp at hj;omega
 ·simp only[vidx_ref,ho,hz,ht,vptr,Nat.mul_one]
  rw[if_pos ⟨trivial,trivial,h0,by omega⟩]
theorem Sl.vload (hs:Sl h v cs) {j:Nat} (hj:j<cs.length):vload false 1 h (vptr v j)=some cs[j]:=by
 rcases hs.inv with⟨rfl,rfl⟩|⟨rfl,rfl⟩|⟨a,n,tot,o,rfl,ho,hz,ht,hle,hn,hg⟩
 ·simp at hj
 ·simp at hj
 ·have h1:=hg j (by omega)
  rw[List.getElem?_eq_getElem hj]at h1
  have h2:a.off+j<o.cells.length:=by omega
  have h3:(o.cells.drop (a.off+j)).take 1= [cs[j]]:=by
   rw[List.getElem?_eq_getElem h2,Option.some.injEq]at h1
   rw[List.drop_eq_getElem_cons h2,h1]
   rfl
  simp only[vptr,Zv.vload,vget,ho]
  rw[if_pos ⟨by simp[ht],by omega⟩,h3]
  rfl
theorem Sl.vlive (hs:Sl h v cs) {j:Nat} (hj:j<cs.length): ∃a,vptr v j= .pointer (some a)∧vlive h a=true:=by
 rcases hs.inv with⟨rfl,rfl⟩|⟨rfl,rfl⟩|⟨a,n,tot,o,rfl,ho,hz,ht,hle,hn,hg⟩
 ·simp at hj
 ·simp at hj
 ·exact⟨_,rfl,by simp[ho,ht]⟩
variable {L:VH}
theorem Sl.vlen' (hs:Sl h v cs):Zv.vlen (h++L) v=some (.int .i64 cs.length,h++L):=(hs.app _).vlen
theorem Sl.vidx' (hs:Sl h v cs) {k:IntKind} {j:Int} (h0:0≤j) (hj:j<cs.length):Zv.vidx 1 (h++L) v (.int k j)=some (vptr v j.toNat,h++L):=(hs.app _).vidx h0 hj
theorem Sl.vload' (hs:Sl h v cs) {j:Nat} (hj:j<cs.length):Zv.vload false 1 (h++L) (vptr v j)=some cs[j]:=(hs.app _).vload hj
end
def Sli (h:VH) (v:Value) (xs:List Int):Prop:=Sl h v (ints xs)
section
variable {h:VH} {v:Value} {xs:List Int}
theorem Sli.app (hs:Sli h v xs) (L:VH):Sli (h++L) v xs:=Sl.app hs L
theorem Sli.old (hs:Sli h v xs):Old h.length v:=Sl.old hs
theorem Sli.oldk (hs:Sli h v xs) {k:Nat}:Old (h.length+k) v:=hs.old.le (Nat.le_add_right _ _)
theorem Sli.vlen (hs:Sli h v xs):Zv.vlen h v=some (.int .i64 xs.length,h):=by rw[Sl.vlen hs,ints_length]
theorem Sli.vidx (hs:Sli h v xs) {k:IntKind} {j:Int} (h0:0≤j) (hj:j<xs.length):Zv.vidx 1 h v (.int k j)=some (vptr v j.toNat,h):=Sl.vidx hs h0 (by rw[ints_length];exact hj)
theorem Sli.vload (hs:Sli h v xs) {j:Nat} (hj:j<xs.length):Zv.vload false 1 h (vptr v j)=some (.int .i64 xs[j]):=by
 rw[Sl.vload hs (by rw[ints_length];exact hj)]
 simp[ints]
variable {L:VH}
theorem Sli.vlen' (hs:Sli h v xs):Zv.vlen (h++L) v=some (.int .i64 xs.length,h++L):=(hs.app _).vlen
theorem Sli.vidx' (hs:Sli h v xs) {k:IntKind} {j:Int} (h0:0≤j) (hj:j<xs.length):Zv.vidx 1 (h++L) v (.int k j)=some (vptr v j.toNat,h++L):=(hs.app _).vidx h0 hj
theorem Sli.vload' (hs:Sli h v xs) {j:Nat} (hj:j<xs.length):Zv.vload false 1 (h++L) (vptr v j)=some (.int .i64 xs[j]):=(hs.app _).vload hj
end
def unint:Value→Int
 | .int _ n => n
 | _ => 0
def unints (cs:List Value):List Int:=cs.map unint
def isI64:Value→Bool
 | .int .i64 _ => true
 | _ => false
@[simp] theorem unints_ints (xs : List Int) : unints (ints xs) = xs := by simp [unints, ints, unint, Function.comp_def]
@[simp] theorem all_ints (xs : List Int) : (ints xs).all isI64 = true := by simp [ints, isI64]
@[simp] theorem take_ints (xs : List Int) : List.take xs.length (ints xs) = ints xs := List.take_of_length_le (by simp)
def rd (h:VH) (v:Value):List Int:=match vsrc 1 h v with
 | some (cs, _) => unints cs
 | none => []
def isSli (h:VH) (v:Value):Prop:=match vsrc 1 h v with
 | some (cs, n) => cs.length = n ∧ cs.all isI64 = true
 | none => False
theorem Sli.rd {h:VH} {v:Value} {xs:List Int} (hs:Sli h v xs):rd h v=xs:=by
 unfold Sli Sl at hs
 unfold Zv.rd
 rw[hs]
 exact unints_ints xs
@[simp] theorem rd_nil (h : VH) : rd h (.slice none 0 0) = [] := by simp [rd, unints]
@[simp] theorem isSli_nil (h : VH) : isSli h (.slice none 0 0) := ⟨rfl, rfl⟩
@[simp] theorem rd_ref (h : VH) (a : Addr) (n tot : Nat) : rd h (.slice (some a) n tot) = match h[a.block]? with
  | some o => if o.sz = 1 ∧ tot = o.cells.length ∧ a.off + n ≤ tot then unints ((o.cells.drop a.off).take n) else []
  | none => [] := by
 unfold rd
 rw[vsrc_ref]
 cases h[a.block]? with
 | none => rfl
 | some o =>
  simp only[Nat.mul_one]
  by_cases hc:o.sz=1∧tot=o.cells.length∧a.off+n≤tot
  ·rw[if_pos hc,if_pos hc]
  ·rw[if_neg hc,if_neg hc]
@[simp] theorem isSli_ref (h : VH) (a : Addr) (n tot : Nat) : isSli h (.slice (some a) n tot) ↔ match h[a.block]? with
  | some o => o.sz = 1 ∧ tot = o.cells.length ∧ a.off + n ≤ tot ∧ ((o.cells.drop a.off).take n).all isI64 = true
  | none => False := by
 unfold isSli
 rw[vsrc_ref]
 cases h[a.block]? with
 | none => exact Iff.rfl
 | some o =>
  simp only[Nat.mul_one]
  by_cases hc:o.sz=1∧tot=o.cells.length∧a.off+n≤tot
  ·have:((o.cells.drop a.off).take n).length=n:=by simp;omega
   rw[if_pos hc]
   simp[hc,this]
   intro _
   omega
  ·rw[if_neg hc]
   constructor
   ·exact False.elim
   ·rintro⟨h1,h2,h3,_⟩;exact hc ⟨h1,h2,h3⟩
end

/- At a function's end: one fresh object is handed out. -/
section
open Go
theorem cleanup_one {h L:VH} {v:Value} {k:Nat} {o:VO} (hv:trefs v= [h.length+k]) (hk:L[k]? =some o) (hf:flatO h.length o):
  kclean h [v] (h++L)=([tren (renOf h.length [h.length+k]) v],h++ [o]):=by
 have e:keepL h.length [v]= [h.length+k]:=by
  unfold keepL
  simp[hv,dedup]
 have hg:(h++L)[h.length+k]? =some o:=by rw[hgetk];exact hk
 rw[cleanup_keep e fun i hi=>⟨o,?_,hf⟩]
 ·simp[hk]
 ·simp only[List.mem_singleton]at hi
  rw[hi]
  exact hg
theorem renOf_one (n k:Nat):renOf n [n+k] (n+k)=n:=by simp[renOf];omega
theorem renOf_one0 (n:Nat):renOf n [n] n=n:=by simp[renOf]
@[simp] theorem clean_slk (h L : VH) (k : Nat) (off n t : Nat) (hk : k < L.length) (hf : flatO h.length (L.getD k ⟨0, []⟩)) :
  kclean h [.slice (some ⟨h.length+k,off,none⟩) n t] (h++L)=([.slice (some ⟨h.length,off,none⟩) n t],h++ [L.getD k ⟨0,[]⟩]):=by
 rw[cleanup_one (k:=k) (o:=L.getD k ⟨0,[]⟩) (by simp[trefs,vrefs,crefs,arefs]) (by simp[List.getD_eq_getElem?_getD,hk]) hf]
 simp[tren,vren,cren,aren,renOf_one]
@[simp] theorem clean_sl0 (h L : VH) (off n t : Nat) (o : VO) (hf : flatO h.length o) :
  kclean h [.slice (some ⟨h.length,off,none⟩) n t] (h++o::L)=([.slice (some ⟨h.length,off,none⟩) n t],h++ [o]):=by
 rw[cleanup_one (k:=0) (o:=o) (by simp[trefs,vrefs,crefs,arefs]) (by simp) hf]
 simp[tren,vren,cren,aren,renOf_one0]
@[simp] theorem clean_aggk (h L : VH) (k : Nat) (off n t : Nat) (k1 : IntKind) (x : Int) (hk : k < L.length) (hf : flatO h.length (L.getD k ⟨0, []⟩)) :
  kclean h [.agg #[.int k1 x,.slice (some ⟨h.length+k,off,none⟩) n t]] (h++L)=([.agg #[.int k1 x,.slice (some ⟨h.length,off,none⟩) n t]],h++ [L.getD k ⟨0,[]⟩]):=by
 rw[cleanup_one (k:=k) (o:=L.getD k ⟨0,[]⟩) (by simp[trefs,vrefs,crefs,arefs]) (by simp[List.getD_eq_getElem?_getD,hk]) hf]
 simp[tren,vren,cren,aren,renOf_one]
@[simp] theorem clean_agg0 (h L : VH) (off n t : Nat) (k1 : IntKind) (x : Int) (o : VO) (hf : flatO h.length o) :
  kclean h [.agg #[.int k1 x,.slice (some ⟨h.length,off,none⟩) n t]] (h++o::L)=([.agg #[.int k1 x,.slice (some ⟨h.length,off,none⟩) n t]],h++ [o]):=by
 rw[cleanup_one (k:=0) (o:=o) (by simp[trefs,vrefs,crefs,arefs]) (by simp) hf]
 simp[tren,vren,cren,aren,renOf_one0]
@[simp] theorem clean_taggk (h L : VH) (k : Nat) (off n t : Nat) (k1 : IntKind) (x : Int) (k2 : IntKind) (y : Int) (hk : k < L.length) (hf : flatO h.length (L.getD k ⟨0, []⟩)) :
  kclean h [.tuple #[.agg #[.int k1 x,.slice (some ⟨h.length+k,off,none⟩) n t],.int k2 y]] (h++L)=([.tuple #[.agg #[.int k1 x,.slice (some ⟨h.length,off,none⟩) n t],.int k2 y]],h++ [L.getD k ⟨0,[]⟩]):=by
 rw[cleanup_one (k:=k) (o:=L.getD k ⟨0,[]⟩) (by simp[trefs,vrefs,crefs,arefs]) (by simp[List.getD_eq_getElem?_getD,hk]) hf]
 simp[tren,vren,cren,aren,renOf_one]
@[simp] theorem clean_tagg0 (h L : VH) (off n t : Nat) (k1 : IntKind) (x : Int) (k2 : IntKind) (y : Int) (o : VO) (hf : flatO h.length o) :
  kclean h [.tuple #[.agg #[.int k1 x,.slice (some ⟨h.length,off,none⟩) n t],.int k2 y]] (h++o::L)=([.tuple #[.agg #[.int k1 x,.slice (some ⟨h.length,off,none⟩) n t],.int k2 y]],h++ [o]):=by
 rw[cleanup_one (k:=0) (o:=o) (by simp[trefs,vrefs,crefs,arefs]) (by simp) hf]
 simp[tren,vren,cren,aren,renOf_one0]
@[simp] theorem clean_tslk (h L : VH) (k : Nat) (off n t : Nat) (k2 : IntKind) (y : Int) (hk : k < L.length) (hf : flatO h.length (L.getD k ⟨0, []⟩)) :
  kclean h [.tuple #[.slice (some ⟨h.length+k,off,none⟩) n t,.int k2 y]] (h++L)=([.tuple #[.slice (some ⟨h.length,off,none⟩) n t,.int k2 y]],h++ [L.getD k ⟨0,[]⟩]):=by
 rw[cleanup_one (k:=k) (o:=L.getD k ⟨0,[]⟩) (by simp[trefs,vrefs,crefs,arefs]) (by simp[List.getD_eq_getElem?_getD,hk]) hf]
 simp[tren,vren,cren,aren,renOf_one]
@[simp] theorem clean_tsl0 (h L : VH) (off n t : Nat) (k2 : IntKind) (y : Int) (o : VO) (hf : flatO h.length o) :
  kclean h [.tuple #[.slice (some ⟨h.length,off,none⟩) n t,.int k2 y]] (h++o::L)=([.tuple #[.slice (some ⟨h.length,off,none⟩) n t,.int k2 y]],h++ [o]):=by
 rw[cleanup_one (k:=0) (o:=o) (by simp[trefs,vrefs,crefs,arefs]) (by simp) hf]
 simp[tren,vren,cren,aren,renOf_one0]
@[simp] theorem clean_tslbk (h L : VH) (k : Nat) (off n t : Nat) (y2 : Bool) (hk : k < L.length) (hf : flatO h.length (L.getD k ⟨0, []⟩)) :
  kclean h [.tuple #[.slice (some ⟨h.length+k,off,none⟩) n t,.bool y2]] (h++L)=([.tuple #[.slice (some ⟨h.length,off,none⟩) n t,.bool y2]],h++ [L.getD k ⟨0,[]⟩]):=by
 rw[cleanup_one (k:=k) (o:=L.getD k ⟨0,[]⟩) (by simp[trefs,vrefs,crefs,arefs]) (by simp[List.getD_eq_getElem?_getD,hk]) hf]
 simp[tren,vren,cren,aren,renOf_one]
@[simp] theorem clean_tslb0 (h L : VH) (off n t : Nat) (y2 : Bool) (o : VO) (hf : flatO h.length o) :
  kclean h [.tuple #[.slice (some ⟨h.length,off,none⟩) n t,.bool y2]] (h++o::L)=([.tuple #[.slice (some ⟨h.length,off,none⟩) n t,.bool y2]],h++ [o]):=by
 rw[cleanup_one (k:=0) (o:=o) (by simp[trefs,vrefs,crefs,arefs]) (by simp) hf]
 simp[tren,vren,cren,aren,renOf_one0]
@[simp] theorem clean_taggbk (h L : VH) (k : Nat) (off n t : Nat) (k1 : IntKind) (x : Int) (y2 : Bool) (hk : k < L.length) (hf : flatO h.length (L.getD k ⟨0, []⟩)) :
  kclean h [.tuple #[.agg #[.int k1 x,.slice (some ⟨h.length+k,off,none⟩) n t],.bool y2]] (h++L)=([.tuple #[.agg #[.int k1 x,.slice (some ⟨h.length,off,none⟩) n t],.bool y2]],h++ [L.getD k ⟨0,[]⟩]):=by
 rw[cleanup_one (k:=k) (o:=L.getD k ⟨0,[]⟩) (by simp[trefs,vrefs,crefs,arefs]) (by simp[List.getD_eq_getElem?_getD,hk]) hf]
 simp[tren,vren,cren,aren,renOf_one]
@[simp] theorem clean_taggb0 (h L : VH) (off n t : Nat) (k1 : IntKind) (x : Int) (y2 : Bool) (o : VO) (hf : flatO h.length o) :
  kclean h [.tuple #[.agg #[.int k1 x,.slice (some ⟨h.length,off,none⟩) n t],.bool y2]] (h++o::L)=([.tuple #[.agg #[.int k1 x,.slice (some ⟨h.length,off,none⟩) n t],.bool y2]],h++ [o]):=by
 rw[cleanup_one (k:=0) (o:=o) (by simp[trefs,vrefs,crefs,arefs]) (by simp) hf]
 simp[tren,vren,cren,aren,renOf_one0]
@[simp] theorem old_agg2 (n : Nat) (k : IntKind) (x : Int) (s : Value) (hs : isAtom s = true) : Old n (.agg #[.int k x, s]) ↔ Old n s := by
 unfold Old trefs vrefs
 cases s<;>simp_all [crefs,arefs,isAtom]
def Upd (h h' :VH):Prop:=h'.length=h.length∧okT h.length h h'
theorem Upd.rfl' (h:VH):Upd h h:=⟨rfl,fun _ _ ho=> .inl ho⟩
theorem Upd.set' {h h' :VH} (hu:Upd h h') {b:Nat} {o:VO} (ho:flatO h.length o):Upd h (h'.set b o):=by
 refine⟨by rw[List.length_set];exact hu.1,fun i p hp=> ?_⟩
 rw[List.getElem?_set]at hp
 split at hp
 ·split at hp
  ·cases hp;exact .inr ho
  ·cases hp
 ·exact hu.2 i p hp
@[simp] theorem upd_rfl (h : VH) : Upd h h := Upd.rfl' h
@[simp] theorem upd_set (h : VH) (b k : Nat) (xs : List Int) : Upd h (h.set b ⟨k, ints xs⟩) := (Upd.rfl' h).set' (flatO_ints _ _ _)
theorem cleanup_upd {h h' L:VH} {vs:List Value} (hu:Upd h h') (hv: ∀v∈vs,Old h.length v):kclean h vs (h' ++L)=(vs,h'):=by
 have htake:(h' ++L).take h.length=h' :=by rw[←hu.1];simp
 have hc:okT h.length h ((h' ++L).take h.length)∧flatL h.length [] (h' ++L):=by
  refine⟨?_,fun i hi=>by cases hi⟩
  rw[htake]
  exact hu.2
 unfold kclean cleanup
 rw[keepL_nil hv,if_pos hc,htake]
 simp only[List.filterMap_nil,List.append_nil,Prod.mk.injEq,and_true]
 have: ∀v∈vs,tren (renOf h.length []) v=v:=fun v h=>tren_old (hv v h) fun i hi=>by simp only[renOf,if_pos hi]
 exact(List.map_congr_left this).trans (by simp)
@[simp] theorem cleanup_set {h L : VH} {b k : Nat} {xs : List Int} {vs : List Value} (hv : ∀ v ∈ vs, Old h.length v) : kclean h vs (h.set b ⟨k, ints xs⟩ ++ L) = (vs, h.set b ⟨k, ints xs⟩) := cleanup_upd (upd_set h b k xs) hv
@[simp] theorem cleanup_set0 {h : VH} {b k : Nat} {xs : List Int} {vs : List Value} (hv : ∀ v ∈ vs, Old h.length v) : kclean h vs (h.set b ⟨k, ints xs⟩) = (vs, h.set b ⟨k, ints xs⟩) := by
 have:=cleanup_set (h:=h) (L:= []) (b:=b) (k:=k) (xs:=xs) hv
 simpa using this
theorem hget_old {h:VH} {b:Nat} {o:VO} (hb:h[b]? =some o) (L:VH):(h++L)[b]? =some o:=by
 rw[List.getElem?_append_left (List.getElem?_eq_some_iff.mp hb).1];exact hb
theorem hset_old {h:VH} {b:Nat} {o:VO} (hb:h[b]? =some o) (L:VH) (p:VO):(h++L).set b p=h.set b p++L:=by
 rw[List.set_append_left _ _ (List.getElem?_eq_some_iff.mp hb).1]
theorem hget_set {h:VH} {b:Nat} {o:VO} (hb:h[b]? =some o) (L:VH) (p:VO):(h.set b p++L)[b]? =some p:=by
 have:=(List.getElem?_eq_some_iff.mp hb).1
 rw[List.getElem?_append_left (by simpa using this)]
 simp[this]
theorem hset_set {h:VH} {b:Nat} {o:VO} (hb:h[b]? =some o) (L:VH) (p q:VO):(h.set b p++L).set b q=h.set b q++L:=by
 have:=(List.getElem?_eq_some_iff.mp hb).1
 rw[List.set_append_left _ _ (by simpa using this),List.set_set]
theorem hget_set0 {h:VH} {b:Nat} {o:VO} (hb:h[b]? =some o) (p:VO):(h.set b p)[b]? =some p:=by
 have:=(List.getElem?_eq_some_iff.mp hb).1
 simp[this]
theorem hset_self {h:VH} {b:Nat} {o:VO} (hb:h[b]? =some o):h.set b o=h:=by
 obtain⟨h1,h2⟩:=List.getElem?_eq_some_iff.mp hb
 rw[←h2];exact List.set_getElem_self h1
@[simp] theorem flatO_nil (n k : Nat) : flatO n ⟨k, []⟩ := fun r hr => by simp [orefs] at hr
@[simp] theorem flatO_cons (n k : Nat) (v : Value) (cs : List Value) : flatO n ⟨k, v :: cs⟩ ↔ OldC n v ∧ flatO n ⟨k, cs⟩ := by
 unfold flatO OldC orefs
 simp only[List.flatMap_cons,List.mem_append]
 exact⟨fun h=>⟨fun r hr=>h r (.inl hr),fun r hr=>h r (.inr hr)⟩,fun h r hr=>hr.elim (h.1 r) (h.2 r)⟩
@[simp] theorem oldC_int (n : Nat) (k : IntKind) (i : Int) : OldC n (.int k i) := fun r hr => by simp [crefs, arefs] at hr
@[simp] theorem oldC_bool (n : Nat) (b : Bool) : OldC n (.bool b) := fun r hr => by simp [crefs, arefs] at hr
@[simp] theorem oldC_str (n : Nat) (b : ByteArray) : OldC n (.string b) := fun r hr => by simp [crefs, arefs] at hr
@[simp] theorem oldC_slN (n a b : Nat) : OldC n (.slice none a b) := fun r hr => by simp [crefs, arefs] at hr
@[simp] theorem oldC_ptrN (n : Nat) : OldC n (.pointer none) := fun r hr => by simp [crefs, arefs] at hr
@[simp] theorem oldC_nilF (n : Nat) : OldC n .nilFunc := fun r hr => by simp [crefs, arefs] at hr
@[simp] theorem oldC_sl (n : Nat) (a : Addr) (k t : Nat) : OldC n (.slice (some a) k t) ↔ a.block < n := by simp [OldC, crefs, arefs]
@[simp] theorem oldC_ptr (n : Nat) (a : Addr) : OldC n (.pointer (some a)) ↔ a.block < n := by simp [OldC, crefs, arefs]
theorem OldC.le {n m:Nat} {v:Value} (h:OldC n v) (hm:n≤m):OldC m v:=fun r hr=>Nat.lt_of_lt_of_le (h r hr) hm
theorem Sl.oldC {h:VH} {v:Value} {cs:List Value} (hs:Sl h v cs):OldC h.length v:=by
 rcases hs.inv with⟨rfl,_⟩|⟨rfl,_⟩|⟨a,n,tot,o,rfl,ho,_⟩
 ·simp
 ·simp
 ·rw[oldC_sl];exact(List.getElem?_eq_some_iff.mp ho).1
theorem Sli.oldCk {h:VH} {v:Value} {xs:List Int} (hs:Sli h v xs) {k:Nat}:OldC (h.length+k) v:=(Sl.oldC hs).le (Nat.le_add_right _ _)
@[simp] theorem old_tagg_nil (n : Nat) (k k2 : IntKind) (x y : Int) (a b : Nat) : Old n (.tuple #[.agg #[.int k x, .slice none a b], .int k2 y]) := by
 intro r hr
 simp[trefs,vrefs,crefs,arefs]at hr
@[simp] theorem old_agg_nil (n : Nat) (k : IntKind) (x : Int) (a b : Nat) : Old n (.agg #[.int k x, .slice none a b]) := by
 intro r hr
 simp[trefs,vrefs,crefs,arefs]at hr
@[simp] theorem old_tsl_nil (n : Nat) (k : IntKind) (x : Int) (a b : Nat) : Old n (.tuple #[.slice none a b, .int k x]) := by
 intro r hr
 simp[trefs,vrefs,crefs,arefs]at hr
@[simp] theorem old_tup2 (k : Nat) (a b : Value) (ha : ∀ vs, a ≠ .tuple vs) (hb : ∀ vs, b ≠ .tuple vs) : Old k (.tuple #[a, b]) ↔ Old k a ∧ Old k b := by
 have e: ∀v:Value,(∀vs,v≠ .tuple vs)→trefs v=vrefs v:=by
  intro v hv
  unfold trefs
  split
  ·exact absurd rfl (hv _)
  ·rfl
 unfold Old
 rw[e a ha,e b hb]
 simp only[trefs,List.flatMap_cons,List.flatMap_nil,List.append_nil,List.mem_append]
 exact⟨fun h=>⟨fun r hr=>h r (.inl hr),fun r hr=>h r (.inr hr)⟩,fun h r hr=>hr.elim (h.1 r) (h.2 r)⟩
end

end Go.Proofs.YtbomdghbblakoaaGreatDoor.Zv

