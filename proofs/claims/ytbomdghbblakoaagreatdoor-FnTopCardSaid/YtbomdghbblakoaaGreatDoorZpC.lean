/- Part C of the proof: ZwIr1. Conditions: none. -/
import Derived.Test.YtbomdghbblakoaaGreatDoorProg
import Derived.Test.YtbomdghbblakoaaGreatDoorZpB
set_option linter.unusedSimpArgs false
set_option linter.unusedVariables false
set_option linter.unusedSectionVars false
namespace Go.Proofs.YtbomdghbblakoaaGreatDoor.Zv
/- The functions' intermediate form. -/
section
open Go
@[simp] abbrev vM (a b : Nat) : VOper := ⟨some a, .mv (.tmp b), none, 0⟩
@[simp] abbrev vO (a : Nat) (x : VOp) : VOper := ⟨some a, x, none, 0⟩
@[simp] abbrev vT (a : Nat) : Operand := .tmp a
@[simp] abbrev vC (a : Int) : Operand := .const (.int .i64 a)
def k_slices_Grow_int64_int64:Nat:=204
def k_math_bits_TrailingZeros64:Nat:=126
def k_zz102:Nat:=5
def k_zz109:Nat:=6
def k_zz95:Nat:=10
def k_zz85:Nat:=31
def k_zz107:Nat:=41
def k_zz66:Nat:=42
def k_zz87:Nat:=43
def k_zz90:Nat:=44
def k_zz89:Nat:=45
def k_zz54:Nat:=46
def k_zz49:Nat:=47
def k_zz48:Nat:=48
def k_zz78:Nat:=49
def k_zz103:Nat:=60
def k_zz81:Nat:=64
def k_zz106:Nat:=66
def k_zz27:Nat:=69
def k_zz105:Nat:=70
def k_zz86:Nat:=75
def k_zz72:Nat:=77
def k_zz104:Nat:=78
def k_zz52:Nat:=79
def k_zz59:Nat:=82
def k_zz100:Nat:=86
def k_zz73:Nat:=88
def k_zz36:Nat:=94
def k_zz34:Nat:=96
def k_zz101:Nat:=98
def k_zz60:Nat:=99
def k_zz98:Nat:=106
def k_zz26:Nat:=107
def k_zz80:Nat:=108
def k_zz108:Nat:=109
def k_zz99:Nat:=110
def k_zz96:Nat:=111
def k_zz92:Nat:=112
def k_zz84:Nat:=113
def k_zz32:Nat:=114
def k_zz33:Nat:=115
def k_zz79:Nat:=116
def k_zz57:Nat:=117
def k_zz53:Nat:=118
def k_zz74:Nat:=119
def k_zz88:Nat:=120
def k_zz65:Nat:=121
def k_zz42:Nat:=122
def k_zz82:Nat:=124
def k_zz56:Nat:=125
def k_zz50:Nat:=130
def k_zz39:Nat:=131
def k_zz38:Nat:=132
def k_zz44:Nat:=135
def k_zz25:Nat:=139
def k_zz51:Nat:=140
def k_zz75:Nat:=143
def k_zz62:Nat:=144
def k_zz91:Nat:=145
def k_zz77:Nat:=146
def k_zz64:Nat:=147
def k_zz61:Nat:=148
def k_zz40:Nat:=149
def k_zz41:Nat:=150
def k_zz94:Nat:=151
def k_zz67:Nat:=160
def k_zz68:Nat:=161
def k_zz63:Nat:=162
def k_zz58:Nat:=170
def k_zz31:Nat:=171
def k_zz12:Nat:=174
def k_zz23:Nat:=175
def k_zz11:Nat:=176
def k_zz17:Nat:=177
def k_zz15:Nat:=178
def k_zz1:Nat:=179
def k_zz71:Nat:=180
def k_zz10:Nat:=181
def k_zz21:Nat:=182
def k_zz97:Nat:=184
def k_zz93:Nat:=185
def k_zz30:Nat:=186
def k_zz45:Nat:=187
def k_zz47:Nat:=188
def k_zz55:Nat:=189
def k_zz22:Nat:=190
def k_zz35:Nat:=191
def k_zz76:Nat:=192
def k_zz43:Nat:=194
def k_zz46:Nat:=195
def k_zz83:Nat:=200
def k_zz24:Nat:=201
def k_zz9:Nat:=202
def k_zz28:Nat:=203
def k_zz7:Nat:=205
def k_zz37:Nat:=206
def k_zz69:Nat:=208
def k_zz70:Nat:=209
def k_zz29:Nat:=210
def k_zz18:Nat:=211
def k_zz5:Nat:=212
def k_zz14:Nat:=213
def k_zz4:Nat:=214
def k_zz8:Nat:=215
def k_zz6:Nat:=216
def k_zz0:Nat:=217
def k_zz3:Nat:=218
def k_zz13:Nat:=219
def k_zz16:Nat:=220
def k_zz2:Nat:=221
def k_zz19:Nat:=222
def k_zz20:Nat:=223
/-- laws.FnTop -/
def i_zz102_B1:FC:=
 .seq (.seq (.ops [
 vM 45 7,
 vO 46 (.bin .gtr (vT 45) (vC 0))])<|
 .cond (vT 46)
 (.skip)
 (.keep [4,5]<|
 .exit 0))<|
 .seq (.block 1<|
 .seq (.ops [
 vM 49 3,
 vM 50 4,
 vO 51 (.call k_zz66 [vT 49,vT 50]),
 vM 52 3,
 vM 53 4,
 vO 54 (.call k_zz66 [vT 52,vT 53]),
 vM 8 51,
 vM 9 54])<|
 .seq (.ops [
 vO 56 (.load true 2 (vT 5)),
 vM 57 8,
 vM 58 9,
 vO 59 (.call k_zz87 [vT 56,vT 57,vT 58]),
 vM 55 59,
 vO 60 (.ext (vT 55) 0),
 vO 61 (.ext (vT 55) 1),
 vO 10 (.alloc [.int .i64 0,.slice none 0 0]),
 ⟨none,.store 2 (vT 10) (vT 60),none,0⟩,
 vM 11 61])<|
 .seq (.ops [
 vO 63 (.load true 2 (vT 5)),
 vM 64 8,
 vM 65 9,
 vO 66 (.call k_zz90 [vT 63,vT 64,vT 65]),
 vM 62 66,
 vO 67 (.ext (vT 62) 0),
 vO 68 (.ext (vT 62) 1),
 vO 12 (.alloc [.int .i64 0,.slice none 0 0]),
 ⟨none,.store 2 (vT 12) (vT 67),none,0⟩,
 vM 13 68])<|
 .seq (.seq (.ops [
 vM 69 11,
 vM 70 13,
 vO 71 (.bin .neq (vT 69) (vT 70)),
 vM 72 71,
 ⟨some 73,.load true 2 (vT 10),some (72,false),0⟩,
 ⟨some 74,.load true 2 (vT 12),some (72,false),0⟩,
 ⟨some 75,.call k_zz95 [vT 73,vT 74],some (72,false),0⟩,
 ⟨some 76,.un .not (vT 75),some (72,false),0⟩,
 vO 77 (.pick (vT 72) (.const (.bool true)) (vT 76))])<|
 .cond (vT 77)
 (.seq (.ops [
 vO 2 (.mv (.const (.bool false)))])<|
 .keep [2]<|
 .ret)
 (.skip))<|
 .seq (.seq (.ops [
 vM 78 11,
 vO 79 (.bin .neq (vT 78) (vC 0))])<|
 .cond (vT 79)
 (.keep [3,4,5,6,7]<|
 .exit 1)
 (.skip))<|
 .seq (.ops [
 vO 80 (.load true 2 (vT 10)),
 ⟨none,.store 2 (vT 5) (vT 80),none,0⟩])<|
 .seq (.ops [
 vO 82 (.load true 2 (vT 5)),
 vO 83 (.call k_zz85 [vT 82]),
 vM 81 83,
 vO 84 (.ext (vT 81) 0),
 vO 85 (.ext (vT 81) 1),
 vM 14 84,
 vM 15 85])<|
 .seq (.ops [
 vO 87 (.load true 2 (vT 5)),
 vO 88 (.call k_zz89 [vT 87]),
 vM 86 88,
 vO 89 (.ext (vT 86) 0),
 vO 90 (.ext (vT 86) 1),
 vM 16 89,
 vM 17 90])<|
 .seq (.seq (.ops [
 vM 91 15,
 vM 92 17,
 vO 93 (.bin .neq (vT 91) (vT 92)),
 vM 94 93,
 ⟨some 95,.mv (vT 14),some (94,false),0⟩,
 ⟨some 96,.mv (vT 16),some (94,false),0⟩,
 ⟨some 97,.bin .neq (vT 95) (vT 96),some (94,false),0⟩,
 vO 98 (.pick (vT 94) (.const (.bool true)) (vT 97)),
 vM 99 98,
 ⟨some 100,.mv (vT 15),some (99,false),0⟩,
 ⟨some 101,.bin .eql (vT 100) (vC 0),some (99,false),0⟩,
 ⟨some 102,.mv (vT 101),some (99,false),0⟩,
 ⟨some 103,.mv (vT 14),some (102,true),0⟩,
 ⟨some 104,.mv (vT 6),some (102,true),0⟩,
 ⟨some 105,.bin .gtr (vT 103) (vT 104),some (102,true),0⟩,
 ⟨some 106,.pick (vT 102) (vT 105) (.const (.bool false)),some (99,false),0⟩,
 vO 107 (.pick (vT 99) (.const (.bool true)) (vT 106))])<|
 .cond (vT 107)
 (.seq (.ops [
 vO 2 (.mv (.const (.bool false)))])<|
 .keep [2]<|
 .ret)
 (.skip))<|
 .seq (.ops [
 vM 108 15,
 vO 109 (.bin .eql (vT 108) (vC 0))])<|
 .cond (vT 109)
 (.ops [
 vM 110 14,
 vM 6 110])
 (.skip))<|
 .ops [
 vM 47 7,
 vO 48 (.bin .sub (vT 47) (vC 1)),
 vM 7 48]
def i_zz102_B2:FC:=
 .seq (.seq (.ops [
 vM 112 19,
 vM 113 4,
 vO 114 (.bin .lss (vT 112) (vT 113))])<|
 .cond (vT 114)
 (.skip)
 (.keep [5,18]<|
 .exit 2))<|
 .seq (.block 3<|
 .ops [
 vM 117 18,
 vM 118 19,
 vO 119 (.bin .mul (vT 118) (vC 1)),
 vM 120 4,
 vO 121 (.bin .add (vT 119) (vT 120)),
 vO 122 (.bin .sub (vT 121) (vC 1)),
 vM 123 4,
 vO 124 (.bin .rem (vT 122) (vT 123)),
 vO 125 (.buildSl 1 [.int .i64 0] [(0,1,(vT 124))] 1),
 vO 126 (.app 1 8 [.int .i64 0] (vT 117) (vT 125)),
 vM 18 126])<|
 .ops [
 vM 115 19,
 vO 116 (.bin .add (vT 115) (vC 1)),
 vM 19 116]
def i_zz102:FF:=⟨180,[.tmp 2],
 .seq (.ops [
 vO 2 (.mv (.const (.bool false)))])<|
 .seq (.seq (.ops [
 vM 30 0,
 vO 31 (.call k_zz109 [vT 30])])<|
 .cond (vT 31)
 (.seq (.ops [
 vO 2 (.mv (.const (.bool true)))])<|
 .keep [2]<|
 .ret)
 (.skip))<|
 .seq (.ops [
 vM 32 0,
 vO 33 (.call k_zz107 [vT 32,(.const (.int .u64 9991))]),
 vM 3 33])<|
 .seq (.ops [
 vM 34 3,
 vO 35 (.call k_zz66 [vT 34,(vC 6)]),
 vO 36 (.bin .add (vC 4) (vT 35)),
 vM 4 36])<|
 .seq (.ops [
 vM 37 4,
 vM 38 4,
 vO 39 (.mkSl 1 [.int .i64 0] 8 (vT 38) (vT 38)),
 vO 40 (.build [.int .i64 0,.slice none 0 0] [(0,1,(vT 37)),(1,1,(vT 39))]),
 vO 5 (.alloc [.int .i64 0,.slice none 0 0]),
 ⟨none,.store 2 (vT 5) (vT 40),none,0⟩])<|
 .seq (.ops [
 vO 6 (.mv (vC 1000))])<|
 .seq (.seq (.ops [
 vM 41 3,
 vM 42 4,
 vO 43 (.bin .mul (vC 3) (vT 42)),
 vO 44 (.call k_zz66 [vT 41,vT 43]),
 vM 7 44])<|
 .block 0<|
 .loop [3,4,5,6,7] i_zz102_B1)<|
 .seq (.ops [
 vO 111 (.buildSl 1 [] [] 0),
 vM 18 111])<|
 .seq (.seq (.ops [
 vO 19 (.mv (vC 0))])<|
 .block 2<|
 .loop [4,5,18,19] i_zz102_B2)<|
 .seq (.ops [
 vO 128 (.load true 2 (vT 5)),
 vM 129 18,
 vO 130 (.call k_zz54 [vT 128,vT 129]),
 vM 127 130,
 vO 131 (.ext (vT 127) 0),
 vO 132 (.ext (vT 127) 1),
 vO 20 (.alloc [.int .i64 0,.slice none 0 0]),
 ⟨none,.store 2 (vT 20) (vT 131),none,0⟩,
 vM 21 132])<|
 .seq (.ops [
 vO 134 (.load true 2 (vT 5)),
 vO 135 (.call k_zz49 [vT 134]),
 vM 133 135,
 vO 136 (.ext (vT 133) 0),
 vO 137 (.ext (vT 133) 1),
 vM 22 136,
 vM 23 137])<|
 .seq (.ops [
 vO 139 (.load true 2 (vT 20)),
 vO 140 (.call k_zz49 [vT 139]),
 vM 138 140,
 vO 141 (.ext (vT 138) 0),
 vO 142 (.ext (vT 138) 1),
 vM 24 141,
 vM 25 142])<|
 .seq (.ops [
 vO 144 (.load true 2 (vT 5)),
 vO 145 (.load true 2 (vT 20)),
 vO 146 (.call k_zz48 [vT 144,vT 145]),
 vM 143 146,
 vO 147 (.ext (vT 143) 0),
 vO 148 (.ext (vT 143) 1),
 vM 26 147,
 vM 27 148])<|
 .seq (.seq (.ops [
 vM 149 21,
 vO 150 (.bin .neq (vT 149) (vC 0)),
 vM 151 150,
 ⟨some 152,.mv (vT 23),some (151,false),0⟩,
 ⟨some 153,.mv (vT 25),some (151,false),0⟩,
 ⟨some 154,.bin .neq (vT 152) (vT 153),some (151,false),0⟩,
 vO 155 (.pick (vT 151) (.const (.bool true)) (vT 154)),
 vM 156 155,
 ⟨some 157,.mv (vT 22),some (156,false),0⟩,
 ⟨some 158,.mv (vT 24),some (156,false),0⟩,
 ⟨some 159,.bin .neq (vT 157) (vT 158),some (156,false),0⟩,
 vO 160 (.pick (vT 156) (.const (.bool true)) (vT 159)),
 vM 161 160,
 ⟨some 162,.mv (vT 27),some (161,false),0⟩,
 ⟨some 163,.bin .neq (vT 162) (vC 0),some (161,false),0⟩,
 vO 164 (.pick (vT 161) (.const (.bool true)) (vT 163)),
 vM 165 164,
 ⟨some 166,.mv (vT 26),some (165,false),0⟩,
 ⟨some 167,.un .not (vT 166),some (165,false),0⟩,
 vO 168 (.pick (vT 165) (.const (.bool true)) (vT 167))])<|
 .cond (vT 168)
 (.seq (.ops [
 vO 2 (.mv (.const (.bool false)))])<|
 .keep [2]<|
 .ret)
 (.skip))<|
 .seq (.ops [
 vO 170 (.load true 2 (vT 5)),
 vO 171 (.call k_zz78 [vT 170]),
 vM 169 171,
 vO 172 (.ext (vT 169) 0),
 vO 173 (.ext (vT 169) 1),
 vM 28 172,
 vM 29 173])<|
 .seq (.ops [
 vM 174 29,
 vO 175 (.bin .neq (vT 174) (vC 0)),
 vM 176 175,
 ⟨some 177,.mv (vT 28),some (176,false),0⟩,
 ⟨some 178,.bin .geq (vT 177) (vC 0),some (176,false),0⟩,
 vO 179 (.pick (vT 176) (.const (.bool true)) (vT 178)),
 vM 2 179])<|
 .keep [2]<|
 .ret⟩
theorem e_zz102:EntOK Tryz.prog (compD Tryz.prog) k_zz102 i_zz102.vf:=
 ⟨Tryz.f5,Tryz.f5.body.getD .skip,Tryz.func5,by kernel_rfl,by kernel_rfl,by kernel_rfl,by kernel_rfl,by kernel_rfl⟩
/-- laws.big -/
def i_zz109:FF:=⟨6,[.tmp 2],
 .seq (.ops [
 vO 2 (.mv (.const (.bool false)))])<|
 .seq (.ops [
 vM 3 0,
 vO 4 (.len (vT 3)),
 vO 5 (.bin .gtr (vT 4) (vC 4096)),
 vM 2 5])<|
 .keep [2]<|
 .ret⟩
theorem e_zz109:EntOK Tryz.prog (compD Tryz.prog) k_zz109 i_zz109.vf:=
 ⟨Tryz.f6,Tryz.f6.body.getD .skip,Tryz.func6,by kernel_rfl,by kernel_rfl,by kernel_rfl,by kernel_rfl,by kernel_rfl⟩
/-- laws.graph9 -/
def i_zz95:FF:=⟨17,[.tmp 4],
 .seq (.ops [
 vO 2 (.box 2 (vT 0)),
 vO 3 (.box 2 (vT 1)),
 vO 4 (.mv (.const (.bool false)))])<|
 .seq (.ops [
 vO 5 (.fld 0 (vT 2)),
 vO 6 (.load false 1 (vT 5)),
 vO 7 (.fld 0 (vT 3)),
 vO 8 (.load false 1 (vT 7)),
 vO 9 (.bin .eql (vT 6) (vT 8)),
 vM 10 9,
 ⟨some 11,.fld 1 (vT 2),some (10,true),0⟩,
 ⟨some 12,.load false 1 (vT 11),some (10,true),0⟩,
 ⟨some 13,.fld 1 (vT 3),some (10,true),0⟩,
 ⟨some 14,.load false 1 (vT 13),some (10,true),0⟩,
 ⟨some 15,.call k_zz81 [vT 12,vT 14],some (10,true),0⟩,
 vO 16 (.pick (vT 10) (vT 15) (.const (.bool false))),
 vM 4 16])<|
 .keep [4]<|
 .ret⟩
theorem e_zz95:EntOK Tryz.prog (compD Tryz.prog) k_zz95 i_zz95.vf:=
 ⟨Tryz.f10,Tryz.f10.body.getD .skip,Tryz.func10,by kernel_rfl,by kernel_rfl,by kernel_rfl,by kernel_rfl,by kernel_rfl⟩
/-- impl.GirthOf -/
def i_zz85:FF:=⟨12,[.tmp 2,.tmp 3],
 .seq (.ops [
 vO 1 (.box 2 (vT 0)),
 vO 2 (.mv (vC 0)),
 vO 3 (.mv (vC 0))])<|
 .seq (.seq (.ops [
 vO 4 (.load true 2 (vT 1)),
 vO 5 (.call k_zz86 [vT 4]),
 vO 6 (.un .not (vT 5))])<|
 .cond (vT 6)
 (.seq (.ops [
 vO 2 (.mv (vC 0)),
 vO 3 (.mv (vC 1))])<|
 .keep [2,3]<|
 .ret)
 (.skip))<|
 .seq (.ops [
 vO 7 (.load true 2 (vT 1)),
 vO 8 (.call k_zz60 [vT 7]),
 vO 9 (.call k_zz101 [vT 8]),
 vO 10 (.ext (vT 9) 0),
 vO 11 (.ext (vT 9) 1),
 vM 2 10,
 vM 3 11])<|
 .keep [2,3]<|
 .ret⟩
theorem e_zz85:EntOK Tryz.prog (compD Tryz.prog) k_zz85 i_zz85.vf:=
 ⟨Tryz.f31,Tryz.f31.body.getD .skip,Tryz.func31,by kernel_rfl,by kernel_rfl,by kernel_rfl,by kernel_rfl,by kernel_rfl⟩
/-- laws.roll -/
def i_zz107_B1:FC:=
 .seq (.seq (.ops [
 vM 16 6,
 vM 17 0,
 vO 18 (.len (vT 17)),
 vO 19 (.bin .lss (vT 16) (vT 18))])<|
 .cond (vT 19)
 (.skip)
 (.keep [5]<|
 .exit 0))<|
 .seq (.block 1<|
 .dops [
 vM 22 5,
 vM 23 5,
 vO 24 (.nilchk (vT 23)),
 vO 25 (.fld 2 (vT 24)),
 vO 26 (.load false 1 (vT 25)),
 vO 27 (.bin .mul (vT 26) (.const (.int .u64 1099511628211))),
 vM 28 0,
 vM 29 6,
 vO 30 (.idx 1 (vT 28) (vT 29)),
 vO 31 (.load false 1 (vT 30)),
 vO 32 (.conv .u64 (vT 31)),
 vO 33 (.bin .add (vT 27) (vT 32)),
 vO 34 (.bin .add (vT 33) (.const (.int .u64 5))),
 vO 35 (.nilchk (vT 22)),
 vO 36 (.fld 2 (vT 35)),
 ⟨none,.store 1 (vT 36) (vT 34),none,0⟩])<|
 .ops [
 vM 20 6,
 vO 21 (.bin .add (vT 20) (vC 1)),
 vM 6 21]
def i_zz107:FF:=⟨38,[.tmp 4],
 .seq (.ops [
 vO 4 (.mv (.const (.pointer none)))])<|
 .seq (.ops [
 vM 7 0,
 vM 8 1,
 vO 9 (.bin .mul (vT 8) (.const (.int .u64 8329))),
 vM 10 0,
 vO 11 (.len (vT 10)),
 vO 12 (.conv .u64 (vT 11)),
 vO 13 (.bin .add (vT 9) (vT 12)),
 vO 14 (.build [.slice none 0 0,.int .i64 0,.int .u64 0] [(0,1,(vT 7)),(2,1,(vT 13))]),
 vO 15 (.box 3 (vT 14)),
 vM 5 15])<|
 .seq (.seq (.ops [
 vO 6 (.mv (vC 0))])<|
 .block 0<|
 .loop [0,5,6] i_zz107_B1)<|
 .seq (.ops [
 vM 37 5,
 vM 4 37])<|
 .keep [4]<|
 .ret⟩
theorem e_zz107:EntOK Tryz.prog (compD Tryz.prog) k_zz107 i_zz107.vf:=
 ⟨Tryz.f41,Tryz.f41.body.getD .skip,Tryz.func41,by kernel_rfl,by kernel_rfl,by kernel_rfl,by kernel_rfl,by kernel_rfl⟩
def i_zz66:FF:=⟨58,[.tmp 4],
 .seq (.ops [
 vO 4 (.mv (vC 0))])<|
 .seq (.seq (.ops [
 vM 6 1,
 vO 7 (.bin .lss (vT 6) (vC 1))])<|
 .cond (vT 7)
 (.seq (.ops [
 vO 4 (.mv (vC 0))])<|
 .keep [4]<|
 .ret)
 (.skip))<|
 .seq (.ops [
 vM 8 0,
 vM 9 0,
 vO 10 (.nilchk (vT 9)),
 vO 11 (.fld 2 (vT 10)),
 vO 12 (.load false 1 (vT 11)),
 vO 13 (.bin .mul (vT 12) (.const (.int .u64 6364136223846793005))),
 vO 14 (.bin .add (vT 13) (.const (.int .u64 1442695040888963407))),
 vO 15 (.nilchk (vT 8)),
 vO 16 (.fld 2 (vT 15)),
 ⟨none,.store 1 (vT 16) (vT 14),none,0⟩])<|
 .seq (.ops [
 vM 17 0,
 vO 18 (.nilchk (vT 17)),
 vO 19 (.fld 2 (vT 18)),
 vO 20 (.load false 1 (vT 19)),
 vO 21 (.bin .shr (vT 20) (.const (.int .u64 33))),
 vO 22 (.bin .and (vT 21) (.const (.int .u64 16777215))),
 vO 23 (.conv .i64 (vT 22)),
 vM 5 23])<|
 .seq (.seq (.dops [
 vM 24 0,
 vO 25 (.nilchk (vT 24)),
 vO 26 (.fld 1 (vT 25)),
 vO 27 (.load false 1 (vT 26)),
 vM 28 0,
 vO 29 (.nilchk (vT 28)),
 vO 30 (.fld 0 (vT 29)),
 vO 31 (.load false 1 (vT 30)),
 vO 32 (.len (vT 31)),
 vO 33 (.bin .lss (vT 27) (vT 32))])<|
 .cond (vT 33)
 (.seq (.dops [
 vM 34 5,
 vM 35 0,
 vO 36 (.nilchk (vT 35)),
 vO 37 (.fld 0 (vT 36)),
 vO 38 (.load false 1 (vT 37)),
 vM 39 0,
 vO 40 (.nilchk (vT 39)),
 vO 41 (.fld 1 (vT 40)),
 vO 42 (.load false 1 (vT 41)),
 vO 43 (.idx 1 (vT 38) (vT 42)),
 vO 44 (.load false 1 (vT 43)),
 vO 45 (.conv .i64 (vT 44)),
 vO 46 (.bin .add (vT 34) (vT 45)),
 vM 5 46])<|
 .ops [
 vM 47 0,
 vM 48 0,
 vO 49 (.nilchk (vT 48)),
 vO 50 (.fld 1 (vT 49)),
 vO 51 (.load false 1 (vT 50)),
 vO 52 (.bin .add (vT 51) (vC 1)),
 vO 53 (.nilchk (vT 47)),
 vO 54 (.fld 1 (vT 53)),
 ⟨none,.store 1 (vT 54) (vT 52),none,0⟩])
 (.skip))<|
 .seq (.ops [
 vM 55 5,
 vM 56 1,
 vO 57 (.bin .rem (vT 55) (vT 56)),
 vM 4 57])<|
 .keep [4]<|
 .ret⟩
theorem e_zz66:EntOK Tryz.prog (compD Tryz.prog) k_zz66 i_zz66.vf:=
 ⟨Tryz.f42,Tryz.f42.body.getD .skip,Tryz.func42,by kernel_rfl,by kernel_rfl,by kernel_rfl,by kernel_rfl,by kernel_rfl⟩
/-- impl.PutEdge -/
def i_zz87:FF:=⟨30,[.cell 6 true 2,.tmp 7],
 .seq (.ops [
 vO 3 (.box 2 (vT 0)),
 vO 6 (.alloc [.int .i64 0,.slice none 0 0]),
 vO 7 (.mv (vC 0))])<|
 .seq (.seq (.ops [
 vO 10 (.load true 2 (vT 3)),
 vM 11 1,
 vM 12 2,
 vO 13 (.call k_zz80 [vT 10,vT 11,vT 12]),
 vM 8 13])<|
 .seq (.ops [
 vM 14 8,
 vO 15 (.bin .neq (vT 14) (vC 0))])<|
 .cond (vT 15)
 (.seq (.ops [
 vO 16 (.build [.int .i64 0,.slice none 0 0] []),
 vM 17 8,
 ⟨none,.store 2 (vT 6) (vT 16),none,0⟩,
 vM 7 17])<|
 .keep [6,7]<|
 .ret)
 (.skip))<|
 .seq (.seq (.ops [
 vO 18 (.load true 2 (vT 3)),
 vM 19 1,
 vM 20 2,
 vO 21 (.call k_zz72 [vT 18,vT 19,vT 20])])<|
 .cond (vT 21)
 (.seq (.ops [
 vO 22 (.build [.int .i64 0,.slice none 0 0] []),
 ⟨none,.store 2 (vT 6) (vT 22),none,0⟩,
 vO 7 (.mv (vC 5))])<|
 .keep [6,7]<|
 .ret)
 (.skip))<|
 .seq (.ops [
 vO 23 (.load true 2 (vT 3)),
 vO 24 (.call k_zz108 [vT 23]),
 vO 9 (.alloc [.int .i64 0,.slice none 0 0]),
 ⟨none,.store 2 (vT 9) (vT 24),none,0⟩])<|
 .seq (.ops [
 vO 25 (.load true 2 (vT 9)),
 vM 26 1,
 vM 27 2,
 vO 28 (.call k_zz73 [vT 25,vT 26,vT 27])])<|
 .seq (.ops [
 vO 29 (.load true 2 (vT 9)),
 ⟨none,.store 2 (vT 6) (vT 29),none,0⟩,
 vO 7 (.mv (vC 0))])<|
 .keep [6,7]<|
 .ret⟩
theorem e_zz87:EntOK Tryz.prog (compD Tryz.prog) k_zz87 i_zz87.vf:=
 ⟨Tryz.f43,Tryz.f43.body.getD .skip,Tryz.func43,by kernel_rfl,by kernel_rfl,by kernel_rfl,by kernel_rfl,by kernel_rfl⟩
/-- spec.PutEdge -/
def i_zz90:FF:=⟨29,[.cell 6 true 2,.tmp 7],
 .seq (.ops [
 vO 3 (.box 2 (vT 0)),
 vO 6 (.alloc [.int .i64 0,.slice none 0 0]),
 vO 7 (.mv (vC 0))])<|
 .seq (.ops [
 vO 9 (.load true 2 (vT 3)),
 vM 10 1,
 vM 11 2,
 vO 12 (.call k_zz99 [vT 9,vT 10,vT 11]),
 vM 8 12])<|
 .seq (.seq (.ops [
 vM 13 8,
 vO 14 (.bin .eql (vT 13) (vC 0)),
 vM 15 14,
 ⟨some 16,.load true 2 (vT 3),some (15,true),0⟩,
 ⟨some 17,.mv (vT 1),some (15,true),0⟩,
 ⟨some 18,.mv (vT 2),some (15,true),0⟩,
 ⟨some 19,.call k_zz96 [vT 16,vT 17,vT 18],some (15,true),0⟩,
 vO 20 (.pick (vT 15) (vT 19) (.const (.bool false)))])<|
 .cond (vT 20)
 (.ops [
 vO 8 (.mv (vC 5))])
 (.skip))<|
 .seq (.seq (.ops [
 vM 21 8,
 vO 22 (.bin .neq (vT 21) (vC 0))])<|
 .cond (vT 22)
 (.seq (.ops [
 vO 23 (.build [.int .i64 0,.slice none 0 0] []),
 vM 24 8,
 ⟨none,.store 2 (vT 6) (vT 23),none,0⟩,
 vM 7 24])<|
 .keep [6,7]<|
 .ret)
 (.skip))<|
 .seq (.ops [
 vO 25 (.load true 2 (vT 3)),
 vM 26 1,
 vM 27 2,
 vO 28 (.call k_zz92 [vT 25,vT 26,vT 27]),
 ⟨none,.store 2 (vT 6) (vT 28),none,0⟩,
 vO 7 (.mv (vC 0))])<|
 .keep [6,7]<|
 .ret⟩
theorem e_zz90:EntOK Tryz.prog (compD Tryz.prog) k_zz90 i_zz90.vf:=
 ⟨Tryz.f44,Tryz.f44.body.getD .skip,Tryz.func44,by kernel_rfl,by kernel_rfl,by kernel_rfl,by kernel_rfl,by kernel_rfl⟩
/-- spec.GirthOf -/
def i_zz89:FF:=⟨13,[.tmp 2,.tmp 3],
 .seq (.ops [
 vO 1 (.box 2 (vT 0)),
 vO 2 (.mv (vC 0)),
 vO 3 (.mv (vC 0))])<|
 .seq (.seq (.ops [
 vO 5 (.load true 2 (vT 1)),
 vO 6 (.call k_zz104 [vT 5]),
 vO 7 (.un .not (vT 6))])<|
 .cond (vT 7)
 (.seq (.ops [
 vO 2 (.mv (vC 0)),
 vO 3 (.mv (vC 1))])<|
 .keep [2,3]<|
 .ret)
 (.skip))<|
 .seq (.ops [
 vO 8 (.load true 2 (vT 1)),
 vO 9 (.call k_zz84 [vT 8,(vC (-1))]),
 vM 4 9])<|
 .seq (.seq (.ops [
 vM 10 4,
 vO 11 (.bin .eql (vT 10) (vC 0))])<|
 .cond (vT 11)
 (.seq (.ops [
 vO 2 (.mv (vC 0)),
 vO 3 (.mv (vC 4))])<|
 .keep [2,3]<|
 .ret)
 (.skip))<|
 .seq (.ops [
 vM 12 4,
 vM 2 12,
 vO 3 (.mv (vC 0))])<|
 .keep [2,3]<|
 .ret⟩
theorem e_zz89:EntOK Tryz.prog (compD Tryz.prog) k_zz89 i_zz89.vf:=
 ⟨Tryz.f45,Tryz.f45.body.getD .skip,Tryz.func45,by kernel_rfl,by kernel_rfl,by kernel_rfl,by kernel_rfl,by kernel_rfl⟩
/-- impl.RenumberGraph -/
def i_zz54_B1:FC:=
 .seq (.ops [
 vO 32 (.bin .lss (vT 31) (vT 30))])<|
 .seq (.cond (vT 32)
 (.skip)
 (.keep [4,7]<|
 .exit 0))<|
 .seq (.block 1<|
 .seq (.ops [
 vO 33 (.idx 1 (vT 29) (vT 31)),
 vO 34 (.load false 1 (vT 33)),
 vM 9 34])<|
 .dops [
 vO 35 (.load true 2 (vT 7)),
 vM 36 1,
 vM 37 9,
 vO 38 (.idx 1 (vT 37) (vC 0)),
 vO 39 (.load false 1 (vT 38)),
 vO 40 (.idx 1 (vT 36) (vT 39)),
 vO 41 (.load false 1 (vT 40)),
 vM 42 1,
 vM 43 9,
 vO 44 (.idx 1 (vT 43) (vC 1)),
 vO 45 (.load false 1 (vT 44)),
 vO 46 (.idx 1 (vT 42) (vT 45)),
 vO 47 (.load false 1 (vT 46)),
 vO 48 (.call k_zz73 [vT 35,vT 41,vT 47])])<|
 .ops [
 vO 49 (.bin .add (vT 31) (vC 1)),
 vM 31 49]
def i_zz54:FF:=⟨51,[.cell 4 true 2,.tmp 5],
 .seq (.ops [
 vO 2 (.box 2 (vT 0)),
 vO 4 (.alloc [.int .i64 0,.slice none 0 0]),
 vO 5 (.mv (vC 0))])<|
 .seq (.seq (.ops [
 vO 10 (.load true 2 (vT 2)),
 vO 11 (.call k_zz86 [vT 10]),
 vO 12 (.un .not (vT 11))])<|
 .cond (vT 12)
 (.seq (.ops [
 vO 13 (.build [.int .i64 0,.slice none 0 0] []),
 ⟨none,.store 2 (vT 4) (vT 13),none,0⟩,
 vO 5 (.mv (vC 1))])<|
 .keep [4,5]<|
 .ret)
 (.skip))<|
 .seq (.ops [
 vM 14 1,
 vO 15 (.call k_zz32 [vT 14]),
 vM 6 15])<|
 .seq (.ops [
 vM 16 6,
 vO 17 (.call k_zz36 [vT 16])])<|
 .seq (.seq (.ops [
 vM 18 6,
 vO 19 (.fld 0 (vT 2)),
 vO 20 (.load false 1 (vT 19)),
 vO 21 (.call k_zz79 [vT 20]),
 vO 22 (.call k_zz33 [vT 18,vT 21]),
 vO 23 (.un .not (vT 22))])<|
 .cond (vT 23)
 (.seq (.ops [
 vO 24 (.build [.int .i64 0,.slice none 0 0] []),
 ⟨none,.store 2 (vT 4) (vT 24),none,0⟩,
 vO 5 (.mv (vC 2))])<|
 .keep [4,5]<|
 .ret)
 (.skip))<|
 .seq (.ops [
 vO 25 (.fld 0 (vT 2)),
 vO 26 (.load false 1 (vT 25)),
 vO 27 (.call k_zz100 [vT 26]),
 vO 7 (.alloc [.int .i64 0,.slice none 0 0]),
 ⟨none,.store 2 (vT 7) (vT 27),none,0⟩])<|
 .seq (.seq (.ops [
 vO 28 (.load true 2 (vT 2)),
 vO 29 (.call k_zz59 [vT 28]),
 vO 30 (.len (vT 29)),
 vO 31 (.mv (vC 0))])<|
 .block 0<|
 .loop [1,4,7,29,30,31] i_zz54_B1)<|
 .seq (.ops [
 vO 50 (.load true 2 (vT 7)),
 ⟨none,.store 2 (vT 4) (vT 50),none,0⟩,
 vO 5 (.mv (vC 0))])<|
 .keep [4,5]<|
 .ret⟩
theorem e_zz54:EntOK Tryz.prog (compD Tryz.prog) k_zz54 i_zz54.vf:=
 ⟨Tryz.f46,Tryz.f46.body.getD .skip,Tryz.func46,by kernel_rfl,by kernel_rfl,by kernel_rfl,by kernel_rfl,by kernel_rfl⟩
/-- impl.CountShortest -/
def i_zz49_B1:FC:=
 .seq (.ops [
 vO 19 (.bin .lss (vT 18) (vT 17))])<|
 .seq (.cond (vT 19)
 (.skip)
 (.keep [4,5]<|
 .exit 0))<|
 .seq (.block 1<|
 .seq (.ops [
 vO 20 (.idx 1 (vT 16) (vT 18)),
 vO 21 (.load false 1 (vT 20)),
 vM 7 21])<|
 .seq (.dops [
 vO 22 (.load true 2 (vT 1)),
 vM 23 7,
 vO 24 (.idx 1 (vT 23) (vC 0)),
 vO 25 (.load false 1 (vT 24)),
 vM 26 7,
 vO 27 (.idx 1 (vT 26) (vC 1)),
 vO 28 (.load false 1 (vT 27)),
 vO 29 (.call k_zz57 [vT 22,vT 25,vT 28]),
 ⟨some 30,.mv (vT 4),none,1⟩,
 vO 31 (.bin .eql (vT 29) (vT 30))])<|
 .cond (vT 31)
 (.dops [
 vO 33 (.load true 2 (vT 1)),
 vM 34 7,
 vO 35 (.idx 1 (vT 34) (vC 0)),
 vO 36 (.load false 1 (vT 35)),
 vM 37 7,
 vO 38 (.idx 1 (vT 37) (vC 1)),
 vO 39 (.load false 1 (vT 38)),
 vM 40 4,
 vO 41 (.call k_zz53 [vT 33,vT 36,vT 39,vT 40]),
 ⟨some 32,.mv (vT 5),none,1⟩,
 vO 42 (.bin .add (vT 32) (vT 41)),
 vM 5 42])
 (.skip))<|
 .ops [
 vO 43 (.bin .add (vT 18) (vC 1)),
 vM 18 43]
def i_zz49:FF:=⟨47,[.tmp 2,.tmp 3],
 .seq (.ops [
 vO 1 (.box 2 (vT 0)),
 vO 2 (.mv (vC 0)),
 vO 3 (.mv (vC 0))])<|
 .seq (.seq (.ops [
 vO 8 (.load true 2 (vT 1)),
 vO 9 (.call k_zz86 [vT 8]),
 vO 10 (.un .not (vT 9))])<|
 .cond (vT 10)
 (.seq (.ops [
 vO 2 (.mv (vC 0)),
 vO 3 (.mv (vC 1))])<|
 .keep [2,3]<|
 .ret)
 (.skip))<|
 .seq (.ops [
 vO 11 (.load true 2 (vT 1)),
 vO 12 (.call k_zz60 [vT 11]),
 vM 4 12,
 vO 5 (.mv (vC 0))])<|
 .seq (.seq (.ops [
 vM 13 4,
 vO 14 (.bin .eql (vT 13) (vC 0))])<|
 .cond (vT 14)
 (.seq (.ops [
 vO 2 (.mv (vC 0)),
 vO 3 (.mv (vC 4))])<|
 .keep [2,3]<|
 .ret)
 (.skip))<|
 .seq (.seq (.ops [
 vO 15 (.load true 2 (vT 1)),
 vO 16 (.call k_zz59 [vT 15]),
 vO 17 (.len (vT 16)),
 vO 18 (.mv (vC 0))])<|
 .block 0<|
 .loop [1,4,5,16,17,18] i_zz49_B1)<|
 .seq (.ops [
 vM 44 5,
 vM 45 4,
 vO 46 (.bin .quo (vT 44) (vT 45)),
 vM 2 46,
 vO 3 (.mv (vC 0))])<|
 .keep [2,3]<|
 .ret⟩
theorem e_zz49:EntOK Tryz.prog (compD Tryz.prog) k_zz49 i_zz49.vf:=
 ⟨Tryz.f47,Tryz.f47.body.getD .skip,Tryz.func47,by kernel_rfl,by kernel_rfl,by kernel_rfl,by kernel_rfl,by kernel_rfl⟩
/-- impl.AreIsomorphic -/
def i_zz48:FF:=⟨15,[.tmp 4,.tmp 5],
 .seq (.ops [
 vO 2 (.box 2 (vT 0)),
 vO 3 (.box 2 (vT 1)),
 vO 4 (.mv (.const (.bool false))),
 vO 5 (.mv (vC 0))])<|
 .seq (.seq (.ops [
 vO 6 (.load true 2 (vT 2)),
 vO 7 (.load true 2 (vT 3)),
 vO 8 (.buildSl 2 [.int .i64 0,.slice none 0 0,.int .i64 0,.slice none 0 0] [(0,2,(vT 6)),(2,2,(vT 7))] 2),
 vO 9 (.call k_zz74 [vT 8]),
 vO 10 (.un .not (vT 9))])<|
 .cond (vT 10)
 (.seq (.ops [
 vO 4 (.mv (.const (.bool false))),
 vO 5 (.mv (vC 1))])<|
 .keep [4,5]<|
 .ret)
 (.skip))<|
 .seq (.ops [
 vO 11 (.load true 2 (vT 2)),
 vO 12 (.load true 2 (vT 3)),
 vO 13 (.call k_zz88 [vT 11,vT 12,(.const (.slice none 0 0)),(.const (.slice none 0 0))]),
 vO 14 (.eqnilS true (vT 13)),
 vM 4 14,
 vO 5 (.mv (vC 0))])<|
 .keep [4,5]<|
 .ret⟩
theorem e_zz48:EntOK Tryz.prog (compD Tryz.prog) k_zz48 i_zz48.vf:=
 ⟨Tryz.f48,Tryz.f48.body.getD .skip,Tryz.func48,by kernel_rfl,by kernel_rfl,by kernel_rfl,by kernel_rfl,by kernel_rfl⟩
/-- impl.ExcessOf -/
def i_zz78:FF:=⟨20,[.tmp 2,.tmp 3],
 .seq (.ops [
 vO 1 (.box 2 (vT 0)),
 vO 2 (.mv (vC 0)),
 vO 3 (.mv (vC 0))])<|
 .seq (.block 0<|
 .seq (.ops [
 vO 5 (.load true 2 (vT 1)),
 vO 6 (.call k_zz86 [vT 5]),
 vO 7 (.un .not (vT 6)),
 vM 4 7])<|
 .cond (vT 4)
 (.seq (.ops [
 vO 2 (.mv (vC 0)),
 vO 3 (.mv (vC 1))])<|
 .keep [2,3]<|
 .ret)
 (.seq (.ops [
 vO 9 (.load true 2 (vT 1)),
 vO 10 (.call k_zz52 [vT 9]),
 vO 11 (.bin .lss (vT 10) (vC 2)),
 vM 8 11])<|
 .cond (vT 8)
 (.seq (.ops [
 vO 2 (.mv (vC 0)),
 vO 3 (.mv (vC 5))])<|
 .keep [2,3]<|
 .ret)
 (.skip)))<|
 .seq (.dops [
 vO 14 (.load true 2 (vT 1)),
 vO 15 (.call k_zz52 [vT 14]),
 ⟨some 16,.load true 2 (vT 1),none,1⟩,
 vO 17 (.call k_zz60 [vT 16]),
 vO 18 (.call k_zz65 [vT 15,vT 17]),
 ⟨some 12,.fld 0 (vT 1),none,3⟩,
 ⟨some 13,.load false 1 (vT 12),none,3⟩,
 vO 19 (.bin .sub (vT 13) (vT 18)),
 vM 2 19,
 vO 3 (.mv (vC 0))])<|
 .keep [2,3]<|
 .ret⟩
theorem e_zz78:EntOK Tryz.prog (compD Tryz.prog) k_zz78 i_zz78.vf:=
 ⟨Tryz.f49,Tryz.f49.body.getD .skip,Tryz.func49,by kernel_rfl,by kernel_rfl,by kernel_rfl,by kernel_rfl,by kernel_rfl⟩
/-- spec.l01In -/
def i_zz103:FF:=⟨15,[.tmp 6],
 .seq (.ops [
 vO 6 (.mv (.const (.bool false)))])<|
 .seq (.ops [
 vM 7 0,
 vM 8 1,
 vO 9 (.bin .geq (vT 7) (vT 8)),
 vM 10 9,
 ⟨some 11,.mv (vT 0),some (10,true),0⟩,
 ⟨some 12,.mv (vT 2),some (10,true),0⟩,
 ⟨some 13,.bin .leq (vT 11) (vT 12),some (10,true),0⟩,
 vO 14 (.pick (vT 10) (vT 13) (.const (.bool false))),
 vM 6 14])<|
 .keep [6]<|
 .ret⟩
theorem e_zz103:EntOK Tryz.prog (compD Tryz.prog) k_zz103 i_zz103.vf:=
 ⟨Tryz.f60,Tryz.f60.body.getD .skip,Tryz.func60,by kernel_rfl,by kernel_rfl,by kernel_rfl,by kernel_rfl,by kernel_rfl⟩
/-- laws.likeInts -/
def i_zz81_B1:FC:=
 .seq (.seq (.ops [
 vM 11 5,
 vM 12 0,
 vO 13 (.len (vT 12)),
 vO 14 (.bin .lss (vT 11) (vT 13))])<|
 .cond (vT 14)
 (.skip)
 (.keep []<|
 .exit 0))<|
 .seq (.block 1<|
 .seq (.dops [
 vM 17 0,
 vM 18 5,
 vO 19 (.idx 1 (vT 17) (vT 18)),
 vO 20 (.load false 1 (vT 19)),
 vM 21 1,
 vM 22 5,
 vO 23 (.idx 1 (vT 21) (vT 22)),
 vO 24 (.load false 1 (vT 23)),
 vO 25 (.bin .neq (vT 20) (vT 24))])<|
 .cond (vT 25)
 (.seq (.ops [
 vO 4 (.mv (.const (.bool false)))])<|
 .keep [4]<|
 .ret)
 (.skip))<|
 .ops [
 vM 15 5,
 vO 16 (.bin .add (vT 15) (vC 1)),
 vM 5 16]
def i_zz81:FF:=⟨26,[.tmp 4],
 .seq (.ops [
 vO 4 (.mv (.const (.bool false)))])<|
 .seq (.seq (.ops [
 vM 6 0,
 vO 7 (.len (vT 6)),
 vM 8 1,
 vO 9 (.len (vT 8)),
 vO 10 (.bin .neq (vT 7) (vT 9))])<|
 .cond (vT 10)
 (.seq (.ops [
 vO 4 (.mv (.const (.bool false)))])<|
 .keep [4]<|
 .ret)
 (.skip))<|
 .seq (.seq (.ops [
 vO 5 (.mv (vC 0))])<|
 .block 0<|
 .loop [0,1,5] i_zz81_B1)<|
 .seq (.ops [
 vO 4 (.mv (.const (.bool true)))])<|
 .keep [4]<|
 .ret⟩
theorem e_zz81:EntOK Tryz.prog (compD Tryz.prog) k_zz81 i_zz81.vf:=
 ⟨Tryz.f64,Tryz.f64.body.getD .skip,Tryz.func64,by kernel_rfl,by kernel_rfl,by kernel_rfl,by kernel_rfl,by kernel_rfl⟩
/-- impl.size -/
def i_zz106:FF:=⟨6,[.tmp 2],
 .seq (.ops [
 vO 2 (.mv (vC 0))])<|
 .seq (.ops [
 vM 3 0,
 vO 4 (.conv .u64 (vT 3)),
 vO 5 (.call k_zz42 [vT 4]),
 vM 2 5])<|
 .keep [2]<|
 .ret⟩
theorem e_zz106:EntOK Tryz.prog (compD Tryz.prog) k_zz106 i_zz106.vf:=
 ⟨Tryz.f66,Tryz.f66.body.getD .skip,Tryz.func66,by kernel_rfl,by kernel_rfl,by kernel_rfl,by kernel_rfl,by kernel_rfl⟩
/-- slices.Compare[[]int64,int64] -/
def i_zz27_B1:FC:=
 .seq (.ops [
 vO 12 (.bin .lss (vT 11) (vT 10))])<|
 .seq (.cond (vT 12)
 (.skip)
 (.keep [0,1]<|
 .exit 0))<|
 .seq (.block 1<|
 .seq (.ops [
 vM 13 11,
 vO 14 (.idx 1 (vT 9) (vT 11)),
 vO 15 (.load false 1 (vT 14)),
 vM 5 13,
 vM 6 15])<|
 .seq (.seq (.ops [
 vM 16 5,
 vM 17 1,
 vO 18 (.len (vT 17)),
 vO 19 (.bin .geq (vT 16) (vT 18))])<|
 .cond (vT 19)
 (.seq (.ops [
 vO 4 (.mv (vC 1))])<|
 .keep [4]<|
 .ret)
 (.skip))<|
 .seq (.ops [
 vM 20 1,
 vM 21 5,
 vO 22 (.idx 1 (vT 20) (vT 21)),
 vO 23 (.load false 1 (vT 22)),
 vM 7 23])<|
 .seq (.ops [
 vM 24 6,
 vM 25 7,
 vO 26 (.call k_zz56 [vT 24,vT 25]),
 vM 8 26])<|
 .seq (.ops [
 vM 27 8,
 vO 28 (.bin .neq (vT 27) (vC 0))])<|
 .cond (vT 28)
 (.seq (.ops [
 vM 29 8,
 vM 4 29])<|
 .keep [4]<|
 .ret)
 (.skip))<|
 .ops [
 vO 30 (.bin .add (vT 11) (vC 1)),
 vM 11 30]
def i_zz27:FF:=⟨36,[.tmp 4],
 .seq (.ops [
 vO 4 (.mv (vC 0))])<|
 .seq (.seq (.ops [
 vM 9 0,
 vO 10 (.len (vT 9)),
 vO 11 (.mv (vC 0))])<|
 .block 0<|
 .loop [0,1,9,10,11] i_zz27_B1)<|
 .seq (.seq (.ops [
 vM 31 0,
 vO 32 (.len (vT 31)),
 vM 33 1,
 vO 34 (.len (vT 33)),
 vO 35 (.bin .lss (vT 32) (vT 34))])<|
 .cond (vT 35)
 (.seq (.ops [
 vO 4 (.mv (vC (-1)))])<|
 .keep [4]<|
 .ret)
 (.skip))<|
 .seq (.ops [
 vO 4 (.mv (vC 0))])<|
 .keep [4]<|
 .ret⟩
theorem e_zz27:EntOK Tryz.prog (compD Tryz.prog) k_zz27 i_zz27.vf:=
 ⟨Tryz.f69,Tryz.f69.body.getD .skip,Tryz.func69,by kernel_rfl,by kernel_rfl,by kernel_rfl,by kernel_rfl,by kernel_rfl⟩
/-- impl.list -/
def i_zz105_B1:FC:=
 .seq (.seq (.ops [
 vM 5 0,
 vO 6 (.bin .neq (vT 5) (vC 0))])<|
 .cond (vT 6)
 (.skip)
 (.keep [3]<|
 .exit 0))<|
 .seq (.block 1<|
 .ops [
 vM 11 3,
 vM 12 0,
 vO 13 (.conv .u64 (vT 12)),
 vO 14 (.call k_math_bits_TrailingZeros64 [vT 13]),
 vO 15 (.buildSl 1 [.int .i64 0] [(0,1,(vT 14))] 1),
 vO 16 (.app 1 8 [.int .i64 0] (vT 11) (vT 15)),
 vM 3 16])<|
 .ops [
 vM 7 0,
 vM 8 0,
 vO 9 (.bin .sub (vT 8) (vC 1)),
 vO 10 (.bin .and (vT 7) (vT 9)),
 vM 0 10]
def i_zz105:FF:=⟨18,[.tmp 2],
 .seq (.ops [
 vO 2 (.mv (.const (.slice none 0 0)))])<|
 .seq (.ops [
 vO 4 (.buildSl 1 [] [] 0),
 vM 3 4])<|
 .seq (.block 0<|
 .loop [0,3] i_zz105_B1)<|
 .seq (.ops [
 vM 17 3,
 vM 2 17])<|
 .keep [2]<|
 .ret⟩
theorem e_zz105:EntOK Tryz.prog (compD Tryz.prog) k_zz105 i_zz105.vf:=
 ⟨Tryz.f70,Tryz.f70.body.getD .skip,Tryz.func70,by kernel_rfl,by kernel_rfl,by kernel_rfl,by kernel_rfl,by kernel_rfl⟩
/-- impl.IsGraph -/
def i_zz86_B1:FC:=
 .seq (.ops [
 vO 47 (.bin .lss (vT 46) (vT 45))])<|
 .seq (.cond (vT 47)
 (.skip)
 (.keep [1,3,23,24,25]<|
 .exit 2))<|
 .seq (.block 3<|
 .seq (.ops [
 vM 48 46,
 vM 6 48])<|
 .seq (.dops [
 vM 49 5,
 vM 50 6,
 vO 51 (.bin .shr (vT 49) (vT 50)),
 vO 52 (.bin .and (vT 51) (vC 1)),
 vO 53 (.fld 1 (vT 1)),
 vO 54 (.load false 1 (vT 53)),
 vM 55 6,
 vO 56 (.idx 1 (vT 54) (vT 55)),
 vO 57 (.load false 1 (vT 56)),
 vM 58 4,
 vO 59 (.bin .shr (vT 57) (vT 58)),
 vO 60 (.bin .and (vT 59) (vC 1)),
 vO 61 (.bin .neq (vT 52) (vT 60))])<|
 .cond (vT 61)
 (.seq (.ops [
 vO 2 (.mv (.const (.bool false)))])<|
 .keep [2]<|
 .ret)
 (.skip))<|
 .ops [
 vO 62 (.bin .add (vT 46) (vC 1)),
 vM 46 62]
def i_zz86_B2:FC:=
 .seq (.ops [
 vO 26 (.bin .lss (vT 25) (vT 24))])<|
 .seq (.cond (vT 26)
 (.skip)
 (.keep []<|
 .exit 0))<|
 .seq (.block 1<|
 .seq (.ops [
 vM 27 25,
 vO 28 (.idx 1 (vT 23) (vT 25)),
 vO 29 (.load false 1 (vT 28)),
 vM 4 27,
 vM 5 29])<|
 .seq (.seq (.ops [
 vM 30 5,
 vO 31 (.bin .lss (vT 30) (vC 0)),
 vM 32 31,
 ⟨some 33,.mv (vT 5),some (32,false),0⟩,
 ⟨some 34,.mv (vT 3),some (32,false),0⟩,
 ⟨some 35,.bin .shl (vC 1) (vT 34),some (32,false),0⟩,
 ⟨some 36,.bin .geq (vT 33) (vT 35),some (32,false),0⟩,
 vO 37 (.pick (vT 32) (.const (.bool true)) (vT 36)),
 vM 38 37,
 ⟨some 39,.mv (vT 5),some (38,false),0⟩,
 ⟨some 40,.mv (vT 4),some (38,false),0⟩,
 ⟨some 41,.bin .shr (vT 39) (vT 40),some (38,false),0⟩,
 ⟨some 42,.bin .and (vT 41) (vC 1),some (38,false),0⟩,
 ⟨some 43,.bin .eql (vT 42) (vC 1),some (38,false),0⟩,
 vO 44 (.pick (vT 38) (.const (.bool true)) (vT 43))])<|
 .cond (vT 44)
 (.seq (.ops [
 vO 2 (.mv (.const (.bool false)))])<|
 .keep [2]<|
 .ret)
 (.skip))<|
 .seq (.ops [
 vM 45 3,
 vO 46 (.mv (vC 0))])<|
 .block 2<|
 .loop [1,3,4,5,23,24,25,45,46] i_zz86_B1)<|
 .ops [
 vO 63 (.bin .add (vT 25) (vC 1)),
 vM 25 63]
def i_zz86:FF:=⟨64,[.tmp 2],
 .seq (.ops [
 vO 1 (.box 2 (vT 0)),
 vO 2 (.mv (.const (.bool false)))])<|
 .seq (.ops [
 vO 7 (.fld 0 (vT 1)),
 vO 8 (.load false 1 (vT 7)),
 vM 3 8])<|
 .seq (.seq (.ops [
 vM 9 3,
 vO 10 (.bin .lss (vT 9) (vC 1)),
 vM 11 10,
 ⟨some 12,.mv (vT 3),some (11,false),0⟩,
 ⟨some 13,.bin .gtr (vT 12) (vC 62),some (11,false),0⟩,
 vO 14 (.pick (vT 11) (.const (.bool true)) (vT 13)),
 vM 15 14,
 ⟨some 16,.fld 1 (vT 1),some (15,false),0⟩,
 ⟨some 17,.load false 1 (vT 16),some (15,false),0⟩,
 ⟨some 18,.len (vT 17),some (15,false),0⟩,
 ⟨some 19,.mv (vT 3),some (15,false),0⟩,
 ⟨some 20,.bin .neq (vT 18) (vT 19),some (15,false),0⟩,
 vO 21 (.pick (vT 15) (.const (.bool true)) (vT 20))])<|
 .cond (vT 21)
 (.seq (.ops [
 vO 2 (.mv (.const (.bool false)))])<|
 .keep [2]<|
 .ret)
 (.skip))<|
 .seq (.seq (.ops [
 vO 22 (.fld 1 (vT 1)),
 vO 23 (.load false 1 (vT 22)),
 vO 24 (.len (vT 23)),
 vO 25 (.mv (vC 0))])<|
 .block 0<|
 .loop [1,3,23,24,25] i_zz86_B2)<|
 .seq (.ops [
 vO 2 (.mv (.const (.bool true)))])<|
 .keep [2]<|
 .ret⟩
theorem e_zz86:EntOK Tryz.prog (compD Tryz.prog) k_zz86 i_zz86.vf:=
 ⟨Tryz.f75,Tryz.f75.body.getD .skip,Tryz.func75,by kernel_rfl,by kernel_rfl,by kernel_rfl,by kernel_rfl,by kernel_rfl⟩
def i_zz72:FF:=⟨16,[.tmp 6],
 .seq (.ops [
 vO 3 (.box 2 (vT 0)),
 vO 6 (.mv (.const (.bool false)))])<|
 .seq (.ops [
 vO 7 (.fld 1 (vT 3)),
 vO 8 (.load false 1 (vT 7)),
 vM 9 1,
 vO 10 (.idx 1 (vT 8) (vT 9)),
 vO 11 (.load false 1 (vT 10)),
 vM 12 2,
 vO 13 (.bin .shr (vT 11) (vT 12)),
 vO 14 (.bin .and (vT 13) (vC 1)),
 vO 15 (.bin .eql (vT 14) (vC 1)),
 vM 6 15])<|
 .keep [6]<|
 .ret⟩
theorem e_zz72:EntOK Tryz.prog (compD Tryz.prog) k_zz72 i_zz72.vf:=
 ⟨Tryz.f77,Tryz.f77.body.getD .skip,Tryz.func77,by kernel_rfl,by kernel_rfl,by kernel_rfl,by kernel_rfl,by kernel_rfl⟩
/-- spec.l01Is -/
def i_zz104_B1:FC:=
 .seq (.seq (.ops [
 vM 18 3,
 vO 19 (.fld 0 (vT 1)),
 vO 20 (.load false 1 (vT 19)),
 vO 21 (.bin .lss (vT 18) (vT 20))])<|
 .cond (vT 21)
 (.skip)
 (.keep [1]<|
 .exit 0))<|
 .seq (.block 1<|
 .seq (.dops [
 vO 24 (.fld 1 (vT 1)),
 vO 25 (.load false 1 (vT 24)),
 vM 26 3,
 vO 27 (.idx 1 (vT 25) (vT 26)),
 vO 28 (.load false 1 (vT 27)),
 vO 29 (.fld 0 (vT 1)),
 vO 30 (.load false 1 (vT 29)),
 vO 31 (.conv .u64 (vT 30)),
 vO 32 (.bin .shl (vC 1) (vT 31)),
 vO 33 (.bin .sub (vT 32) (vC 1)),
 vO 34 (.call k_zz103 [vT 28,(vC 0),vT 33]),
 vO 35 (.un .not (vT 34)),
 vM 36 35,
 ⟨some 37,.load true 2 (vT 1),some (36,false),0⟩,
 ⟨some 38,.mv (vT 3),some (36,false),0⟩,
 ⟨some 39,.mv (vT 3),some (36,false),0⟩,
 ⟨some 40,.call k_zz96 [vT 37,vT 38,vT 39],some (36,false),0⟩,
 vO 41 (.pick (vT 36) (.const (.bool true)) (vT 40))])<|
 .cond (vT 41)
 (.seq (.ops [
 vO 2 (.mv (.const (.bool false)))])<|
 .keep [2]<|
 .ret)
 (.skip))<|
 .ops [
 vM 22 3,
 vO 23 (.bin .add (vT 22) (vC 1)),
 vM 3 23]
def i_zz104_B2:FC:=
 .seq (.seq (.ops [
 vM 48 5,
 vM 49 4,
 vO 50 (.bin .lss (vT 48) (vT 49))])<|
 .cond (vT 50)
 (.skip)
 (.keep [1,4]<|
 .exit 4))<|
 .seq (.block 5<|
 .seq (.dops [
 vO 53 (.load true 2 (vT 1)),
 vM 54 4,
 vM 55 5,
 vO 56 (.call k_zz96 [vT 53,vT 54,vT 55]),
 ⟨some 57,.load true 2 (vT 1),none,1⟩,
 ⟨some 58,.mv (vT 5),none,1⟩,
 ⟨some 59,.mv (vT 4),none,1⟩,
 vO 60 (.call k_zz96 [vT 57,vT 58,vT 59]),
 vO 61 (.beq true (vT 56) (vT 60))])<|
 .cond (vT 61)
 (.seq (.ops [
 vO 2 (.mv (.const (.bool false)))])<|
 .keep [2]<|
 .ret)
 (.skip))<|
 .ops [
 vM 51 5,
 vO 52 (.bin .add (vT 51) (vC 1)),
 vM 5 52]
def i_zz104_B3:FC:=
 .seq (.seq (.ops [
 vM 42 4,
 vO 43 (.fld 0 (vT 1)),
 vO 44 (.load false 1 (vT 43)),
 vO 45 (.bin .lss (vT 42) (vT 44))])<|
 .cond (vT 45)
 (.skip)
 (.keep []<|
 .exit 2))<|
 .seq (.block 3<|
 .seq (.ops [
 vO 5 (.mv (vC 0))])<|
 .block 4<|
 .loop [1,4,5] i_zz104_B2)<|
 .ops [
 vM 46 4,
 vO 47 (.bin .add (vT 46) (vC 1)),
 vM 4 47]
def i_zz104:FF:=⟨62,[.tmp 2],
 .seq (.ops [
 vO 1 (.box 2 (vT 0)),
 vO 2 (.mv (.const (.bool false)))])<|
 .seq (.seq (.ops [
 vO 6 (.fld 0 (vT 1)),
 vO 7 (.load false 1 (vT 6)),
 vO 8 (.call k_zz103 [vT 7,(vC 1),(vC 62)]),
 vO 9 (.un .not (vT 8)),
 vM 10 9,
 ⟨some 11,.fld 1 (vT 1),some (10,false),0⟩,
 ⟨some 12,.load false 1 (vT 11),some (10,false),0⟩,
 ⟨some 13,.len (vT 12),some (10,false),0⟩,
 ⟨some 14,.fld 0 (vT 1),some (10,false),0⟩,
 ⟨some 15,.load false 1 (vT 14),some (10,false),0⟩,
 ⟨some 16,.bin .neq (vT 13) (vT 15),some (10,false),0⟩,
 vO 17 (.pick (vT 10) (.const (.bool true)) (vT 16))])<|
 .cond (vT 17)
 (.seq (.ops [
 vO 2 (.mv (.const (.bool false)))])<|
 .keep [2]<|
 .ret)
 (.skip))<|
 .seq (.seq (.ops [
 vO 3 (.mv (vC 0))])<|
 .block 0<|
 .loop [1,3] i_zz104_B1)<|
 .seq (.seq (.ops [
 vO 4 (.mv (vC 0))])<|
 .block 2<|
 .loop [1,4] i_zz104_B3)<|
 .seq (.ops [
 vO 2 (.mv (.const (.bool true)))])<|
 .keep [2]<|
 .ret⟩
theorem e_zz104:EntOK Tryz.prog (compD Tryz.prog) k_zz104 i_zz104.vf:=
 ⟨Tryz.f78,Tryz.f78.body.getD .skip,Tryz.func78,by kernel_rfl,by kernel_rfl,by kernel_rfl,by kernel_rfl,by kernel_rfl⟩
def i_zz52:FF:=⟨14,[.tmp 2],
 .seq (.ops [
 vO 1 (.box 2 (vT 0)),
 vO 2 (.mv (vC 0))])<|
 .seq (.ops [
 vO 4 (.load true 2 (vT 1)),
 vO 5 (.call k_zz50 [vT 4]),
 vM 3 5])<|
 .seq (.seq (.ops [
 vM 6 3,
 vO 7 (.call k_zz39 [vT 6]),
 vM 8 3,
 vO 9 (.call k_zz38 [vT 8]),
 vO 10 (.bin .neq (vT 7) (vT 9))])<|
 .cond (vT 10)
 (.seq (.ops [
 vO 2 (.mv (vC (-1)))])<|
 .keep [2]<|
 .ret)
 (.skip))<|
 .seq (.ops [
 vM 11 3,
 vO 12 (.idx 1 (vT 11) (vC 0)),
 vO 13 (.load false 1 (vT 12)),
 vM 2 13])<|
 .keep [2]<|
 .ret⟩
theorem e_zz52:EntOK Tryz.prog (compD Tryz.prog) k_zz52 i_zz52.vf:=
 ⟨Tryz.f79,Tryz.f79.body.getD .skip,Tryz.func79,by kernel_rfl,by kernel_rfl,by kernel_rfl,by kernel_rfl,by kernel_rfl⟩
def i_zz59_B1:FC:=
 .seq (.ops [
 vO 21 (.bin .lss (vT 20) (vT 19))])<|
 .seq (.cond (vT 21)
 (.skip)
 (.keep [1,3,9,10]<|
 .exit 2))<|
 .seq (.block 3<|
 .seq (.ops [
 vO 22 (.idx 1 (vT 18) (vT 20)),
 vO 23 (.load false 1 (vT 22)),
 vM 6 23])<|
 .seq (.ops [
 vM 24 6,
 vM 25 4,
 vO 26 (.bin .gtr (vT 24) (vT 25))])<|
 .cond (vT 26)
 (.ops [
 vM 27 3,
 vM 28 4,
 vM 29 6,
 vO 30 (.buildSl 1 [.int .i64 0,.int .i64 0] [(0,1,(vT 28)),(1,1,(vT 29))] 2),
 vO 31 (.buildSl 1 [.slice none 0 0] [(0,1,(vT 30))] 1),
 vO 32 (.app 1 24 [.slice none 0 0] (vT 27) (vT 31)),
 vM 3 32])
 (.skip))<|
 .ops [
 vO 33 (.bin .add (vT 20) (vC 1)),
 vM 20 33]
def i_zz59_B2:FC:=
 .seq (.ops [
 vO 11 (.bin .lss (vT 10) (vT 9))])<|
 .seq (.cond (vT 11)
 (.skip)
 (.keep [3]<|
 .exit 0))<|
 .seq (.block 1<|
 .seq (.ops [
 vM 12 10,
 vM 4 12])<|
 .seq (.ops [
 vO 13 (.fld 1 (vT 1)),
 vO 14 (.load false 1 (vT 13)),
 vM 15 4,
 vO 16 (.idx 1 (vT 14) (vT 15)),
 vO 17 (.load false 1 (vT 16)),
 vO 18 (.call k_zz105 [vT 17]),
 vO 19 (.len (vT 18)),
 vO 20 (.mv (vC 0))])<|
 .block 2<|
 .loop [1,3,4,9,10,18,19,20] i_zz59_B1)<|
 .ops [
 vO 34 (.bin .add (vT 10) (vC 1)),
 vM 10 34]
def i_zz59:FF:=⟨36,[.tmp 2],
 .seq (.ops [
 vO 1 (.box 2 (vT 0)),
 vO 2 (.mv (.const (.slice none 0 0)))])<|
 .seq (.ops [
 vO 7 (.buildSl 1 [] [] 0),
 vM 3 7])<|
 .seq (.seq (.ops [
 vO 8 (.fld 0 (vT 1)),
 vO 9 (.load false 1 (vT 8)),
 vO 10 (.mv (vC 0))])<|
 .block 0<|
 .loop [1,3,9,10] i_zz59_B2)<|
 .seq (.ops [
 vM 35 3,
 vM 2 35])<|
 .keep [2]<|
 .ret⟩
theorem e_zz59:EntOK Tryz.prog (compD Tryz.prog) k_zz59 i_zz59.vf:=
 ⟨Tryz.f82,Tryz.f82.body.getD .skip,Tryz.func82,by kernel_rfl,by kernel_rfl,by kernel_rfl,by kernel_rfl,by kernel_rfl⟩
/-- impl.empty -/
def i_zz100:FF:=⟨7,[.cell 2 true 2],
 .seq (.ops [
 vO 2 (.alloc [.int .i64 0,.slice none 0 0])])<|
 .seq (.ops [
 vM 3 0,
 vM 4 0,
 vO 5 (.mkSl 1 [.int .i64 0] 8 (vT 4) (vT 4)),
 vO 6 (.build [.int .i64 0,.slice none 0 0] [(0,1,(vT 3)),(1,1,(vT 5))]),
 ⟨none,.store 2 (vT 2) (vT 6),none,0⟩])<|
 .keep [2]<|
 .ret⟩
theorem e_zz100:EntOK Tryz.prog (compD Tryz.prog) k_zz100 i_zz100.vf:=
 ⟨Tryz.f86,Tryz.f86.body.getD .skip,Tryz.func86,by kernel_rfl,by kernel_rfl,by kernel_rfl,by kernel_rfl,by kernel_rfl⟩
def i_zz73:FF:=⟨27,[],
 .seq (.ops [
 vO 3 (.box 2 (vT 0))])<|
 .seq (.ops [
 vM 6 1,
 vM 7 2,
 vO 8 (.bin .neq (vT 6) (vT 7))])<|
 .cond (vT 8)
 (.seq (.dops [
 vO 9 (.fld 1 (vT 3)),
 vO 10 (.load false 1 (vT 9)),
 vM 11 1,
 vO 12 (.idx 1 (vT 10) (vT 11)),
 vO 13 (.load false 1 (vT 12)),
 vM 14 2,
 vO 15 (.bin .shl (vC 1) (vT 14)),
 vO 16 (.bin .or (vT 13) (vT 15)),
 vO 17 (.idx 1 (vT 10) (vT 11)),
 ⟨none,.store 1 (vT 17) (vT 16),none,0⟩])<|
 .dops [
 vO 18 (.fld 1 (vT 3)),
 vO 19 (.load false 1 (vT 18)),
 vM 20 2,
 vO 21 (.idx 1 (vT 19) (vT 20)),
 vO 22 (.load false 1 (vT 21)),
 vM 23 1,
 vO 24 (.bin .shl (vC 1) (vT 23)),
 vO 25 (.bin .or (vT 22) (vT 24)),
 vO 26 (.idx 1 (vT 19) (vT 20)),
 ⟨none,.store 1 (vT 26) (vT 25),none,0⟩])
 (.skip)⟩
theorem e_zz73:EntOK Tryz.prog (compD Tryz.prog) k_zz73 i_zz73.vf:=
 ⟨Tryz.f88,Tryz.f88.body.getD .skip,Tryz.func88,by kernel_rfl,by kernel_rfl,by kernel_rfl,by kernel_rfl,by kernel_rfl⟩
/-- slices.Sort[[]int64,int64] -/
def i_zz36:FF:=⟨11,[],
 .seq (.ops [
 vM 3 0,
 vO 4 (.len (vT 3)),
 vM 2 4])<|
 .ops [
 vM 5 0,
 vM 6 2,
 vM 7 2,
 vO 8 (.conv .u64 (vT 7)),
 vO 9 (.call k_zz82 [vT 8]),
 vO 10 (.call k_zz25 [vT 5,(vC 0),vT 6,vT 9])]⟩
theorem e_zz36:EntOK Tryz.prog (compD Tryz.prog) k_zz36 i_zz36.vf:=
 ⟨Tryz.f94,Tryz.f94.body.getD .skip,Tryz.func94,by kernel_rfl,by kernel_rfl,by kernel_rfl,by kernel_rfl,by kernel_rfl⟩
/-- slices.Index[[]int64,int64] -/
def i_zz34_B1:FC:=
 .seq (.ops [
 vO 9 (.bin .lss (vT 8) (vT 7))])<|
 .seq (.cond (vT 9)
 (.skip)
 (.keep []<|
 .exit 0))<|
 .seq (.block 1<|
 .seq (.ops [
 vM 10 8,
 vM 5 10])<|
 .seq (.ops [
 vM 11 1,
 vM 12 0,
 vM 13 5,
 vO 14 (.idx 1 (vT 12) (vT 13)),
 vO 15 (.load false 1 (vT 14)),
 vO 16 (.bin .eql (vT 11) (vT 15))])<|
 .cond (vT 16)
 (.seq (.ops [
 vM 17 5,
 vM 4 17])<|
 .keep [4]<|
 .ret)
 (.skip))<|
 .ops [
 vO 18 (.bin .add (vT 8) (vC 1)),
 vM 8 18]
def i_zz34:FF:=⟨19,[.tmp 4],
 .seq (.ops [
 vO 4 (.mv (vC 0))])<|
 .seq (.seq (.ops [
 vM 6 0,
 vO 7 (.len (vT 6)),
 vO 8 (.mv (vC 0))])<|
 .block 0<|
 .loop [0,1,7,8] i_zz34_B1)<|
 .seq (.ops [
 vO 4 (.mv (vC (-1)))])<|
 .keep [4]<|
 .ret⟩
theorem e_zz34:EntOK Tryz.prog (compD Tryz.prog) k_zz34 i_zz34.vf:=
 ⟨Tryz.f96,Tryz.f96.body.getD .skip,Tryz.func96,by kernel_rfl,by kernel_rfl,by kernel_rfl,by kernel_rfl,by kernel_rfl⟩
/-- impl.found -/
def i_zz101:FF:=⟨7,[.tmp 2,.tmp 3],
 .seq (.ops [
 vO 2 (.mv (vC 0)),
 vO 3 (.mv (vC 0))])<|
 .seq (.seq (.ops [
 vM 4 0,
 vO 5 (.bin .eql (vT 4) (vC 0))])<|
 .cond (vT 5)
 (.seq (.ops [
 vO 2 (.mv (vC 0)),
 vO 3 (.mv (vC 4))])<|
 .keep [2,3]<|
 .ret)
 (.skip))<|
 .seq (.ops [
 vM 6 0,
 vM 2 6,
 vO 3 (.mv (vC 0))])<|
 .keep [2,3]<|
 .ret⟩
theorem e_zz101:EntOK Tryz.prog (compD Tryz.prog) k_zz101 i_zz101.vf:=
 ⟨Tryz.f98,Tryz.f98.body.getD .skip,Tryz.func98,by kernel_rfl,by kernel_rfl,by kernel_rfl,by kernel_rfl,by kernel_rfl⟩
def i_zz60_B1:FC:=
 .seq (.ops [
 vO 9 (.bin .lss (vT 8) (vT 7))])<|
 .seq (.cond (vT 9)
 (.skip)
 (.keep [3]<|
 .exit 0))<|
 .seq (.block 1<|
 .seq (.ops [
 vM 10 8,
 vM 4 10])<|
 .seq (.ops [
 vO 11 (.load true 2 (vT 1)),
 vM 12 4,
 vO 13 (.call k_zz51 [vT 11,vT 12]),
 vM 5 13])<|
 .seq (.ops [
 vM 14 5,
 vO 15 (.bin .gtr (vT 14) (vC 0)),
 vM 16 15,
 ⟨some 17,.mv (vT 3),some (16,true),0⟩,
 ⟨some 18,.bin .eql (vT 17) (vC 0),some (16,true),0⟩,
 ⟨some 19,.mv (vT 18),some (16,true),0⟩,
 ⟨some 20,.mv (vT 5),some (19,false),0⟩,
 ⟨some 21,.mv (vT 3),some (19,false),0⟩,
 ⟨some 22,.bin .lss (vT 20) (vT 21),some (19,false),0⟩,
 ⟨some 23,.pick (vT 19) (.const (.bool true)) (vT 22),some (16,true),0⟩,
 vO 24 (.pick (vT 16) (vT 23) (.const (.bool false)))])<|
 .cond (vT 24)
 (.ops [
 vM 25 5,
 vM 3 25])
 (.skip))<|
 .ops [
 vO 26 (.bin .add (vT 8) (vC 1)),
 vM 8 26]
def i_zz60:FF:=⟨28,[.tmp 2],
 .seq (.ops [
 vO 1 (.box 2 (vT 0)),
 vO 2 (.mv (vC 0))])<|
 .seq (.ops [
 vO 3 (.mv (vC 0))])<|
 .seq (.seq (.ops [
 vO 6 (.fld 0 (vT 1)),
 vO 7 (.load false 1 (vT 6)),
 vO 8 (.mv (vC 0))])<|
 .block 0<|
 .loop [1,3,7,8] i_zz60_B1)<|
 .seq (.ops [
 vM 27 3,
 vM 2 27])<|
 .keep [2]<|
 .ret⟩
theorem e_zz60:EntOK Tryz.prog (compD Tryz.prog) k_zz60 i_zz60.vf:=
 ⟨Tryz.f99,Tryz.f99.body.getD .skip,Tryz.func99,by kernel_rfl,by kernel_rfl,by kernel_rfl,by kernel_rfl,by kernel_rfl⟩
/-- spec.l01Put -/
def i_zz98:FF:=⟨32,[],
 .seq (.ops [
 vO 3 (.box 2 (vT 0))])<|
 .seq (.dops [
 vO 6 (.fld 1 (vT 3)),
 vO 7 (.load false 1 (vT 6)),
 vM 8 1,
 vO 9 (.fld 1 (vT 3)),
 vO 10 (.load false 1 (vT 9)),
 vM 11 1,
 vO 12 (.idx 1 (vT 10) (vT 11)),
 vO 13 (.load false 1 (vT 12)),
 vM 14 2,
 vO 15 (.conv .u64 (vT 14)),
 vO 16 (.bin .shl (vC 1) (vT 15)),
 vO 17 (.bin .or (vT 13) (vT 16)),
 vO 18 (.idx 1 (vT 7) (vT 8)),
 ⟨none,.store 1 (vT 18) (vT 17),none,0⟩])<|
 .dops [
 vO 19 (.fld 1 (vT 3)),
 vO 20 (.load false 1 (vT 19)),
 vM 21 2,
 vO 22 (.fld 1 (vT 3)),
 vO 23 (.load false 1 (vT 22)),
 vM 24 2,
 vO 25 (.idx 1 (vT 23) (vT 24)),
 vO 26 (.load false 1 (vT 25)),
 vM 27 1,
 vO 28 (.conv .u64 (vT 27)),
 vO 29 (.bin .shl (vC 1) (vT 28)),
 vO 30 (.bin .or (vT 26) (vT 29)),
 vO 31 (.idx 1 (vT 20) (vT 21)),
 ⟨none,.store 1 (vT 31) (vT 30),none,0⟩]⟩
theorem e_zz98:EntOK Tryz.prog (compD Tryz.prog) k_zz98 i_zz98.vf:=
 ⟨Tryz.f106,Tryz.f106.body.getD .skip,Tryz.func106,by kernel_rfl,by kernel_rfl,by kernel_rfl,by kernel_rfl,by kernel_rfl⟩
/-- slices.Compact[[]int64,int64] -/
def i_zz26_B1:FC:=
 .seq (.seq (.ops [
 vM 29 5,
 vM 30 4,
 vO 31 (.len (vT 30)),
 vO 32 (.bin .lss (vT 29) (vT 31))])<|
 .cond (vT 32)
 (.skip)
 (.keep [0,3]<|
 .exit 2))<|
 .seq (.block 3<|
 .seq (.dops [
 vM 35 4,
 vM 36 5,
 vO 37 (.idx 1 (vT 35) (vT 36)),
 vO 38 (.load false 1 (vT 37)),
 vM 39 4,
 vM 40 5,
 vO 41 (.bin .sub (vT 40) (vC 1)),
 vO 42 (.idx 1 (vT 39) (vT 41)),
 vO 43 (.load false 1 (vT 42)),
 vO 44 (.bin .neq (vT 38) (vT 43))])<|
 .cond (vT 44)
 (.seq (.ops [
 vM 45 0,
 vM 46 3,
 vM 47 4,
 vM 48 5,
 vO 49 (.idx 1 (vT 47) (vT 48)),
 vO 50 (.load false 1 (vT 49)),
 vO 51 (.idx 1 (vT 45) (vT 46)),
 ⟨none,.store 1 (vT 51) (vT 50),none,0⟩])<|
 .ops [
 vM 52 3,
 vO 53 (.bin .add (vT 52) (vC 1)),
 vM 3 53])
 (.skip))<|
 .ops [
 vM 33 5,
 vO 34 (.bin .add (vT 33) (vC 1)),
 vM 5 34]
def i_zz26_B2:FC:=
 .seq (.seq (.ops [
 vM 10 3,
 vM 11 0,
 vO 12 (.len (vT 11)),
 vO 13 (.bin .lss (vT 10) (vT 12))])<|
 .cond (vT 13)
 (.skip)
 (.keep [0]<|
 .exit 0))<|
 .seq (.block 1<|
 .seq (.dops [
 vM 16 0,
 vM 17 3,
 vO 18 (.idx 1 (vT 16) (vT 17)),
 vO 19 (.load false 1 (vT 18)),
 vM 20 0,
 vM 21 3,
 vO 22 (.bin .sub (vT 21) (vC 1)),
 vO 23 (.idx 1 (vT 20) (vT 22)),
 vO 24 (.load false 1 (vT 23)),
 vO 25 (.bin .eql (vT 19) (vT 24))])<|
 .cond (vT 25)
 (.seq (.ops [
 vM 26 0,
 vM 27 3,
 vO 28 (.slc 1 (vT 26) (some (vT 27)) none),
 vM 4 28])<|
 .seq (.seq (.ops [
 vO 5 (.mv (vC 1))])<|
 .block 2<|
 .loop [0,3,4,5] i_zz26_B1)<|
 .seq (.ops [
 vM 54 0,
 vM 55 3,
 vO 56 (.slc 1 (vT 54) (some (vT 55)) none),
 ⟨none,.clr 1 [.int .i64 0] (vT 56),none,0⟩])<|
 .seq (.ops [
 vM 57 0,
 vM 58 3,
 vO 59 (.slc 1 (vT 57) none (some (vT 58))),
 vM 2 59])<|
 .keep [2]<|
 .ret)
 (.skip))<|
 .ops [
 vM 14 3,
 vO 15 (.bin .add (vT 14) (vC 1)),
 vM 3 15]
def i_zz26:FF:=⟨61,[.tmp 2],
 .seq (.ops [
 vO 2 (.mv (.const (.slice none 0 0)))])<|
 .seq (.seq (.ops [
 vM 6 0,
 vO 7 (.len (vT 6)),
 vO 8 (.bin .lss (vT 7) (vC 2))])<|
 .cond (vT 8)
 (.seq (.ops [
 vM 9 0,
 vM 2 9])<|
 .keep [2]<|
 .ret)
 (.skip))<|
 .seq (.seq (.ops [
 vO 3 (.mv (vC 1))])<|
 .block 0<|
 .loop [0,3] i_zz26_B2)<|
 .seq (.ops [
 vM 60 0,
 vM 2 60])<|
 .keep [2]<|
 .ret⟩
theorem e_zz26:EntOK Tryz.prog (compD Tryz.prog) k_zz26 i_zz26.vf:=
 ⟨Tryz.f107,Tryz.f107.body.getD .skip,Tryz.func107,by kernel_rfl,by kernel_rfl,by kernel_rfl,by kernel_rfl,by kernel_rfl⟩
/-- impl.pairCode -/
def i_zz80:FF:=⟨19,[.tmp 6],
 .seq (.ops [
 vO 3 (.box 2 (vT 0)),
 vO 6 (.mv (vC 0))])<|
 .seq (.seq (.ops [
 vO 8 (.load true 2 (vT 3)),
 vM 9 1,
 vM 10 2,
 vO 11 (.buildSl 1 [.int .i64 0,.int .i64 0] [(0,1,(vT 9)),(1,1,(vT 10))] 2),
 vO 12 (.call k_zz75 [vT 8,vT 11]),
 vM 7 12])<|
 .seq (.ops [
 vM 13 7,
 vO 14 (.bin .neq (vT 13) (vC 0))])<|
 .cond (vT 14)
 (.seq (.ops [
 vM 15 7,
 vM 6 15])<|
 .keep [6]<|
 .ret)
 (.skip))<|
 .seq (.seq (.ops [
 vM 16 1,
 vM 17 2,
 vO 18 (.bin .eql (vT 16) (vT 17))])<|
 .cond (vT 18)
 (.seq (.ops [
 vO 6 (.mv (vC 2))])<|
 .keep [6]<|
 .ret)
 (.skip))<|
 .seq (.ops [
 vO 6 (.mv (vC 0))])<|
 .keep [6]<|
 .ret⟩
theorem e_zz80:EntOK Tryz.prog (compD Tryz.prog) k_zz80 i_zz80.vf:=
 ⟨Tryz.f108,Tryz.f108.body.getD .skip,Tryz.func108,by kernel_rfl,by kernel_rfl,by kernel_rfl,by kernel_rfl,by kernel_rfl⟩
/-- impl.own -/
def i_zz108:FF:=⟨9,[.cell 2 true 2],
 .seq (.ops [
 vO 1 (.box 2 (vT 0)),
 vO 2 (.alloc [.int .i64 0,.slice none 0 0])])<|
 .seq (.dops [
 vO 5 (.fld 1 (vT 1)),
 vO 6 (.load false 1 (vT 5)),
 vO 7 (.call k_zz32 [vT 6]),
 ⟨some 3,.fld 0 (vT 1),none,1⟩,
 ⟨some 4,.load false 1 (vT 3),none,1⟩,
 vO 8 (.build [.int .i64 0,.slice none 0 0] [(0,1,(vT 4)),(1,1,(vT 7))]),
 ⟨none,.store 2 (vT 2) (vT 8),none,0⟩])<|
 .keep [2]<|
 .ret⟩
theorem e_zz108:EntOK Tryz.prog (compD Tryz.prog) k_zz108 i_zz108.vf:=
 ⟨Tryz.f109,Tryz.f109.body.getD .skip,Tryz.func109,by kernel_rfl,by kernel_rfl,by kernel_rfl,by kernel_rfl,by kernel_rfl⟩
/-- spec.l01Two -/
def i_zz99:FF:=⟨21,[.tmp 6],
 .seq (.ops [
 vO 3 (.box 2 (vT 0)),
 vO 6 (.mv (vC 0))])<|
 .seq (.ops [
 vO 8 (.load true 2 (vT 3)),
 vM 9 1,
 vM 10 2,
 vO 11 (.buildSl 1 [.int .i64 0,.int .i64 0] [(0,1,(vT 9)),(1,1,(vT 10))] 2),
 vO 12 (.call k_zz62 [vT 8,vT 11]),
 vM 7 12])<|
 .seq (.seq (.ops [
 vM 13 7,
 vO 14 (.bin .eql (vT 13) (vC 0)),
 vM 15 14,
 ⟨some 16,.mv (vT 1),some (15,true),0⟩,
 ⟨some 17,.mv (vT 2),some (15,true),0⟩,
 ⟨some 18,.bin .eql (vT 16) (vT 17),some (15,true),0⟩,
 vO 19 (.pick (vT 15) (vT 18) (.const (.bool false)))])<|
 .cond (vT 19)
 (.seq (.ops [
 vO 6 (.mv (vC 2))])<|
 .keep [6]<|
 .ret)
 (.skip))<|
 .seq (.ops [
 vM 20 7,
 vM 6 20])<|
 .keep [6]<|
 .ret⟩
theorem e_zz99:EntOK Tryz.prog (compD Tryz.prog) k_zz99 i_zz99.vf:=
 ⟨Tryz.f110,Tryz.f110.body.getD .skip,Tryz.func110,by kernel_rfl,by kernel_rfl,by kernel_rfl,by kernel_rfl,by kernel_rfl⟩
/-- spec.l01Has -/
def i_zz96:FF:=⟨17,[.tmp 6],
 .seq (.ops [
 vO 3 (.box 2 (vT 0)),
 vO 6 (.mv (.const (.bool false)))])<|
 .seq (.ops [
 vO 7 (.fld 1 (vT 3)),
 vO 8 (.load false 1 (vT 7)),
 vM 9 1,
 vO 10 (.idx 1 (vT 8) (vT 9)),
 vO 11 (.load false 1 (vT 10)),
 vM 12 2,
 vO 13 (.conv .u64 (vT 12)),
 vO 14 (.bin .shr (vT 11) (vT 13)),
 vO 15 (.bin .and (vT 14) (vC 1)),
 vO 16 (.bin .eql (vT 15) (vC 1)),
 vM 6 16])<|
 .keep [6]<|
 .ret⟩
theorem e_zz96:EntOK Tryz.prog (compD Tryz.prog) k_zz96 i_zz96.vf:=
 ⟨Tryz.f111,Tryz.f111.body.getD .skip,Tryz.func111,by kernel_rfl,by kernel_rfl,by kernel_rfl,by kernel_rfl,by kernel_rfl⟩
/-- spec.l01Join -/
def i_zz92:FF:=⟨15,[.cell 6 true 2],
 .seq (.ops [
 vO 3 (.box 2 (vT 0)),
 vO 6 (.alloc [.int .i64 0,.slice none 0 0])])<|
 .seq (.ops [
 vO 8 (.load true 2 (vT 3)),
 vO 9 (.call k_zz91 [vT 8]),
 vO 7 (.alloc [.int .i64 0,.slice none 0 0]),
 ⟨none,.store 2 (vT 7) (vT 9),none,0⟩])<|
 .seq (.ops [
 vO 10 (.load true 2 (vT 7)),
 vM 11 1,
 vM 12 2,
 vO 13 (.call k_zz98 [vT 10,vT 11,vT 12])])<|
 .seq (.ops [
 vO 14 (.load true 2 (vT 7)),
 ⟨none,.store 2 (vT 6) (vT 14),none,0⟩])<|
 .keep [6]<|
 .ret⟩
theorem e_zz92:EntOK Tryz.prog (compD Tryz.prog) k_zz92 i_zz92.vf:=
 ⟨Tryz.f112,Tryz.f112.body.getD .skip,Tryz.func112,by kernel_rfl,by kernel_rfl,by kernel_rfl,by kernel_rfl,by kernel_rfl⟩
/-- spec.l02Girth -/
def i_zz84_B1:FC:=
 .seq (.seq (.ops [
 vM 18 7,
 vO 19 (.fld 0 (vT 2)),
 vO 20 (.load false 1 (vT 19)),
 vO 21 (.bin .lss (vT 18) (vT 20))])<|
 .cond (vT 21)
 (.skip)
 (.keep [1,2,5,6]<|
 .exit 2))<|
 .seq (.block 3<|
 .seq (.seq (.ops [
 vO 24 (.fld 1 (vT 2)),
 vO 25 (.load false 1 (vT 24)),
 vM 26 6,
 vO 27 (.idx 1 (vT 25) (vT 26)),
 vO 28 (.load false 1 (vT 27)),
 vM 29 7,
 vO 30 (.conv .u64 (vT 29)),
 vO 31 (.bin .shr (vT 28) (vT 30)),
 vO 32 (.bin .and (vT 31) (vC 1)),
 vO 33 (.bin .eql (vT 32) (vC 0)),
 vM 34 33,
 ⟨some 35,.mv (vT 1),some (34,false),0⟩,
 ⟨some 36,.bin .geq (vT 35) (vC 0),some (34,false),0⟩,
 ⟨some 37,.mv (vT 36),some (34,false),0⟩,
 ⟨some 38,.mv (vT 6),some (37,true),0⟩,
 ⟨some 39,.mv (vT 1),some (37,true),0⟩,
 ⟨some 40,.bin .neq (vT 38) (vT 39),some (37,true),0⟩,
 ⟨some 41,.pick (vT 37) (vT 40) (.const (.bool false)),some (34,false),0⟩,
 ⟨some 42,.mv (vT 41),some (34,false),0⟩,
 ⟨some 43,.mv (vT 7),some (42,true),0⟩,
 ⟨some 44,.mv (vT 1),some (42,true),0⟩,
 ⟨some 45,.bin .neq (vT 43) (vT 44),some (42,true),0⟩,
 ⟨some 46,.pick (vT 42) (vT 45) (.const (.bool false)),some (34,false),0⟩,
 vO 47 (.pick (vT 34) (.const (.bool true)) (vT 46))])<|
 .cond (vT 47)
 (.keep [1,2,5,6,7]<|
 .exit 3)
 (.skip))<|
 .seq (.ops [
 vO 49 (.load true 2 (vT 2)),
 vM 50 6,
 vM 51 7,
 vO 52 (.call k_zz77 [vT 49,vT 50,vT 51]),
 vM 48 52,
 vO 53 (.ext (vT 48) 0),
 vO 54 (.ext (vT 48) 1),
 vM 8 53,
 vM 9 54])<|
 .seq (.ops [
 vM 55 8,
 vO 56 (.bin .gtr (vT 55) (vC 0)),
 vM 57 56,
 ⟨some 58,.mv (vT 5),some (57,true),0⟩,
 ⟨some 59,.bin .eql (vT 58) (vC 0),some (57,true),0⟩,
 ⟨some 60,.mv (vT 59),some (57,true),0⟩,
 ⟨some 61,.mv (vT 8),some (60,false),0⟩,
 ⟨some 62,.mv (vT 5),some (60,false),0⟩,
 ⟨some 63,.bin .lss (vT 61) (vT 62),some (60,false),0⟩,
 ⟨some 64,.pick (vT 60) (.const (.bool true)) (vT 63),some (57,true),0⟩,
 vO 65 (.pick (vT 57) (vT 64) (.const (.bool false)))])<|
 .cond (vT 65)
 (.ops [
 vM 66 8,
 vM 5 66])
 (.skip))<|
 .ops [
 vM 22 7,
 vO 23 (.bin .add (vT 22) (vC 1)),
 vM 7 23]
def i_zz84_B2:FC:=
 .seq (.seq (.ops [
 vM 10 6,
 vO 11 (.fld 0 (vT 2)),
 vO 12 (.load false 1 (vT 11)),
 vO 13 (.bin .lss (vT 10) (vT 12))])<|
 .cond (vT 13)
 (.skip)
 (.keep [5]<|
 .exit 0))<|
 .seq (.block 1<|
 .seq (.ops [
 vM 16 6,
 vO 17 (.bin .add (vT 16) (vC 1)),
 vM 7 17])<|
 .block 2<|
 .loop [1,2,5,6,7] i_zz84_B1)<|
 .ops [
 vM 14 6,
 vO 15 (.bin .add (vT 14) (vC 1)),
 vM 6 15]
def i_zz84:FF:=⟨68,[.tmp 4],
 .seq (.ops [
 vO 2 (.box 2 (vT 0)),
 vO 4 (.mv (vC 0))])<|
 .seq (.ops [
 vO 5 (.mv (vC 0))])<|
 .seq (.seq (.ops [
 vO 6 (.mv (vC 0))])<|
 .block 0<|
 .loop [1,2,5,6] i_zz84_B2)<|
 .seq (.ops [
 vM 67 5,
 vM 4 67])<|
 .keep [4]<|
 .ret⟩
theorem e_zz84:EntOK Tryz.prog (compD Tryz.prog) k_zz84 i_zz84.vf:=
 ⟨Tryz.f113,Tryz.f113.body.getD .skip,Tryz.func113,by kernel_rfl,by kernel_rfl,by kernel_rfl,by kernel_rfl,by kernel_rfl⟩
/-- slices.Clone[[]int64,int64] -/
def i_zz32:FF:=⟨8,[.tmp 2],
 .seq (.ops [
 vO 2 (.mv (.const (.slice none 0 0)))])<|
 .seq (.seq (.ops [
 vM 3 0,
 vO 4 (.eqnilS false (vT 3))])<|
 .cond (vT 4)
 (.seq (.ops [
 vO 2 (.mv (.const (.slice none 0 0)))])<|
 .keep [2]<|
 .ret)
 (.skip))<|
 .seq (.ops [
 vO 5 (.buildSl 1 [] [] 0),
 vM 6 0,
 vO 7 (.app 1 8 [.int .i64 0] (vT 5) (vT 6)),
 vM 2 7])<|
 .keep [2]<|
 .ret⟩
theorem e_zz32:EntOK Tryz.prog (compD Tryz.prog) k_zz32 i_zz32.vf:=
 ⟨Tryz.f114,Tryz.f114.body.getD .skip,Tryz.func114,by kernel_rfl,by kernel_rfl,by kernel_rfl,by kernel_rfl,by kernel_rfl⟩
/-- slices.Equal[[]int64,int64] -/
def i_zz33_B1:FC:=
 .seq (.ops [
 vO 14 (.bin .lss (vT 13) (vT 12))])<|
 .seq (.cond (vT 14)
 (.skip)
 (.keep []<|
 .exit 0))<|
 .seq (.block 1<|
 .seq (.ops [
 vM 15 13,
 vM 5 15])<|
 .seq (.dops [
 vM 16 0,
 vM 17 5,
 vO 18 (.idx 1 (vT 16) (vT 17)),
 vO 19 (.load false 1 (vT 18)),
 vM 20 1,
 vM 21 5,
 vO 22 (.idx 1 (vT 20) (vT 21)),
 vO 23 (.load false 1 (vT 22)),
 vO 24 (.bin .neq (vT 19) (vT 23))])<|
 .cond (vT 24)
 (.seq (.ops [
 vO 4 (.mv (.const (.bool false)))])<|
 .keep [4]<|
 .ret)
 (.skip))<|
 .ops [
 vO 25 (.bin .add (vT 13) (vC 1)),
 vM 13 25]
def i_zz33:FF:=⟨26,[.tmp 4],
 .seq (.ops [
 vO 4 (.mv (.const (.bool false)))])<|
 .seq (.seq (.ops [
 vM 6 0,
 vO 7 (.len (vT 6)),
 vM 8 1,
 vO 9 (.len (vT 8)),
 vO 10 (.bin .neq (vT 7) (vT 9))])<|
 .cond (vT 10)
 (.seq (.ops [
 vO 4 (.mv (.const (.bool false)))])<|
 .keep [4]<|
 .ret)
 (.skip))<|
 .seq (.seq (.ops [
 vM 11 0,
 vO 12 (.len (vT 11)),
 vO 13 (.mv (vC 0))])<|
 .block 0<|
 .loop [0,1,12,13] i_zz33_B1)<|
 .seq (.ops [
 vO 4 (.mv (.const (.bool true)))])<|
 .keep [4]<|
 .ret⟩
theorem e_zz33:EntOK Tryz.prog (compD Tryz.prog) k_zz33 i_zz33.vf:=
 ⟨Tryz.f115,Tryz.f115.body.getD .skip,Tryz.func115,by kernel_rfl,by kernel_rfl,by kernel_rfl,by kernel_rfl,by kernel_rfl⟩
/-- impl.counting -/
def i_zz79_B1:FC:=
 .seq (.ops [
 vO 8 (.bin .lss (vT 7) (vT 6))])<|
 .seq (.cond (vT 8)
 (.skip)
 (.keep [3]<|
 .exit 0))<|
 .seq (.block 1<|
 .seq (.ops [
 vM 9 7,
 vM 4 9])<|
 .ops [
 vM 10 3,
 vM 11 4,
 vO 12 (.buildSl 1 [.int .i64 0] [(0,1,(vT 11))] 1),
 vO 13 (.app 1 8 [.int .i64 0] (vT 10) (vT 12)),
 vM 3 13])<|
 .ops [
 vO 14 (.bin .add (vT 7) (vC 1)),
 vM 7 14]
def i_zz79:FF:=⟨16,[.tmp 2],
 .seq (.ops [
 vO 2 (.mv (.const (.slice none 0 0)))])<|
 .seq (.ops [
 vO 5 (.buildSl 1 [] [] 0),
 vM 3 5])<|
 .seq (.seq (.ops [
 vM 6 0,
 vO 7 (.mv (vC 0))])<|
 .block 0<|
 .loop [3,6,7] i_zz79_B1)<|
 .seq (.ops [
 vM 15 3,
 vM 2 15])<|
 .keep [2]<|
 .ret⟩
theorem e_zz79:EntOK Tryz.prog (compD Tryz.prog) k_zz79 i_zz79.vf:=
 ⟨Tryz.f116,Tryz.f116.body.getD .skip,Tryz.func116,by kernel_rfl,by kernel_rfl,by kernel_rfl,by kernel_rfl,by kernel_rfl⟩
def i_zz57:FF:=⟨21,[.tmp 6],
 .seq (.ops [
 vO 3 (.box 2 (vT 0)),
 vO 6 (.mv (vC 0))])<|
 .seq (.ops [
 vO 8 (.load true 2 (vT 3)),
 vO 9 (.call k_zz108 [vT 8]),
 vO 7 (.alloc [.int .i64 0,.slice none 0 0]),
 ⟨none,.store 2 (vT 7) (vT 9),none,0⟩])<|
 .seq (.ops [
 vO 10 (.load true 2 (vT 7)),
 vM 11 1,
 vM 12 2,
 vO 13 (.call k_zz64 [vT 10,vT 11,vT 12])])<|
 .seq (.ops [
 vO 14 (.load true 2 (vT 7)),
 vM 15 1,
 vO 16 (.call k_zz44 [vT 14,vT 15]),
 vM 17 2,
 vO 18 (.idx 1 (vT 16) (vT 17)),
 vO 19 (.load false 1 (vT 18)),
 vO 20 (.bin .add (vT 19) (vC 1)),
 vM 6 20])<|
 .keep [6]<|
 .ret⟩
theorem e_zz57:EntOK Tryz.prog (compD Tryz.prog) k_zz57 i_zz57.vf:=
 ⟨Tryz.f117,Tryz.f117.body.getD .skip,Tryz.func117,by kernel_rfl,by kernel_rfl,by kernel_rfl,by kernel_rfl,by kernel_rfl⟩
def i_zz53:FF:=⟨24,[.tmp 8],
 .seq (.ops [
 vO 4 (.box 2 (vT 0)),
 vO 8 (.mv (vC 0))])<|
 .seq (.ops [
 vO 10 (.load true 2 (vT 4)),
 vO 11 (.call k_zz108 [vT 10]),
 vO 9 (.alloc [.int .i64 0,.slice none 0 0]),
 ⟨none,.store 2 (vT 9) (vT 11),none,0⟩])<|
 .seq (.ops [
 vO 12 (.load true 2 (vT 9)),
 vM 13 1,
 vM 14 2,
 vO 15 (.call k_zz64 [vT 12,vT 13,vT 14])])<|
 .seq (.ops [
 vO 16 (.load true 2 (vT 9)),
 vM 17 1,
 vM 18 3,
 vO 19 (.bin .sub (vT 18) (vC 1)),
 vO 20 (.call k_zz61 [vT 16,vT 17,vT 19]),
 vM 21 2,
 vO 22 (.idx 1 (vT 20) (vT 21)),
 vO 23 (.load false 1 (vT 22)),
 vM 8 23])<|
 .keep [8]<|
 .ret⟩
theorem e_zz53:EntOK Tryz.prog (compD Tryz.prog) k_zz53 i_zz53.vf:=
 ⟨Tryz.f118,Tryz.f118.body.getD .skip,Tryz.func118,by kernel_rfl,by kernel_rfl,by kernel_rfl,by kernel_rfl,by kernel_rfl⟩
/-- impl.areGraphs -/
def i_zz74_B1:FC:=
 .seq (.ops [
 vO 8 (.bin .lss (vT 7) (vT 6))])<|
 .seq (.cond (vT 8)
 (.skip)
 (.keep []<|
 .exit 0))<|
 .seq (.block 1<|
 .seq (.ops [
 vO 9 (.idx 2 (vT 5) (vT 7)),
 vO 10 (.load true 2 (vT 9)),
 vO 4 (.alloc [.int .i64 0,.slice none 0 0]),
 ⟨none,.store 2 (vT 4) (vT 10),none,0⟩])<|
 .seq (.ops [
 vO 11 (.load true 2 (vT 4)),
 vO 12 (.call k_zz86 [vT 11]),
 vO 13 (.un .not (vT 12))])<|
 .cond (vT 13)
 (.seq (.ops [
 vO 2 (.mv (.const (.bool false)))])<|
 .keep [2]<|
 .ret)
 (.skip))<|
 .ops [
 vO 14 (.bin .add (vT 7) (vC 1)),
 vM 7 14]
def i_zz74:FF:=⟨15,[.tmp 2],
 .seq (.ops [
 vO 2 (.mv (.const (.bool false)))])<|
 .seq (.seq (.ops [
 vM 5 0,
 vO 6 (.len (vT 5)),
 vO 7 (.mv (vC 0))])<|
 .block 0<|
 .loop [5,6,7] i_zz74_B1)<|
 .seq (.ops [
 vO 2 (.mv (.const (.bool true)))])<|
 .keep [2]<|
 .ret⟩
theorem e_zz74:EntOK Tryz.prog (compD Tryz.prog) k_zz74 i_zz74.vf:=
 ⟨Tryz.f119,Tryz.f119.body.getD .skip,Tryz.func119,by kernel_rfl,by kernel_rfl,by kernel_rfl,by kernel_rfl,by kernel_rfl⟩
/-- impl.mapping -/
def i_zz88_B1:FC:=
 .seq (.ops [
 vO 32 (.bin .lss (vT 31) (vT 30))])<|
 .seq (.cond (vT 32)
 (.skip)
 (.keep [9]<|
 .exit 0))<|
 .seq (.block 1<|
 .seq (.ops [
 vM 33 31,
 vO 34 (.idx 1 (vT 29) (vT 31)),
 vO 35 (.load false 1 (vT 34)),
 vM 10 33,
 vM 11 35])<|
 .seq (.ops [
 vM 36 9,
 vO 37 (.nilchk (vT 36)),
 vO 38 (.fld 1 (vT 37)),
 vO 39 (.load false 1 (vT 38)),
 vO 40 (.idx 1 (vT 39) (vC 0)),
 vO 41 (.load false 1 (vT 40)),
 vM 42 11,
 vM 43 10,
 vO 44 (.bin .add (vT 43) (vC 1)),
 vO 45 (.idx 1 (vT 41) (vT 42)),
 ⟨none,.store 1 (vT 45) (vT 44),none,0⟩])<|
 .dops [
 vM 46 9,
 vO 47 (.nilchk (vT 46)),
 vO 48 (.fld 1 (vT 47)),
 vO 49 (.load false 1 (vT 48)),
 vO 50 (.idx 1 (vT 49) (vC 1)),
 vO 51 (.load false 1 (vT 50)),
 vM 52 3,
 vM 53 10,
 vO 54 (.idx 1 (vT 52) (vT 53)),
 vO 55 (.load false 1 (vT 54)),
 vM 56 10,
 vO 57 (.bin .add (vT 56) (vC 1)),
 vO 58 (.idx 1 (vT 51) (vT 55)),
 ⟨none,.store 1 (vT 58) (vT 57),none,0⟩])<|
 .ops [
 vO 59 (.bin .add (vT 31) (vC 1)),
 vM 31 59]
def i_zz88:FF:=⟨64,[.tmp 8],
 .seq (.ops [
 vO 4 (.box 2 (vT 0)),
 vO 5 (.box 2 (vT 1)),
 vO 8 (.mv (.const (.slice none 0 0)))])<|
 .seq (.seq (.ops [
 vO 12 (.fld 0 (vT 4)),
 vO 13 (.load false 1 (vT 12)),
 vO 14 (.fld 0 (vT 5)),
 vO 15 (.load false 1 (vT 14)),
 vO 16 (.bin .neq (vT 13) (vT 15))])<|
 .cond (vT 16)
 (.seq (.ops [
 vO 8 (.mv (.const (.slice none 0 0)))])<|
 .keep [8]<|
 .ret)
 (.skip))<|
 .seq (.dops [
 vO 20 (.fld 0 (vT 4)),
 vO 21 (.load false 1 (vT 20)),
 vO 22 (.mkSl 1 [.int .i64 0] 8 (vT 21) (vT 21)),
 ⟨some 23,.fld 0 (vT 4),none,1⟩,
 ⟨some 24,.load false 1 (vT 23),none,1⟩,
 ⟨some 25,.mkSl 1 [.int .i64 0] 8 (vT 24) (vT 24),none,1⟩,
 ⟨some 26,.buildSl 1 [.slice none 0 0,.slice none 0 0] [(0,1,(vT 22)),(1,1,(vT 25))] 2,none,2⟩,
 ⟨some 17,.load true 2 (vT 4),none,3⟩,
 ⟨some 18,.load true 2 (vT 5),none,3⟩,
 ⟨some 19,.buildSl 2 [.int .i64 0,.slice none 0 0,.int .i64 0,.slice none 0 0] [(0,2,(vT 17)),(2,2,(vT 18))] 2,none,3⟩,
 ⟨some 27,.build [.slice none 0 0,.slice none 0 0] [(0,1,(vT 19)),(1,1,(vT 26))],none,3⟩,
 ⟨some 28,.box 2 (vT 27),none,3⟩,
 ⟨some 9,.mv (vT 28),none,3⟩])<|
 .seq (.seq (.ops [
 vM 29 2,
 vO 30 (.len (vT 29)),
 vO 31 (.mv (vC 0))])<|
 .block 0<|
 .loop [3,9,29,30,31] i_zz88_B1)<|
 .seq (.ops [
 vM 60 9,
 vO 61 (.call k_zz40 [vT 60])])<|
 .seq (.ops [
 vM 62 9,
 vO 63 (.call k_zz41 [vT 62]),
 vM 8 63])<|
 .keep [8]<|
 .ret⟩
theorem e_zz88:EntOK Tryz.prog (compD Tryz.prog) k_zz88 i_zz88.vf:=
 ⟨Tryz.f120,Tryz.f120.body.getD .skip,Tryz.func120,by kernel_rfl,by kernel_rfl,by kernel_rfl,by kernel_rfl,by kernel_rfl⟩
/-- impl.girthBound -/
def i_zz65:FF:=⟨23,[.tmp 4],
 .seq (.ops [
 vO 4 (.mv (vC 0))])<|
 .seq (.seq (.ops [
 vM 5 1,
 vO 6 (.bin .rem (vT 5) (vC 2)),
 vO 7 (.bin .eql (vT 6) (vC 1))])<|
 .cond (vT 7)
 (.seq (.ops [
 vM 8 0,
 vM 9 0,
 vO 10 (.bin .sub (vT 9) (vC 1)),
 vM 11 1,
 vO 12 (.bin .sub (vT 11) (vC 1)),
 vO 13 (.bin .quo (vT 12) (vC 2)),
 vO 14 (.call k_zz94 [vT 10,vT 13]),
 vO 15 (.bin .mul (vT 8) (vT 14)),
 vO 16 (.bin .add (vC 1) (vT 15)),
 vM 4 16])<|
 .keep [4]<|
 .ret)
 (.skip))<|
 .seq (.ops [
 vM 17 0,
 vO 18 (.bin .sub (vT 17) (vC 1)),
 vM 19 1,
 vO 20 (.bin .quo (vT 19) (vC 2)),
 vO 21 (.call k_zz94 [vT 18,vT 20]),
 vO 22 (.bin .mul (vC 2) (vT 21)),
 vM 4 22])<|
 .keep [4]<|
 .ret⟩
theorem e_zz65:EntOK Tryz.prog (compD Tryz.prog) k_zz65 i_zz65.vf:=
 ⟨Tryz.f121,Tryz.f121.body.getD .skip,Tryz.func121,by kernel_rfl,by kernel_rfl,by kernel_rfl,by kernel_rfl,by kernel_rfl⟩
/-- math/bits.OnesCount64 -/
def i_zz42:FF:=⟨35,[.tmp 2],
 .seq (.ops [
 vO 2 (.mv (vC 0))])<|
 .seq (.ops [
 vM 3 0,
 vO 4 (.bin .shr (vT 3) (.const (.int .u64 1))),
 vO 5 (.bin .and (vT 4) (.const (.int .u64 6148914691236517205))),
 vM 6 0,
 vO 7 (.bin .and (vT 6) (.const (.int .u64 6148914691236517205))),
 vO 8 (.bin .add (vT 5) (vT 7)),
 vM 0 8])<|
 .seq (.ops [
 vM 9 0,
 vO 10 (.bin .shr (vT 9) (.const (.int .u64 2))),
 vO 11 (.bin .and (vT 10) (.const (.int .u64 3689348814741910323))),
 vM 12 0,
 vO 13 (.bin .and (vT 12) (.const (.int .u64 3689348814741910323))),
 vO 14 (.bin .add (vT 11) (vT 13)),
 vM 0 14])<|
 .seq (.ops [
 vM 15 0,
 vO 16 (.bin .shr (vT 15) (.const (.int .u64 4))),
 vM 17 0,
 vO 18 (.bin .add (vT 16) (vT 17)),
 vO 19 (.bin .and (vT 18) (.const (.int .u64 1085102592571150095))),
 vM 0 19])<|
 .seq (.ops [
 vM 20 0,
 vM 21 0,
 vO 22 (.bin .shr (vT 21) (.const (.int .u64 8))),
 vO 23 (.bin .add (vT 20) (vT 22)),
 vM 0 23])<|
 .seq (.ops [
 vM 24 0,
 vM 25 0,
 vO 26 (.bin .shr (vT 25) (.const (.int .u64 16))),
 vO 27 (.bin .add (vT 24) (vT 26)),
 vM 0 27])<|
 .seq (.ops [
 vM 28 0,
 vM 29 0,
 vO 30 (.bin .shr (vT 29) (.const (.int .u64 32))),
 vO 31 (.bin .add (vT 28) (vT 30)),
 vM 0 31])<|
 .seq (.ops [
 vM 32 0,
 vO 33 (.conv .i64 (vT 32)),
 vO 34 (.bin .and (vT 33) (vC 127)),
 vM 2 34])<|
 .keep [2]<|
 .ret⟩
theorem e_zz42:EntOK Tryz.prog (compD Tryz.prog) k_zz42 i_zz42.vf:=
 ⟨Tryz.f122,Tryz.f122.body.getD .skip,Tryz.func122,by kernel_rfl,by kernel_rfl,by kernel_rfl,by kernel_rfl,by kernel_rfl⟩
/-- math/bits.Len -/
def i_zz82:FF:=⟨8,[.tmp 2],
 .seq (.ops [
 vO 2 (.mv (vC 0))])<|
 .seq (.cond (.const (.bool false))
 (.seq (.ops [
 vM 3 0,
 vO 4 (.conv .u32 (vT 3)),
 vO 5 (.call k_zz67 [vT 4]),
 vM 2 5])<|
 .keep [2]<|
 .ret)
 (.skip))<|
 .seq (.ops [
 vM 6 0,
 vO 7 (.call k_zz68 [vT 6]),
 vM 2 7])<|
 .keep [2]<|
 .ret⟩
theorem e_zz82:EntOK Tryz.prog (compD Tryz.prog) k_zz82 i_zz82.vf:=
 ⟨Tryz.f124,Tryz.f124.body.getD .skip,Tryz.func124,by kernel_rfl,by kernel_rfl,by kernel_rfl,by kernel_rfl,by kernel_rfl⟩
/-- cmp.Compare[int64] -/
def i_zz56:FF:=⟨20,[.tmp 4],
 .seq (.ops [
 vO 4 (.mv (vC 0))])<|
 .seq (.ops [
 vM 7 0,
 vO 8 (.call k_zz63 [vT 7]),
 vM 5 8])<|
 .seq (.ops [
 vM 9 1,
 vO 10 (.call k_zz63 [vT 9]),
 vM 6 10])<|
 .seq (.seq (.ops [
 vM 11 5])<|
 .cond (vT 11)
 (.seq (.seq (.ops [
 vM 12 6])<|
 .cond (vT 12)
 (.seq (.ops [
 vO 4 (.mv (vC 0))])<|
 .keep [4]<|
 .ret)
 (.skip))<|
 .seq (.ops [
 vO 4 (.mv (vC (-1)))])<|
 .keep [4]<|
 .ret)
 (.skip))<|
 .seq (.seq (.ops [
 vM 13 6])<|
 .cond (vT 13)
 (.seq (.ops [
 vO 4 (.mv (vC 1))])<|
 .keep [4]<|
 .ret)
 (.skip))<|
 .seq (.seq (.ops [
 vM 14 0,
 vM 15 1,
 vO 16 (.bin .lss (vT 14) (vT 15))])<|
 .cond (vT 16)
 (.seq (.ops [
 vO 4 (.mv (vC (-1)))])<|
 .keep [4]<|
 .ret)
 (.skip))<|
 .seq (.seq (.ops [
 vM 17 0,
 vM 18 1,
 vO 19 (.bin .gtr (vT 17) (vT 18))])<|
 .cond (vT 19)
 (.seq (.ops [
 vO 4 (.mv (vC 1))])<|
 .keep [4]<|
 .ret)
 (.skip))<|
 .seq (.ops [
 vO 4 (.mv (vC 0))])<|
 .keep [4]<|
 .ret⟩
theorem e_zz56:EntOK Tryz.prog (compD Tryz.prog) k_zz56 i_zz56.vf:=
 ⟨Tryz.f125,Tryz.f125.body.getD .skip,Tryz.func125,by kernel_rfl,by kernel_rfl,by kernel_rfl,by kernel_rfl,by kernel_rfl⟩
def i_zz50_B1:FC:=
 .seq (.ops [
 vO 9 (.bin .lss (vT 8) (vT 7))])<|
 .seq (.cond (vT 9)
 (.skip)
 (.keep [3]<|
 .exit 0))<|
 .seq (.block 1<|
 .seq (.ops [
 vM 10 8,
 vM 4 10])<|
 .ops [
 vM 11 3,
 vO 12 (.load true 2 (vT 1)),
 vM 13 4,
 vO 14 (.call k_zz58 [vT 12,vT 13]),
 vO 15 (.buildSl 1 [.int .i64 0] [(0,1,(vT 14))] 1),
 vO 16 (.app 1 8 [.int .i64 0] (vT 11) (vT 15)),
 vM 3 16])<|
 .ops [
 vO 17 (.bin .add (vT 8) (vC 1)),
 vM 8 17]
def i_zz50:FF:=⟨19,[.tmp 2],
 .seq (.ops [
 vO 1 (.box 2 (vT 0)),
 vO 2 (.mv (.const (.slice none 0 0)))])<|
 .seq (.ops [
 vO 5 (.buildSl 1 [] [] 0),
 vM 3 5])<|
 .seq (.seq (.ops [
 vO 6 (.fld 0 (vT 1)),
 vO 7 (.load false 1 (vT 6)),
 vO 8 (.mv (vC 0))])<|
 .block 0<|
 .loop [1,3,7,8] i_zz50_B1)<|
 .seq (.ops [
 vM 18 3,
 vM 2 18])<|
 .keep [2]<|
 .ret⟩
theorem e_zz50:EntOK Tryz.prog (compD Tryz.prog) k_zz50 i_zz50.vf:=
 ⟨Tryz.f130,Tryz.f130.body.getD .skip,Tryz.func130,by kernel_rfl,by kernel_rfl,by kernel_rfl,by kernel_rfl,by kernel_rfl⟩
/-- slices.Min[[]int64,int64] -/
def i_zz39_B1:FC:=
 .seq (.seq (.ops [
 vM 12 4,
 vM 13 0,
 vO 14 (.len (vT 13)),
 vO 15 (.bin .lss (vT 12) (vT 14))])<|
 .cond (vT 15)
 (.skip)
 (.keep [3]<|
 .exit 0))<|
 .seq (.block 1<|
 .ops [
 vM 18 3,
 vM 19 0,
 vM 20 4,
 vO 21 (.idx 1 (vT 19) (vT 20)),
 vO 22 (.load false 1 (vT 21)),
 vO 23 (.minmax false [vT 18,vT 22]),
 vM 3 23])<|
 .ops [
 vM 16 4,
 vO 17 (.bin .add (vT 16) (vC 1)),
 vM 4 17]
def i_zz39:FF:=⟨25,[.tmp 2],
 .seq (.ops [
 vO 2 (.mv (vC 0))])<|
 .seq (.seq (.ops [
 vM 5 0,
 vO 6 (.len (vT 5)),
 vO 7 (.bin .lss (vT 6) (vC 1))])<|
 .cond (vT 7)
 (.ops [
 vO 8 (.stop),
 ⟨none,.stop,none,0⟩])
 (.skip))<|
 .seq (.ops [
 vM 9 0,
 vO 10 (.idx 1 (vT 9) (vC 0)),
 vO 11 (.load false 1 (vT 10)),
 vM 3 11])<|
 .seq (.seq (.ops [
 vO 4 (.mv (vC 1))])<|
 .block 0<|
 .loop [0,3,4] i_zz39_B1)<|
 .seq (.ops [
 vM 24 3,
 vM 2 24])<|
 .keep [2]<|
 .ret⟩
theorem e_zz39:EntOK Tryz.prog (compD Tryz.prog) k_zz39 i_zz39.vf:=
 ⟨Tryz.f131,Tryz.f131.body.getD .skip,Tryz.func131,by kernel_rfl,by kernel_rfl,by kernel_rfl,by kernel_rfl,by kernel_rfl⟩
/-- slices.Max[[]int64,int64] -/
def i_zz38_B1:FC:=
 .seq (.seq (.ops [
 vM 12 4,
 vM 13 0,
 vO 14 (.len (vT 13)),
 vO 15 (.bin .lss (vT 12) (vT 14))])<|
 .cond (vT 15)
 (.skip)
 (.keep [3]<|
 .exit 0))<|
 .seq (.block 1<|
 .ops [
 vM 18 3,
 vM 19 0,
 vM 20 4,
 vO 21 (.idx 1 (vT 19) (vT 20)),
 vO 22 (.load false 1 (vT 21)),
 vO 23 (.minmax true [vT 18,vT 22]),
 vM 3 23])<|
 .ops [
 vM 16 4,
 vO 17 (.bin .add (vT 16) (vC 1)),
 vM 4 17]
def i_zz38:FF:=⟨25,[.tmp 2],
 .seq (.ops [
 vO 2 (.mv (vC 0))])<|
 .seq (.seq (.ops [
 vM 5 0,
 vO 6 (.len (vT 5)),
 vO 7 (.bin .lss (vT 6) (vC 1))])<|
 .cond (vT 7)
 (.ops [
 vO 8 (.stop),
 ⟨none,.stop,none,0⟩])
 (.skip))<|
 .seq (.ops [
 vM 9 0,
 vO 10 (.idx 1 (vT 9) (vC 0)),
 vO 11 (.load false 1 (vT 10)),
 vM 3 11])<|
 .seq (.seq (.ops [
 vO 4 (.mv (vC 1))])<|
 .block 0<|
 .loop [0,3,4] i_zz38_B1)<|
 .seq (.ops [
 vM 24 3,
 vM 2 24])<|
 .keep [2]<|
 .ret⟩
theorem e_zz38:EntOK Tryz.prog (compD Tryz.prog) k_zz38 i_zz38.vf:=
 ⟨Tryz.f132,Tryz.f132.body.getD .skip,Tryz.func132,by kernel_rfl,by kernel_rfl,by kernel_rfl,by kernel_rfl,by kernel_rfl⟩
def i_zz44_B1:FC:=
 .seq (.ops [
 vO 28 (.bin .lss (vT 27) (vT 26))])<|
 .seq (.cond (vT 28)
 (.skip)
 (.keep [2,5,6,8,9]<|
 .exit 2))<|
 .seq (.block 3<|
 .seq (.ops [
 vO 29 (.idx 1 (vT 25) (vT 27)),
 vO 30 (.load false 1 (vT 29)),
 vM 11 30])<|
 .seq (.ops [
 vM 31 5,
 vM 32 11,
 vM 33 8,
 vO 34 (.idx 1 (vT 31) (vT 32)),
 ⟨none,.store 1 (vT 34) (vT 33),none,0⟩])<|
 .ops [
 vM 35 9,
 vO 36 (.fld 1 (vT 2)),
 vO 37 (.load false 1 (vT 36)),
 vM 38 11,
 vO 39 (.idx 1 (vT 37) (vT 38)),
 vO 40 (.load false 1 (vT 39)),
 vO 41 (.bin .or (vT 35) (vT 40)),
 vM 9 41])<|
 .ops [
 vO 42 (.bin .add (vT 27) (vC 1)),
 vM 27 42]
def i_zz44_B2:FC:=
 .seq (.seq (.ops [
 vM 20 7,
 vO 21 (.bin .neq (vT 20) (vC 0))])<|
 .cond (vT 21)
 (.skip)
 (.keep [5]<|
 .exit 0))<|
 .seq (.block 1<|
 .seq (.ops [
 vO 9 (.mv (vC 0))])<|
 .seq (.seq (.ops [
 vM 24 7,
 vO 25 (.call k_zz105 [vT 24]),
 vO 26 (.len (vT 25)),
 vO 27 (.mv (vC 0))])<|
 .block 2<|
 .loop [2,5,6,8,9,25,26,27] i_zz44_B1)<|
 .seq (.ops [
 vM 43 9,
 vM 44 6,
 vO 45 (.bin .andNot (vT 43) (vT 44)),
 vM 7 45])<|
 .ops [
 vM 46 6,
 vM 47 9,
 vO 48 (.bin .or (vT 46) (vT 47)),
 vM 6 48])<|
 .ops [
 vM 22 8,
 vO 23 (.bin .add (vT 22) (vC 1)),
 vM 8 23]
def i_zz44:FF:=⟨50,[.tmp 4],
 .seq (.ops [
 vO 2 (.box 2 (vT 0)),
 vO 4 (.mv (.const (.slice none 0 0)))])<|
 .seq (.ops [
 vO 12 (.buildSl 1 [.int .i64 0] [(0,1,(vC (-1)))] 1),
 vO 13 (.fld 0 (vT 2)),
 vO 14 (.load false 1 (vT 13)),
 vO 15 (.call k_zz31 [vT 12,vT 14]),
 vM 5 15])<|
 .seq (.dops [
 vM 16 1,
 vO 17 (.bin .shl (vC 1) (vT 16)),
 vM 18 1,
 vO 19 (.bin .shl (vC 1) (vT 18)),
 vM 6 17,
 vM 7 19])<|
 .seq (.seq (.ops [
 vO 8 (.mv (vC 0))])<|
 .block 0<|
 .loop [2,5,6,7,8] i_zz44_B2)<|
 .seq (.ops [
 vM 49 5,
 vM 4 49])<|
 .keep [4]<|
 .ret⟩
theorem e_zz44:EntOK Tryz.prog (compD Tryz.prog) k_zz44 i_zz44.vf:=
 ⟨Tryz.f135,Tryz.f135.body.getD .skip,Tryz.func135,by kernel_rfl,by kernel_rfl,by kernel_rfl,by kernel_rfl,by kernel_rfl⟩
/-- slices.pdqsortOrdered[int64] -/
def i_zz25_B1:FC:=
 .block 1<|
 .seq (.ops [
 vM 19 2,
 vM 20 1,
 vO 21 (.bin .sub (vT 19) (vT 20)),
 vM 10 21])<|
 .seq (.seq (.ops [
 vM 22 10,
 vO 23 (.bin .leq (vT 22) (vC 12))])<|
 .cond (vT 23)
 (.seq (.ops [
 vM 24 0,
 vM 25 1,
 vM 26 2,
 vO 27 (.call k_zz12 [vT 24,vT 25,vT 26])])<|
 .keep []<|
 .ret)
 (.skip))<|
 .seq (.seq (.ops [
 vM 28 3,
 vO 29 (.bin .eql (vT 28) (vC 0))])<|
 .cond (vT 29)
 (.seq (.ops [
 vM 30 0,
 vM 31 1,
 vM 32 2,
 vO 33 (.call k_zz23 [vT 30,vT 31,vT 32])])<|
 .keep []<|
 .ret)
 (.skip))<|
 .seq (.seq (.ops [
 vM 34 8,
 vO 35 (.un .not (vT 34))])<|
 .cond (vT 35)
 (.seq (.ops [
 vM 36 0,
 vM 37 1,
 vM 38 2,
 vO 39 (.call k_zz11 [vT 36,vT 37,vT 38])])<|
 .ops [
 vM 40 3,
 vO 41 (.bin .sub (vT 40) (vC 1)),
 vM 3 41])
 (.skip))<|
 .seq (.ops [
 vM 43 0,
 vM 44 1,
 vM 45 2,
 vO 46 (.call k_zz17 [vT 43,vT 44,vT 45]),
 vM 42 46,
 vO 47 (.ext (vT 42) 0),
 vO 48 (.ext (vT 42) 1),
 vM 11 47,
 vM 12 48])<|
 .seq (.seq (.ops [
 vM 49 12,
 vO 50 (.bin .eql (vT 49) (vC 2))])<|
 .cond (vT 50)
 (.seq (.ops [
 vM 51 0,
 vM 52 1,
 vM 53 2,
 vO 54 (.call k_zz15 [vT 51,vT 52,vT 53])])<|
 .seq (.ops [
 vM 55 2,
 vO 56 (.bin .sub (vT 55) (vC 1)),
 vM 57 11,
 vM 58 1,
 vO 59 (.bin .sub (vT 57) (vT 58)),
 vO 60 (.bin .sub (vT 56) (vT 59)),
 vM 11 60])<|
 .ops [
 vO 12 (.mv (vC 1))])
 (.skip))<|
 .seq (.seq (.ops [
 vM 61 8,
 vM 62 61,
 ⟨some 63,.mv (vT 9),some (62,true),0⟩,
 vO 64 (.pick (vT 62) (vT 63) (.const (.bool false))),
 vM 65 64,
 ⟨some 66,.mv (vT 12),some (65,true),0⟩,
 ⟨some 67,.bin .eql (vT 66) (vC 1),some (65,true),0⟩,
 vO 68 (.pick (vT 65) (vT 67) (.const (.bool false)))])<|
 .cond (vT 68)
 (.seq (.ops [
 vM 69 0,
 vM 70 1,
 vM 71 2,
 vO 72 (.call k_zz1 [vT 69,vT 70,vT 71])])<|
 .cond (vT 72)
 (.keep []<|
 .ret)
 (.skip))
 (.skip))<|
 .seq (.seq (.dops [
 vM 73 1,
 vO 74 (.bin .gtr (vT 73) (vC 0)),
 vM 75 74,
 ⟨some 76,.mv (vT 0),some (75,true),0⟩,
 ⟨some 77,.mv (vT 1),some (75,true),0⟩,
 ⟨some 78,.bin .sub (vT 77) (vC 1),some (75,true),0⟩,
 ⟨some 79,.idx 1 (vT 76) (vT 78),some (75,true),0⟩,
 ⟨some 80,.load false 1 (vT 79),some (75,true),0⟩,
 ⟨some 81,.mv (vT 0),some (75,true),0⟩,
 ⟨some 82,.mv (vT 11),some (75,true),0⟩,
 ⟨some 83,.idx 1 (vT 81) (vT 82),some (75,true),0⟩,
 ⟨some 84,.load false 1 (vT 83),some (75,true),0⟩,
 ⟨some 85,.call k_zz71 [vT 80,vT 84],some (75,true),0⟩,
 ⟨some 86,.un .not (vT 85),some (75,true),0⟩,
 vO 87 (.pick (vT 75) (vT 86) (.const (.bool false)))])<|
 .cond (vT 87)
 (.seq (.ops [
 vM 88 0,
 vM 89 1,
 vM 90 2,
 vM 91 11,
 vO 92 (.call k_zz10 [vT 88,vT 89,vT 90,vT 91]),
 vM 13 92])<|
 .seq (.ops [
 vM 93 13,
 vM 1 93])<|
 .keep [0,1,2,3,8,9]<|
 .exit 1)
 (.skip))<|
 .seq (.ops [
 vM 95 0,
 vM 96 1,
 vM 97 2,
 vM 98 11,
 vO 99 (.call k_zz21 [vT 95,vT 96,vT 97,vT 98]),
 vM 94 99,
 vO 100 (.ext (vT 94) 0),
 vO 101 (.ext (vT 94) 1),
 vM 14 100,
 vM 15 101])<|
 .seq (.ops [
 vM 102 15,
 vM 9 102])<|
 .seq (.ops [
 vM 103 14,
 vM 104 1,
 vO 105 (.bin .sub (vT 103) (vT 104)),
 vM 106 2,
 vM 107 14,
 vO 108 (.bin .sub (vT 106) (vT 107)),
 vM 16 105,
 vM 17 108])<|
 .seq (.ops [
 vM 109 10,
 vO 110 (.bin .quo (vT 109) (vC 8)),
 vM 18 110])<|
 .seq (.ops [
 vM 111 16,
 vM 112 17,
 vO 113 (.bin .lss (vT 111) (vT 112))])<|
 .cond (vT 113)
 (.seq (.ops [
 vM 114 16,
 vM 115 18,
 vO 116 (.bin .geq (vT 114) (vT 115)),
 vM 8 116])<|
 .seq (.ops [
 vM 117 0,
 vM 118 1,
 vM 119 14,
 vM 120 3,
 vO 121 (.call k_zz25 [vT 117,vT 118,vT 119,vT 120])])<|
 .ops [
 vM 122 14,
 vO 123 (.bin .add (vT 122) (vC 1)),
 vM 1 123])
 (.seq (.ops [
 vM 124 17,
 vM 125 18,
 vO 126 (.bin .geq (vT 124) (vT 125)),
 vM 8 126])<|
 .seq (.ops [
 vM 127 0,
 vM 128 14,
 vO 129 (.bin .add (vT 128) (vC 1)),
 vM 130 2,
 vM 131 3,
 vO 132 (.call k_zz25 [vT 127,vT 129,vT 130,vT 131])])<|
 .ops [
 vM 133 14,
 vM 2 133])
def i_zz25:FF:=⟨134,[],
 .seq (.ops [
 vO 8 (.mv (.const (.bool true)))])<|
 .seq (.ops [
 vO 9 (.mv (.const (.bool true)))])<|
 .block 0<|
 .loop [0,1,2,3,8,9] i_zz25_B1⟩
theorem e_zz25:EntOK Tryz.prog (compD Tryz.prog) k_zz25 i_zz25.vf:=
 ⟨Tryz.f139,Tryz.f139.body.getD .skip,Tryz.func139,by kernel_rfl,by kernel_rfl,by kernel_rfl,by kernel_rfl,by kernel_rfl⟩
def i_zz51_B1:FC:=
 .seq (.ops [
 vO 17 (.bin .lss (vT 16) (vT 15))])<|
 .seq (.cond (vT 17)
 (.skip)
 (.keep [5]<|
 .exit 0))<|
 .seq (.block 1<|
 .seq (.ops [
 vO 18 (.idx 1 (vT 14) (vT 16)),
 vO 19 (.load false 1 (vT 18)),
 vM 7 19])<|
 .seq (.ops [
 vO 20 (.load true 2 (vT 2)),
 vM 21 1,
 vM 22 7,
 vO 23 (.call k_zz57 [vT 20,vT 21,vT 22]),
 vM 8 23])<|
 .seq (.ops [
 vM 24 8,
 vO 25 (.bin .gtr (vT 24) (vC 0)),
 vM 26 25,
 ⟨some 27,.mv (vT 5),some (26,true),0⟩,
 ⟨some 28,.bin .eql (vT 27) (vC 0),some (26,true),0⟩,
 ⟨some 29,.mv (vT 28),some (26,true),0⟩,
 ⟨some 30,.mv (vT 8),some (29,false),0⟩,
 ⟨some 31,.mv (vT 5),some (29,false),0⟩,
 ⟨some 32,.bin .lss (vT 30) (vT 31),some (29,false),0⟩,
 ⟨some 33,.pick (vT 29) (.const (.bool true)) (vT 32),some (26,true),0⟩,
 vO 34 (.pick (vT 26) (vT 33) (.const (.bool false)))])<|
 .cond (vT 34)
 (.ops [
 vM 35 8,
 vM 5 35])
 (.skip))<|
 .ops [
 vO 36 (.bin .add (vT 16) (vC 1)),
 vM 16 36]
def i_zz51:FF:=⟨38,[.tmp 4],
 .seq (.ops [
 vO 2 (.box 2 (vT 0)),
 vO 4 (.mv (vC 0))])<|
 .seq (.ops [
 vO 5 (.mv (vC 0))])<|
 .seq (.seq (.ops [
 vO 9 (.fld 1 (vT 2)),
 vO 10 (.load false 1 (vT 9)),
 vM 11 1,
 vO 12 (.idx 1 (vT 10) (vT 11)),
 vO 13 (.load false 1 (vT 12)),
 vO 14 (.call k_zz105 [vT 13]),
 vO 15 (.len (vT 14)),
 vO 16 (.mv (vC 0))])<|
 .block 0<|
 .loop [1,2,5,14,15,16] i_zz51_B1)<|
 .seq (.ops [
 vM 37 5,
 vM 4 37])<|
 .keep [4]<|
 .ret⟩
theorem e_zz51:EntOK Tryz.prog (compD Tryz.prog) k_zz51 i_zz51.vf:=
 ⟨Tryz.f140,Tryz.f140.body.getD .skip,Tryz.func140,by kernel_rfl,by kernel_rfl,by kernel_rfl,by kernel_rfl,by kernel_rfl⟩
/-- impl.graphCode -/
def i_zz75_B1:FC:=
 .seq (.ops [
 vO 13 (.bin .lss (vT 12) (vT 11))])<|
 .seq (.cond (vT 13)
 (.skip)
 (.keep []<|
 .exit 0))<|
 .seq (.block 1<|
 .seq (.ops [
 vO 14 (.idx 1 (vT 10) (vT 12)),
 vO 15 (.load false 1 (vT 14)),
 vM 6 15])<|
 .seq (.ops [
 vM 16 6,
 vO 17 (.bin .lss (vT 16) (vC 0)),
 vM 18 17,
 ⟨some 19,.mv (vT 6),some (18,false),0⟩,
 ⟨some 20,.fld 0 (vT 2),some (18,false),0⟩,
 ⟨some 21,.load false 1 (vT 20),some (18,false),0⟩,
 ⟨some 22,.bin .geq (vT 19) (vT 21),some (18,false),0⟩,
 vO 23 (.pick (vT 18) (.const (.bool true)) (vT 22))])<|
 .cond (vT 23)
 (.seq (.ops [
 vO 4 (.mv (vC 2))])<|
 .keep [4]<|
 .ret)
 (.skip))<|
 .ops [
 vO 24 (.bin .add (vT 12) (vC 1)),
 vM 12 24]
def i_zz75:FF:=⟨25,[.tmp 4],
 .seq (.ops [
 vO 2 (.box 2 (vT 0)),
 vO 4 (.mv (vC 0))])<|
 .seq (.seq (.ops [
 vO 7 (.load true 2 (vT 2)),
 vO 8 (.call k_zz86 [vT 7]),
 vO 9 (.un .not (vT 8))])<|
 .cond (vT 9)
 (.seq (.ops [
 vO 4 (.mv (vC 1))])<|
 .keep [4]<|
 .ret)
 (.skip))<|
 .seq (.seq (.ops [
 vM 10 1,
 vO 11 (.len (vT 10)),
 vO 12 (.mv (vC 0))])<|
 .block 0<|
 .loop [2,10,11,12] i_zz75_B1)<|
 .seq (.ops [
 vO 4 (.mv (vC 0))])<|
 .keep [4]<|
 .ret⟩
theorem e_zz75:EntOK Tryz.prog (compD Tryz.prog) k_zz75 i_zz75.vf:=
 ⟨Tryz.f143,Tryz.f143.body.getD .skip,Tryz.func143,by kernel_rfl,by kernel_rfl,by kernel_rfl,by kernel_rfl,by kernel_rfl⟩
/-- spec.l01Vertices -/
def i_zz62_B1:FC:=
 .seq (.seq (.ops [
 vM 9 5,
 vM 10 1,
 vO 11 (.len (vT 10)),
 vO 12 (.bin .lss (vT 9) (vT 11))])<|
 .cond (vT 12)
 (.skip)
 (.keep []<|
 .exit 0))<|
 .seq (.block 1<|
 .seq (.dops [
 vM 15 1,
 vM 16 5,
 vO 17 (.idx 1 (vT 15) (vT 16)),
 vO 18 (.load false 1 (vT 17)),
 vO 19 (.fld 0 (vT 2)),
 vO 20 (.load false 1 (vT 19)),
 vO 21 (.bin .sub (vT 20) (vC 1)),
 vO 22 (.call k_zz103 [vT 18,(vC 0),vT 21]),
 vO 23 (.un .not (vT 22))])<|
 .cond (vT 23)
 (.seq (.ops [
 vO 4 (.mv (vC 2))])<|
 .keep [4]<|
 .ret)
 (.skip))<|
 .ops [
 vM 13 5,
 vO 14 (.bin .add (vT 13) (vC 1)),
 vM 5 14]
def i_zz62:FF:=⟨24,[.tmp 4],
 .seq (.ops [
 vO 2 (.box 2 (vT 0)),
 vO 4 (.mv (vC 0))])<|
 .seq (.seq (.ops [
 vO 6 (.load true 2 (vT 2)),
 vO 7 (.call k_zz104 [vT 6]),
 vO 8 (.un .not (vT 7))])<|
 .cond (vT 8)
 (.seq (.ops [
 vO 4 (.mv (vC 1))])<|
 .keep [4]<|
 .ret)
 (.skip))<|
 .seq (.seq (.ops [
 vO 5 (.mv (vC 0))])<|
 .block 0<|
 .loop [1,2,5] i_zz62_B1)<|
 .seq (.ops [
 vO 4 (.mv (vC 0))])<|
 .keep [4]<|
 .ret⟩
theorem e_zz62:EntOK Tryz.prog (compD Tryz.prog) k_zz62 i_zz62.vf:=
 ⟨Tryz.f144,Tryz.f144.body.getD .skip,Tryz.func144,by kernel_rfl,by kernel_rfl,by kernel_rfl,by kernel_rfl,by kernel_rfl⟩
/-- spec.l01Copy -/
def i_zz91:FF:=⟨9,[.cell 2 true 2],
 .seq (.ops [
 vO 1 (.box 2 (vT 0)),
 vO 2 (.alloc [.int .i64 0,.slice none 0 0])])<|
 .seq (.dops [
 vO 5 (.fld 1 (vT 1)),
 vO 6 (.load false 1 (vT 5)),
 vO 7 (.call k_zz97 [vT 6]),
 ⟨some 3,.fld 0 (vT 1),none,1⟩,
 ⟨some 4,.load false 1 (vT 3),none,1⟩,
 vO 8 (.build [.int .i64 0,.slice none 0 0] [(0,1,(vT 4)),(1,1,(vT 7))]),
 ⟨none,.store 2 (vT 2) (vT 8),none,0⟩])<|
 .keep [2]<|
 .ret⟩
theorem e_zz91:EntOK Tryz.prog (compD Tryz.prog) k_zz91 i_zz91.vf:=
 ⟨Tryz.f145,Tryz.f145.body.getD .skip,Tryz.func145,by kernel_rfl,by kernel_rfl,by kernel_rfl,by kernel_rfl,by kernel_rfl⟩
/-- spec.l02Around -/
def i_zz77_B1:FC:=
 .seq (.seq (.ops [
 vM 43 12,
 vO 44 (.fld 0 (vT 3)),
 vO 45 (.load false 1 (vT 44)),
 vO 46 (.bin .lss (vT 43) (vT 45)),
 vM 47 46,
 ⟨some 48,.mv (vT 8),some (47,true),0⟩,
 ⟨some 49,.mv (vT 11),some (47,true),0⟩,
 ⟨some 50,.idx 1 (vT 48) (vT 49),some (47,true),0⟩,
 ⟨some 51,.load false 1 (vT 50),some (47,true),0⟩,
 ⟨some 52,.mv (vT 10),some (47,true),0⟩,
 ⟨some 53,.bin .eql (vT 51) (vT 52),some (47,true),0⟩,
 vO 54 (.pick (vT 47) (vT 53) (.const (.bool false)))])<|
 .cond (vT 54)
 (.skip)
 (.keep [1,2,3,8,9,10,11]<|
 .exit 4))<|
 .seq (.block 5<|
 .seq (.ops [
 vO 57 (.fld 1 (vT 3)),
 vO 58 (.load false 1 (vT 57)),
 vM 59 11,
 vO 60 (.idx 1 (vT 58) (vT 59)),
 vO 61 (.load false 1 (vT 60)),
 vM 62 12,
 vO 63 (.conv .u64 (vT 62)),
 vO 64 (.bin .shr (vT 61) (vT 63)),
 vO 65 (.bin .and (vT 64) (vC 1)),
 vO 66 (.bin .eql (vT 65) (vC 1)),
 vM 67 66,
 ⟨some 68,.mv (vT 8),some (67,true),0⟩,
 ⟨some 69,.mv (vT 12),some (67,true),0⟩,
 ⟨some 70,.idx 1 (vT 68) (vT 69),some (67,true),0⟩,
 ⟨some 71,.load false 1 (vT 70),some (67,true),0⟩,
 ⟨some 72,.mv (vT 10),some (67,true),0⟩,
 ⟨some 73,.bin .add (vT 72) (vC 1),some (67,true),0⟩,
 ⟨some 74,.bin .eql (vT 71) (vT 73),some (67,true),0⟩,
 vO 75 (.pick (vT 67) (vT 74) (.const (.bool false))),
 vM 76 75,
 ⟨some 77,.mv (vT 11),some (76,true),0⟩,
 ⟨some 78,.mv (vT 1),some (76,true),0⟩,
 ⟨some 79,.bin .eql (vT 77) (vT 78),some (76,true),0⟩,
 ⟨some 80,.mv (vT 79),some (76,true),0⟩,
 ⟨some 81,.mv (vT 12),some (80,true),0⟩,
 ⟨some 82,.mv (vT 2),some (80,true),0⟩,
 ⟨some 83,.bin .eql (vT 81) (vT 82),some (80,true),0⟩,
 ⟨some 84,.pick (vT 80) (vT 83) (.const (.bool false)),some (76,true),0⟩,
 ⟨some 85,.un .not (vT 84),some (76,true),0⟩,
 vO 86 (.pick (vT 76) (vT 85) (.const (.bool false)))])<|
 .cond (vT 86)
 (.dops [
 vM 87 9,
 vM 88 12,
 vM 89 9,
 vM 90 12,
 vO 91 (.idx 1 (vT 89) (vT 90)),
 vO 92 (.load false 1 (vT 91)),
 vM 93 9,
 vM 94 11,
 vO 95 (.idx 1 (vT 93) (vT 94)),
 vO 96 (.load false 1 (vT 95)),
 vO 97 (.bin .add (vT 92) (vT 96)),
 vO 98 (.idx 1 (vT 87) (vT 88)),
 ⟨none,.store 1 (vT 98) (vT 97),none,0⟩])
 (.skip))<|
 .ops [
 vM 55 12,
 vO 56 (.bin .add (vT 55) (vC 1)),
 vM 12 56]
def i_zz77_B2:FC:=
 .seq (.seq (.ops [
 vM 37 11,
 vO 38 (.fld 0 (vT 3)),
 vO 39 (.load false 1 (vT 38)),
 vO 40 (.bin .lss (vT 37) (vT 39))])<|
 .cond (vT 40)
 (.skip)
 (.keep [1,2,3,8,9,10]<|
 .exit 2))<|
 .seq (.block 3<|
 .seq (.ops [
 vO 12 (.mv (vC 0))])<|
 .block 4<|
 .loop [1,2,3,8,9,10,11,12] i_zz77_B1)<|
 .ops [
 vM 41 11,
 vO 42 (.bin .add (vT 41) (vC 1)),
 vM 11 42]
def i_zz77_B3:FC:=
 .seq (.seq (.ops [
 vM 29 10,
 vM 30 8,
 vM 31 2,
 vO 32 (.idx 1 (vT 30) (vT 31)),
 vO 33 (.load false 1 (vT 32)),
 vO 34 (.bin .lss (vT 29) (vT 33))])<|
 .cond (vT 34)
 (.skip)
 (.keep [2,8,9]<|
 .exit 0))<|
 .seq (.block 1<|
 .seq (.ops [
 vO 11 (.mv (vC 0))])<|
 .block 2<|
 .loop [1,2,3,8,9,10,11] i_zz77_B2)<|
 .ops [
 vM 35 10,
 vO 36 (.bin .add (vT 35) (vC 1)),
 vM 10 36]
def i_zz77:FF:=⟨108,[.tmp 6,.tmp 7],
 .seq (.ops [
 vO 3 (.box 2 (vT 0)),
 vO 6 (.mv (vC 0)),
 vO 7 (.mv (vC 0))])<|
 .seq (.ops [
 vO 13 (.load true 2 (vT 3)),
 vM 14 1,
 vM 15 1,
 vM 16 2,
 vO 17 (.call k_zz93 [vT 13,vT 14,vT 15,vT 16]),
 vM 8 17])<|
 .seq (.seq (.ops [
 vM 18 8,
 vM 19 2,
 vO 20 (.idx 1 (vT 18) (vT 19)),
 vO 21 (.load false 1 (vT 20)),
 vO 22 (.bin .lss (vT 21) (vC 0))])<|
 .cond (vT 22)
 (.seq (.ops [
 vO 6 (.mv (vC 0)),
 vO 7 (.mv (vC 0))])<|
 .keep [6,7]<|
 .ret)
 (.skip))<|
 .seq (.ops [
 vO 23 (.fld 0 (vT 3)),
 vO 24 (.load false 1 (vT 23)),
 vO 25 (.mkSl 1 [.int .i64 0] 8 (vT 24) (vT 24)),
 vM 9 25])<|
 .seq (.ops [
 vM 26 9,
 vM 27 1,
 vO 28 (.idx 1 (vT 26) (vT 27)),
 ⟨none,.store 1 (vT 28) (vC 1),none,0⟩])<|
 .seq (.seq (.ops [
 vO 10 (.mv (vC 0))])<|
 .block 0<|
 .loop [1,2,3,8,9,10] i_zz77_B3)<|
 .seq (.dops [
 vM 99 8,
 vM 100 2,
 vO 101 (.idx 1 (vT 99) (vT 100)),
 vO 102 (.load false 1 (vT 101)),
 vO 103 (.bin .add (vT 102) (vC 1)),
 vM 104 9,
 vM 105 2,
 vO 106 (.idx 1 (vT 104) (vT 105)),
 vO 107 (.load false 1 (vT 106)),
 vM 6 103,
 vM 7 107])<|
 .keep [6,7]<|
 .ret⟩
theorem e_zz77:EntOK Tryz.prog (compD Tryz.prog) k_zz77 i_zz77.vf:=
 ⟨Tryz.f146,Tryz.f146.body.getD .skip,Tryz.func146,by kernel_rfl,by kernel_rfl,by kernel_rfl,by kernel_rfl,by kernel_rfl⟩
def i_zz64:FF:=⟨24,[],
 .seq (.ops [
 vO 3 (.box 2 (vT 0))])<|
 .seq (.dops [
 vO 6 (.fld 1 (vT 3)),
 vO 7 (.load false 1 (vT 6)),
 vM 8 1,
 vO 9 (.idx 1 (vT 7) (vT 8)),
 vO 10 (.load false 1 (vT 9)),
 vM 11 2,
 vO 12 (.bin .shl (vC 1) (vT 11)),
 vO 13 (.bin .andNot (vT 10) (vT 12)),
 vO 14 (.idx 1 (vT 7) (vT 8)),
 ⟨none,.store 1 (vT 14) (vT 13),none,0⟩])<|
 .dops [
 vO 15 (.fld 1 (vT 3)),
 vO 16 (.load false 1 (vT 15)),
 vM 17 2,
 vO 18 (.idx 1 (vT 16) (vT 17)),
 vO 19 (.load false 1 (vT 18)),
 vM 20 1,
 vO 21 (.bin .shl (vC 1) (vT 20)),
 vO 22 (.bin .andNot (vT 19) (vT 21)),
 vO 23 (.idx 1 (vT 16) (vT 17)),
 ⟨none,.store 1 (vT 23) (vT 22),none,0⟩]⟩
theorem e_zz64:EntOK Tryz.prog (compD Tryz.prog) k_zz64 i_zz64.vf:=
 ⟨Tryz.f147,Tryz.f147.body.getD .skip,Tryz.func147,by kernel_rfl,by kernel_rfl,by kernel_rfl,by kernel_rfl,by kernel_rfl⟩
def i_zz61_B1:FC:=
 .seq (.ops [
 vO 37 (.bin .lss (vT 36) (vT 35))])<|
 .seq (.cond (vT 37)
 (.skip)
 (.keep [3,7,8,18,19,25,26]<|
 .exit 4))<|
 .seq (.block 5<|
 .seq (.ops [
 vO 38 (.idx 1 (vT 34) (vT 36)),
 vO 39 (.load false 1 (vT 38)),
 vM 11 39])<|
 .dops [
 vM 40 8,
 vM 41 11,
 vO 42 (.idx 1 (vT 40) (vT 41)),
 vO 43 (.load false 1 (vT 42)),
 vM 44 7,
 vM 45 9,
 vO 46 (.idx 1 (vT 44) (vT 45)),
 vO 47 (.load false 1 (vT 46)),
 vO 48 (.bin .add (vT 43) (vT 47)),
 vO 49 (.idx 1 (vT 40) (vT 41)),
 ⟨none,.store 1 (vT 49) (vT 48),none,0⟩])<|
 .ops [
 vO 50 (.bin .add (vT 36) (vC 1)),
 vM 36 50]
def i_zz61_B2:FC:=
 .seq (.ops [
 vO 27 (.bin .lss (vT 26) (vT 25))])<|
 .seq (.cond (vT 27)
 (.skip)
 (.keep [3,8,18,19]<|
 .exit 2))<|
 .seq (.block 3<|
 .seq (.ops [
 vM 28 26,
 vM 9 28])<|
 .seq (.ops [
 vO 29 (.fld 1 (vT 3)),
 vO 30 (.load false 1 (vT 29)),
 vM 31 9,
 vO 32 (.idx 1 (vT 30) (vT 31)),
 vO 33 (.load false 1 (vT 32)),
 vO 34 (.call k_zz105 [vT 33]),
 vO 35 (.len (vT 34)),
 vO 36 (.mv (vC 0))])<|
 .block 4<|
 .loop [3,7,8,9,18,19,25,26,34,35,36] i_zz61_B1)<|
 .ops [
 vO 51 (.bin .add (vT 26) (vC 1)),
 vM 26 51]
def i_zz61_B3:FC:=
 .seq (.ops [
 vO 20 (.bin .lss (vT 19) (vT 18))])<|
 .seq (.cond (vT 20)
 (.skip)
 (.keep [7]<|
 .exit 0))<|
 .seq (.block 1<|
 .seq (.ops [
 vO 21 (.fld 0 (vT 3)),
 vO 22 (.load false 1 (vT 21)),
 vO 23 (.mkSl 1 [.int .i64 0] 8 (vT 22) (vT 22)),
 vM 8 23])<|
 .seq (.seq (.ops [
 vO 24 (.fld 0 (vT 3)),
 vO 25 (.load false 1 (vT 24)),
 vO 26 (.mv (vC 0))])<|
 .block 2<|
 .loop [3,7,8,18,19,25,26] i_zz61_B2)<|
 .ops [
 vM 52 8,
 vM 7 52])<|
 .ops [
 vO 53 (.bin .add (vT 19) (vC 1)),
 vM 19 53]
def i_zz61:FF:=⟨55,[.tmp 6],
 .seq (.ops [
 vO 3 (.box 2 (vT 0)),
 vO 6 (.mv (.const (.slice none 0 0)))])<|
 .seq (.ops [
 vO 12 (.fld 0 (vT 3)),
 vO 13 (.load false 1 (vT 12)),
 vO 14 (.mkSl 1 [.int .i64 0] 8 (vT 13) (vT 13)),
 vM 7 14])<|
 .seq (.ops [
 vM 15 7,
 vM 16 1,
 vO 17 (.idx 1 (vT 15) (vT 16)),
 ⟨none,.store 1 (vT 17) (vC 1),none,0⟩])<|
 .seq (.seq (.ops [
 vM 18 2,
 vO 19 (.mv (vC 0))])<|
 .block 0<|
 .loop [3,7,18,19] i_zz61_B3)<|
 .seq (.ops [
 vM 54 7,
 vM 6 54])<|
 .keep [6]<|
 .ret⟩
theorem e_zz61:EntOK Tryz.prog (compD Tryz.prog) k_zz61 i_zz61.vf:=
 ⟨Tryz.f148,Tryz.f148.body.getD .skip,Tryz.func148,by kernel_rfl,by kernel_rfl,by kernel_rfl,by kernel_rfl,by kernel_rfl⟩
def i_zz40_B1:FC:=
 .seq (.ops [
 vO 28 (.bin .lss (vT 27) (vT 26))])<|
 .seq (.cond (vT 28)
 (.skip)
 (.keep [2,19,20,21]<|
 .exit 2))<|
 .seq (.block 3<|
 .seq (.ops [
 vM 29 27,
 vO 30 (.idx 1 (vT 25) (vT 27)),
 vO 31 (.load false 1 (vT 30)),
 vM 5 29,
 vM 6 31])<|
 .ops [
 vM 32 4,
 vM 33 5,
 vM 34 2,
 vM 35 6,
 vO 36 (.call k_zz34 [vT 34,vT 35]),
 vO 37 (.idx 1 (vT 32) (vT 33)),
 ⟨none,.store 1 (vT 37) (vT 36),none,0⟩])<|
 .ops [
 vO 38 (.bin .add (vT 27) (vC 1)),
 vM 27 38]
def i_zz40_B2:FC:=
 .seq (.ops [
 vO 22 (.bin .lss (vT 21) (vT 20))])<|
 .seq (.cond (vT 22)
 (.skip)
 (.keep []<|
 .exit 0))<|
 .seq (.block 1<|
 .seq (.ops [
 vO 23 (.idx 1 (vT 19) (vT 21)),
 vO 24 (.load false 1 (vT 23)),
 vM 4 24])<|
 .seq (.ops [
 vM 25 4,
 vO 26 (.len (vT 25)),
 vO 27 (.mv (vC 0))])<|
 .block 2<|
 .loop [2,4,19,20,21,25,26,27] i_zz40_B1)<|
 .ops [
 vO 39 (.bin .add (vT 21) (vC 1)),
 vM 21 39]
def i_zz40:FF:=⟨40,[],
 .seq (.ops [
 vM 7 0,
 vO 8 (.nilchk (vT 7)),
 vO 9 (.fld 1 (vT 8)),
 vO 10 (.load false 1 (vT 9)),
 vO 11 (.call k_zz30 [vT 10]),
 vM 2 11])<|
 .seq (.ops [
 vM 12 2,
 vO 13 (.call k_zz36 [vT 12])])<|
 .seq (.ops [
 vM 14 2,
 vO 15 (.call k_zz26 [vT 14]),
 vM 2 15])<|
 .seq (.ops [
 vM 16 0,
 vO 17 (.nilchk (vT 16)),
 vO 18 (.fld 1 (vT 17)),
 vO 19 (.load false 1 (vT 18)),
 vO 20 (.len (vT 19)),
 vO 21 (.mv (vC 0))])<|
 .block 0<|
 .loop [2,19,20,21] i_zz40_B2⟩
theorem e_zz40:EntOK Tryz.prog (compD Tryz.prog) k_zz40 i_zz40.vf:=
 ⟨Tryz.f149,Tryz.f149.body.getD .skip,Tryz.func149,by kernel_rfl,by kernel_rfl,by kernel_rfl,by kernel_rfl,by kernel_rfl⟩
def i_zz41_B1:FC:=
 .seq (.ops [
 vO 42 (.bin .lss (vT 41) (vT 40))])<|
 .seq (.cond (vT 42)
 (.skip)
 (.keep [1,4]<|
 .exit 0))<|
 .seq (.block 1<|
 .seq (.ops [
 vM 43 41,
 vO 44 (.idx 1 (vT 39) (vT 41)),
 vO 45 (.load false 1 (vT 44)),
 vM 5 43,
 vM 6 45])<|
 .ops [
 vM 46 4,
 vM 47 5,
 vO 48 (.load false 1 (vT 1)),
 vO 49 (.nilchk (vT 48)),
 vO 50 (.fld 1 (vT 49)),
 vO 51 (.load false 1 (vT 50)),
 vO 52 (.idx 1 (vT 51) (vC 1)),
 vO 53 (.load false 1 (vT 52)),
 vM 54 6,
 vO 55 (.call k_zz34 [vT 53,vT 54]),
 vO 56 (.idx 1 (vT 46) (vT 47)),
 ⟨none,.store 1 (vT 56) (vT 55),none,0⟩])<|
 .ops [
 vO 57 (.bin .add (vT 41) (vC 1)),
 vM 41 57]
def i_zz41_B2:FC:=
 .seq (.ops [
 vO 75 (.bin .lss (vT 74) (vT 73))])<|
 .seq (.cond (vT 75)
 (.skip)
 (.keep [1,4,64,65,66]<|
 .exit 4))<|
 .seq (.block 5<|
 .seq (.ops [
 vO 76 (.idx 1 (vT 72) (vT 74)),
 vO 77 (.load false 1 (vT 76)),
 vM 10 77])<|
 .seq (.dops [
 vO 78 (.load false 1 (vT 1)),
 vO 79 (.nilchk (vT 78)),
 vO 80 (.fld 0 (vT 79)),
 vO 81 (.load false 1 (vT 80)),
 vO 82 (.idx 2 (vT 81) (vC 1)),
 vO 83 (.load true 2 (vT 82)),
 vM 84 4,
 vM 85 7,
 vO 86 (.idx 1 (vT 84) (vT 85)),
 vO 87 (.load false 1 (vT 86)),
 vM 88 4,
 vM 89 10,
 vO 90 (.idx 1 (vT 88) (vT 89)),
 vO 91 (.load false 1 (vT 90)),
 vO 92 (.call k_zz72 [vT 83,vT 87,vT 91]),
 vO 93 (.un .not (vT 92))])<|
 .cond (vT 93)
 (.seq (.ops [
 vO 2 (.mv (.const (.slice none 0 0)))])<|
 .keep [2]<|
 .ret)
 (.skip))<|
 .ops [
 vO 94 (.bin .add (vT 74) (vC 1)),
 vM 74 94]
def i_zz41_B3:FC:=
 .seq (.ops [
 vO 67 (.bin .lss (vT 66) (vT 65))])<|
 .seq (.cond (vT 67)
 (.skip)
 (.keep [4]<|
 .exit 2))<|
 .seq (.block 3<|
 .seq (.ops [
 vM 68 66,
 vO 69 (.idx 1 (vT 64) (vT 66)),
 vO 70 (.load false 1 (vT 69)),
 vM 7 68,
 vM 8 70])<|
 .seq (.ops [
 vM 71 8,
 vO 72 (.call k_zz105 [vT 71]),
 vO 73 (.len (vT 72)),
 vO 74 (.mv (vC 0))])<|
 .block 4<|
 .loop [1,4,7,64,65,66,72,73,74] i_zz41_B2)<|
 .ops [
 vO 95 (.bin .add (vT 66) (vC 1)),
 vM 66 95]
def i_zz41_B4:FC:=
 .seq (.ops [
 vO 113 (.bin .lss (vT 112) (vT 111))])<|
 .seq (.cond (vT 113)
 (.skip)
 (.keep []<|
 .exit 6))<|
 .seq (.block 7<|
 .seq (.ops [
 vM 114 112,
 vO 115 (.idx 1 (vT 110) (vT 112)),
 vO 116 (.load false 1 (vT 115)),
 vM 12 114,
 vM 13 116])<|
 .seq (.seq (.ops [
 vM 117 13,
 vO 118 (.load false 1 (vT 1)),
 vO 119 (.nilchk (vT 118)),
 vO 120 (.fld 1 (vT 119)),
 vO 121 (.load false 1 (vT 120)),
 vO 122 (.idx 1 (vT 121) (vC 0)),
 vO 123 (.load false 1 (vT 122)),
 vM 124 11,
 vO 125 (.idx 1 (vT 123) (vT 124)),
 vO 126 (.load false 1 (vT 125)),
 vO 127 (.bin .neq (vT 117) (vT 126))])<|
 .cond (vT 127)
 (.keep [1,3,11,110,111,112]<|
 .exit 7)
 (.skip))<|
 .seq (.dops [
 vO 132 (.load false 1 (vT 1)),
 vO 133 (.nilchk (vT 132)),
 vO 134 (.fld 1 (vT 133)),
 vO 135 (.load false 1 (vT 134)),
 vO 136 (.idx 1 (vT 135) (vC 0)),
 vO 137 (.load false 1 (vT 136)),
 vO 138 (.call k_zz32 [vT 137]),
 ⟨some 139,.load false 1 (vT 1),none,1⟩,
 ⟨some 140,.nilchk (vT 139),none,1⟩,
 ⟨some 141,.fld 1 (vT 140),none,1⟩,
 ⟨some 142,.load false 1 (vT 141),none,1⟩,
 ⟨some 143,.idx 1 (vT 142) (vC 1),none,1⟩,
 ⟨some 144,.load false 1 (vT 143),none,1⟩,
 vO 145 (.call k_zz32 [vT 144]),
 vO 146 (.buildSl 1 [.slice none 0 0,.slice none 0 0] [(0,1,(vT 138)),(1,1,(vT 145))] 2),
 ⟨some 128,.load false 1 (vT 1),none,3⟩,
 ⟨some 129,.nilchk (vT 128),none,3⟩,
 ⟨some 130,.fld 0 (vT 129),none,3⟩,
 ⟨some 131,.load false 1 (vT 130),none,3⟩,
 vO 147 (.build [.slice none 0 0,.slice none 0 0] [(0,1,(vT 131)),(1,1,(vT 146))]),
 vO 148 (.box 2 (vT 147)),
 vM 14 148])<|
 .seq (.dops [
 vM 149 14,
 vO 150 (.nilchk (vT 149)),
 vO 151 (.fld 1 (vT 150)),
 vO 152 (.load false 1 (vT 151)),
 vO 153 (.idx 1 (vT 152) (vC 0)),
 vO 154 (.load false 1 (vT 153)),
 vM 155 11,
 vM 156 14,
 vO 157 (.nilchk (vT 156)),
 vO 158 (.fld 1 (vT 157)),
 vO 159 (.load false 1 (vT 158)),
 vO 160 (.idx 1 (vT 159) (vC 1)),
 vO 161 (.load false 1 (vT 160)),
 vM 163 3,
 vO 165 (.idx 1 (vT 154) (vT 155)),
 ⟨none,.store 1 (vT 165) (vT 163),none,0⟩,
 ⟨some 162,.mv (vT 12),none,1⟩,
 ⟨some 164,.mv (vT 3),none,1⟩,
 vO 166 (.idx 1 (vT 161) (vT 162)),
 ⟨none,.store 1 (vT 166) (vT 164),none,0⟩])<|
 .seq (.ops [
 vM 167 14,
 vO 168 (.call k_zz41 [vT 167]),
 vM 15 168])<|
 .seq (.ops [
 vM 169 15,
 vO 170 (.eqnilS true (vT 169))])<|
 .cond (vT 170)
 (.seq (.ops [
 vM 171 15,
 vM 2 171])<|
 .keep [2]<|
 .ret)
 (.skip))<|
 .ops [
 vO 172 (.bin .add (vT 112) (vC 1)),
 vM 112 172]
def i_zz41:FF:=⟨173,[.tmp 2],
 .seq (.ops [
 vO 1 (.box 1 (vT 0)),
 vO 2 (.mv (.const (.slice none 0 0)))])<|
 .seq (.ops [
 vO 16 (.load false 1 (vT 1)),
 vO 17 (.call k_zz45 [vT 16])])<|
 .seq (.seq (.ops [
 vO 18 (.load false 1 (vT 1)),
 vO 19 (.call k_zz47 [vT 18]),
 vO 20 (.un .not (vT 19))])<|
 .cond (vT 20)
 (.seq (.ops [
 vO 2 (.mv (.const (.slice none 0 0)))])<|
 .keep [2]<|
 .ret)
 (.skip))<|
 .seq (.ops [
 vO 21 (.load false 1 (vT 1)),
 vO 22 (.call k_zz55 [vT 21]),
 vM 3 22])<|
 .seq (.seq (.ops [
 vM 23 3,
 vO 24 (.load false 1 (vT 1)),
 vO 25 (.nilchk (vT 24)),
 vO 26 (.fld 0 (vT 25)),
 vO 27 (.load false 1 (vT 26)),
 vO 28 (.idx 2 (vT 27) (vC 0)),
 vO 29 (.fld 0 (vT 28)),
 vO 30 (.load false 1 (vT 29)),
 vO 31 (.bin .eql (vT 23) (vT 30))])<|
 .cond (vT 31)
 (.seq (.ops [
 vM 32 3,
 vO 33 (.mkSl 1 [.int .i64 0] 8 (vT 32) (vT 32)),
 vM 4 33])<|
 .seq (.seq (.ops [
 vO 34 (.load false 1 (vT 1)),
 vO 35 (.nilchk (vT 34)),
 vO 36 (.fld 1 (vT 35)),
 vO 37 (.load false 1 (vT 36)),
 vO 38 (.idx 1 (vT 37) (vC 0)),
 vO 39 (.load false 1 (vT 38)),
 vO 40 (.len (vT 39)),
 vO 41 (.mv (vC 0))])<|
 .block 0<|
 .loop [1,4,39,40,41] i_zz41_B1)<|
 .seq (.seq (.ops [
 vO 58 (.load false 1 (vT 1)),
 vO 59 (.nilchk (vT 58)),
 vO 60 (.fld 0 (vT 59)),
 vO 61 (.load false 1 (vT 60)),
 vO 62 (.idx 2 (vT 61) (vC 0)),
 vO 63 (.fld 1 (vT 62)),
 vO 64 (.load false 1 (vT 63)),
 vO 65 (.len (vT 64)),
 vO 66 (.mv (vC 0))])<|
 .block 2<|
 .loop [1,4,64,65,66] i_zz41_B3)<|
 .seq (.ops [
 vM 96 4,
 vM 2 96])<|
 .keep [2]<|
 .ret)
 (.skip))<|
 .seq (.ops [
 vO 97 (.load false 1 (vT 1)),
 vO 98 (.nilchk (vT 97)),
 vO 99 (.fld 1 (vT 98)),
 vO 100 (.load false 1 (vT 99)),
 vO 101 (.idx 1 (vT 100) (vC 0)),
 vO 102 (.load false 1 (vT 101)),
 vO 103 (.mkfn k_zz35 [] [vT 1]),
 vO 104 (.call k_zz22 [vT 102,vT 103]),
 vM 11 104])<|
 .seq (.seq (.ops [
 vO 105 (.load false 1 (vT 1)),
 vO 106 (.nilchk (vT 105)),
 vO 107 (.fld 1 (vT 106)),
 vO 108 (.load false 1 (vT 107)),
 vO 109 (.idx 1 (vT 108) (vC 1)),
 vO 110 (.load false 1 (vT 109)),
 vO 111 (.len (vT 110)),
 vO 112 (.mv (vC 0))])<|
 .block 6<|
 .loop [1,3,11,110,111,112] i_zz41_B4)<|
 .seq (.ops [
 vO 2 (.mv (.const (.slice none 0 0)))])<|
 .keep [2]<|
 .ret⟩
theorem e_zz41:EntOK Tryz.prog (compD Tryz.prog) k_zz41 i_zz41.vf:=
 ⟨Tryz.f150,Tryz.f150.body.getD .skip,Tryz.func150,by kernel_rfl,by kernel_rfl,by kernel_rfl,by kernel_rfl,by kernel_rfl⟩
/-- impl.powers -/
def i_zz94_B1:FC:=
 .seq (.ops [
 vO 9 (.bin .lss (vT 8) (vT 7))])<|
 .seq (.cond (vT 9)
 (.skip)
 (.keep [5]<|
 .exit 0))<|
 .seq (.block 1<|
 .seq (.ops [
 vM 10 5,
 vM 11 6,
 vO 12 (.bin .add (vT 10) (vT 11)),
 vO 13 (.minmax false [vT 12,(vC 1000000000001)]),
 vM 5 13])<|
 .ops [
 vM 14 6,
 vM 15 0,
 vO 16 (.bin .mul (vT 14) (vT 15)),
 vO 17 (.minmax false [vT 16,(vC 1000000000001)]),
 vM 6 17])<|
 .ops [
 vO 18 (.bin .add (vT 8) (vC 1)),
 vM 8 18]
def i_zz94:FF:=⟨20,[.tmp 4],
 .seq (.ops [
 vO 4 (.mv (vC 0))])<|
 .seq (.ops [
 vO 5 (.mv (vC 0)),
 vO 6 (.mv (vC 1))])<|
 .seq (.seq (.ops [
 vM 7 1,
 vO 8 (.mv (vC 0))])<|
 .block 0<|
 .loop [0,5,6,7,8] i_zz94_B1)<|
 .seq (.ops [
 vM 19 5,
 vM 4 19])<|
 .keep [4]<|
 .ret⟩
theorem e_zz94:EntOK Tryz.prog (compD Tryz.prog) k_zz94 i_zz94.vf:=
 ⟨Tryz.f151,Tryz.f151.body.getD .skip,Tryz.func151,by kernel_rfl,by kernel_rfl,by kernel_rfl,by kernel_rfl,by kernel_rfl⟩
/-- math/bits.Len32 -/
def i_zz67:FF:=⟨19,[.tmp 2],
 .seq (.ops [
 vO 2 (.mv (vC 0))])<|
 .seq (.seq (.ops [
 vM 3 0,
 vO 4 (.bin .geq (vT 3) (.const (.int .u32 65536)))])<|
 .cond (vT 4)
 (.seq (.ops [
 vM 5 0,
 vO 6 (.bin .shr (vT 5) (.const (.int .u64 16))),
 vM 0 6])<|
 .ops [
 vO 2 (.mv (vC 16))])
 (.skip))<|
 .seq (.seq (.ops [
 vM 7 0,
 vO 8 (.bin .geq (vT 7) (.const (.int .u32 256)))])<|
 .cond (vT 8)
 (.seq (.ops [
 vM 9 0,
 vO 10 (.bin .shr (vT 9) (.const (.int .u64 8))),
 vM 0 10])<|
 .ops [
 vM 11 2,
 vO 12 (.bin .add (vT 11) (vC 8)),
 vM 2 12])
 (.skip))<|
 .seq (.ops [
 vM 13 2,
 vM 14 0,
 vO 15 (.conv .u8 (vT 14)),
 vO 16 (.idxStr (.const (.string ⟨#[0,1,2,2,3,3,3,3,4,4,4,4,4,4,4,4,5,5,5,5,5,5,5,5,5,5,5,5,5,5,5,5,6,6,6,6,6,6,6,6,6,6,6,6,6,6,6,6,6,6,6,6,6,6,6,6,6,6,6,6,6,6,6,6,7,7,7,7,7,7,7,7,7,7,7,7,7,7,7,7,7,7,7,7,7,7,7,7,7,7,7,7,7,7,7,7,7,7,7,7,7,7,7,7,7,7,7,7,7,7,7,7,7,7,7,7,7,7,7,7,7,7,7,7,7,7,7,7,8,8,8,8,8,8,8,8,8,8,8,8,8,8,8,8,8,8,8,8,8,8,8,8,8,8,8,8,8,8,8,8,8,8,8,8,8,8,8,8,8,8,8,8,8,8,8,8,8,8,8,8,8,8,8,8,8,8,8,8,8,8,8,8,8,8,8,8,8,8,8,8,8,8,8,8,8,8,8,8,8,8,8,8,8,8,8,8,8,8,8,8,8,8,8,8,8,8,8,8,8,8,8,8,8,8,8,8,8,8,8,8,8,8,8,8,8,8,8,8,8,8,8,8,8,8,8,8]⟩)) (vT 15)),
 vO 17 (.conv .i64 (vT 16)),
 vO 18 (.bin .add (vT 13) (vT 17)),
 vM 2 18])<|
 .keep [2]<|
 .ret⟩
theorem e_zz67:EntOK Tryz.prog (compD Tryz.prog) k_zz67 i_zz67.vf:=
 ⟨Tryz.f160,Tryz.f160.body.getD .skip,Tryz.func160,by kernel_rfl,by kernel_rfl,by kernel_rfl,by kernel_rfl,by kernel_rfl⟩
/-- math/bits.Len64 -/
def i_zz68:FF:=⟨25,[.tmp 2],
 .seq (.ops [
 vO 2 (.mv (vC 0))])<|
 .seq (.seq (.ops [
 vM 3 0,
 vO 4 (.bin .geq (vT 3) (.const (.int .u64 4294967296)))])<|
 .cond (vT 4)
 (.seq (.ops [
 vM 5 0,
 vO 6 (.bin .shr (vT 5) (.const (.int .u64 32))),
 vM 0 6])<|
 .ops [
 vO 2 (.mv (vC 32))])
 (.skip))<|
 .seq (.seq (.ops [
 vM 7 0,
 vO 8 (.bin .geq (vT 7) (.const (.int .u64 65536)))])<|
 .cond (vT 8)
 (.seq (.ops [
 vM 9 0,
 vO 10 (.bin .shr (vT 9) (.const (.int .u64 16))),
 vM 0 10])<|
 .ops [
 vM 11 2,
 vO 12 (.bin .add (vT 11) (vC 16)),
 vM 2 12])
 (.skip))<|
 .seq (.seq (.ops [
 vM 13 0,
 vO 14 (.bin .geq (vT 13) (.const (.int .u64 256)))])<|
 .cond (vT 14)
 (.seq (.ops [
 vM 15 0,
 vO 16 (.bin .shr (vT 15) (.const (.int .u64 8))),
 vM 0 16])<|
 .ops [
 vM 17 2,
 vO 18 (.bin .add (vT 17) (vC 8)),
 vM 2 18])
 (.skip))<|
 .seq (.ops [
 vM 19 2,
 vM 20 0,
 vO 21 (.conv .u8 (vT 20)),
 vO 22 (.idxStr (.const (.string ⟨#[0,1,2,2,3,3,3,3,4,4,4,4,4,4,4,4,5,5,5,5,5,5,5,5,5,5,5,5,5,5,5,5,6,6,6,6,6,6,6,6,6,6,6,6,6,6,6,6,6,6,6,6,6,6,6,6,6,6,6,6,6,6,6,6,7,7,7,7,7,7,7,7,7,7,7,7,7,7,7,7,7,7,7,7,7,7,7,7,7,7,7,7,7,7,7,7,7,7,7,7,7,7,7,7,7,7,7,7,7,7,7,7,7,7,7,7,7,7,7,7,7,7,7,7,7,7,7,7,8,8,8,8,8,8,8,8,8,8,8,8,8,8,8,8,8,8,8,8,8,8,8,8,8,8,8,8,8,8,8,8,8,8,8,8,8,8,8,8,8,8,8,8,8,8,8,8,8,8,8,8,8,8,8,8,8,8,8,8,8,8,8,8,8,8,8,8,8,8,8,8,8,8,8,8,8,8,8,8,8,8,8,8,8,8,8,8,8,8,8,8,8,8,8,8,8,8,8,8,8,8,8,8,8,8,8,8,8,8,8,8,8,8,8,8,8,8,8,8,8,8,8,8,8,8,8,8]⟩)) (vT 21)),
 vO 23 (.conv .i64 (vT 22)),
 vO 24 (.bin .add (vT 19) (vT 23)),
 vM 2 24])<|
 .keep [2]<|
 .ret⟩
theorem e_zz68:EntOK Tryz.prog (compD Tryz.prog) k_zz68 i_zz68.vf:=
 ⟨Tryz.f161,Tryz.f161.body.getD .skip,Tryz.func161,by kernel_rfl,by kernel_rfl,by kernel_rfl,by kernel_rfl,by kernel_rfl⟩
/-- cmp.isNaN[int64] -/
def i_zz63:FF:=⟨6,[.tmp 2],
 .seq (.ops [
 vO 2 (.mv (.const (.bool false)))])<|
 .seq (.ops [
 vM 3 0,
 vM 4 0,
 vO 5 (.bin .neq (vT 3) (vT 4)),
 vM 2 5])<|
 .keep [2]<|
 .ret⟩
theorem e_zz63:EntOK Tryz.prog (compD Tryz.prog) k_zz63 i_zz63.vf:=
 ⟨Tryz.f162,Tryz.f162.body.getD .skip,Tryz.func162,by kernel_rfl,by kernel_rfl,by kernel_rfl,by kernel_rfl,by kernel_rfl⟩
def i_zz58:FF:=⟨11,[.tmp 4],
 .seq (.ops [
 vO 2 (.box 2 (vT 0)),
 vO 4 (.mv (vC 0))])<|
 .seq (.ops [
 vO 5 (.fld 1 (vT 2)),
 vO 6 (.load false 1 (vT 5)),
 vM 7 1,
 vO 8 (.idx 1 (vT 6) (vT 7)),
 vO 9 (.load false 1 (vT 8)),
 vO 10 (.call k_zz106 [vT 9]),
 vM 4 10])<|
 .keep [4]<|
 .ret⟩
theorem e_zz58:EntOK Tryz.prog (compD Tryz.prog) k_zz58 i_zz58.vf:=
 ⟨Tryz.f170,Tryz.f170.body.getD .skip,Tryz.func170,by kernel_rfl,by kernel_rfl,by kernel_rfl,by kernel_rfl,by kernel_rfl⟩
/-- slices.Repeat[[]int64,int64] -/
def i_zz31_B1:FC:=
 .seq (.seq (.ops [
 vM 34 8,
 vM 35 7,
 vO 36 (.len (vT 35)),
 vO 37 (.bin .lss (vT 34) (vT 36))])<|
 .cond (vT 37)
 (.skip)
 (.keep [7]<|
 .exit 0))<|
 .block 1<|
 .dops [
 vM 39 7,
 vM 40 8,
 vO 41 (.slc 1 (vT 39) (some (vT 40)) none),
 vM 42 7,
 vM 43 8,
 vO 44 (.slc 1 (vT 42) none (some (vT 43))),
 vO 45 (.cpy 1 (vT 41) (vT 44)),
 ⟨some 38,.mv (vT 8),none,1⟩,
 vO 46 (.bin .add (vT 38) (vT 45)),
 vM 8 46]
def i_zz31:FF:=⟨48,[.tmp 4],
 .seq (.ops [
 vO 4 (.mv (.const (.slice none 0 0)))])<|
 .seq (.seq (.ops [
 vM 9 1,
 vO 10 (.bin .lss (vT 9) (vC 0))])<|
 .cond (vT 10)
 (.ops [
 vO 11 (.stop),
 ⟨none,.stop,none,0⟩])
 (.skip))<|
 .seq (.ops [
 vM 13 0,
 vO 14 (.len (vT 13)),
 vO 15 (.conv .u64 (vT 14)),
 vM 16 1,
 vO 17 (.conv .u64 (vT 16)),
 vO 18 (.call k_zz83 [vT 15,vT 17]),
 vM 12 18,
 vO 19 (.ext (vT 12) 0),
 vO 20 (.ext (vT 12) 1),
 vM 5 19,
 vM 6 20])<|
 .seq (.seq (.ops [
 vM 21 5,
 vO 22 (.bin .gtr (vT 21) (.const (.int .u64 0))),
 vM 23 22,
 ⟨some 24,.mv (vT 6),some (23,false),0⟩,
 ⟨some 25,.bin .gtr (vT 24) (.const (.int .u64 9223372036854775807)),some (23,false),0⟩,
 vO 26 (.pick (vT 23) (.const (.bool true)) (vT 25))])<|
 .cond (vT 26)
 (.ops [
 vO 27 (.stop),
 ⟨none,.stop,none,0⟩])
 (.skip))<|
 .seq (.ops [
 vM 28 6,
 vO 29 (.conv .i64 (vT 28)),
 vO 30 (.mkSl 1 [.int .i64 0] 8 (vT 29) (vT 29)),
 vM 7 30])<|
 .seq (.ops [
 vM 31 7,
 vM 32 0,
 vO 33 (.cpy 1 (vT 31) (vT 32)),
 vM 8 33])<|
 .seq (.block 0<|
 .loop [7,8] i_zz31_B1)<|
 .seq (.ops [
 vM 47 7,
 vM 4 47])<|
 .keep [4]<|
 .ret⟩
theorem e_zz31:EntOK Tryz.prog (compD Tryz.prog) k_zz31 i_zz31.vf:=
 ⟨Tryz.f171,Tryz.f171.body.getD .skip,Tryz.func171,by kernel_rfl,by kernel_rfl,by kernel_rfl,by kernel_rfl,by kernel_rfl⟩
/-- slices.insertionSortOrdered[int64] -/
def i_zz12_B1:FC:=
 .seq (.seq (.dops [
 vM 16 7,
 vM 17 1,
 vO 18 (.bin .gtr (vT 16) (vT 17)),
 vM 19 18,
 ⟨some 20,.mv (vT 0),some (19,true),0⟩,
 ⟨some 21,.mv (vT 7),some (19,true),0⟩,
 ⟨some 22,.idx 1 (vT 20) (vT 21),some (19,true),0⟩,
 ⟨some 23,.load false 1 (vT 22),some (19,true),0⟩,
 ⟨some 24,.mv (vT 0),some (19,true),0⟩,
 ⟨some 25,.mv (vT 7),some (19,true),0⟩,
 ⟨some 26,.bin .sub (vT 25) (vC 1),some (19,true),0⟩,
 ⟨some 27,.idx 1 (vT 24) (vT 26),some (19,true),0⟩,
 ⟨some 28,.load false 1 (vT 27),some (19,true),0⟩,
 ⟨some 29,.call k_zz71 [vT 23,vT 28],some (19,true),0⟩,
 vO 30 (.pick (vT 19) (vT 29) (.const (.bool false)))])<|
 .cond (vT 30)
 (.skip)
 (.keep [0,1,2,6]<|
 .exit 2))<|
 .seq (.block 3<|
 .dops [
 vM 33 0,
 vM 34 7,
 vM 38 0,
 vM 39 7,
 vO 40 (.bin .sub (vT 39) (vC 1)),
 vO 41 (.idx 1 (vT 38) (vT 40)),
 vO 42 (.load false 1 (vT 41)),
 vM 43 0,
 vM 44 7,
 vO 45 (.idx 1 (vT 43) (vT 44)),
 vO 46 (.load false 1 (vT 45)),
 vO 47 (.idx 1 (vT 33) (vT 34)),
 ⟨none,.store 1 (vT 47) (vT 42),none,0⟩,
 ⟨some 35,.mv (vT 0),none,1⟩,
 ⟨some 36,.mv (vT 7),none,1⟩,
 ⟨some 37,.bin .sub (vT 36) (vC 1),none,1⟩,
 vO 48 (.idx 1 (vT 35) (vT 37)),
 ⟨none,.store 1 (vT 48) (vT 46),none,0⟩])<|
 .ops [
 vM 31 7,
 vO 32 (.bin .sub (vT 31) (vC 1)),
 vM 7 32]
def i_zz12_B2:FC:=
 .seq (.seq (.ops [
 vM 10 6,
 vM 11 2,
 vO 12 (.bin .lss (vT 10) (vT 11))])<|
 .cond (vT 12)
 (.skip)
 (.keep []<|
 .exit 0))<|
 .seq (.block 1<|
 .seq (.ops [
 vM 15 6,
 vM 7 15])<|
 .block 2<|
 .loop [0,1,2,6,7] i_zz12_B1)<|
 .ops [
 vM 13 6,
 vO 14 (.bin .add (vT 13) (vC 1)),
 vM 6 14]
def i_zz12:FF:=⟨49,[],
 .seq (.ops [
 vM 8 1,
 vO 9 (.bin .add (vT 8) (vC 1)),
 vM 6 9])<|
 .block 0<|
 .loop [0,1,2,6] i_zz12_B2⟩
theorem e_zz12:EntOK Tryz.prog (compD Tryz.prog) k_zz12 i_zz12.vf:=
 ⟨Tryz.f174,Tryz.f174.body.getD .skip,Tryz.func174,by kernel_rfl,by kernel_rfl,by kernel_rfl,by kernel_rfl,by kernel_rfl⟩
/-- slices.heapSortOrdered[int64] -/
def i_zz23_B1:FC:=
 .seq (.seq (.ops [
 vM 18 9,
 vO 19 (.bin .geq (vT 18) (vC 0))])<|
 .cond (vT 19)
 (.skip)
 (.keep [0,6,7,8]<|
 .exit 0))<|
 .seq (.block 1<|
 .ops [
 vM 22 0,
 vM 23 9,
 vM 24 8,
 vM 25 6,
 vO 26 (.call k_zz24 [vT 22,vT 23,vT 24,vT 25])])<|
 .ops [
 vM 20 9,
 vO 21 (.bin .sub (vT 20) (vC 1)),
 vM 9 21]
def i_zz23_B2:FC:=
 .seq (.seq (.ops [
 vM 29 10,
 vO 30 (.bin .geq (vT 29) (vC 0))])<|
 .cond (vT 30)
 (.skip)
 (.keep []<|
 .exit 2))<|
 .seq (.block 3<|
 .seq (.dops [
 vM 33 0,
 vM 34 6,
 vM 39 0,
 vM 40 6,
 vM 41 10,
 vO 42 (.bin .add (vT 40) (vT 41)),
 vO 43 (.idx 1 (vT 39) (vT 42)),
 vO 44 (.load false 1 (vT 43)),
 vM 45 0,
 vM 46 6,
 vO 47 (.idx 1 (vT 45) (vT 46)),
 vO 48 (.load false 1 (vT 47)),
 vO 49 (.idx 1 (vT 33) (vT 34)),
 ⟨none,.store 1 (vT 49) (vT 44),none,0⟩,
 ⟨some 35,.mv (vT 0),none,1⟩,
 ⟨some 36,.mv (vT 6),none,1⟩,
 ⟨some 37,.mv (vT 10),none,1⟩,
 ⟨some 38,.bin .add (vT 36) (vT 37),none,1⟩,
 vO 50 (.idx 1 (vT 35) (vT 38)),
 ⟨none,.store 1 (vT 50) (vT 48),none,0⟩])<|
 .ops [
 vM 51 0,
 vM 52 7,
 vM 53 10,
 vM 54 6,
 vO 55 (.call k_zz24 [vT 51,vT 52,vT 53,vT 54])])<|
 .ops [
 vM 31 10,
 vO 32 (.bin .sub (vT 31) (vC 1)),
 vM 10 32]
def i_zz23:FF:=⟨56,[],
 .seq (.ops [
 vM 11 1,
 vM 6 11])<|
 .seq (.ops [
 vO 7 (.mv (vC 0))])<|
 .seq (.ops [
 vM 12 2,
 vM 13 1,
 vO 14 (.bin .sub (vT 12) (vT 13)),
 vM 8 14])<|
 .seq (.seq (.ops [
 vM 15 8,
 vO 16 (.bin .sub (vT 15) (vC 1)),
 vO 17 (.bin .quo (vT 16) (vC 2)),
 vM 9 17])<|
 .block 0<|
 .loop [0,6,7,8,9] i_zz23_B1)<|
 .seq (.ops [
 vM 27 8,
 vO 28 (.bin .sub (vT 27) (vC 1)),
 vM 10 28])<|
 .block 2<|
 .loop [0,6,7,10] i_zz23_B2⟩
theorem e_zz23:EntOK Tryz.prog (compD Tryz.prog) k_zz23 i_zz23.vf:=
 ⟨Tryz.f175,Tryz.f175.body.getD .skip,Tryz.func175,by kernel_rfl,by kernel_rfl,by kernel_rfl,by kernel_rfl,by kernel_rfl⟩
/-- slices.breakPatternsOrdered[int64] -/
def i_zz11_B1:FC:=
 .seq (.seq (.ops [
 vM 26 9,
 vM 27 1,
 vM 28 6,
 vO 29 (.bin .quo (vT 28) (vC 4)),
 vO 30 (.bin .mul (vT 29) (vC 2)),
 vO 31 (.bin .add (vT 27) (vT 30)),
 vO 32 (.bin .add (vT 31) (vC 1)),
 vO 33 (.bin .leq (vT 26) (vT 32))])<|
 .cond (vT 33)
 (.skip)
 (.keep []<|
 .exit 0))<|
 .seq (.block 1<|
 .seq (.ops [
 vO 36 (.call k_zz46 [vT 7]),
 vM 37 8,
 vO 38 (.bin .sub (vT 37) (.const (.int .u64 1))),
 vO 39 (.bin .and (vT 36) (vT 38)),
 vO 40 (.conv .i64 (vT 39)),
 vM 10 40])<|
 .seq (.seq (.ops [
 vM 41 10,
 vM 42 6,
 vO 43 (.bin .geq (vT 41) (vT 42))])<|
 .cond (vT 43)
 (.ops [
 vM 44 10,
 vM 45 6,
 vO 46 (.bin .sub (vT 44) (vT 45)),
 vM 10 46])
 (.skip))<|
 .dops [
 vM 47 0,
 vM 48 9,
 vM 53 0,
 vM 54 1,
 vM 55 10,
 vO 56 (.bin .add (vT 54) (vT 55)),
 vO 57 (.idx 1 (vT 53) (vT 56)),
 vO 58 (.load false 1 (vT 57)),
 vM 59 0,
 vM 60 9,
 vO 61 (.idx 1 (vT 59) (vT 60)),
 vO 62 (.load false 1 (vT 61)),
 vO 63 (.idx 1 (vT 47) (vT 48)),
 ⟨none,.store 1 (vT 63) (vT 58),none,0⟩,
 ⟨some 49,.mv (vT 0),none,1⟩,
 ⟨some 50,.mv (vT 1),none,1⟩,
 ⟨some 51,.mv (vT 10),none,1⟩,
 ⟨some 52,.bin .add (vT 50) (vT 51),none,1⟩,
 vO 64 (.idx 1 (vT 49) (vT 52)),
 ⟨none,.store 1 (vT 64) (vT 62),none,0⟩])<|
 .ops [
 vM 34 9,
 vO 35 (.bin .add (vT 34) (vC 1)),
 vM 9 35]
def i_zz11:FF:=⟨65,[],
 .seq (.ops [
 vM 11 2,
 vM 12 1,
 vO 13 (.bin .sub (vT 11) (vT 12)),
 vM 6 13])<|
 .seq (.ops [
 vM 14 6,
 vO 15 (.bin .geq (vT 14) (vC 8))])<|
 .cond (vT 15)
 (.seq (.ops [
 vM 16 6,
 vO 17 (.conv .u64 (vT 16)),
 vO 7 (.alloc [.int .u64 0]),
 ⟨none,.store 1 (vT 7) (vT 17),none,0⟩])<|
 .seq (.ops [
 vM 18 6,
 vO 19 (.call k_zz43 [vT 18]),
 vM 8 19])<|
 .seq (.ops [
 vM 20 1,
 vM 21 6,
 vO 22 (.bin .quo (vT 21) (vC 4)),
 vO 23 (.bin .mul (vT 22) (vC 2)),
 vO 24 (.bin .add (vT 20) (vT 23)),
 vO 25 (.bin .sub (vT 24) (vC 1)),
 vM 9 25])<|
 .block 0<|
 .loop [0,1,6,7,8,9] i_zz11_B1)
 (.skip)⟩
theorem e_zz11:EntOK Tryz.prog (compD Tryz.prog) k_zz11 i_zz11.vf:=
 ⟨Tryz.f176,Tryz.f176.body.getD .skip,Tryz.func176,by kernel_rfl,by kernel_rfl,by kernel_rfl,by kernel_rfl,by kernel_rfl⟩
/-- slices.choosePivotOrdered[int64] -/
def i_zz17:FF:=⟨57,[.tmp 6,.tmp 7],
 .seq (.ops [
 vO 6 (.mv (vC 0)),
 vO 7 (.mv (vC 0))])<|
 .seq (.ops [
 vM 13 2,
 vM 14 1,
 vO 15 (.bin .sub (vT 13) (vT 14)),
 vM 8 15])<|
 .seq (.ops [
 vO 9 (.alloc [.int .i64 0])])<|
 .seq (.ops [
 vM 16 1,
 vM 17 8,
 vO 18 (.bin .quo (vT 17) (vC 4)),
 vO 19 (.bin .mul (vT 18) (vC 1)),
 vO 20 (.bin .add (vT 16) (vT 19)),
 vM 10 20])<|
 .seq (.ops [
 vM 21 1,
 vM 22 8,
 vO 23 (.bin .quo (vT 22) (vC 4)),
 vO 24 (.bin .mul (vT 23) (vC 2)),
 vO 25 (.bin .add (vT 21) (vT 24)),
 vM 11 25])<|
 .seq (.ops [
 vM 26 1,
 vM 27 8,
 vO 28 (.bin .quo (vT 27) (vC 4)),
 vO 29 (.bin .mul (vT 28) (vC 3)),
 vO 30 (.bin .add (vT 26) (vT 29)),
 vM 12 30])<|
 .seq (.seq (.ops [
 vM 31 8,
 vO 32 (.bin .geq (vT 31) (vC 8))])<|
 .cond (vT 32)
 (.seq (.seq (.ops [
 vM 33 8,
 vO 34 (.bin .geq (vT 33) (vC 50))])<|
 .cond (vT 34)
 (.seq (.ops [
 vM 35 0,
 vM 36 10,
 vO 37 (.call k_zz9 [vT 35,vT 36,vT 9]),
 vM 10 37])<|
 .seq (.ops [
 vM 38 0,
 vM 39 11,
 vO 40 (.call k_zz9 [vT 38,vT 39,vT 9]),
 vM 11 40])<|
 .ops [
 vM 41 0,
 vM 42 12,
 vO 43 (.call k_zz9 [vT 41,vT 42,vT 9]),
 vM 12 43])
 (.skip))<|
 .ops [
 vM 44 0,
 vM 45 10,
 vM 46 11,
 vM 47 12,
 vO 48 (.call k_zz28 [vT 44,vT 45,vT 46,vT 47,vT 9]),
 vM 11 48])
 (.skip))<|
 .seq (.ops [
 vO 49 (.load false 1 (vT 9))])<|
 .block 0<|
 .seq (.ops [
 vO 52 (.bin .eql (vT 49) (vC 0)),
 vM 51 52])<|
 .cond (vT 51)
 (.seq (.ops [
 vM 53 11,
 vM 6 53,
 vO 7 (.mv (vC 1))])<|
 .keep [6,7]<|
 .ret)
 (.seq (.ops [
 vO 55 (.bin .eql (vT 49) (vC 12)),
 vM 54 55])<|
 .cond (vT 54)
 (.seq (.ops [
 vM 56 11,
 vM 6 56,
 vO 7 (.mv (vC 2))])<|
 .keep [6,7]<|
 .ret)
 (.seq (.ops [
 vM 50 11,
 vM 6 50,
 vO 7 (.mv (vC 0))])<|
 .keep [6,7]<|
 .ret))⟩
theorem e_zz17:EntOK Tryz.prog (compD Tryz.prog) k_zz17 i_zz17.vf:=
 ⟨Tryz.f177,Tryz.f177.body.getD .skip,Tryz.func177,by kernel_rfl,by kernel_rfl,by kernel_rfl,by kernel_rfl,by kernel_rfl⟩
/-- slices.reverseRangeOrdered[int64] -/
def i_zz15_B1:FC:=
 .seq (.seq (.ops [
 vM 11 6,
 vM 12 7,
 vO 13 (.bin .lss (vT 11) (vT 12))])<|
 .cond (vT 13)
 (.skip)
 (.keep []<|
 .exit 0))<|
 .block 1<|
 .seq (.dops [
 vM 14 0,
 vM 15 6,
 vM 18 0,
 vM 19 7,
 vO 20 (.idx 1 (vT 18) (vT 19)),
 vO 21 (.load false 1 (vT 20)),
 vM 22 0,
 vM 23 6,
 vO 24 (.idx 1 (vT 22) (vT 23)),
 vO 25 (.load false 1 (vT 24)),
 vO 26 (.idx 1 (vT 14) (vT 15)),
 ⟨none,.store 1 (vT 26) (vT 21),none,0⟩,
 ⟨some 16,.mv (vT 0),none,1⟩,
 ⟨some 17,.mv (vT 7),none,1⟩,
 vO 27 (.idx 1 (vT 16) (vT 17)),
 ⟨none,.store 1 (vT 27) (vT 25),none,0⟩])<|
 .seq (.ops [
 vM 28 6,
 vO 29 (.bin .add (vT 28) (vC 1)),
 vM 6 29])<|
 .ops [
 vM 30 7,
 vO 31 (.bin .sub (vT 30) (vC 1)),
 vM 7 31]
def i_zz15:FF:=⟨32,[],
 .seq (.ops [
 vM 8 1,
 vM 6 8])<|
 .seq (.ops [
 vM 9 2,
 vO 10 (.bin .sub (vT 9) (vC 1)),
 vM 7 10])<|
 .block 0<|
 .loop [0,6,7] i_zz15_B1⟩
theorem e_zz15:EntOK Tryz.prog (compD Tryz.prog) k_zz15 i_zz15.vf:=
 ⟨Tryz.f178,Tryz.f178.body.getD .skip,Tryz.func178,by kernel_rfl,by kernel_rfl,by kernel_rfl,by kernel_rfl,by kernel_rfl⟩
end

end Go.Proofs.YtbomdghbblakoaaGreatDoor.Zv

