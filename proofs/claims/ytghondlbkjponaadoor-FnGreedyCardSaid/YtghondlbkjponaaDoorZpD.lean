/- Part D of the proof: ZwIr, ZvSym, ZvNum, ZwTz, ZvSl, ZvEnd, ZvRow, ZwRowA, ZwRow0, ZwLaws, ZwU. Conditions: none. -/
import Derived.Below
import Derived.ChangeOld
import Derived.ChangeSame
import Derived.ChangeVars
import Derived.IntWalk
import Derived.JoinedOf
import Derived.Laws.Pointers
import Derived.Lib.Hide
import Derived.Lib.SmallJoins
import Derived.OpenShut
import Derived.ProofKit
import Derived.RegionTactic
import Derived.ShutString
import Derived.SizedLaws
import Derived.StillTactics
import Derived.Tactics
import Derived.Tactics2
import Derived.Test.YtghondlbkjponaaDoorProg
import Derived.Test.YtghondlbkjponaaDoorRows
import Derived.Test.YtghondlbkjponaaDoorZpB
import Derived.Test.YtghondlbkjponaaDoorZpC
set_option linter.unusedSimpArgs false
set_option linter.unusedVariables false
/- The functions' intermediate form. -/
namespace Go.Proofs.YtghondlbkjponaaDoor.Zv
open Go
/-- loop.example/g01331/spec.l01Named -/
def i_spec_l01Named_B1 : FC :=
  .seq (.seq (.ops [
    ⟨some 46, .mv (.tmp 7), none, 0⟩,
    ⟨some 47, .mv (.tmp 4), none, 0⟩,
    ⟨some 48, .bin .lss (.tmp 46) (.tmp 47), none, 0⟩]) <|
  .cond (.tmp 48)
    (.skip)
    (.keep [2, 4, 5, 6] <|
    .exit 3)) <|
  .seq (.block 4 <|
  .ops [
    ⟨some 51, .load true 2 (.tmp 5), none, 0⟩,
    ⟨some 52, .mv (.tmp 6), none, 0⟩,
    ⟨some 53, .mv (.tmp 6), none, 0⟩,
    ⟨some 54, .mv (.tmp 7), none, 0⟩,
    ⟨some 55, .bin .xor (.tmp 53) (.tmp 54), none, 0⟩,
    ⟨some 56, .call k_spec_l01Put [(.tmp 51), (.tmp 52), (.tmp 55)], none, 0⟩]) <|
  .ops [
    ⟨some 49, .mv (.tmp 7), none, 0⟩,
    ⟨some 50, .bin .mul (.const (.int .i64 2)) (.tmp 49), none, 0⟩,
    ⟨some 7, .mv (.tmp 50), none, 0⟩]
def i_spec_l01Named_B2 : FC :=
  .seq (.seq (.ops [
    ⟨some 41, .mv (.tmp 6), none, 0⟩,
    ⟨some 42, .mv (.tmp 4), none, 0⟩,
    ⟨some 43, .bin .lss (.tmp 41) (.tmp 42), none, 0⟩]) <|
  .cond (.tmp 43)
    (.skip)
    (.keep [2, 5] <|
    .exit 1)) <|
  .seq (.block 2 <|
  .seq (.seq (.ops [
    ⟨some 7, .mv (.const (.int .i64 1)), none, 0⟩]) <|
  .block 3 <|
  .loop [2, 4, 5, 6, 7] i_spec_l01Named_B1) <|
  .seq (.ops [
    ⟨some 57, .mv (.tmp 4), none, 0⟩,
    ⟨some 58, .bin .eql (.tmp 57) (.const (.int .i64 16)), none, 0⟩]) <|
  .cond (.tmp 58)
    (.ops [
      ⟨some 59, .load true 2 (.tmp 5), none, 0⟩,
      ⟨some 60, .mv (.tmp 6), none, 0⟩,
      ⟨some 61, .mv (.tmp 6), none, 0⟩,
      ⟨some 62, .bin .sub (.const (.int .i64 15)) (.tmp 61), none, 0⟩,
      ⟨some 63, .call k_spec_l01Put [(.tmp 59), (.tmp 60), (.tmp 62)], none, 0⟩])
    (.skip)) <|
  .ops [
    ⟨some 44, .mv (.tmp 6), none, 0⟩,
    ⟨some 45, .bin .add (.tmp 44) (.const (.int .i64 1)), none, 0⟩,
    ⟨some 6, .mv (.tmp 45), none, 0⟩]
def i_spec_l01Named_B3 : FC :=
  .seq (.seq (.ops [
    ⟨some 68, .mv (.tmp 9), none, 0⟩,
    ⟨some 69, .bin .lss (.tmp 68) (.const (.int .i64 5)), none, 0⟩]) <|
  .cond (.tmp 69)
    (.skip)
    (.keep [2, 8] <|
    .exit 5)) <|
  .seq (.block 6 <|
  .seq (.ops [
    ⟨some 72, .load true 2 (.tmp 8), none, 0⟩,
    ⟨some 73, .mv (.tmp 9), none, 0⟩,
    ⟨some 74, .mv (.tmp 9), none, 0⟩,
    ⟨some 75, .bin .add (.tmp 74) (.const (.int .i64 1)), none, 0⟩,
    ⟨some 76, .bin .rem (.tmp 75) (.const (.int .i64 5)), none, 0⟩,
    ⟨some 77, .call k_spec_l01Put [(.tmp 72), (.tmp 73), (.tmp 76)], none, 0⟩]) <|
  .seq (.ops [
    ⟨some 78, .load true 2 (.tmp 8), none, 0⟩,
    ⟨some 79, .mv (.tmp 9), none, 0⟩,
    ⟨some 80, .mv (.tmp 9), none, 0⟩,
    ⟨some 81, .bin .add (.tmp 80) (.const (.int .i64 5)), none, 0⟩,
    ⟨some 82, .call k_spec_l01Put [(.tmp 78), (.tmp 79), (.tmp 81)], none, 0⟩]) <|
  .ops [
    ⟨some 83, .load true 2 (.tmp 8), none, 0⟩,
    ⟨some 84, .mv (.tmp 9), none, 0⟩,
    ⟨some 85, .bin .add (.tmp 84) (.const (.int .i64 5)), none, 0⟩,
    ⟨some 86, .mv (.tmp 9), none, 0⟩,
    ⟨some 87, .bin .add (.tmp 86) (.const (.int .i64 2)), none, 0⟩,
    ⟨some 88, .bin .rem (.tmp 87) (.const (.int .i64 5)), none, 0⟩,
    ⟨some 89, .bin .add (.tmp 88) (.const (.int .i64 5)), none, 0⟩,
    ⟨some 90, .call k_spec_l01Put [(.tmp 83), (.tmp 85), (.tmp 89)], none, 0⟩]) <|
  .ops [
    ⟨some 70, .mv (.tmp 9), none, 0⟩,
    ⟨some 71, .bin .add (.tmp 70) (.const (.int .i64 1)), none, 0⟩,
    ⟨some 9, .mv (.tmp 71), none, 0⟩]
def i_spec_l01Named_B4 : FC :=
  .seq (.seq (.ops [
    ⟨some 95, .mv (.tmp 11), none, 0⟩,
    ⟨some 96, .bin .lss (.tmp 95) (.const (.int .i64 5)), none, 0⟩]) <|
  .cond (.tmp 96)
    (.skip)
    (.keep [2, 10] <|
    .exit 7)) <|
  .seq (.block 8 <|
  .seq (.ops [
    ⟨some 99, .mv (.tmp 11), none, 0⟩,
    ⟨some 100, .bin .add (.tmp 99) (.const (.int .i64 1)), none, 0⟩,
    ⟨some 101, .bin .rem (.tmp 100) (.const (.int .i64 5)), none, 0⟩,
    ⟨some 12, .mv (.tmp 101), none, 0⟩]) <|
  .seq (.ops [
    ⟨some 102, .load true 2 (.tmp 10), none, 0⟩,
    ⟨some 103, .mv (.tmp 11), none, 0⟩,
    ⟨some 104, .bin .add (.const (.int .i64 1)) (.tmp 103), none, 0⟩,
    ⟨some 105, .call k_spec_l01Put [(.tmp 102), (.const (.int .i64 0)), (.tmp 104)], none, 0⟩]) <|
  .seq (.ops [
    ⟨some 106, .load true 2 (.tmp 10), none, 0⟩,
    ⟨some 107, .mv (.tmp 11), none, 0⟩,
    ⟨some 108, .bin .add (.const (.int .i64 6)) (.tmp 107), none, 0⟩,
    ⟨some 109, .call k_spec_l01Put [(.tmp 106), (.const (.int .i64 11)), (.tmp 108)], none, 0⟩]) <|
  .seq (.ops [
    ⟨some 110, .load true 2 (.tmp 10), none, 0⟩,
    ⟨some 111, .mv (.tmp 11), none, 0⟩,
    ⟨some 112, .bin .add (.const (.int .i64 1)) (.tmp 111), none, 0⟩,
    ⟨some 113, .mv (.tmp 12), none, 0⟩,
    ⟨some 114, .bin .add (.const (.int .i64 1)) (.tmp 113), none, 0⟩,
    ⟨some 115, .call k_spec_l01Put [(.tmp 110), (.tmp 112), (.tmp 114)], none, 0⟩]) <|
  .seq (.ops [
    ⟨some 116, .load true 2 (.tmp 10), none, 0⟩,
    ⟨some 117, .mv (.tmp 11), none, 0⟩,
    ⟨some 118, .bin .add (.const (.int .i64 6)) (.tmp 117), none, 0⟩,
    ⟨some 119, .mv (.tmp 12), none, 0⟩,
    ⟨some 120, .bin .add (.const (.int .i64 6)) (.tmp 119), none, 0⟩,
    ⟨some 121, .call k_spec_l01Put [(.tmp 116), (.tmp 118), (.tmp 120)], none, 0⟩]) <|
  .seq (.ops [
    ⟨some 122, .load true 2 (.tmp 10), none, 0⟩,
    ⟨some 123, .mv (.tmp 11), none, 0⟩,
    ⟨some 124, .bin .add (.const (.int .i64 1)) (.tmp 123), none, 0⟩,
    ⟨some 125, .mv (.tmp 11), none, 0⟩,
    ⟨some 126, .bin .add (.const (.int .i64 6)) (.tmp 125), none, 0⟩,
    ⟨some 127, .call k_spec_l01Put [(.tmp 122), (.tmp 124), (.tmp 126)], none, 0⟩]) <|
  .ops [
    ⟨some 128, .load true 2 (.tmp 10), none, 0⟩,
    ⟨some 129, .mv (.tmp 11), none, 0⟩,
    ⟨some 130, .bin .add (.const (.int .i64 1)) (.tmp 129), none, 0⟩,
    ⟨some 131, .mv (.tmp 12), none, 0⟩,
    ⟨some 132, .bin .add (.const (.int .i64 6)) (.tmp 131), none, 0⟩,
    ⟨some 133, .call k_spec_l01Put [(.tmp 128), (.tmp 130), (.tmp 132)], none, 0⟩]) <|
  .ops [
    ⟨some 97, .mv (.tmp 11), none, 0⟩,
    ⟨some 98, .bin .add (.tmp 97) (.const (.int .i64 1)), none, 0⟩,
    ⟨some 11, .mv (.tmp 98), none, 0⟩]
def i_spec_l01Named_B5 : FC :=
  .seq (.seq (.ops [
    ⟨some 172, .mv (.tmp 16), none, 0⟩,
    ⟨some 173, .bin .lss (.tmp 172) (.const (.int .i64 5)), none, 0⟩]) <|
  .cond (.tmp 173)
    (.skip)
    (.keep [2, 13, 14, 15] <|
    .exit 13)) <|
  .seq (.block 14 <|
  .ops [
    ⟨some 176, .load true 2 (.tmp 13), none, 0⟩,
    ⟨some 177, .mv (.tmp 14), none, 0⟩,
    ⟨some 178, .bin .mul (.const (.int .i64 5)) (.tmp 177), none, 0⟩,
    ⟨some 179, .mv (.tmp 15), none, 0⟩,
    ⟨some 180, .bin .add (.tmp 178) (.tmp 179), none, 0⟩,
    ⟨some 181, .mv (.tmp 16), none, 0⟩,
    ⟨some 182, .bin .mul (.const (.int .i64 5)) (.tmp 181), none, 0⟩,
    ⟨some 183, .bin .add (.const (.int .i64 25)) (.tmp 182), none, 0⟩,
    ⟨some 184, .mv (.tmp 14), none, 0⟩,
    ⟨some 185, .mv (.tmp 16), none, 0⟩,
    ⟨some 186, .bin .mul (.tmp 184) (.tmp 185), none, 0⟩,
    ⟨some 187, .mv (.tmp 15), none, 0⟩,
    ⟨some 188, .bin .add (.tmp 186) (.tmp 187), none, 0⟩,
    ⟨some 189, .bin .rem (.tmp 188) (.const (.int .i64 5)), none, 0⟩,
    ⟨some 190, .bin .add (.tmp 183) (.tmp 189), none, 0⟩,
    ⟨some 191, .call k_spec_l01Put [(.tmp 176), (.tmp 180), (.tmp 190)], none, 0⟩]) <|
  .ops [
    ⟨some 174, .mv (.tmp 16), none, 0⟩,
    ⟨some 175, .bin .add (.tmp 174) (.const (.int .i64 1)), none, 0⟩,
    ⟨some 16, .mv (.tmp 175), none, 0⟩]
def i_spec_l01Named_B6 : FC :=
  .seq (.seq (.ops [
    ⟨some 142, .mv (.tmp 15), none, 0⟩,
    ⟨some 143, .bin .lss (.tmp 142) (.const (.int .i64 5)), none, 0⟩]) <|
  .cond (.tmp 143)
    (.skip)
    (.keep [2, 13, 14] <|
    .exit 11)) <|
  .seq (.block 12 <|
  .seq (.ops [
    ⟨some 146, .load true 2 (.tmp 13), none, 0⟩,
    ⟨some 147, .mv (.tmp 14), none, 0⟩,
    ⟨some 148, .bin .mul (.const (.int .i64 5)) (.tmp 147), none, 0⟩,
    ⟨some 149, .mv (.tmp 15), none, 0⟩,
    ⟨some 150, .bin .add (.tmp 148) (.tmp 149), none, 0⟩,
    ⟨some 151, .mv (.tmp 14), none, 0⟩,
    ⟨some 152, .bin .mul (.const (.int .i64 5)) (.tmp 151), none, 0⟩,
    ⟨some 153, .mv (.tmp 15), none, 0⟩,
    ⟨some 154, .bin .add (.tmp 153) (.const (.int .i64 1)), none, 0⟩,
    ⟨some 155, .bin .rem (.tmp 154) (.const (.int .i64 5)), none, 0⟩,
    ⟨some 156, .bin .add (.tmp 152) (.tmp 155), none, 0⟩,
    ⟨some 157, .call k_spec_l01Put [(.tmp 146), (.tmp 150), (.tmp 156)], none, 0⟩]) <|
  .seq (.ops [
    ⟨some 158, .load true 2 (.tmp 13), none, 0⟩,
    ⟨some 159, .mv (.tmp 14), none, 0⟩,
    ⟨some 160, .bin .mul (.const (.int .i64 5)) (.tmp 159), none, 0⟩,
    ⟨some 161, .bin .add (.const (.int .i64 25)) (.tmp 160), none, 0⟩,
    ⟨some 162, .mv (.tmp 15), none, 0⟩,
    ⟨some 163, .bin .add (.tmp 161) (.tmp 162), none, 0⟩,
    ⟨some 164, .mv (.tmp 14), none, 0⟩,
    ⟨some 165, .bin .mul (.const (.int .i64 5)) (.tmp 164), none, 0⟩,
    ⟨some 166, .bin .add (.const (.int .i64 25)) (.tmp 165), none, 0⟩,
    ⟨some 167, .mv (.tmp 15), none, 0⟩,
    ⟨some 168, .bin .add (.tmp 167) (.const (.int .i64 2)), none, 0⟩,
    ⟨some 169, .bin .rem (.tmp 168) (.const (.int .i64 5)), none, 0⟩,
    ⟨some 170, .bin .add (.tmp 166) (.tmp 169), none, 0⟩,
    ⟨some 171, .call k_spec_l01Put [(.tmp 158), (.tmp 163), (.tmp 170)], none, 0⟩]) <|
  .seq (.ops [
    ⟨some 16, .mv (.const (.int .i64 0)), none, 0⟩]) <|
  .block 13 <|
  .loop [2, 13, 14, 15, 16] i_spec_l01Named_B5) <|
  .ops [
    ⟨some 144, .mv (.tmp 15), none, 0⟩,
    ⟨some 145, .bin .add (.tmp 144) (.const (.int .i64 1)), none, 0⟩,
    ⟨some 15, .mv (.tmp 145), none, 0⟩]
def i_spec_l01Named_B7 : FC :=
  .seq (.seq (.ops [
    ⟨some 138, .mv (.tmp 14), none, 0⟩,
    ⟨some 139, .bin .lss (.tmp 138) (.const (.int .i64 5)), none, 0⟩]) <|
  .cond (.tmp 139)
    (.skip)
    (.keep [2, 13] <|
    .exit 9)) <|
  .seq (.block 10 <|
  .seq (.ops [
    ⟨some 15, .mv (.const (.int .i64 0)), none, 0⟩]) <|
  .block 11 <|
  .loop [2, 13, 14, 15] i_spec_l01Named_B6) <|
  .ops [
    ⟨some 140, .mv (.tmp 14), none, 0⟩,
    ⟨some 141, .bin .add (.tmp 140) (.const (.int .i64 1)), none, 0⟩,
    ⟨some 14, .mv (.tmp 141), none, 0⟩]
def i_spec_l01Named : FF := ⟨222, [.cell 2 true 2, .tmp 3],
  .seq (.ops [
    ⟨some 2, .alloc [.int .i64 0, .slice none 0 0], none, 0⟩,
    ⟨some 3, .mv (.const (.bool false)), none, 0⟩]) <|
  .seq (.seq (.ops [
    ⟨some 17, .mv (.tmp 0), none, 0⟩]) <|
  .block 0 <|
  .seq (.ops [
    ⟨some 19, .bin .eql (.tmp 17) (.const (.string ⟨#[107, 52]⟩)), none, 0⟩,
    ⟨some 18, .mv (.tmp 19), none, 0⟩]) <|
  .cond (.tmp 18)
    (.seq (.ops [
      ⟨some 20, .call k_spec_l01Empty [(.const (.int .i64 4))], none, 0⟩,
      ⟨some 21, .call k_spec_l01Complement [(.tmp 20)], none, 0⟩,
      ⟨none, .store 2 (.tmp 2) (.tmp 21), none, 0⟩,
      ⟨some 3, .mv (.const (.bool true)), none, 0⟩]) <|
    .keep [2, 3] <|
    .ret)
    (.seq (.ops [
      ⟨some 23, .bin .eql (.tmp 17) (.const (.string ⟨#[107, 53]⟩)), none, 0⟩,
      ⟨some 22, .mv (.tmp 23), none, 0⟩]) <|
    .cond (.tmp 22)
      (.seq (.ops [
        ⟨some 24, .call k_spec_l01Empty [(.const (.int .i64 5))], none, 0⟩,
        ⟨some 25, .call k_spec_l01Complement [(.tmp 24)], none, 0⟩,
        ⟨none, .store 2 (.tmp 2) (.tmp 25), none, 0⟩,
        ⟨some 3, .mv (.const (.bool true)), none, 0⟩]) <|
      .keep [2, 3] <|
      .ret)
      (.seq (.ops [
        ⟨some 27, .bin .eql (.tmp 17) (.const (.string ⟨#[107, 51, 51]⟩)), none, 0⟩,
        ⟨some 26, .mv (.tmp 27), none, 0⟩]) <|
      .cond (.tmp 26)
        (.seq (.ops [
          ⟨some 28, .call k_spec_l01Empty [(.const (.int .i64 3))], none, 0⟩,
          ⟨some 29, .call k_spec_l01Complement [(.tmp 28)], none, 0⟩,
          ⟨some 30, .call k_spec_l01Empty [(.const (.int .i64 3))], none, 0⟩,
          ⟨some 31, .call k_spec_l01Complement [(.tmp 30)], none, 0⟩,
          ⟨some 32, .call k_spec_l01Beside [(.tmp 29), (.tmp 31)], none, 0⟩,
          ⟨some 33, .call k_spec_l01Complement [(.tmp 32)], none, 0⟩,
          ⟨none, .store 2 (.tmp 2) (.tmp 33), none, 0⟩,
          ⟨some 3, .mv (.const (.bool true)), none, 0⟩]) <|
        .keep [2, 3] <|
        .ret)
        (.seq (.seq (.ops [
          ⟨some 35, .bin .eql (.tmp 17) (.const (.string ⟨#[99, 117, 98, 101]⟩)), none, 0⟩,
          ⟨some 34, .mv (.tmp 35), none, 0⟩]) <|
        .cond (.tmp 34)
          (.skip)
          (.ops [
            ⟨some 36, .bin .eql (.tmp 17) (.const (.string ⟨#[99, 108, 101, 98, 115, 99, 104]⟩)), none, 0⟩,
            ⟨some 34, .mv (.tmp 36), none, 0⟩])) <|
        .cond (.tmp 34)
          (.seq (.ops [
            ⟨some 4, .mv (.const (.int .i64 8)), none, 0⟩]) <|
          .seq (.seq (.ops [
            ⟨some 37, .mv (.tmp 0), none, 0⟩,
            ⟨some 38, .bin .eql (.tmp 37) (.const (.string ⟨#[99, 108, 101, 98, 115, 99, 104]⟩)), none, 0⟩]) <|
          .cond (.tmp 38)
            (.ops [
              ⟨some 4, .mv (.const (.int .i64 16)), none, 0⟩])
            (.skip)) <|
          .seq (.ops [
            ⟨some 39, .mv (.tmp 4), none, 0⟩,
            ⟨some 40, .call k_spec_l01Empty [(.tmp 39)], none, 0⟩,
            ⟨some 5, .alloc [.int .i64 0, .slice none 0 0], none, 0⟩,
            ⟨none, .store 2 (.tmp 5) (.tmp 40), none, 0⟩]) <|
          .seq (.seq (.ops [
            ⟨some 6, .mv (.const (.int .i64 0)), none, 0⟩]) <|
          .block 1 <|
          .loop [2, 4, 5, 6] i_spec_l01Named_B2) <|
          .seq (.ops [
            ⟨some 64, .load true 2 (.tmp 5), none, 0⟩,
            ⟨none, .store 2 (.tmp 2) (.tmp 64), none, 0⟩,
            ⟨some 3, .mv (.const (.bool true)), none, 0⟩]) <|
          .keep [2, 3] <|
          .ret)
          (.seq (.ops [
            ⟨some 66, .bin .eql (.tmp 17) (.const (.string ⟨#[112, 101, 116, 101, 114, 115, 101, 110]⟩)), none, 0⟩,
            ⟨some 65, .mv (.tmp 66), none, 0⟩]) <|
          .cond (.tmp 65)
            (.seq (.ops [
              ⟨some 67, .call k_spec_l01Empty [(.const (.int .i64 10))], none, 0⟩,
              ⟨some 8, .alloc [.int .i64 0, .slice none 0 0], none, 0⟩,
              ⟨none, .store 2 (.tmp 8) (.tmp 67), none, 0⟩]) <|
            .seq (.seq (.ops [
              ⟨some 9, .mv (.const (.int .i64 0)), none, 0⟩]) <|
            .block 5 <|
            .loop [2, 8, 9] i_spec_l01Named_B3) <|
            .seq (.ops [
              ⟨some 91, .load true 2 (.tmp 8), none, 0⟩,
              ⟨none, .store 2 (.tmp 2) (.tmp 91), none, 0⟩,
              ⟨some 3, .mv (.const (.bool true)), none, 0⟩]) <|
            .keep [2, 3] <|
            .ret)
            (.seq (.ops [
              ⟨some 93, .bin .eql (.tmp 17) (.const (.string ⟨#[105, 99, 111, 115, 97, 104, 101, 100, 114, 111, 110]⟩)), none, 0⟩,
              ⟨some 92, .mv (.tmp 93), none, 0⟩]) <|
            .cond (.tmp 92)
              (.seq (.ops [
                ⟨some 94, .call k_spec_l01Empty [(.const (.int .i64 12))], none, 0⟩,
                ⟨some 10, .alloc [.int .i64 0, .slice none 0 0], none, 0⟩,
                ⟨none, .store 2 (.tmp 10) (.tmp 94), none, 0⟩]) <|
              .seq (.seq (.ops [
                ⟨some 11, .mv (.const (.int .i64 0)), none, 0⟩]) <|
              .block 7 <|
              .loop [2, 10, 11] i_spec_l01Named_B4) <|
              .seq (.ops [
                ⟨some 134, .load true 2 (.tmp 10), none, 0⟩,
                ⟨none, .store 2 (.tmp 2) (.tmp 134), none, 0⟩,
                ⟨some 3, .mv (.const (.bool true)), none, 0⟩]) <|
              .keep [2, 3] <|
              .ret)
              (.seq (.ops [
                ⟨some 136, .bin .eql (.tmp 17) (.const (.string ⟨#[104, 111, 102, 102, 109, 97, 110, 115, 105, 110, 103, 108, 101, 116, 111, 110]⟩)), none, 0⟩,
                ⟨some 135, .mv (.tmp 136), none, 0⟩]) <|
              .cond (.tmp 135)
                (.seq (.ops [
                  ⟨some 137, .call k_spec_l01Empty [(.const (.int .i64 50))], none, 0⟩,
                  ⟨some 13, .alloc [.int .i64 0, .slice none 0 0], none, 0⟩,
                  ⟨none, .store 2 (.tmp 13) (.tmp 137), none, 0⟩]) <|
                .seq (.seq (.ops [
                  ⟨some 14, .mv (.const (.int .i64 0)), none, 0⟩]) <|
                .block 9 <|
                .loop [2, 13, 14] i_spec_l01Named_B7) <|
                .seq (.ops [
                  ⟨some 192, .load true 2 (.tmp 13), none, 0⟩,
                  ⟨none, .store 2 (.tmp 2) (.tmp 192), none, 0⟩,
                  ⟨some 3, .mv (.const (.bool true)), none, 0⟩]) <|
                .keep [2, 3] <|
                .ret)
                (.seq (.ops [
                  ⟨some 194, .bin .eql (.tmp 17) (.const (.string ⟨#[104, 101, 97, 119, 111, 111, 100]⟩)), none, 0⟩,
                  ⟨some 193, .mv (.tmp 194), none, 0⟩]) <|
                .cond (.tmp 193)
                  (.seq (.ops [
                    ⟨some 195, .buildSl 1 [.int .i64 0, .int .i64 0] [(0, 1, (.const (.int .i64 5))), (1, 1, (.const (.int .i64 9)))] 2, none, 0⟩,
                    ⟨some 196, .call k_spec_l01Jumps [(.const (.int .i64 14)), (.tmp 195)], none, 0⟩,
                    ⟨none, .store 2 (.tmp 2) (.tmp 196), none, 0⟩,
                    ⟨some 3, .mv (.const (.bool true)), none, 0⟩]) <|
                  .keep [2, 3] <|
                  .ret)
                  (.seq (.ops [
                    ⟨some 198, .bin .eql (.tmp 17) (.const (.string ⟨#[109, 111, 101, 98, 105, 117, 115, 107, 97, 110, 116, 111, 114]⟩)), none, 0⟩,
                    ⟨some 197, .mv (.tmp 198), none, 0⟩]) <|
                  .cond (.tmp 197)
                    (.seq (.ops [
                      ⟨some 199, .buildSl 1 [.int .i64 0, .int .i64 0] [(0, 1, (.const (.int .i64 5))), (1, 1, (.const (.int .i64 11)))] 2, none, 0⟩,
                      ⟨some 200, .call k_spec_l01Jumps [(.const (.int .i64 16)), (.tmp 199)], none, 0⟩,
                      ⟨none, .store 2 (.tmp 2) (.tmp 200), none, 0⟩,
                      ⟨some 3, .mv (.const (.bool true)), none, 0⟩]) <|
                    .keep [2, 3] <|
                    .ret)
                    (.seq (.ops [
                      ⟨some 202, .bin .eql (.tmp 17) (.const (.string ⟨#[112, 97, 112, 112, 117, 115]⟩)), none, 0⟩,
                      ⟨some 201, .mv (.tmp 202), none, 0⟩]) <|
                    .cond (.tmp 201)
                      (.seq (.ops [
                        ⟨some 203, .buildSl 1 [.int .i64 0, .int .i64 0, .int .i64 0, .int .i64 0, .int .i64 0, .int .i64 0] [(0, 1, (.const (.int .i64 5))), (1, 1, (.const (.int .i64 7))), (2, 1, (.const (.int .i64 11))), (3, 1, (.const (.int .i64 7))), (4, 1, (.const (.int .i64 11))), (5, 1, (.const (.int .i64 13)))] 6, none, 0⟩,
                        ⟨some 204, .call k_spec_l01Jumps [(.const (.int .i64 18)), (.tmp 203)], none, 0⟩,
                        ⟨none, .store 2 (.tmp 2) (.tmp 204), none, 0⟩,
                        ⟨some 3, .mv (.const (.bool true)), none, 0⟩]) <|
                      .keep [2, 3] <|
                      .ret)
                      (.seq (.ops [
                        ⟨some 206, .bin .eql (.tmp 17) (.const (.string ⟨#[100, 101, 115, 97, 114, 103, 117, 101, 115]⟩)), none, 0⟩,
                        ⟨some 205, .mv (.tmp 206), none, 0⟩]) <|
                      .cond (.tmp 205)
                        (.seq (.ops [
                          ⟨some 207, .buildSl 1 [.int .i64 0, .int .i64 0, .int .i64 0, .int .i64 0] [(0, 1, (.const (.int .i64 5))), (1, 1, (.const (.int .i64 15))), (2, 1, (.const (.int .i64 9))), (3, 1, (.const (.int .i64 11)))] 4, none, 0⟩,
                          ⟨some 208, .call k_spec_l01Jumps [(.const (.int .i64 20)), (.tmp 207)], none, 0⟩,
                          ⟨none, .store 2 (.tmp 2) (.tmp 208), none, 0⟩,
                          ⟨some 3, .mv (.const (.bool true)), none, 0⟩]) <|
                        .keep [2, 3] <|
                        .ret)
                        (.seq (.ops [
                          ⟨some 210, .bin .eql (.tmp 17) (.const (.string ⟨#[100, 111, 100, 101, 99, 97, 104, 101, 100, 114, 111, 110]⟩)), none, 0⟩,
                          ⟨some 209, .mv (.tmp 210), none, 0⟩]) <|
                        .cond (.tmp 209)
                          (.seq (.ops [
                            ⟨some 211, .buildSl 1 [.int .i64 0, .int .i64 0, .int .i64 0, .int .i64 0, .int .i64 0, .int .i64 0, .int .i64 0, .int .i64 0, .int .i64 0, .int .i64 0] [(0, 1, (.const (.int .i64 10))), (1, 1, (.const (.int .i64 7))), (2, 1, (.const (.int .i64 4))), (3, 1, (.const (.int .i64 16))), (4, 1, (.const (.int .i64 13))), (5, 1, (.const (.int .i64 10))), (6, 1, (.const (.int .i64 16))), (7, 1, (.const (.int .i64 7))), (8, 1, (.const (.int .i64 13))), (9, 1, (.const (.int .i64 4)))] 10, none, 0⟩,
                            ⟨some 212, .call k_spec_l01Jumps [(.const (.int .i64 20)), (.tmp 211)], none, 0⟩,
                            ⟨none, .store 2 (.tmp 2) (.tmp 212), none, 0⟩,
                            ⟨some 3, .mv (.const (.bool true)), none, 0⟩]) <|
                          .keep [2, 3] <|
                          .ret)
                          (.seq (.ops [
                            ⟨some 214, .bin .eql (.tmp 17) (.const (.string ⟨#[109, 99, 103, 101, 101]⟩)), none, 0⟩,
                            ⟨some 213, .mv (.tmp 214), none, 0⟩]) <|
                          .cond (.tmp 213)
                            (.seq (.ops [
                              ⟨some 215, .buildSl 1 [.int .i64 0, .int .i64 0, .int .i64 0] [(0, 1, (.const (.int .i64 12))), (1, 1, (.const (.int .i64 7))), (2, 1, (.const (.int .i64 17)))] 3, none, 0⟩,
                              ⟨some 216, .call k_spec_l01Jumps [(.const (.int .i64 24)), (.tmp 215)], none, 0⟩,
                              ⟨none, .store 2 (.tmp 2) (.tmp 216), none, 0⟩,
                              ⟨some 3, .mv (.const (.bool true)), none, 0⟩]) <|
                            .keep [2, 3] <|
                            .ret)
                            (.seq (.ops [
                              ⟨some 218, .bin .eql (.tmp 17) (.const (.string ⟨#[116, 117, 116, 116, 101, 99, 111, 120, 101, 116, 101, 114]⟩)), none, 0⟩,
                              ⟨some 217, .mv (.tmp 218), none, 0⟩]) <|
                            .cond (.tmp 217)
                              (.seq (.ops [
                                ⟨some 219, .buildSl 1 [.int .i64 0, .int .i64 0, .int .i64 0, .int .i64 0, .int .i64 0, .int .i64 0] [(0, 1, (.const (.int .i64 17))), (1, 1, (.const (.int .i64 21))), (2, 1, (.const (.int .i64 7))), (3, 1, (.const (.int .i64 23))), (4, 1, (.const (.int .i64 9))), (5, 1, (.const (.int .i64 13)))] 6, none, 0⟩,
                                ⟨some 220, .call k_spec_l01Jumps [(.const (.int .i64 30)), (.tmp 219)], none, 0⟩,
                                ⟨none, .store 2 (.tmp 2) (.tmp 220), none, 0⟩,
                                ⟨some 3, .mv (.const (.bool true)), none, 0⟩]) <|
                              .keep [2, 3] <|
                              .ret)
                              (.skip))))))))))))))) <|
  .seq (.ops [
    ⟨some 221, .build [.int .i64 0, .slice none 0 0] [], none, 0⟩,
    ⟨none, .store 2 (.tmp 2) (.tmp 221), none, 0⟩,
    ⟨some 3, .mv (.const (.bool false)), none, 0⟩]) <|
  .keep [2, 3] <|
  .ret⟩

theorem e_spec_l01Named : EntOK Tryd.prog (compD Tryd.prog) k_spec_l01Named i_spec_l01Named.vf :=
  ⟨Tryd.f163, Tryd.f163.body.getD .skip, Tryd.func163, by kernel_rfl, by kernel_rfl, by kernel_rfl, by kernel_rfl, by kernel_rfl⟩

/-- loop.example/g01331/spec.l01Jumps -/
def i_spec_l01Jumps_B1 : FC :=
  .seq (.seq (.ops [
    ⟨some 9, .mv (.tmp 6), none, 0⟩,
    ⟨some 10, .mv (.tmp 0), none, 0⟩,
    ⟨some 11, .bin .lss (.tmp 9) (.tmp 10), none, 0⟩]) <|
  .cond (.tmp 11)
    (.skip)
    (.keep [4, 5] <|
    .exit 0)) <|
  .seq (.block 1 <|
  .seq (.dops [
    ⟨some 14, .load true 2 (.tmp 5), none, 0⟩,
    ⟨some 15, .mv (.tmp 6), none, 0⟩,
    ⟨some 16, .mv (.tmp 6), none, 0⟩,
    ⟨some 17, .bin .add (.tmp 16) (.const (.int .i64 1)), none, 0⟩,
    ⟨some 18, .mv (.tmp 0), none, 0⟩,
    ⟨some 19, .bin .rem (.tmp 17) (.tmp 18), none, 0⟩,
    ⟨some 20, .call k_spec_l01Put [(.tmp 14), (.tmp 15), (.tmp 19)], none, 0⟩]) <|
  .seq (.ops [
    ⟨some 21, .mv (.tmp 1), none, 0⟩,
    ⟨some 22, .len (.tmp 21), none, 0⟩,
    ⟨some 23, .bin .gtr (.tmp 22) (.const (.int .i64 0)), none, 0⟩]) <|
  .cond (.tmp 23)
    (.dops [
      ⟨some 24, .load true 2 (.tmp 5), none, 0⟩,
      ⟨some 25, .mv (.tmp 6), none, 0⟩,
      ⟨some 26, .mv (.tmp 6), none, 0⟩,
      ⟨some 27, .mv (.tmp 1), none, 0⟩,
      ⟨some 28, .mv (.tmp 6), none, 0⟩,
      ⟨some 29, .mv (.tmp 1), none, 0⟩,
      ⟨some 30, .len (.tmp 29), none, 0⟩,
      ⟨some 31, .bin .rem (.tmp 28) (.tmp 30), none, 0⟩,
      ⟨some 32, .idx 1 (.tmp 27) (.tmp 31), none, 0⟩,
      ⟨some 33, .load false 1 (.tmp 32), none, 0⟩,
      ⟨some 34, .bin .add (.tmp 26) (.tmp 33), none, 0⟩,
      ⟨some 35, .mv (.tmp 0), none, 0⟩,
      ⟨some 36, .bin .rem (.tmp 34) (.tmp 35), none, 0⟩,
      ⟨some 37, .call k_spec_l01Put [(.tmp 24), (.tmp 25), (.tmp 36)], none, 0⟩])
    (.skip)) <|
  .ops [
    ⟨some 12, .mv (.tmp 6), none, 0⟩,
    ⟨some 13, .bin .add (.tmp 12) (.const (.int .i64 1)), none, 0⟩,
    ⟨some 6, .mv (.tmp 13), none, 0⟩]
def i_spec_l01Jumps : FF := ⟨39, [.cell 4 true 2],
  .seq (.ops [
    ⟨some 4, .alloc [.int .i64 0, .slice none 0 0], none, 0⟩]) <|
  .seq (.ops [
    ⟨some 7, .mv (.tmp 0), none, 0⟩,
    ⟨some 8, .call k_spec_l01Empty [(.tmp 7)], none, 0⟩,
    ⟨some 5, .alloc [.int .i64 0, .slice none 0 0], none, 0⟩,
    ⟨none, .store 2 (.tmp 5) (.tmp 8), none, 0⟩]) <|
  .seq (.seq (.ops [
    ⟨some 6, .mv (.const (.int .i64 0)), none, 0⟩]) <|
  .block 0 <|
  .loop [0, 1, 4, 5, 6] i_spec_l01Jumps_B1) <|
  .seq (.ops [
    ⟨some 38, .load true 2 (.tmp 5), none, 0⟩,
    ⟨none, .store 2 (.tmp 4) (.tmp 38), none, 0⟩]) <|
  .keep [4] <|
  .ret⟩

theorem e_spec_l01Jumps : EntOK Tryd.prog (compD Tryd.prog) k_spec_l01Jumps i_spec_l01Jumps.vf :=
  ⟨Tryd.f164, Tryd.f164.body.getD .skip, Tryd.func164, by kernel_rfl, by kernel_rfl, by kernel_rfl, by kernel_rfl, by kernel_rfl⟩

/-- loop.example/g01331/spec.l01Renamed -/
def i_spec_l01Renamed_B1 : FC :=
  .seq (.seq (.ops [
    ⟨some 17, .mv (.tmp 7), none, 0⟩,
    ⟨some 18, .mv (.tmp 6), none, 0⟩,
    ⟨some 19, .bin .lss (.tmp 17) (.tmp 18), none, 0⟩]) <|
  .cond (.tmp 19)
    (.skip)
    (.keep [1, 2, 4, 5, 6] <|
    .exit 2)) <|
  .seq (.block 3 <|
  .seq (.ops [
    ⟨some 22, .load true 2 (.tmp 2), none, 0⟩,
    ⟨some 23, .mv (.tmp 6), none, 0⟩,
    ⟨some 24, .mv (.tmp 7), none, 0⟩,
    ⟨some 25, .call k_spec_l01Has [(.tmp 22), (.tmp 23), (.tmp 24)], none, 0⟩]) <|
  .cond (.tmp 25)
    (.dops [
      ⟨some 26, .load true 2 (.tmp 5), none, 0⟩,
      ⟨some 27, .mv (.tmp 1), none, 0⟩,
      ⟨some 28, .mv (.tmp 6), none, 0⟩,
      ⟨some 29, .idx 1 (.tmp 27) (.tmp 28), none, 0⟩,
      ⟨some 30, .load false 1 (.tmp 29), none, 0⟩,
      ⟨some 31, .mv (.tmp 1), none, 0⟩,
      ⟨some 32, .mv (.tmp 7), none, 0⟩,
      ⟨some 33, .idx 1 (.tmp 31) (.tmp 32), none, 0⟩,
      ⟨some 34, .load false 1 (.tmp 33), none, 0⟩,
      ⟨some 35, .call k_spec_l01Put [(.tmp 26), (.tmp 30), (.tmp 34)], none, 0⟩])
    (.skip)) <|
  .ops [
    ⟨some 20, .mv (.tmp 7), none, 0⟩,
    ⟨some 21, .bin .add (.tmp 20) (.const (.int .i64 1)), none, 0⟩,
    ⟨some 7, .mv (.tmp 21), none, 0⟩]
def i_spec_l01Renamed_B2 : FC :=
  .seq (.seq (.ops [
    ⟨some 11, .mv (.tmp 6), none, 0⟩,
    ⟨some 12, .fld 0 (.tmp 2), none, 0⟩,
    ⟨some 13, .load false 1 (.tmp 12), none, 0⟩,
    ⟨some 14, .bin .lss (.tmp 11) (.tmp 13), none, 0⟩]) <|
  .cond (.tmp 14)
    (.skip)
    (.keep [4, 5] <|
    .exit 0)) <|
  .seq (.block 1 <|
  .seq (.ops [
    ⟨some 7, .mv (.const (.int .i64 0)), none, 0⟩]) <|
  .block 2 <|
  .loop [1, 2, 4, 5, 6, 7] i_spec_l01Renamed_B1) <|
  .ops [
    ⟨some 15, .mv (.tmp 6), none, 0⟩,
    ⟨some 16, .bin .add (.tmp 15) (.const (.int .i64 1)), none, 0⟩,
    ⟨some 6, .mv (.tmp 16), none, 0⟩]
def i_spec_l01Renamed : FF := ⟨37, [.cell 4 true 2],
  .seq (.ops [
    ⟨some 2, .box 2 (.tmp 0), none, 0⟩,
    ⟨some 4, .alloc [.int .i64 0, .slice none 0 0], none, 0⟩]) <|
  .seq (.ops [
    ⟨some 8, .fld 0 (.tmp 2), none, 0⟩,
    ⟨some 9, .load false 1 (.tmp 8), none, 0⟩,
    ⟨some 10, .call k_spec_l01Empty [(.tmp 9)], none, 0⟩,
    ⟨some 5, .alloc [.int .i64 0, .slice none 0 0], none, 0⟩,
    ⟨none, .store 2 (.tmp 5) (.tmp 10), none, 0⟩]) <|
  .seq (.seq (.ops [
    ⟨some 6, .mv (.const (.int .i64 0)), none, 0⟩]) <|
  .block 0 <|
  .loop [1, 2, 4, 5, 6] i_spec_l01Renamed_B2) <|
  .seq (.ops [
    ⟨some 36, .load true 2 (.tmp 5), none, 0⟩,
    ⟨none, .store 2 (.tmp 4) (.tmp 36), none, 0⟩]) <|
  .keep [4] <|
  .ret⟩

theorem e_spec_l01Renamed : EntOK Tryd.prog (compD Tryd.prog) k_spec_l01Renamed i_spec_l01Renamed.vf :=
  ⟨Tryd.f165, Tryd.f165.body.getD .skip, Tryd.func165, by kernel_rfl, by kernel_rfl, by kernel_rfl, by kernel_rfl, by kernel_rfl⟩

/-- loop.example/g01331/spec.l01DrawOrder -/
def i_spec_l01DrawOrder_B1 : FC :=
  .seq (.seq (.ops [
    ⟨some 9, .mv (.tmp 6), none, 0⟩,
    ⟨some 10, .mv (.tmp 1), none, 0⟩,
    ⟨some 11, .bin .lss (.tmp 9) (.tmp 10), none, 0⟩]) <|
  .cond (.tmp 11)
    (.skip)
    (.keep [5] <|
    .exit 0)) <|
  .seq (.block 1 <|
  .seq (.ops [
    ⟨some 14, .mv (.tmp 0), none, 0⟩,
    ⟨some 15, .mv (.tmp 6), none, 0⟩,
    ⟨some 16, .bin .add (.tmp 15) (.const (.int .i64 1)), none, 0⟩,
    ⟨some 17, .call k_spec_l01Next [(.tmp 14), (.tmp 16)], none, 0⟩,
    ⟨some 7, .mv (.tmp 17), none, 0⟩]) <|
  .dops [
    ⟨some 18, .mv (.tmp 5), none, 0⟩,
    ⟨some 19, .mv (.tmp 7), none, 0⟩,
    ⟨some 20, .slc 1 (.tmp 18) none (some (.tmp 19)), none, 0⟩,
    ⟨some 21, .call k_spec_l01Own [(.tmp 20)], none, 0⟩,
    ⟨some 22, .mv (.tmp 6), none, 1⟩,
    ⟨some 23, .buildSl 1 [.int .i64 0] [(0, 1, (.tmp 22))] 1, none, 1⟩,
    ⟨some 24, .app 1 8 [.int .i64 0] (.tmp 21) (.tmp 23), none, 1⟩,
    ⟨some 25, .mv (.tmp 5), none, 3⟩,
    ⟨some 26, .mv (.tmp 7), none, 3⟩,
    ⟨some 27, .slc 1 (.tmp 25) (some (.tmp 26)) none, none, 3⟩,
    ⟨some 28, .app 1 8 [.int .i64 0] (.tmp 24) (.tmp 27), none, 1⟩,
    ⟨some 5, .mv (.tmp 28), none, 1⟩]) <|
  .ops [
    ⟨some 12, .mv (.tmp 6), none, 0⟩,
    ⟨some 13, .bin .add (.tmp 12) (.const (.int .i64 1)), none, 0⟩,
    ⟨some 6, .mv (.tmp 13), none, 0⟩]
def i_spec_l01DrawOrder : FF := ⟨30, [.tmp 4],
  .seq (.ops [
    ⟨some 4, .mv (.const (.slice none 0 0)), none, 0⟩]) <|
  .seq (.ops [
    ⟨some 8, .buildSl 1 [] [] 0, none, 0⟩,
    ⟨some 5, .mv (.tmp 8), none, 0⟩]) <|
  .seq (.seq (.ops [
    ⟨some 6, .mv (.const (.int .i64 0)), none, 0⟩]) <|
  .block 0 <|
  .loop [0, 1, 5, 6] i_spec_l01DrawOrder_B1) <|
  .seq (.ops [
    ⟨some 29, .mv (.tmp 5), none, 0⟩,
    ⟨some 4, .mv (.tmp 29), none, 0⟩]) <|
  .keep [4] <|
  .ret⟩

theorem e_spec_l01DrawOrder : EntOK Tryd.prog (compD Tryd.prog) k_spec_l01DrawOrder i_spec_l01DrawOrder.vf :=
  ⟨Tryd.f166, Tryd.f166.body.getD .skip, Tryd.func166, by kernel_rfl, by kernel_rfl, by kernel_rfl, by kernel_rfl, by kernel_rfl⟩

/-- slices.Repeat[[]int64,int64] -/
def i_slices_Repeat_int64_int64_B1 : FC :=
  .seq (.seq (.ops [
    ⟨some 34, .mv (.tmp 8), none, 0⟩,
    ⟨some 35, .mv (.tmp 7), none, 0⟩,
    ⟨some 36, .len (.tmp 35), none, 0⟩,
    ⟨some 37, .bin .lss (.tmp 34) (.tmp 36), none, 0⟩]) <|
  .cond (.tmp 37)
    (.skip)
    (.keep [7] <|
    .exit 0)) <|
  .block 1 <|
  .dops [
    ⟨some 39, .mv (.tmp 7), none, 0⟩,
    ⟨some 40, .mv (.tmp 8), none, 0⟩,
    ⟨some 41, .slc 1 (.tmp 39) (some (.tmp 40)) none, none, 0⟩,
    ⟨some 42, .mv (.tmp 7), none, 0⟩,
    ⟨some 43, .mv (.tmp 8), none, 0⟩,
    ⟨some 44, .slc 1 (.tmp 42) none (some (.tmp 43)), none, 0⟩,
    ⟨some 45, .cpy 1 (.tmp 41) (.tmp 44), none, 0⟩,
    ⟨some 38, .mv (.tmp 8), none, 1⟩,
    ⟨some 46, .bin .add (.tmp 38) (.tmp 45), none, 0⟩,
    ⟨some 8, .mv (.tmp 46), none, 0⟩]
def i_slices_Repeat_int64_int64 : FF := ⟨48, [.tmp 4],
  .seq (.ops [
    ⟨some 4, .mv (.const (.slice none 0 0)), none, 0⟩]) <|
  .seq (.seq (.ops [
    ⟨some 9, .mv (.tmp 1), none, 0⟩,
    ⟨some 10, .bin .lss (.tmp 9) (.const (.int .i64 0)), none, 0⟩]) <|
  .cond (.tmp 10)
    (.ops [
      ⟨some 11, .stop, none, 0⟩,
      ⟨none, .stop, none, 0⟩])
    (.skip)) <|
  .seq (.ops [
    ⟨some 13, .mv (.tmp 0), none, 0⟩,
    ⟨some 14, .len (.tmp 13), none, 0⟩,
    ⟨some 15, .conv .u64 (.tmp 14), none, 0⟩,
    ⟨some 16, .mv (.tmp 1), none, 0⟩,
    ⟨some 17, .conv .u64 (.tmp 16), none, 0⟩,
    ⟨some 18, .call k_math_bits_Mul [(.tmp 15), (.tmp 17)], none, 0⟩,
    ⟨some 12, .mv (.tmp 18), none, 0⟩,
    ⟨some 19, .ext (.tmp 12) 0, none, 0⟩,
    ⟨some 20, .ext (.tmp 12) 1, none, 0⟩,
    ⟨some 5, .mv (.tmp 19), none, 0⟩,
    ⟨some 6, .mv (.tmp 20), none, 0⟩]) <|
  .seq (.seq (.ops [
    ⟨some 21, .mv (.tmp 5), none, 0⟩,
    ⟨some 22, .bin .gtr (.tmp 21) (.const (.int .u64 0)), none, 0⟩,
    ⟨some 23, .mv (.tmp 22), none, 0⟩,
    ⟨some 24, .mv (.tmp 6), some (23, false), 0⟩,
    ⟨some 25, .bin .gtr (.tmp 24) (.const (.int .u64 9223372036854775807)), some (23, false), 0⟩,
    ⟨some 26, .pick (.tmp 23) (.const (.bool true)) (.tmp 25), none, 0⟩]) <|
  .cond (.tmp 26)
    (.ops [
      ⟨some 27, .stop, none, 0⟩,
      ⟨none, .stop, none, 0⟩])
    (.skip)) <|
  .seq (.ops [
    ⟨some 28, .mv (.tmp 6), none, 0⟩,
    ⟨some 29, .conv .i64 (.tmp 28), none, 0⟩,
    ⟨some 30, .mkSl 1 [.int .i64 0] 8 (.tmp 29) (.tmp 29), none, 0⟩,
    ⟨some 7, .mv (.tmp 30), none, 0⟩]) <|
  .seq (.ops [
    ⟨some 31, .mv (.tmp 7), none, 0⟩,
    ⟨some 32, .mv (.tmp 0), none, 0⟩,
    ⟨some 33, .cpy 1 (.tmp 31) (.tmp 32), none, 0⟩,
    ⟨some 8, .mv (.tmp 33), none, 0⟩]) <|
  .seq (.block 0 <|
  .loop [7, 8] i_slices_Repeat_int64_int64_B1) <|
  .seq (.ops [
    ⟨some 47, .mv (.tmp 7), none, 0⟩,
    ⟨some 4, .mv (.tmp 47), none, 0⟩]) <|
  .keep [4] <|
  .ret⟩

theorem e_slices_Repeat_int64_int64 : EntOK Tryd.prog (compD Tryd.prog) k_slices_Repeat_int64_int64 i_slices_Repeat_int64_int64.vf :=
  ⟨Tryd.f168, Tryd.f168.body.getD .skip, Tryd.func168, by kernel_rfl, by kernel_rfl, by kernel_rfl, by kernel_rfl, by kernel_rfl⟩

/-- loop.example/g01331/spec.l01Complement -/
def i_spec_l01Complement_B1 : FC :=
  .seq (.seq (.ops [
    ⟨some 8, .mv (.tmp 4), none, 0⟩,
    ⟨some 9, .fld 0 (.tmp 1), none, 0⟩,
    ⟨some 10, .load false 1 (.tmp 9), none, 0⟩,
    ⟨some 11, .bin .lss (.tmp 8) (.tmp 10), none, 0⟩]) <|
  .cond (.tmp 11)
    (.skip)
    (.keep [2, 3] <|
    .exit 0)) <|
  .seq (.block 1 <|
  .dops [
    ⟨some 14, .fld 1 (.tmp 3), none, 0⟩,
    ⟨some 15, .load false 1 (.tmp 14), none, 0⟩,
    ⟨some 16, .mv (.tmp 4), none, 0⟩,
    ⟨some 17, .fld 0 (.tmp 1), none, 0⟩,
    ⟨some 18, .load false 1 (.tmp 17), none, 0⟩,
    ⟨some 19, .conv .u64 (.tmp 18), none, 0⟩,
    ⟨some 20, .bin .shl (.const (.int .i64 1)) (.tmp 19), none, 0⟩,
    ⟨some 21, .bin .sub (.tmp 20) (.const (.int .i64 1)), none, 0⟩,
    ⟨some 22, .fld 1 (.tmp 1), none, 0⟩,
    ⟨some 23, .load false 1 (.tmp 22), none, 0⟩,
    ⟨some 24, .mv (.tmp 4), none, 0⟩,
    ⟨some 25, .idx 1 (.tmp 23) (.tmp 24), none, 0⟩,
    ⟨some 26, .load false 1 (.tmp 25), none, 0⟩,
    ⟨some 27, .bin .sub (.tmp 21) (.tmp 26), none, 0⟩,
    ⟨some 28, .mv (.tmp 4), none, 0⟩,
    ⟨some 29, .conv .u64 (.tmp 28), none, 0⟩,
    ⟨some 30, .bin .shl (.const (.int .i64 1)) (.tmp 29), none, 0⟩,
    ⟨some 31, .bin .sub (.tmp 27) (.tmp 30), none, 0⟩,
    ⟨some 32, .idx 1 (.tmp 15) (.tmp 16), none, 0⟩,
    ⟨none, .store 1 (.tmp 32) (.tmp 31), none, 0⟩]) <|
  .ops [
    ⟨some 12, .mv (.tmp 4), none, 0⟩,
    ⟨some 13, .bin .add (.tmp 12) (.const (.int .i64 1)), none, 0⟩,
    ⟨some 4, .mv (.tmp 13), none, 0⟩]
def i_spec_l01Complement : FF := ⟨34, [.cell 2 true 2],
  .seq (.ops [
    ⟨some 1, .box 2 (.tmp 0), none, 0⟩,
    ⟨some 2, .alloc [.int .i64 0, .slice none 0 0], none, 0⟩]) <|
  .seq (.ops [
    ⟨some 5, .fld 0 (.tmp 1), none, 0⟩,
    ⟨some 6, .load false 1 (.tmp 5), none, 0⟩,
    ⟨some 7, .call k_spec_l01Empty [(.tmp 6)], none, 0⟩,
    ⟨some 3, .alloc [.int .i64 0, .slice none 0 0], none, 0⟩,
    ⟨none, .store 2 (.tmp 3) (.tmp 7), none, 0⟩]) <|
  .seq (.seq (.ops [
    ⟨some 4, .mv (.const (.int .i64 0)), none, 0⟩]) <|
  .block 0 <|
  .loop [1, 2, 3, 4] i_spec_l01Complement_B1) <|
  .seq (.ops [
    ⟨some 33, .load true 2 (.tmp 3), none, 0⟩,
    ⟨none, .store 2 (.tmp 2) (.tmp 33), none, 0⟩]) <|
  .keep [2] <|
  .ret⟩

theorem e_spec_l01Complement : EntOK Tryd.prog (compD Tryd.prog) k_spec_l01Complement i_spec_l01Complement.vf :=
  ⟨Tryd.f180, Tryd.f180.body.getD .skip, Tryd.func180, by kernel_rfl, by kernel_rfl, by kernel_rfl, by kernel_rfl, by kernel_rfl⟩

/-- loop.example/g01331/spec.l01Beside -/
def i_spec_l01Beside_B1 : FC :=
  .seq (.seq (.ops [
    ⟨some 16, .mv (.tmp 6), none, 0⟩,
    ⟨some 17, .fld 0 (.tmp 3), none, 0⟩,
    ⟨some 18, .load false 1 (.tmp 17), none, 0⟩,
    ⟨some 19, .bin .lss (.tmp 16) (.tmp 18), none, 0⟩]) <|
  .cond (.tmp 19)
    (.skip)
    (.keep [4, 5] <|
    .exit 0)) <|
  .seq (.block 1 <|
  .dops [
    ⟨some 24, .fld 1 (.tmp 3), none, 0⟩,
    ⟨some 25, .load false 1 (.tmp 24), none, 0⟩,
    ⟨some 26, .mv (.tmp 6), none, 0⟩,
    ⟨some 27, .idx 1 (.tmp 25) (.tmp 26), none, 0⟩,
    ⟨some 28, .load false 1 (.tmp 27), none, 0⟩,
    ⟨some 29, .fld 0 (.tmp 2), none, 0⟩,
    ⟨some 30, .load false 1 (.tmp 29), none, 0⟩,
    ⟨some 31, .conv .u64 (.tmp 30), none, 0⟩,
    ⟨some 32, .bin .shl (.tmp 28) (.tmp 31), none, 0⟩,
    ⟨some 33, .buildSl 1 [.int .i64 0] [(0, 1, (.tmp 32))] 1, none, 0⟩,
    ⟨some 22, .fld 1 (.tmp 5), none, 1⟩,
    ⟨some 23, .load false 1 (.tmp 22), none, 1⟩,
    ⟨some 34, .app 1 8 [.int .i64 0] (.tmp 23) (.tmp 33), none, 0⟩,
    ⟨some 35, .fld 1 (.tmp 5), none, 0⟩,
    ⟨none, .store 1 (.tmp 35) (.tmp 34), none, 0⟩]) <|
  .ops [
    ⟨some 20, .mv (.tmp 6), none, 0⟩,
    ⟨some 21, .bin .add (.tmp 20) (.const (.int .i64 1)), none, 0⟩,
    ⟨some 6, .mv (.tmp 21), none, 0⟩]
def i_spec_l01Beside : FF := ⟨37, [.cell 4 true 2],
  .seq (.ops [
    ⟨some 2, .box 2 (.tmp 0), none, 0⟩,
    ⟨some 3, .box 2 (.tmp 1), none, 0⟩,
    ⟨some 4, .alloc [.int .i64 0, .slice none 0 0], none, 0⟩]) <|
  .seq (.dops [
    ⟨some 12, .fld 1 (.tmp 2), none, 0⟩,
    ⟨some 13, .load false 1 (.tmp 12), none, 0⟩,
    ⟨some 14, .call k_spec_l01Own [(.tmp 13)], none, 0⟩,
    ⟨some 7, .fld 0 (.tmp 2), none, 1⟩,
    ⟨some 8, .load false 1 (.tmp 7), none, 1⟩,
    ⟨some 9, .fld 0 (.tmp 3), none, 1⟩,
    ⟨some 10, .load false 1 (.tmp 9), none, 1⟩,
    ⟨some 11, .bin .add (.tmp 8) (.tmp 10), none, 1⟩,
    ⟨some 15, .build [.int .i64 0, .slice none 0 0] [(0, 1, (.tmp 11)), (1, 1, (.tmp 14))], none, 0⟩,
    ⟨some 5, .alloc [.int .i64 0, .slice none 0 0], none, 1⟩,
    ⟨none, .store 2 (.tmp 5) (.tmp 15), none, 1⟩]) <|
  .seq (.seq (.ops [
    ⟨some 6, .mv (.const (.int .i64 0)), none, 0⟩]) <|
  .block 0 <|
  .loop [2, 3, 4, 5, 6] i_spec_l01Beside_B1) <|
  .seq (.ops [
    ⟨some 36, .load true 2 (.tmp 5), none, 0⟩,
    ⟨none, .store 2 (.tmp 4) (.tmp 36), none, 0⟩]) <|
  .keep [4] <|
  .ret⟩

theorem e_spec_l01Beside : EntOK Tryd.prog (compD Tryd.prog) k_spec_l01Beside i_spec_l01Beside.vf :=
  ⟨Tryd.f181, Tryd.f181.body.getD .skip, Tryd.func181, by kernel_rfl, by kernel_rfl, by kernel_rfl, by kernel_rfl, by kernel_rfl⟩

/-- math/bits.Mul -/
def i_math_bits_Mul : FF := ⟨30, [.tmp 4, .tmp 5],
  .seq (.ops [
    ⟨some 4, .mv (.const (.int .u64 0)), none, 0⟩,
    ⟨some 5, .mv (.const (.int .u64 0)), none, 0⟩]) <|
  .seq (.cond (.const (.bool false))
    (.seq (.ops [
      ⟨some 11, .mv (.tmp 0), none, 0⟩,
      ⟨some 12, .conv .u32 (.tmp 11), none, 0⟩,
      ⟨some 13, .mv (.tmp 1), none, 0⟩,
      ⟨some 14, .conv .u32 (.tmp 13), none, 0⟩,
      ⟨some 15, .call k_math_bits_Mul32 [(.tmp 12), (.tmp 14)], none, 0⟩,
      ⟨some 10, .mv (.tmp 15), none, 0⟩,
      ⟨some 16, .ext (.tmp 10) 0, none, 0⟩,
      ⟨some 17, .ext (.tmp 10) 1, none, 0⟩,
      ⟨some 6, .mv (.tmp 16), none, 0⟩,
      ⟨some 7, .mv (.tmp 17), none, 0⟩]) <|
    .seq (.ops [
      ⟨some 18, .mv (.tmp 6), none, 0⟩,
      ⟨some 19, .conv .u64 (.tmp 18), none, 0⟩,
      ⟨some 20, .mv (.tmp 7), none, 0⟩,
      ⟨some 21, .conv .u64 (.tmp 20), none, 0⟩,
      ⟨some 4, .mv (.tmp 19), none, 0⟩,
      ⟨some 5, .mv (.tmp 21), none, 0⟩]) <|
    .keep [4, 5] <|
    .ret)
    (.skip)) <|
  .seq (.ops [
    ⟨some 23, .mv (.tmp 0), none, 0⟩,
    ⟨some 24, .mv (.tmp 1), none, 0⟩,
    ⟨some 25, .call k_math_bits_Mul64 [(.tmp 23), (.tmp 24)], none, 0⟩,
    ⟨some 22, .mv (.tmp 25), none, 0⟩,
    ⟨some 26, .ext (.tmp 22) 0, none, 0⟩,
    ⟨some 27, .ext (.tmp 22) 1, none, 0⟩,
    ⟨some 8, .mv (.tmp 26), none, 0⟩,
    ⟨some 9, .mv (.tmp 27), none, 0⟩]) <|
  .seq (.ops [
    ⟨some 28, .mv (.tmp 8), none, 0⟩,
    ⟨some 29, .mv (.tmp 9), none, 0⟩,
    ⟨some 4, .mv (.tmp 28), none, 0⟩,
    ⟨some 5, .mv (.tmp 29), none, 0⟩]) <|
  .keep [4, 5] <|
  .ret⟩

theorem e_math_bits_Mul : EntOK Tryd.prog (compD Tryd.prog) k_math_bits_Mul i_math_bits_Mul.vf :=
  ⟨Tryd.f182, Tryd.f182.body.getD .skip, Tryd.func182, by kernel_rfl, by kernel_rfl, by kernel_rfl, by kernel_rfl, by kernel_rfl⟩

/-- math/bits.Mul32 -/
def i_math_bits_Mul32 : FF := ⟨17, [.tmp 4, .tmp 5],
  .seq (.ops [
    ⟨some 4, .mv (.const (.int .u32 0)), none, 0⟩,
    ⟨some 5, .mv (.const (.int .u32 0)), none, 0⟩]) <|
  .seq (.ops [
    ⟨some 7, .mv (.tmp 0), none, 0⟩,
    ⟨some 8, .conv .u64 (.tmp 7), none, 0⟩,
    ⟨some 9, .mv (.tmp 1), none, 0⟩,
    ⟨some 10, .conv .u64 (.tmp 9), none, 0⟩,
    ⟨some 11, .bin .mul (.tmp 8) (.tmp 10), none, 0⟩,
    ⟨some 6, .mv (.tmp 11), none, 0⟩]) <|
  .seq (.ops [
    ⟨some 12, .mv (.tmp 6), none, 0⟩,
    ⟨some 13, .bin .shr (.tmp 12) (.const (.int .u64 32)), none, 0⟩,
    ⟨some 14, .conv .u32 (.tmp 13), none, 0⟩,
    ⟨some 15, .mv (.tmp 6), none, 0⟩,
    ⟨some 16, .conv .u32 (.tmp 15), none, 0⟩,
    ⟨some 4, .mv (.tmp 14), none, 0⟩,
    ⟨some 5, .mv (.tmp 16), none, 0⟩]) <|
  .keep [4, 5] <|
  .ret⟩

theorem e_math_bits_Mul32 : EntOK Tryd.prog (compD Tryd.prog) k_math_bits_Mul32 i_math_bits_Mul32.vf :=
  ⟨Tryd.f190, Tryd.f190.body.getD .skip, Tryd.func190, by kernel_rfl, by kernel_rfl, by kernel_rfl, by kernel_rfl, by kernel_rfl⟩

/-- math/bits.Mul64 -/
def i_math_bits_Mul64 : FF := ⟨51, [.tmp 4, .tmp 5],
  .seq (.ops [
    ⟨some 4, .mv (.const (.int .u64 0)), none, 0⟩,
    ⟨some 5, .mv (.const (.int .u64 0)), none, 0⟩]) <|
  .seq (.ops [
    ⟨some 14, .mv (.tmp 0), none, 0⟩,
    ⟨some 15, .bin .and (.tmp 14) (.const (.int .u64 4294967295)), none, 0⟩,
    ⟨some 6, .mv (.tmp 15), none, 0⟩]) <|
  .seq (.ops [
    ⟨some 16, .mv (.tmp 0), none, 0⟩,
    ⟨some 17, .bin .shr (.tmp 16) (.const (.int .u64 32)), none, 0⟩,
    ⟨some 7, .mv (.tmp 17), none, 0⟩]) <|
  .seq (.ops [
    ⟨some 18, .mv (.tmp 1), none, 0⟩,
    ⟨some 19, .bin .and (.tmp 18) (.const (.int .u64 4294967295)), none, 0⟩,
    ⟨some 8, .mv (.tmp 19), none, 0⟩]) <|
  .seq (.ops [
    ⟨some 20, .mv (.tmp 1), none, 0⟩,
    ⟨some 21, .bin .shr (.tmp 20) (.const (.int .u64 32)), none, 0⟩,
    ⟨some 9, .mv (.tmp 21), none, 0⟩]) <|
  .seq (.ops [
    ⟨some 22, .mv (.tmp 6), none, 0⟩,
    ⟨some 23, .mv (.tmp 8), none, 0⟩,
    ⟨some 24, .bin .mul (.tmp 22) (.tmp 23), none, 0⟩,
    ⟨some 10, .mv (.tmp 24), none, 0⟩]) <|
  .seq (.ops [
    ⟨some 25, .mv (.tmp 7), none, 0⟩,
    ⟨some 26, .mv (.tmp 8), none, 0⟩,
    ⟨some 27, .bin .mul (.tmp 25) (.tmp 26), none, 0⟩,
    ⟨some 28, .mv (.tmp 10), none, 0⟩,
    ⟨some 29, .bin .shr (.tmp 28) (.const (.int .u64 32)), none, 0⟩,
    ⟨some 30, .bin .add (.tmp 27) (.tmp 29), none, 0⟩,
    ⟨some 11, .mv (.tmp 30), none, 0⟩]) <|
  .seq (.ops [
    ⟨some 31, .mv (.tmp 11), none, 0⟩,
    ⟨some 32, .bin .and (.tmp 31) (.const (.int .u64 4294967295)), none, 0⟩,
    ⟨some 12, .mv (.tmp 32), none, 0⟩]) <|
  .seq (.ops [
    ⟨some 33, .mv (.tmp 11), none, 0⟩,
    ⟨some 34, .bin .shr (.tmp 33) (.const (.int .u64 32)), none, 0⟩,
    ⟨some 13, .mv (.tmp 34), none, 0⟩]) <|
  .seq (.ops [
    ⟨some 35, .mv (.tmp 12), none, 0⟩,
    ⟨some 36, .mv (.tmp 6), none, 0⟩,
    ⟨some 37, .mv (.tmp 9), none, 0⟩,
    ⟨some 38, .bin .mul (.tmp 36) (.tmp 37), none, 0⟩,
    ⟨some 39, .bin .add (.tmp 35) (.tmp 38), none, 0⟩,
    ⟨some 12, .mv (.tmp 39), none, 0⟩]) <|
  .seq (.ops [
    ⟨some 40, .mv (.tmp 7), none, 0⟩,
    ⟨some 41, .mv (.tmp 9), none, 0⟩,
    ⟨some 42, .bin .mul (.tmp 40) (.tmp 41), none, 0⟩,
    ⟨some 43, .mv (.tmp 13), none, 0⟩,
    ⟨some 44, .bin .add (.tmp 42) (.tmp 43), none, 0⟩,
    ⟨some 45, .mv (.tmp 12), none, 0⟩,
    ⟨some 46, .bin .shr (.tmp 45) (.const (.int .u64 32)), none, 0⟩,
    ⟨some 47, .bin .add (.tmp 44) (.tmp 46), none, 0⟩,
    ⟨some 4, .mv (.tmp 47), none, 0⟩]) <|
  .seq (.ops [
    ⟨some 48, .mv (.tmp 0), none, 0⟩,
    ⟨some 49, .mv (.tmp 1), none, 0⟩,
    ⟨some 50, .bin .mul (.tmp 48) (.tmp 49), none, 0⟩,
    ⟨some 5, .mv (.tmp 50), none, 0⟩]) <|
  .keep [4, 5] <|
  .ret⟩

theorem e_math_bits_Mul64 : EntOK Tryd.prog (compD Tryd.prog) k_math_bits_Mul64 i_math_bits_Mul64.vf :=
  ⟨Tryd.f191, Tryd.f191.body.getD .skip, Tryd.func191, by kernel_rfl, by kernel_rfl, by kernel_rfl, by kernel_rfl, by kernel_rfl⟩

def tab : List (Nat × FF) := [(k_laws_FnGreedy, i_laws_FnGreedy), (k_laws_big, i_laws_big), (k_impl_GirthOf, i_impl_GirthOf), (k_spec_DrawGreedyGraph, i_spec_DrawGreedyGraph), (k_impl_GreedyGraph, i_impl_GreedyGraph), (k_spec_GreedyGraph, i_spec_GreedyGraph), (k_laws_graphs5, i_laws_graphs5), (k_impl_IsFull, i_impl_IsFull), (k_impl_FitsBoth, i_impl_FitsBoth), (k_spec_DrawFillGraph, i_spec_DrawFillGraph), (k_impl_FillGraph, i_impl_FillGraph), (k_spec_FillGraph, i_spec_FillGraph), (k_impl_EdgesLeft, i_impl_EdgesLeft), (k_spec_DrawPairsToJoin, i_spec_DrawPairsToJoin), (k_impl_PairsToJoin, i_impl_PairsToJoin), (k_spec_PairsToJoin, i_spec_PairsToJoin), (k_laws_rows5, i_laws_rows5), (k_impl_PutEdge, i_impl_PutEdge), (k_spec_DrawFitsBoth, i_spec_DrawFitsBoth), (k_spec_FitsBoth, i_spec_FitsBoth), (k_spec_DrawIsFull, i_spec_DrawIsFull), (k_spec_IsFull, i_spec_IsFull), (k_spec_DrawEdgesLeft, i_spec_DrawEdgesLeft), (k_spec_EdgesLeft, i_spec_EdgesLeft), (k_laws_likeInts, i_laws_likeInts), (k_spec_l01From, i_spec_l01From), (k_impl_IsGraph, i_impl_IsGraph), (k_impl_Graph_girth, i_impl_Graph_girth), (k_impl_Graph_around, i_impl_Graph_around), (k_spec_l01Is, i_spec_l01Is), (k_impl_found, i_impl_found), (k_impl_graphCode, i_impl_graphCode), (k_impl_Graph_has, i_impl_Graph_has), (k_impl_Graph_girthAt, i_impl_Graph_girthAt), (k_spec_l07DrawNumbers, i_spec_l07DrawNumbers), (k_spec_l01Next, i_spec_l01Next), (k_spec_l01Pick, i_spec_l01Pick), (k_impl_isBoth, i_impl_isBoth), (k_impl_filled, i_impl_filled), (k_impl_empty, i_impl_empty), (k_spec_l01In, i_spec_l01In), (k_spec_l07Numbers, i_spec_l07Numbers), (k_spec_l07Fill, i_spec_l07Fill), (k_spec_l01Empty, i_spec_l01Empty), (k_impl_fitCode, i_impl_fitCode), (k_impl_Graph_pairs, i_impl_Graph_pairs), (k_impl_bothCode, i_impl_bothCode), (k_impl_Graph_fits, i_impl_Graph_fits), (k_spec_l07With, i_spec_l07With), (k_spec_l07Given, i_spec_l07Given), (k_impl_Graph_degrees, i_impl_Graph_degrees), (k_spec_l07May, i_spec_l07May), (k_impl_pairCode, i_impl_pairCode), (k_impl_own, i_impl_own), (k_impl_Graph_put, i_impl_Graph_put), (k_spec_l07Fits, i_spec_l07Fits), (k_spec_l01Degree, i_spec_l01Degree), (k_impl_size, i_impl_size), (k_impl_Graph_degree, i_impl_Graph_degree), (k_spec_l01DrawOf, i_spec_l01DrawOf), (k_spec_l01Edges, i_spec_l01Edges), (k_spec_l01Put, i_spec_l01Put), (k_spec_l01Cut, i_spec_l01Cut), (k_spec_l01Bad, i_spec_l01Bad), (k_spec_l01DrawRegular, i_spec_l01DrawRegular), (k_impl_list, i_impl_list), (k_impl_Graph_take, i_impl_Graph_take), (k_impl_Graph_distances, i_impl_Graph_distances), (k_spec_l01Has, i_spec_l01Has), (k_impl_Graph_mayJoin, i_impl_Graph_mayJoin), (k_spec_l01Copy, i_spec_l01Copy), (k_slices_Max_int64_int64, i_slices_Max_int64_int64), (k_spec_l01Draw, i_spec_l01Draw), (k_spec_l07Far, i_spec_l07Far), (k_slices_Clone_int64_int64, i_slices_Clone_int64_int64), (k_spec_l01Bits, i_spec_l01Bits), (k_math_bits_OnesCount64, i_math_bits_OnesCount64), (k_spec_l01Join, i_spec_l01Join), (k_spec_l01Own, i_spec_l01Own), (k_spec_l01Names, i_spec_l01Names), (k_spec_l01Named, i_spec_l01Named), (k_spec_l01Jumps, i_spec_l01Jumps), (k_spec_l01Renamed, i_spec_l01Renamed), (k_spec_l01DrawOrder, i_spec_l01DrawOrder), (k_slices_Repeat_int64_int64, i_slices_Repeat_int64_int64), (k_spec_l01Complement, i_spec_l01Complement), (k_spec_l01Beside, i_spec_l01Beside), (k_math_bits_Mul, i_math_bits_Mul), (k_math_bits_Mul32, i_math_bits_Mul32), (k_math_bits_Mul64, i_math_bits_Mul64)]
theorem tabOK : ∀ p ∈ tab, EntOK Tryd.prog (compD Tryd.prog) p.1 p.2.vf := by
  intro p hp
  simp only [tab, List.mem_cons, List.not_mem_nil, or_false] at hp
  rcases hp with rfl | rfl | rfl | rfl | rfl | rfl | rfl | rfl | rfl | rfl | rfl | rfl | rfl | rfl | rfl | rfl | rfl | rfl | rfl | rfl | rfl | rfl | rfl | rfl | rfl | rfl | rfl | rfl | rfl | rfl | rfl | rfl | rfl | rfl | rfl | rfl | rfl | rfl | rfl | rfl | rfl | rfl | rfl | rfl | rfl | rfl | rfl | rfl | rfl | rfl | rfl | rfl | rfl | rfl | rfl | rfl | rfl | rfl | rfl | rfl | rfl | rfl | rfl | rfl | rfl | rfl | rfl | rfl | rfl | rfl | rfl | rfl | rfl | rfl | rfl | rfl | rfl | rfl | rfl | rfl | rfl | rfl | rfl | rfl | rfl | rfl | rfl | rfl | rfl | rfl
  · exact e_laws_FnGreedy
  · exact e_laws_big
  · exact e_impl_GirthOf
  · exact e_spec_DrawGreedyGraph
  · exact e_impl_GreedyGraph
  · exact e_spec_GreedyGraph
  · exact e_laws_graphs5
  · exact e_impl_IsFull
  · exact e_impl_FitsBoth
  · exact e_spec_DrawFillGraph
  · exact e_impl_FillGraph
  · exact e_spec_FillGraph
  · exact e_impl_EdgesLeft
  · exact e_spec_DrawPairsToJoin
  · exact e_impl_PairsToJoin
  · exact e_spec_PairsToJoin
  · exact e_laws_rows5
  · exact e_impl_PutEdge
  · exact e_spec_DrawFitsBoth
  · exact e_spec_FitsBoth
  · exact e_spec_DrawIsFull
  · exact e_spec_IsFull
  · exact e_spec_DrawEdgesLeft
  · exact e_spec_EdgesLeft
  · exact e_laws_likeInts
  · exact e_spec_l01From
  · exact e_impl_IsGraph
  · exact e_impl_Graph_girth
  · exact e_impl_Graph_around
  · exact e_spec_l01Is
  · exact e_impl_found
  · exact e_impl_graphCode
  · exact e_impl_Graph_has
  · exact e_impl_Graph_girthAt
  · exact e_spec_l07DrawNumbers
  · exact e_spec_l01Next
  · exact e_spec_l01Pick
  · exact e_impl_isBoth
  · exact e_impl_filled
  · exact e_impl_empty
  · exact e_spec_l01In
  · exact e_spec_l07Numbers
  · exact e_spec_l07Fill
  · exact e_spec_l01Empty
  · exact e_impl_fitCode
  · exact e_impl_Graph_pairs
  · exact e_impl_bothCode
  · exact e_impl_Graph_fits
  · exact e_spec_l07With
  · exact e_spec_l07Given
  · exact e_impl_Graph_degrees
  · exact e_spec_l07May
  · exact e_impl_pairCode
  · exact e_impl_own
  · exact e_impl_Graph_put
  · exact e_spec_l07Fits
  · exact e_spec_l01Degree
  · exact e_impl_size
  · exact e_impl_Graph_degree
  · exact e_spec_l01DrawOf
  · exact e_spec_l01Edges
  · exact e_spec_l01Put
  · exact e_spec_l01Cut
  · exact e_spec_l01Bad
  · exact e_spec_l01DrawRegular
  · exact e_impl_list
  · exact e_impl_Graph_take
  · exact e_impl_Graph_distances
  · exact e_spec_l01Has
  · exact e_impl_Graph_mayJoin
  · exact e_spec_l01Copy
  · exact e_slices_Max_int64_int64
  · exact e_spec_l01Draw
  · exact e_spec_l07Far
  · exact e_slices_Clone_int64_int64
  · exact e_spec_l01Bits
  · exact e_math_bits_OnesCount64
  · exact e_spec_l01Join
  · exact e_spec_l01Own
  · exact e_spec_l01Names
  · exact e_spec_l01Named
  · exact e_spec_l01Jumps
  · exact e_spec_l01Renamed
  · exact e_spec_l01DrawOrder
  · exact e_slices_Repeat_int64_int64
  · exact e_spec_l01Complement
  · exact e_spec_l01Beside
  · exact e_math_bits_Mul
  · exact e_math_bits_Mul32
  · exact e_math_bits_Mul64

def F (n : Nat) : Option Ent := match tab.lookup n with
  | some f => some (.ir f.vf)
  | none => if n = k_math_bits_TrailingZeros64 then some (.ext tzX) else none
theorem v_laws_FnGreedy {nro : Nat} {args : List Value} {h : VH} {r : Value × VH} (ha : args.length ≤ i_laws_FnGreedy.ntmps) (hr : fbody (vcall F nro) nro i_laws_FnGreedy args h = some r) : vcall F nro k_laws_FnGreedy args h = some r := vcall_f (by kernel_rfl) (by kernel_rfl) ha hr
theorem v_laws_big {nro : Nat} {args : List Value} {h : VH} {r : Value × VH} (ha : args.length ≤ i_laws_big.ntmps) (hr : fbody (vcall F nro) nro i_laws_big args h = some r) : vcall F nro k_laws_big args h = some r := vcall_f (by kernel_rfl) (by kernel_rfl) ha hr
theorem v_impl_GirthOf {nro : Nat} {args : List Value} {h : VH} {r : Value × VH} (ha : args.length ≤ i_impl_GirthOf.ntmps) (hr : fbody (vcall F nro) nro i_impl_GirthOf args h = some r) : vcall F nro k_impl_GirthOf args h = some r := vcall_f (by kernel_rfl) (by kernel_rfl) ha hr
theorem v_spec_DrawGreedyGraph {nro : Nat} {args : List Value} {h : VH} {r : Value × VH} (ha : args.length ≤ i_spec_DrawGreedyGraph.ntmps) (hr : fbody (vcall F nro) nro i_spec_DrawGreedyGraph args h = some r) : vcall F nro k_spec_DrawGreedyGraph args h = some r := vcall_f (by kernel_rfl) (by kernel_rfl) ha hr
theorem v_impl_GreedyGraph {nro : Nat} {args : List Value} {h : VH} {r : Value × VH} (ha : args.length ≤ i_impl_GreedyGraph.ntmps) (hr : fbody (vcall F nro) nro i_impl_GreedyGraph args h = some r) : vcall F nro k_impl_GreedyGraph args h = some r := vcall_f (by kernel_rfl) (by kernel_rfl) ha hr
theorem v_spec_GreedyGraph {nro : Nat} {args : List Value} {h : VH} {r : Value × VH} (ha : args.length ≤ i_spec_GreedyGraph.ntmps) (hr : fbody (vcall F nro) nro i_spec_GreedyGraph args h = some r) : vcall F nro k_spec_GreedyGraph args h = some r := vcall_f (by kernel_rfl) (by kernel_rfl) ha hr
theorem v_laws_graphs5 {nro : Nat} {args : List Value} {h : VH} {r : Value × VH} (ha : args.length ≤ i_laws_graphs5.ntmps) (hr : fbody (vcall F nro) nro i_laws_graphs5 args h = some r) : vcall F nro k_laws_graphs5 args h = some r := vcall_f (by kernel_rfl) (by kernel_rfl) ha hr
theorem v_impl_IsFull {nro : Nat} {args : List Value} {h : VH} {r : Value × VH} (ha : args.length ≤ i_impl_IsFull.ntmps) (hr : fbody (vcall F nro) nro i_impl_IsFull args h = some r) : vcall F nro k_impl_IsFull args h = some r := vcall_f (by kernel_rfl) (by kernel_rfl) ha hr
theorem v_impl_FitsBoth {nro : Nat} {args : List Value} {h : VH} {r : Value × VH} (ha : args.length ≤ i_impl_FitsBoth.ntmps) (hr : fbody (vcall F nro) nro i_impl_FitsBoth args h = some r) : vcall F nro k_impl_FitsBoth args h = some r := vcall_f (by kernel_rfl) (by kernel_rfl) ha hr
theorem v_spec_DrawFillGraph {nro : Nat} {args : List Value} {h : VH} {r : Value × VH} (ha : args.length ≤ i_spec_DrawFillGraph.ntmps) (hr : fbody (vcall F nro) nro i_spec_DrawFillGraph args h = some r) : vcall F nro k_spec_DrawFillGraph args h = some r := vcall_f (by kernel_rfl) (by kernel_rfl) ha hr
theorem v_impl_FillGraph {nro : Nat} {args : List Value} {h : VH} {r : Value × VH} (ha : args.length ≤ i_impl_FillGraph.ntmps) (hr : fbody (vcall F nro) nro i_impl_FillGraph args h = some r) : vcall F nro k_impl_FillGraph args h = some r := vcall_f (by kernel_rfl) (by kernel_rfl) ha hr
theorem v_spec_FillGraph {nro : Nat} {args : List Value} {h : VH} {r : Value × VH} (ha : args.length ≤ i_spec_FillGraph.ntmps) (hr : fbody (vcall F nro) nro i_spec_FillGraph args h = some r) : vcall F nro k_spec_FillGraph args h = some r := vcall_f (by kernel_rfl) (by kernel_rfl) ha hr
theorem v_impl_EdgesLeft {nro : Nat} {args : List Value} {h : VH} {r : Value × VH} (ha : args.length ≤ i_impl_EdgesLeft.ntmps) (hr : fbody (vcall F nro) nro i_impl_EdgesLeft args h = some r) : vcall F nro k_impl_EdgesLeft args h = some r := vcall_f (by kernel_rfl) (by kernel_rfl) ha hr
theorem v_spec_DrawPairsToJoin {nro : Nat} {args : List Value} {h : VH} {r : Value × VH} (ha : args.length ≤ i_spec_DrawPairsToJoin.ntmps) (hr : fbody (vcall F nro) nro i_spec_DrawPairsToJoin args h = some r) : vcall F nro k_spec_DrawPairsToJoin args h = some r := vcall_f (by kernel_rfl) (by kernel_rfl) ha hr
theorem v_impl_PairsToJoin {nro : Nat} {args : List Value} {h : VH} {r : Value × VH} (ha : args.length ≤ i_impl_PairsToJoin.ntmps) (hr : fbody (vcall F nro) nro i_impl_PairsToJoin args h = some r) : vcall F nro k_impl_PairsToJoin args h = some r := vcall_f (by kernel_rfl) (by kernel_rfl) ha hr
theorem v_spec_PairsToJoin {nro : Nat} {args : List Value} {h : VH} {r : Value × VH} (ha : args.length ≤ i_spec_PairsToJoin.ntmps) (hr : fbody (vcall F nro) nro i_spec_PairsToJoin args h = some r) : vcall F nro k_spec_PairsToJoin args h = some r := vcall_f (by kernel_rfl) (by kernel_rfl) ha hr
theorem v_laws_rows5 {nro : Nat} {args : List Value} {h : VH} {r : Value × VH} (ha : args.length ≤ i_laws_rows5.ntmps) (hr : fbody (vcall F nro) nro i_laws_rows5 args h = some r) : vcall F nro k_laws_rows5 args h = some r := vcall_f (by kernel_rfl) (by kernel_rfl) ha hr
theorem v_impl_PutEdge {nro : Nat} {args : List Value} {h : VH} {r : Value × VH} (ha : args.length ≤ i_impl_PutEdge.ntmps) (hr : fbody (vcall F nro) nro i_impl_PutEdge args h = some r) : vcall F nro k_impl_PutEdge args h = some r := vcall_f (by kernel_rfl) (by kernel_rfl) ha hr
theorem v_spec_DrawFitsBoth {nro : Nat} {args : List Value} {h : VH} {r : Value × VH} (ha : args.length ≤ i_spec_DrawFitsBoth.ntmps) (hr : fbody (vcall F nro) nro i_spec_DrawFitsBoth args h = some r) : vcall F nro k_spec_DrawFitsBoth args h = some r := vcall_f (by kernel_rfl) (by kernel_rfl) ha hr
theorem v_spec_FitsBoth {nro : Nat} {args : List Value} {h : VH} {r : Value × VH} (ha : args.length ≤ i_spec_FitsBoth.ntmps) (hr : fbody (vcall F nro) nro i_spec_FitsBoth args h = some r) : vcall F nro k_spec_FitsBoth args h = some r := vcall_f (by kernel_rfl) (by kernel_rfl) ha hr
theorem v_spec_DrawIsFull {nro : Nat} {args : List Value} {h : VH} {r : Value × VH} (ha : args.length ≤ i_spec_DrawIsFull.ntmps) (hr : fbody (vcall F nro) nro i_spec_DrawIsFull args h = some r) : vcall F nro k_spec_DrawIsFull args h = some r := vcall_f (by kernel_rfl) (by kernel_rfl) ha hr
theorem v_spec_IsFull {nro : Nat} {args : List Value} {h : VH} {r : Value × VH} (ha : args.length ≤ i_spec_IsFull.ntmps) (hr : fbody (vcall F nro) nro i_spec_IsFull args h = some r) : vcall F nro k_spec_IsFull args h = some r := vcall_f (by kernel_rfl) (by kernel_rfl) ha hr
theorem v_spec_DrawEdgesLeft {nro : Nat} {args : List Value} {h : VH} {r : Value × VH} (ha : args.length ≤ i_spec_DrawEdgesLeft.ntmps) (hr : fbody (vcall F nro) nro i_spec_DrawEdgesLeft args h = some r) : vcall F nro k_spec_DrawEdgesLeft args h = some r := vcall_f (by kernel_rfl) (by kernel_rfl) ha hr
theorem v_spec_EdgesLeft {nro : Nat} {args : List Value} {h : VH} {r : Value × VH} (ha : args.length ≤ i_spec_EdgesLeft.ntmps) (hr : fbody (vcall F nro) nro i_spec_EdgesLeft args h = some r) : vcall F nro k_spec_EdgesLeft args h = some r := vcall_f (by kernel_rfl) (by kernel_rfl) ha hr
theorem v_laws_likeInts {nro : Nat} {args : List Value} {h : VH} {r : Value × VH} (ha : args.length ≤ i_laws_likeInts.ntmps) (hr : fbody (vcall F nro) nro i_laws_likeInts args h = some r) : vcall F nro k_laws_likeInts args h = some r := vcall_f (by kernel_rfl) (by kernel_rfl) ha hr
theorem v_spec_l01From {nro : Nat} {args : List Value} {h : VH} {r : Value × VH} (ha : args.length ≤ i_spec_l01From.ntmps) (hr : fbody (vcall F nro) nro i_spec_l01From args h = some r) : vcall F nro k_spec_l01From args h = some r := vcall_f (by kernel_rfl) (by kernel_rfl) ha hr
theorem v_impl_IsGraph {nro : Nat} {args : List Value} {h : VH} {r : Value × VH} (ha : args.length ≤ i_impl_IsGraph.ntmps) (hr : fbody (vcall F nro) nro i_impl_IsGraph args h = some r) : vcall F nro k_impl_IsGraph args h = some r := vcall_f (by kernel_rfl) (by kernel_rfl) ha hr
theorem v_impl_Graph_girth {nro : Nat} {args : List Value} {h : VH} {r : Value × VH} (ha : args.length ≤ i_impl_Graph_girth.ntmps) (hr : fbody (vcall F nro) nro i_impl_Graph_girth args h = some r) : vcall F nro k_impl_Graph_girth args h = some r := vcall_f (by kernel_rfl) (by kernel_rfl) ha hr
theorem v_impl_Graph_around {nro : Nat} {args : List Value} {h : VH} {r : Value × VH} (ha : args.length ≤ i_impl_Graph_around.ntmps) (hr : fbody (vcall F nro) nro i_impl_Graph_around args h = some r) : vcall F nro k_impl_Graph_around args h = some r := vcall_f (by kernel_rfl) (by kernel_rfl) ha hr
theorem v_spec_l01Is {nro : Nat} {args : List Value} {h : VH} {r : Value × VH} (ha : args.length ≤ i_spec_l01Is.ntmps) (hr : fbody (vcall F nro) nro i_spec_l01Is args h = some r) : vcall F nro k_spec_l01Is args h = some r := vcall_f (by kernel_rfl) (by kernel_rfl) ha hr
theorem v_impl_found {nro : Nat} {args : List Value} {h : VH} {r : Value × VH} (ha : args.length ≤ i_impl_found.ntmps) (hr : fbody (vcall F nro) nro i_impl_found args h = some r) : vcall F nro k_impl_found args h = some r := vcall_f (by kernel_rfl) (by kernel_rfl) ha hr
theorem v_impl_graphCode {nro : Nat} {args : List Value} {h : VH} {r : Value × VH} (ha : args.length ≤ i_impl_graphCode.ntmps) (hr : fbody (vcall F nro) nro i_impl_graphCode args h = some r) : vcall F nro k_impl_graphCode args h = some r := vcall_f (by kernel_rfl) (by kernel_rfl) ha hr
theorem v_impl_Graph_has {nro : Nat} {args : List Value} {h : VH} {r : Value × VH} (ha : args.length ≤ i_impl_Graph_has.ntmps) (hr : fbody (vcall F nro) nro i_impl_Graph_has args h = some r) : vcall F nro k_impl_Graph_has args h = some r := vcall_f (by kernel_rfl) (by kernel_rfl) ha hr
theorem v_impl_Graph_girthAt {nro : Nat} {args : List Value} {h : VH} {r : Value × VH} (ha : args.length ≤ i_impl_Graph_girthAt.ntmps) (hr : fbody (vcall F nro) nro i_impl_Graph_girthAt args h = some r) : vcall F nro k_impl_Graph_girthAt args h = some r := vcall_f (by kernel_rfl) (by kernel_rfl) ha hr
theorem v_spec_l07DrawNumbers {nro : Nat} {args : List Value} {h : VH} {r : Value × VH} (ha : args.length ≤ i_spec_l07DrawNumbers.ntmps) (hr : fbody (vcall F nro) nro i_spec_l07DrawNumbers args h = some r) : vcall F nro k_spec_l07DrawNumbers args h = some r := vcall_f (by kernel_rfl) (by kernel_rfl) ha hr
theorem v_spec_l01Next {nro : Nat} {args : List Value} {h : VH} {r : Value × VH} (ha : args.length ≤ i_spec_l01Next.ntmps) (hr : fbody (vcall F nro) nro i_spec_l01Next args h = some r) : vcall F nro k_spec_l01Next args h = some r := vcall_f (by kernel_rfl) (by kernel_rfl) ha hr
theorem v_spec_l01Pick {nro : Nat} {args : List Value} {h : VH} {r : Value × VH} (ha : args.length ≤ i_spec_l01Pick.ntmps) (hr : fbody (vcall F nro) nro i_spec_l01Pick args h = some r) : vcall F nro k_spec_l01Pick args h = some r := vcall_f (by kernel_rfl) (by kernel_rfl) ha hr
theorem v_impl_isBoth {nro : Nat} {args : List Value} {h : VH} {r : Value × VH} (ha : args.length ≤ i_impl_isBoth.ntmps) (hr : fbody (vcall F nro) nro i_impl_isBoth args h = some r) : vcall F nro k_impl_isBoth args h = some r := vcall_f (by kernel_rfl) (by kernel_rfl) ha hr
theorem v_impl_filled {nro : Nat} {args : List Value} {h : VH} {r : Value × VH} (ha : args.length ≤ i_impl_filled.ntmps) (hr : fbody (vcall F nro) nro i_impl_filled args h = some r) : vcall F nro k_impl_filled args h = some r := vcall_f (by kernel_rfl) (by kernel_rfl) ha hr
theorem v_impl_empty {nro : Nat} {args : List Value} {h : VH} {r : Value × VH} (ha : args.length ≤ i_impl_empty.ntmps) (hr : fbody (vcall F nro) nro i_impl_empty args h = some r) : vcall F nro k_impl_empty args h = some r := vcall_f (by kernel_rfl) (by kernel_rfl) ha hr
theorem v_spec_l01In {nro : Nat} {args : List Value} {h : VH} {r : Value × VH} (ha : args.length ≤ i_spec_l01In.ntmps) (hr : fbody (vcall F nro) nro i_spec_l01In args h = some r) : vcall F nro k_spec_l01In args h = some r := vcall_f (by kernel_rfl) (by kernel_rfl) ha hr
theorem v_spec_l07Numbers {nro : Nat} {args : List Value} {h : VH} {r : Value × VH} (ha : args.length ≤ i_spec_l07Numbers.ntmps) (hr : fbody (vcall F nro) nro i_spec_l07Numbers args h = some r) : vcall F nro k_spec_l07Numbers args h = some r := vcall_f (by kernel_rfl) (by kernel_rfl) ha hr
theorem v_spec_l07Fill {nro : Nat} {args : List Value} {h : VH} {r : Value × VH} (ha : args.length ≤ i_spec_l07Fill.ntmps) (hr : fbody (vcall F nro) nro i_spec_l07Fill args h = some r) : vcall F nro k_spec_l07Fill args h = some r := vcall_f (by kernel_rfl) (by kernel_rfl) ha hr
theorem v_spec_l01Empty {nro : Nat} {args : List Value} {h : VH} {r : Value × VH} (ha : args.length ≤ i_spec_l01Empty.ntmps) (hr : fbody (vcall F nro) nro i_spec_l01Empty args h = some r) : vcall F nro k_spec_l01Empty args h = some r := vcall_f (by kernel_rfl) (by kernel_rfl) ha hr
theorem v_impl_fitCode {nro : Nat} {args : List Value} {h : VH} {r : Value × VH} (ha : args.length ≤ i_impl_fitCode.ntmps) (hr : fbody (vcall F nro) nro i_impl_fitCode args h = some r) : vcall F nro k_impl_fitCode args h = some r := vcall_f (by kernel_rfl) (by kernel_rfl) ha hr
theorem v_impl_Graph_pairs {nro : Nat} {args : List Value} {h : VH} {r : Value × VH} (ha : args.length ≤ i_impl_Graph_pairs.ntmps) (hr : fbody (vcall F nro) nro i_impl_Graph_pairs args h = some r) : vcall F nro k_impl_Graph_pairs args h = some r := vcall_f (by kernel_rfl) (by kernel_rfl) ha hr
theorem v_impl_bothCode {nro : Nat} {args : List Value} {h : VH} {r : Value × VH} (ha : args.length ≤ i_impl_bothCode.ntmps) (hr : fbody (vcall F nro) nro i_impl_bothCode args h = some r) : vcall F nro k_impl_bothCode args h = some r := vcall_f (by kernel_rfl) (by kernel_rfl) ha hr
theorem v_impl_Graph_fits {nro : Nat} {args : List Value} {h : VH} {r : Value × VH} (ha : args.length ≤ i_impl_Graph_fits.ntmps) (hr : fbody (vcall F nro) nro i_impl_Graph_fits args h = some r) : vcall F nro k_impl_Graph_fits args h = some r := vcall_f (by kernel_rfl) (by kernel_rfl) ha hr
theorem v_spec_l07With {nro : Nat} {args : List Value} {h : VH} {r : Value × VH} (ha : args.length ≤ i_spec_l07With.ntmps) (hr : fbody (vcall F nro) nro i_spec_l07With args h = some r) : vcall F nro k_spec_l07With args h = some r := vcall_f (by kernel_rfl) (by kernel_rfl) ha hr
theorem v_spec_l07Given {nro : Nat} {args : List Value} {h : VH} {r : Value × VH} (ha : args.length ≤ i_spec_l07Given.ntmps) (hr : fbody (vcall F nro) nro i_spec_l07Given args h = some r) : vcall F nro k_spec_l07Given args h = some r := vcall_f (by kernel_rfl) (by kernel_rfl) ha hr
theorem v_impl_Graph_degrees {nro : Nat} {args : List Value} {h : VH} {r : Value × VH} (ha : args.length ≤ i_impl_Graph_degrees.ntmps) (hr : fbody (vcall F nro) nro i_impl_Graph_degrees args h = some r) : vcall F nro k_impl_Graph_degrees args h = some r := vcall_f (by kernel_rfl) (by kernel_rfl) ha hr
theorem v_spec_l07May {nro : Nat} {args : List Value} {h : VH} {r : Value × VH} (ha : args.length ≤ i_spec_l07May.ntmps) (hr : fbody (vcall F nro) nro i_spec_l07May args h = some r) : vcall F nro k_spec_l07May args h = some r := vcall_f (by kernel_rfl) (by kernel_rfl) ha hr
theorem v_impl_pairCode {nro : Nat} {args : List Value} {h : VH} {r : Value × VH} (ha : args.length ≤ i_impl_pairCode.ntmps) (hr : fbody (vcall F nro) nro i_impl_pairCode args h = some r) : vcall F nro k_impl_pairCode args h = some r := vcall_f (by kernel_rfl) (by kernel_rfl) ha hr
theorem v_impl_own {nro : Nat} {args : List Value} {h : VH} {r : Value × VH} (ha : args.length ≤ i_impl_own.ntmps) (hr : fbody (vcall F nro) nro i_impl_own args h = some r) : vcall F nro k_impl_own args h = some r := vcall_f (by kernel_rfl) (by kernel_rfl) ha hr
theorem v_impl_Graph_put {nro : Nat} {args : List Value} {h : VH} {r : Value × VH} (ha : args.length ≤ i_impl_Graph_put.ntmps) (hr : fbody (vcall F nro) nro i_impl_Graph_put args h = some r) : vcall F nro k_impl_Graph_put args h = some r := vcall_f (by kernel_rfl) (by kernel_rfl) ha hr
theorem v_spec_l07Fits {nro : Nat} {args : List Value} {h : VH} {r : Value × VH} (ha : args.length ≤ i_spec_l07Fits.ntmps) (hr : fbody (vcall F nro) nro i_spec_l07Fits args h = some r) : vcall F nro k_spec_l07Fits args h = some r := vcall_f (by kernel_rfl) (by kernel_rfl) ha hr
theorem v_spec_l01Degree {nro : Nat} {args : List Value} {h : VH} {r : Value × VH} (ha : args.length ≤ i_spec_l01Degree.ntmps) (hr : fbody (vcall F nro) nro i_spec_l01Degree args h = some r) : vcall F nro k_spec_l01Degree args h = some r := vcall_f (by kernel_rfl) (by kernel_rfl) ha hr
theorem v_impl_size {nro : Nat} {args : List Value} {h : VH} {r : Value × VH} (ha : args.length ≤ i_impl_size.ntmps) (hr : fbody (vcall F nro) nro i_impl_size args h = some r) : vcall F nro k_impl_size args h = some r := vcall_f (by kernel_rfl) (by kernel_rfl) ha hr
theorem v_impl_Graph_degree {nro : Nat} {args : List Value} {h : VH} {r : Value × VH} (ha : args.length ≤ i_impl_Graph_degree.ntmps) (hr : fbody (vcall F nro) nro i_impl_Graph_degree args h = some r) : vcall F nro k_impl_Graph_degree args h = some r := vcall_f (by kernel_rfl) (by kernel_rfl) ha hr
theorem v_spec_l01DrawOf {nro : Nat} {args : List Value} {h : VH} {r : Value × VH} (ha : args.length ≤ i_spec_l01DrawOf.ntmps) (hr : fbody (vcall F nro) nro i_spec_l01DrawOf args h = some r) : vcall F nro k_spec_l01DrawOf args h = some r := vcall_f (by kernel_rfl) (by kernel_rfl) ha hr
theorem v_spec_l01Edges {nro : Nat} {args : List Value} {h : VH} {r : Value × VH} (ha : args.length ≤ i_spec_l01Edges.ntmps) (hr : fbody (vcall F nro) nro i_spec_l01Edges args h = some r) : vcall F nro k_spec_l01Edges args h = some r := vcall_f (by kernel_rfl) (by kernel_rfl) ha hr
theorem v_spec_l01Put {nro : Nat} {args : List Value} {h : VH} {r : Value × VH} (ha : args.length ≤ i_spec_l01Put.ntmps) (hr : fbody (vcall F nro) nro i_spec_l01Put args h = some r) : vcall F nro k_spec_l01Put args h = some r := vcall_f (by kernel_rfl) (by kernel_rfl) ha hr
theorem v_spec_l01Cut {nro : Nat} {args : List Value} {h : VH} {r : Value × VH} (ha : args.length ≤ i_spec_l01Cut.ntmps) (hr : fbody (vcall F nro) nro i_spec_l01Cut args h = some r) : vcall F nro k_spec_l01Cut args h = some r := vcall_f (by kernel_rfl) (by kernel_rfl) ha hr
theorem v_spec_l01Bad {nro : Nat} {args : List Value} {h : VH} {r : Value × VH} (ha : args.length ≤ i_spec_l01Bad.ntmps) (hr : fbody (vcall F nro) nro i_spec_l01Bad args h = some r) : vcall F nro k_spec_l01Bad args h = some r := vcall_f (by kernel_rfl) (by kernel_rfl) ha hr
theorem v_spec_l01DrawRegular {nro : Nat} {args : List Value} {h : VH} {r : Value × VH} (ha : args.length ≤ i_spec_l01DrawRegular.ntmps) (hr : fbody (vcall F nro) nro i_spec_l01DrawRegular args h = some r) : vcall F nro k_spec_l01DrawRegular args h = some r := vcall_f (by kernel_rfl) (by kernel_rfl) ha hr
theorem v_impl_list {nro : Nat} {args : List Value} {h : VH} {r : Value × VH} (ha : args.length ≤ i_impl_list.ntmps) (hr : fbody (vcall F nro) nro i_impl_list args h = some r) : vcall F nro k_impl_list args h = some r := vcall_f (by kernel_rfl) (by kernel_rfl) ha hr
theorem v_impl_Graph_take {nro : Nat} {args : List Value} {h : VH} {r : Value × VH} (ha : args.length ≤ i_impl_Graph_take.ntmps) (hr : fbody (vcall F nro) nro i_impl_Graph_take args h = some r) : vcall F nro k_impl_Graph_take args h = some r := vcall_f (by kernel_rfl) (by kernel_rfl) ha hr
theorem v_impl_Graph_distances {nro : Nat} {args : List Value} {h : VH} {r : Value × VH} (ha : args.length ≤ i_impl_Graph_distances.ntmps) (hr : fbody (vcall F nro) nro i_impl_Graph_distances args h = some r) : vcall F nro k_impl_Graph_distances args h = some r := vcall_f (by kernel_rfl) (by kernel_rfl) ha hr
theorem v_spec_l01Has {nro : Nat} {args : List Value} {h : VH} {r : Value × VH} (ha : args.length ≤ i_spec_l01Has.ntmps) (hr : fbody (vcall F nro) nro i_spec_l01Has args h = some r) : vcall F nro k_spec_l01Has args h = some r := vcall_f (by kernel_rfl) (by kernel_rfl) ha hr
theorem v_impl_Graph_mayJoin {nro : Nat} {args : List Value} {h : VH} {r : Value × VH} (ha : args.length ≤ i_impl_Graph_mayJoin.ntmps) (hr : fbody (vcall F nro) nro i_impl_Graph_mayJoin args h = some r) : vcall F nro k_impl_Graph_mayJoin args h = some r := vcall_f (by kernel_rfl) (by kernel_rfl) ha hr
theorem v_spec_l01Copy {nro : Nat} {args : List Value} {h : VH} {r : Value × VH} (ha : args.length ≤ i_spec_l01Copy.ntmps) (hr : fbody (vcall F nro) nro i_spec_l01Copy args h = some r) : vcall F nro k_spec_l01Copy args h = some r := vcall_f (by kernel_rfl) (by kernel_rfl) ha hr
theorem v_slices_Max_int64_int64 {nro : Nat} {args : List Value} {h : VH} {r : Value × VH} (ha : args.length ≤ i_slices_Max_int64_int64.ntmps) (hr : fbody (vcall F nro) nro i_slices_Max_int64_int64 args h = some r) : vcall F nro k_slices_Max_int64_int64 args h = some r := vcall_f (by kernel_rfl) (by kernel_rfl) ha hr
theorem v_spec_l01Draw {nro : Nat} {args : List Value} {h : VH} {r : Value × VH} (ha : args.length ≤ i_spec_l01Draw.ntmps) (hr : fbody (vcall F nro) nro i_spec_l01Draw args h = some r) : vcall F nro k_spec_l01Draw args h = some r := vcall_f (by kernel_rfl) (by kernel_rfl) ha hr
theorem v_spec_l07Far {nro : Nat} {args : List Value} {h : VH} {r : Value × VH} (ha : args.length ≤ i_spec_l07Far.ntmps) (hr : fbody (vcall F nro) nro i_spec_l07Far args h = some r) : vcall F nro k_spec_l07Far args h = some r := vcall_f (by kernel_rfl) (by kernel_rfl) ha hr
theorem v_slices_Clone_int64_int64 {nro : Nat} {args : List Value} {h : VH} {r : Value × VH} (ha : args.length ≤ i_slices_Clone_int64_int64.ntmps) (hr : fbody (vcall F nro) nro i_slices_Clone_int64_int64 args h = some r) : vcall F nro k_slices_Clone_int64_int64 args h = some r := vcall_f (by kernel_rfl) (by kernel_rfl) ha hr
theorem v_spec_l01Bits {nro : Nat} {args : List Value} {h : VH} {r : Value × VH} (ha : args.length ≤ i_spec_l01Bits.ntmps) (hr : fbody (vcall F nro) nro i_spec_l01Bits args h = some r) : vcall F nro k_spec_l01Bits args h = some r := vcall_f (by kernel_rfl) (by kernel_rfl) ha hr
theorem v_math_bits_OnesCount64 {nro : Nat} {args : List Value} {h : VH} {r : Value × VH} (ha : args.length ≤ i_math_bits_OnesCount64.ntmps) (hr : fbody (vcall F nro) nro i_math_bits_OnesCount64 args h = some r) : vcall F nro k_math_bits_OnesCount64 args h = some r := vcall_f (by kernel_rfl) (by kernel_rfl) ha hr
theorem v_spec_l01Join {nro : Nat} {args : List Value} {h : VH} {r : Value × VH} (ha : args.length ≤ i_spec_l01Join.ntmps) (hr : fbody (vcall F nro) nro i_spec_l01Join args h = some r) : vcall F nro k_spec_l01Join args h = some r := vcall_f (by kernel_rfl) (by kernel_rfl) ha hr
theorem v_spec_l01Own {nro : Nat} {args : List Value} {h : VH} {r : Value × VH} (ha : args.length ≤ i_spec_l01Own.ntmps) (hr : fbody (vcall F nro) nro i_spec_l01Own args h = some r) : vcall F nro k_spec_l01Own args h = some r := vcall_f (by kernel_rfl) (by kernel_rfl) ha hr
theorem v_spec_l01Names {nro : Nat} {args : List Value} {h : VH} {r : Value × VH} (ha : args.length ≤ i_spec_l01Names.ntmps) (hr : fbody (vcall F nro) nro i_spec_l01Names args h = some r) : vcall F nro k_spec_l01Names args h = some r := vcall_f (by kernel_rfl) (by kernel_rfl) ha hr
theorem v_spec_l01Named {nro : Nat} {args : List Value} {h : VH} {r : Value × VH} (ha : args.length ≤ i_spec_l01Named.ntmps) (hr : fbody (vcall F nro) nro i_spec_l01Named args h = some r) : vcall F nro k_spec_l01Named args h = some r := vcall_f (by kernel_rfl) (by kernel_rfl) ha hr
theorem v_spec_l01Jumps {nro : Nat} {args : List Value} {h : VH} {r : Value × VH} (ha : args.length ≤ i_spec_l01Jumps.ntmps) (hr : fbody (vcall F nro) nro i_spec_l01Jumps args h = some r) : vcall F nro k_spec_l01Jumps args h = some r := vcall_f (by kernel_rfl) (by kernel_rfl) ha hr
theorem v_spec_l01Renamed {nro : Nat} {args : List Value} {h : VH} {r : Value × VH} (ha : args.length ≤ i_spec_l01Renamed.ntmps) (hr : fbody (vcall F nro) nro i_spec_l01Renamed args h = some r) : vcall F nro k_spec_l01Renamed args h = some r := vcall_f (by kernel_rfl) (by kernel_rfl) ha hr
theorem v_spec_l01DrawOrder {nro : Nat} {args : List Value} {h : VH} {r : Value × VH} (ha : args.length ≤ i_spec_l01DrawOrder.ntmps) (hr : fbody (vcall F nro) nro i_spec_l01DrawOrder args h = some r) : vcall F nro k_spec_l01DrawOrder args h = some r := vcall_f (by kernel_rfl) (by kernel_rfl) ha hr
theorem v_slices_Repeat_int64_int64 {nro : Nat} {args : List Value} {h : VH} {r : Value × VH} (ha : args.length ≤ i_slices_Repeat_int64_int64.ntmps) (hr : fbody (vcall F nro) nro i_slices_Repeat_int64_int64 args h = some r) : vcall F nro k_slices_Repeat_int64_int64 args h = some r := vcall_f (by kernel_rfl) (by kernel_rfl) ha hr
theorem v_spec_l01Complement {nro : Nat} {args : List Value} {h : VH} {r : Value × VH} (ha : args.length ≤ i_spec_l01Complement.ntmps) (hr : fbody (vcall F nro) nro i_spec_l01Complement args h = some r) : vcall F nro k_spec_l01Complement args h = some r := vcall_f (by kernel_rfl) (by kernel_rfl) ha hr
theorem v_spec_l01Beside {nro : Nat} {args : List Value} {h : VH} {r : Value × VH} (ha : args.length ≤ i_spec_l01Beside.ntmps) (hr : fbody (vcall F nro) nro i_spec_l01Beside args h = some r) : vcall F nro k_spec_l01Beside args h = some r := vcall_f (by kernel_rfl) (by kernel_rfl) ha hr
theorem v_math_bits_Mul {nro : Nat} {args : List Value} {h : VH} {r : Value × VH} (ha : args.length ≤ i_math_bits_Mul.ntmps) (hr : fbody (vcall F nro) nro i_math_bits_Mul args h = some r) : vcall F nro k_math_bits_Mul args h = some r := vcall_f (by kernel_rfl) (by kernel_rfl) ha hr
theorem v_math_bits_Mul32 {nro : Nat} {args : List Value} {h : VH} {r : Value × VH} (ha : args.length ≤ i_math_bits_Mul32.ntmps) (hr : fbody (vcall F nro) nro i_math_bits_Mul32 args h = some r) : vcall F nro k_math_bits_Mul32 args h = some r := vcall_f (by kernel_rfl) (by kernel_rfl) ha hr
theorem v_math_bits_Mul64 {nro : Nat} {args : List Value} {h : VH} {r : Value × VH} (ha : args.length ≤ i_math_bits_Mul64.ntmps) (hr : fbody (vcall F nro) nro i_math_bits_Mul64 args h = some r) : vcall F nro k_math_bits_Mul64 args h = some r := vcall_f (by kernel_rfl) (by kernel_rfl) ha hr

end Go.Proofs.YtghondlbkjponaaDoor.Zv

/- Symbolic steps: what simp needs to walk through code. -/
namespace Go.Proofs.YtghondlbkjponaaDoor.Zv
open Go

section
variable {call : VCall} {nro : Nat}

/-! ### places -/
@[simp] theorem fput_some (e : FE) (d t : Nat) (v : Value) : fput e (some d) v t = if t = d then v else e t := rfl
@[simp] theorem fput_none (e : FE) (v : Value) : fput e none v = e := rfl
@[simp] theorem fl_cons (i : Nat) (v : Value) (r : List (Nat × Value)) (t : Nat) : fl ((i, v) :: r) t = if t = i then v else fl r t := rfl
@[simp] theorem fargs_cons (a : Value) (r : List Value) : fargs (a :: r) 0 = a := rfl
@[simp] theorem fargs_succ (a : Value) (r : List Value) (t : Nat) : fargs (a :: r) (t + 1) = fargs r t := rfl
@[simp] theorem fev_tmp (e : FE) (t : Nat) : fev e (.tmp t) = e t := rfl
@[simp] theorem fev_const (e : FE) (v : Value) : fev e (.const v) = v := rfl
@[simp] theorem fev_func (e : FE) (f : Nat) : fev e (.func f) = .func (.func f) #[] #[] := rfl

/-! ### a region -/
def kops (call : VCall) (nro : Nat) (d : Option Nat) (os : List VOper) (e : FE) : Option (Value × VH) → Option (FE × VH)
  | some (v, h) => fops call nro os (fput e d v) h
  | none => none
theorem fput_self (e : FE) (g : Nat) (v : Value) (h : e g = v) : fput e (some g) v = e := by
  funext t
  simp only [fput_some]
  split
  · rename_i ht; rw [ht, h]
  · rfl
def kguard (call : VCall) (nro : Nat) (g : Nat) (b : Bool) (d : Option Nat) (op : VOp) (os : List VOper) (e : FE) (h : VH) : Value → Option (FE × VH)
  | .bool c => if c = b then kops call nro d os (fput e (some g) (.bool b)) (vop call nro (fev (fput e (some g) (.bool b))) h op) else fops call nro os (fput (fput e (some g) (.bool !b)) d undef) h
  | .tuple vs => if vs.size = 0 then fops call nro os (fput e d undef) h else none
  | _ => none
@[simp] theorem fops_nil (e : FE) (h : VH) : fops call nro [] e h = some (e, h) := rfl
@[simp] theorem fops_cons (d : Option Nat) (op : VOp) (k : Nat) (os : List VOper) (e : FE) (h : VH) : fops call nro (⟨d, op, none, k⟩ :: os) e h = kops call nro d os e (vop call nro (fev e) h op) := by
  simp only [fops, fwanted]
  cases vop call nro (fev e) h op <;> rfl
@[simp] theorem fops_guard (d : Option Nat) (op : VOp) (g : Nat) (b : Bool) (k : Nat) (os : List VOper) (e : FE) (h : VH) : fops call nro (⟨d, op, some (g, b), k⟩ :: os) e h = kguard call nro g b d op os e h (e g) := by
  simp only [fops, fwanted]
  generalize hg : e g = x
  cases x with
  | bool c =>
    simp only [kguard]
    cases c <;> cases b <;> simp [kops, fput_self _ _ _ hg] <;> cases vop call nro (fev e) h op <;> rfl
  | tuple vs => simp only [kguard]; split <;> simp_all
  | _ => rfl
@[simp] theorem kops_some (d : Option Nat) (os : List VOper) (e : FE) (v : Value) (h : VH) : kops call nro d os e (some (v, h)) = fops call nro os (fput e d v) h := rfl
@[simp] theorem kops_none (d : Option Nat) (os : List VOper) (e : FE) : kops call nro d os e none = none := rfl
@[simp] theorem kops_ite (d : Option Nat) (os : List VOper) (e : FE) (c : Prop) [Decidable c] (x y : Option (Value × VH)) : kops call nro d os e (if c then x else y) = if c then kops call nro d os e x else kops call nro d os e y := by split <;> rfl
@[simp] theorem kguard_bool (g : Nat) (b c : Bool) (d : Option Nat) (op : VOp) (os : List VOper) (e : FE) (h : VH) : kguard call nro g b d op os e h (.bool c) = if c = b then kops call nro d os (fput e (some g) (.bool b)) (vop call nro (fev (fput e (some g) (.bool b))) h op) else fops call nro os (fput (fput e (some g) (.bool !b)) d undef) h := rfl
@[simp] theorem kguard_undef (g : Nat) (b : Bool) (d : Option Nat) (op : VOp) (os : List VOper) (e : FE) (h : VH) : kguard call nro g b d op os e h undef = fops call nro os (fput e d undef) h := rfl

/-! ### a region whose order is open -/
open Classical in
noncomputable def kdops (call : VCall) (nro : Nat) (d : Option Nat) (op : VOp) (k : Nat) (os : List VOper) (e : FE) (h : VH) (hs : List VH) : Option (Value × VH) → Option (FE × VH)
  | some (v, h') => if op.eff = true then fdops call nro os (fput e d v) h' (h :: hs) else if ∀ g ∈ hs.take k, vop call nro (fev e) g op = some (v, g) then fdops call nro os (fput e d v) h' hs else none
  | none => none
noncomputable def kdguard (call : VCall) (nro : Nat) (g : Nat) (b : Bool) (d : Option Nat) (op : VOp) (k : Nat) (os : List VOper) (e : FE) (h : VH) (hs : List VH) : Value → Option (FE × VH)
  | .bool c => if c = b then kdops call nro d op k os (fput e (some g) (.bool b)) h hs (vop call nro (fev (fput e (some g) (.bool b))) h op) else fdops call nro os (fput (fput e (some g) (.bool !b)) d undef) h (if op.eff = true then h :: hs else hs)
  | .tuple vs => if vs.size = 0 then fdops call nro os (fput e d undef) h (if op.eff = true then h :: hs else hs) else none
  | _ => none
@[simp] theorem fdops_nil (e : FE) (h : VH) (hs : List VH) : fdops call nro [] e h hs = some (e, h) := rfl
@[simp] theorem fdops_cons (d : Option Nat) (op : VOp) (k : Nat) (os : List VOper) (e : FE) (h : VH) (hs : List VH) : fdops call nro (⟨d, op, none, k⟩ :: os) e h hs = kdops call nro d op k os e h hs (vop call nro (fev e) h op) := by
  simp only [fdops, fwanted]
  cases vop call nro (fev e) h op <;> rfl
@[simp] theorem fdops_guard (d : Option Nat) (op : VOp) (g : Nat) (b : Bool) (k : Nat) (os : List VOper) (e : FE) (h : VH) (hs : List VH) : fdops call nro (⟨d, op, some (g, b), k⟩ :: os) e h hs = kdguard call nro g b d op k os e h hs (e g) := by
  simp only [fdops, fwanted]
  generalize hg : e g = x
  cases x with
  | bool c =>
    simp only [kdguard]
    by_cases hcb : c = b
    · subst hcb
      rw [if_pos rfl, fput_self _ _ _ hg]
      simp only [beq_self_eq_true]
      cases vop call nro (fev e) h op <;> rfl
    · have h1 : (c == b) = false := by simpa using hcb
      have h2 : (!b) = c := by cases c <;> cases b <;> simp_all
      rw [if_neg hcb, h1, h2, fput_self _ _ _ hg]
  | tuple vs => simp only [kdguard]; split <;> simp_all
  | _ => rfl
open Classical in
@[simp] theorem kdops_some (d : Option Nat) (op : VOp) (k : Nat) (os : List VOper) (e : FE) (h : VH) (hs : List VH) (v : Value) (h' : VH) : kdops call nro d op k os e h hs (some (v, h')) = if op.eff = true then fdops call nro os (fput e d v) h' (h :: hs) else if ∀ g ∈ hs.take k, vop call nro (fev e) g op = some (v, g) then fdops call nro os (fput e d v) h' hs else none := rfl
@[simp] theorem kdops_none (d : Option Nat) (op : VOp) (k : Nat) (os : List VOper) (e : FE) (h : VH) (hs : List VH) : kdops call nro d op k os e h hs none = none := rfl
@[simp] theorem kdops_ite (d : Option Nat) (op : VOp) (k : Nat) (os : List VOper) (e : FE) (h : VH) (hs : List VH) (c : Prop) [Decidable c] (x y : Option (Value × VH)) : kdops call nro d op k os e h hs (if c then x else y) = if c then kdops call nro d op k os e h hs x else kdops call nro d op k os e h hs y := by split <;> rfl
@[simp] theorem kdguard_bool (g : Nat) (b c : Bool) (d : Option Nat) (op : VOp) (k : Nat) (os : List VOper) (e : FE) (h : VH) (hs : List VH) : kdguard call nro g b d op k os e h hs (.bool c) = if c = b then kdops call nro d op k os (fput e (some g) (.bool b)) h hs (vop call nro (fev (fput e (some g) (.bool b))) h op) else fdops call nro os (fput (fput e (some g) (.bool !b)) d undef) h (if op.eff = true then h :: hs else hs) := rfl
@[simp] theorem kdguard_undef (g : Nat) (b : Bool) (d : Option Nat) (op : VOp) (k : Nat) (os : List VOper) (e : FE) (h : VH) (hs : List VH) : kdguard call nro g b d op k os e h hs undef = fdops call nro os (fput e d undef) h (if op.eff = true then h :: hs else hs) := rfl

/-! ### code -/
/-- Garbage dropped. -/
noncomputable def kclean (h0 : VH) (vs : List Value) (h : VH) : List Value × VH := cleanup h0.length h0 vs h
def kn : Option (FE × VH) → Option (VX × FE × VH)
  | some (e, h) => some (.normal, e, h)
  | none => none
@[simp] theorem kn_some (e : FE) (h : VH) : kn (some (e, h)) = some (.normal, e, h) := rfl
@[simp] theorem kn_none : kn none = none := rfl
@[simp] theorem kn_ite (c : Prop) [Decidable c] (x y : Option (FE × VH)) : kn (if c then x else y) = if c then kn x else kn y := by split <;> rfl

noncomputable def kseq (call : VCall) (nro : Nat) (b : FC) : Option (VX × FE × VH) → Option (VX × FE × VH)
  | some (.normal, e, h) => fcode call nro b e h
  | r => r
@[simp] theorem kseq_normal (b : FC) (e : FE) (h : VH) : kseq call nro b (some (.normal, e, h)) = fcode call nro b e h := rfl
@[simp] theorem kseq_ret (b : FC) (e : FE) (h : VH) : kseq call nro b (some (.ret, e, h)) = some (.ret, e, h) := rfl
@[simp] theorem kseq_exit (b : FC) (i : Nat) (e : FE) (h : VH) : kseq call nro b (some (.exit i, e, h)) = some (.exit i, e, h) := rfl
@[simp] theorem kseq_none (b : FC) : kseq call nro b none = none := rfl
@[simp] theorem kseq_ite (b : FC) (c : Prop) [Decidable c] (x y : Option (VX × FE × VH)) : kseq call nro b (if c then x else y) = if c then kseq call nro b x else kseq call nro b y := by split <;> rfl

noncomputable def kcond (call : VCall) (nro : Nat) (a b : FC) (e : FE) (h : VH) : Value → Option (VX × FE × VH)
  | .bool true => fcode call nro a e h
  | .bool false => fcode call nro b e h
  | _ => none
@[simp] theorem kcond_bool (a b : FC) (e : FE) (h : VH) (c : Bool) : kcond call nro a b e h (.bool c) = if c = true then fcode call nro a e h else fcode call nro b e h := by cases c <;> rfl

def kblock (id : Nat) : Option (VX × FE × VH) → Option (VX × FE × VH)
  | some (.exit i, e, h) => if i = id then some (.normal, e, h) else some (.exit i, e, h)
  | r => r
@[simp] theorem kblock_normal (id : Nat) (e : FE) (h : VH) : kblock id (some (.normal, e, h)) = some (.normal, e, h) := rfl
@[simp] theorem kblock_ret (id : Nat) (e : FE) (h : VH) : kblock id (some (.ret, e, h)) = some (.ret, e, h) := rfl
@[simp] theorem kblock_exit (id i : Nat) (e : FE) (h : VH) : kblock id (some (.exit i, e, h)) = if i = id then some (.normal, e, h) else some (.exit i, e, h) := rfl
@[simp] theorem kblock_none (id : Nat) : kblock id none = none := rfl
@[simp] theorem kblock_ite (id : Nat) (c : Prop) [Decidable c] (x y : Option (VX × FE × VH)) : kblock id (if c then x else y) = if c then kblock id x else kblock id y := by split <;> rfl

/-- A loop from its head: the places that live there, the heap before the loop, and the heap now. -/
noncomputable def floop (call : VCall) (nro : Nat) (live : List Nat) (c : FC) (h0 : VH) (vs : List Value) (h : VH) : Option (VX × FE × VH) :=
  iter (fun s : List Value × VH => match fcode call nro c (fl (live.zip s.1)) s.2 with
      | some (.normal, e', h') => some (.inl (cleanup h0.length h0 (live.map e') h'))
      | some r => some (.inr r)
      | none => none) (vs, h)

noncomputable def kloop (call : VCall) (nro : Nat) (live : List Nat) (c : FC) (h0 : VH) (p : List Value × VH) : Option (VX × FE × VH) := floop call nro live c h0 p.1 p.2
@[simp] theorem kloop_mk (live : List Nat) (c : FC) (h0 : VH) (vs : List Value) (h : VH) : kloop call nro live c h0 (vs, h) = floop call nro live c h0 vs h := rfl
noncomputable def kback (call : VCall) (nro : Nat) (live : List Nat) (c : FC) (h0 : VH) : Option (VX × FE × VH) → Option (VX × FE × VH)
  | some (.normal, e, h) => kloop call nro live c h0 (kclean h0 (live.map e) h)
  | r => r
@[simp] theorem kback_normal (live : List Nat) (c : FC) (h0 : VH) (e : FE) (h : VH) : kback call nro live c h0 (some (.normal, e, h)) = kloop call nro live c h0 (kclean h0 (live.map e) h) := rfl
@[simp] theorem kback_exit (live : List Nat) (c : FC) (h0 : VH) (i : Nat) (e : FE) (h : VH) : kback call nro live c h0 (some (.exit i, e, h)) = some (.exit i, e, h) := rfl
@[simp] theorem kback_ret (live : List Nat) (c : FC) (h0 : VH) (e : FE) (h : VH) : kback call nro live c h0 (some (.ret, e, h)) = some (.ret, e, h) := rfl
@[simp] theorem kback_none (live : List Nat) (c : FC) (h0 : VH) : kback call nro live c h0 none = none := rfl
@[simp] theorem kback_ite (live : List Nat) (b : FC) (h0 : VH) (c : Prop) [Decidable c] (x y : Option (VX × FE × VH)) : kback call nro live b h0 (if c then x else y) = if c then kback call nro live b h0 x else kback call nro live b h0 y := by split <;> rfl

/-- One time round a loop. -/
theorem floop_eq (live : List Nat) (c : FC) (h0 : VH) (vs : List Value) (h : VH) : floop call nro live c h0 vs h = kback call nro live c h0 (fcode call nro c (fl (live.zip vs)) h) := by
  unfold floop
  rw [iter]
  dsimp only
  generalize fcode call nro c (fl (live.zip vs)) h = q
  match q with
  | none => rfl
  | some (.normal, e, h') => rfl
  | some (.exit i, e, h') => rfl
  | some (.ret, e, h') => rfl

/-- The same, the loop's code shown inside alone. -/
theorem floop_at {c c' : FC} (e : c = c') (live : List Nat) (h0 : VH) (vs : List Value) (h : VH) : floop call nro live c h0 vs h = kback call nro live c h0 (fcode call nro c' (fl (live.zip vs)) h) := by
  rw [floop_eq, ← e]

@[simp] theorem fcode_skip (e : FE) (h : VH) : fcode call nro .skip e h = some (.normal, e, h) := rfl
@[simp] theorem fcode_ops (os : List VOper) (e : FE) (h : VH) : fcode call nro (.ops os) e h = kn (fops call nro os e h) := by
  simp only [fcode]; cases fops call nro os e h <;> rfl
@[simp] theorem fcode_dops (os : List VOper) (e : FE) (h : VH) : fcode call nro (.dops os) e h = kn (fdops call nro os e h []) := by
  simp only [fcode]; cases fdops call nro os e h [] <;> rfl
@[simp] theorem fcode_seq (a b : FC) (e : FE) (h : VH) : fcode call nro (.seq a b) e h = kseq call nro b (fcode call nro a e h) := by
  simp only [fcode]
  generalize fcode call nro a e h = q
  match q with
  | none => rfl
  | some (.normal, e, h') => rfl
  | some (.exit i, e, h') => rfl
  | some (.ret, e, h') => rfl
@[simp] theorem fcode_cond (x : Operand) (a b : FC) (e : FE) (h : VH) : fcode call nro (.cond x a b) e h = kcond call nro a b e h (fev e x) := by
  simp only [fcode]
  generalize fev e x = v
  unfold kcond
  split <;> simp_all
@[simp] theorem fcode_block (id : Nat) (c : FC) (e : FE) (h : VH) : fcode call nro (.block id c) e h = kblock id (fcode call nro c e h) := by
  simp only [fcode]
  generalize fcode call nro c e h = q
  match q with
  | none => rfl
  | some (.normal, e, h') => rfl
  | some (.exit i, e, h') => rfl
  | some (.ret, e, h') => rfl
@[simp] theorem fcode_loop (live : List Nat) (c : FC) (e : FE) (h : VH) : fcode call nro (.loop live c) e h = floop call nro live c h (live.map e) h := rfl
@[simp] theorem fcode_keep (live : List Nat) (c : FC) (e : FE) (h : VH) : fcode call nro (.keep live c) e h = fcode call nro c (fl (live.zip (live.map e))) h := rfl
@[simp] theorem fcode_exit (i : Nat) (e : FE) (h : VH) : fcode call nro (.exit i) e h = some (.exit i, e, h) := rfl
@[simp] theorem fcode_ret (e : FE) (h : VH) : fcode call nro .ret e h = some (.ret, e, h) := rfl

/-! ### a function's end -/
noncomputable def kfin (p : List Value × VH) : Option (Value × VH) := some (p.1.getD 0 undef, p.2)
@[simp] theorem kfin_mk (v : Value) (h : VH) : kfin ([v], h) = some (v, h) := rfl
noncomputable def kret (res : List VR) (h : VH) : Option (VX × FE × VH) → Option (Value × VH)
  | some (.exit _, _, _) => none
  | some (_, e, h') => fend h (fresults e h' res) h'
  | none => none
@[simp] theorem kret_ret (res : List VR) (h : VH) (e : FE) (h' : VH) : kret res h (some (.ret, e, h')) = fend h (fresults e h' res) h' := rfl
@[simp] theorem kret_normal (res : List VR) (h : VH) (e : FE) (h' : VH) : kret res h (some (.normal, e, h')) = fend h (fresults e h' res) h' := rfl
@[simp] theorem kret_none (res : List VR) (h : VH) : kret res h none = none := rfl
@[simp] theorem kret_ite (res : List VR) (h : VH) (c : Prop) [Decidable c] (x y : Option (VX × FE × VH)) : kret res h (if c then x else y) = if c then kret res h x else kret res h y := by split <;> rfl
@[simp] theorem fend_some (h : VH) (v : Value) (h' : VH) : fend h (some v) h' = kfin (kclean h [v] h') := rfl
theorem fbody_eq (fn : FF) (args : List Value) (h : VH) : fbody call nro fn args h = kret fn.res h (fcode call nro fn.body (fargs args) h) := by
  unfold fbody
  generalize fcode call nro fn.body (fargs args) h = q
  match q with
  | none => rfl
  | some (.normal, e, h') => rfl
  | some (.exit i, e, h') => rfl
  | some (.ret, e, h') => rfl
@[simp] theorem fresults1 (e : FE) (h : VH) (t : Nat) : fresults e h [.tmp t] = some (e t) := rfl
@[simp] theorem fresults2 (e : FE) (h : VH) (t s : Nat) : fresults e h [.tmp t, .tmp s] = if notTup (e t) = true ∧ notTup (e s) = true then some (.tuple #[e t, e s]) else none := by
  simp [fresults, fresL, fres1]
@[simp] theorem fresults3 (e : FE) (h : VH) (t s u : Nat) : fresults e h [.tmp t, .tmp s, .tmp u] = if notTup (e t) = true ∧ notTup (e s) = true ∧ notTup (e u) = true then some (.tuple #[e t, e s, e u]) else none := by
  simp [fresults, fresL, fres1]
@[simp] theorem fresultsN (e : FE) (h : VH) : fresults e h [] = some (.tuple #[]) := rfl
attribute [simp] notTup

/-! ### what lies in the elder part -/
def Old (n : Nat) (v : Value) : Prop := ∀ r ∈ trefs v, r < n
theorem Old.le {n m : Nat} {v : Value} (h : Old n v) (hm : n ≤ m) : Old m v := fun r hr => Nat.lt_of_lt_of_le (h r hr) hm
@[simp] theorem old_int (n : Nat) (k : IntKind) (i : Int) : Old n (.int k i) := fun r hr => by simp [trefs, vrefs, crefs, arefs] at hr
@[simp] theorem old_bool (n : Nat) (b : Bool) : Old n (.bool b) := fun r hr => by simp [trefs, vrefs, crefs, arefs] at hr
@[simp] theorem old_str (n : Nat) (b : ByteArray) : Old n (.string b) := fun r hr => by simp [trefs, vrefs, crefs, arefs] at hr
@[simp] theorem old_junk (n : Nat) : Old n junk := fun r hr => by simp [junk, trefs, vrefs, crefs, arefs] at hr
@[simp] theorem old_undef (n : Nat) : Old n undef := fun r hr => by simp [undef, trefs] at hr
@[simp] theorem old_slN (n a b : Nat) : Old n (.slice none a b) := fun r hr => by simp [trefs, vrefs, crefs, arefs] at hr
@[simp] theorem old_ptrN (n : Nat) : Old n (.pointer none) := fun r hr => by simp [trefs, vrefs, crefs, arefs] at hr
@[simp] theorem old_nilF (n : Nat) : Old n .nilFunc := fun r hr => by simp [trefs, vrefs, crefs, arefs] at hr
@[simp] theorem old_sl (n : Nat) (a : Addr) (k t : Nat) : Old n (.slice (some a) k t) ↔ a.block < n := by simp [Old, trefs, vrefs, crefs, arefs]
@[simp] theorem old_ptr (n : Nat) (a : Addr) : Old n (.pointer (some a)) ↔ a.block < n := by simp [Old, trefs, vrefs, crefs, arefs]
/-- The same of a cell. -/
def OldC (n : Nat) (v : Value) : Prop := ∀ r ∈ crefs v, r < n
theorem old_all (n : Nat) (vs : List Value) : (∀ r ∈ vs.flatMap trefs, r < n) ↔ ∀ v ∈ vs, Old n v := by
  simp only [List.mem_flatMap, Old]
  constructor
  · intro h v hv r hr
    exact h r ⟨v, hv, hr⟩
  · rintro h r ⟨v, hv, hr⟩
    exact h v hv r hr

def flatO (n : Nat) (o : VO) : Prop := ∀ r ∈ orefs o, r < n

theorem keepL_nil {base : Nat} {vs : List Value} (h : ∀ v ∈ vs, Old base v) : keepL base vs = [] := by
  unfold keepL
  rw [List.filter_eq_nil_iff.mpr]
  · rfl
  · intro r hr
    have := (old_all base vs).mpr h r hr
    simp; omega

theorem tren_old {n : Nat} {v : Value} (h : Old n v) {r : Nat → Nat} (hr : ∀ i, i < n → r i = i) : tren r v = v := by
  have ha : ∀ v : Value, (∀ i ∈ arefs v, i < n) → aren r v = v := by
    intro v hv
    unfold aren
    split
    · rename_i a
      rw [hr a.block (hv _ (by simp [arefs]))]
    · rename_i a k c
      rw [hr a.block (hv _ (by simp [arefs]))]
    · rfl
  have hmap : ∀ (f : Value → Value) (vs : Array Value), (∀ v ∈ vs, f v = v) → vs.map f = vs := by
    intro f vs h
    exact (Array.map_congr_left (g := id) h).trans (Array.map_id _)
  have hc : ∀ v : Value, (∀ i ∈ crefs v, i < n) → cren r v = v := by
    intro v hv
    unfold cren
    split
    · rename_i f a c
      simp only [crefs, List.mem_append, List.mem_flatMap] at hv
      rw [hmap _ a fun v h => ha v fun i hi => hv i (.inl ⟨v, by simpa using h, hi⟩), hmap _ c fun v h => ha v fun i hi => hv i (.inr ⟨v, by simpa using h, hi⟩)]
    · rename_i hne
      refine ha v fun i hi => hv i ?_
      unfold crefs
      split
      · exact absurd rfl (hne _ _ _)
      · exact hi
  have hvv : ∀ v : Value, (∀ i ∈ vrefs v, i < n) → vren r v = v := by
    intro v hv
    unfold vren
    split
    · rename_i cs
      simp only [vrefs, List.mem_flatMap] at hv
      rw [hmap _ cs fun v h => hc v fun i hi => hv i ⟨v, by simpa using h, hi⟩]
    · rename_i hne
      refine hc v fun i hi => hv i ?_
      unfold vrefs
      split
      · exact absurd rfl (hne _)
      · exact hi
  unfold tren
  split
  · rename_i vs
    unfold Old at h
    simp only [trefs, List.mem_flatMap] at h
    rw [hmap _ vs fun v hv => hvv v fun i hi => h i ⟨v, by simpa using hv, hi⟩]
  · rename_i hne
    refine hvv v fun i hi => h i ?_
    unfold trefs
    split
    · exact absurd rfl (hne _)
    · exact hi

theorem okT_app {h0 L : VH} {L0 : VH} (hL : ∀ o ∈ L, flatO (h0.length + L0.length) o) : okT (h0 ++ L0).length (h0 ++ L0) (h0 ++ L) := by
  intro i o ho
  by_cases hi : i < h0.length
  · left
    rw [List.getElem?_append_left hi] at ho ⊢
    exact ho
  · right
    rw [List.getElem?_append_right (by omega)] at ho
    have := hL o (List.mem_of_getElem? ho)
    simpa [flatO] using this

/-- At the end of a time round: what is fresh and not led to is dropped. -/
@[simp] theorem cleanup_app {h0 L0 L : VH} {vs : List Value} (hv : ∀ v ∈ vs, Old (h0 ++ L0).length v) (hf : ∀ o ∈ L.take L0.length, flatO (h0.length + L0.length) o) :
    kclean (h0 ++ L0) vs (h0 ++ L) = (vs, h0 ++ L.take L0.length) := by
  have htake : (h0 ++ L).take (h0 ++ L0).length = h0 ++ L.take L0.length := by
    rw [List.length_append, List.take_append]
    simp [List.take_of_length_le]
  have hc : okT (h0 ++ L0).length (h0 ++ L0) ((h0 ++ L).take (h0 ++ L0).length) ∧ flatL (h0 ++ L0).length [] (h0 ++ L) := by
    refine ⟨?_, fun i hi => by cases hi⟩
    rw [htake]
    exact okT_app hf
  unfold kclean cleanup
  rw [keepL_nil hv, if_pos hc, htake]
  simp only [List.filterMap_nil, List.append_nil, Prod.mk.injEq, and_true]
  have : ∀ v ∈ vs, tren (renOf (h0 ++ L0).length []) v = v := fun v h => tren_old (hv v h) fun i hi => by simp only [renOf, if_pos hi]
  exact (List.map_congr_left this).trans (by simp)

@[simp] theorem cleanup_drop {h L : VH} {vs : List Value} (hv : ∀ v ∈ vs, Old h.length v) : kclean h vs (h ++ L) = (vs, h) := by
  have := cleanup_app (h0 := h) (L0 := []) (L := L) (vs := vs) (by simpa using hv) (by simp)
  simpa using this

@[simp] theorem cleanup_same {h : VH} {vs : List Value} (hv : ∀ v ∈ vs, Old h.length v) : kclean h vs h = (vs, h) := by
  have := cleanup_drop (h := h) (L := []) hv
  simpa using this

/-- What is fresh and led to is kept. -/
theorem cleanup_keep {h L : VH} {vs : List Value} {ks : List Nat} (hk : keepL h.length vs = ks) (hf : flatL h.length ks (h ++ L)) :
    kclean h vs (h ++ L) = (vs.map (tren (renOf h.length ks)), h ++ ks.filterMap fun i => (h ++ L)[i]?) := by
  have hc : okT h.length h ((h ++ L).take h.length) ∧ flatL h.length ks (h ++ L) := by
    refine ⟨fun i o ho => ?_, hf⟩
    left
    rw [List.getElem?_take] at ho
    split at ho
    · rename_i hi
      rw [List.getElem?_append_left hi] at ho
      exact ho
    · cases ho
  unfold kclean cleanup
  rw [hk, if_pos hc]
  simp

/-! ### the heap -/
@[simp] theorem hget0 (h L : VH) : (h ++ L)[h.length]? = L[0]? := by rw [List.getElem?_append_right (Nat.le_refl _)]; simp
@[simp] theorem hgetk (h L : VH) (k : Nat) : (h ++ L)[h.length + k]? = L[k]? := by rw [List.getElem?_append_right (by omega)]; congr 1; omega
@[simp] theorem hset0 (h L : VH) (o : VO) : (h ++ L).set h.length o = h ++ L.set 0 o := by rw [List.set_append_right _ _ (Nat.le_refl _)]; simp
@[simp] theorem hsetk (h L : VH) (k : Nat) (o : VO) : (h ++ L).set (h.length + k) o = h ++ L.set k o := by rw [List.set_append_right _ _ (by omega)]; congr 2; omega

/-! ### operations, in parts -/
def vlen (h : VH) : Value → Option (Value × VH)
  | .slice none 0 0 => some (.int .i64 0, h)
  | .slice none 0 1 => some (.int .i64 0, h)
  | .slice (some a) n tot => match h[a.block]? with
    | some o => if tot = o.cells.length then some (.int .i64 n, h) else none
    | none => none
  | _ => none
def vidx (sz : Nat) (h : VH) : Value → Value → Option (Value × VH)
  | .slice (some a) n tot, .int _ j =>
    match h[a.block]? with
    | some o => if o.sz = sz ∧ tot = o.cells.length ∧ 0 ≤ j ∧ j < n then some (.pointer (some ⟨a.block, a.off + j.toNat * sz, some tot⟩), h) else none
    | none => none
  | _, _ => none
def vpick (c a b : Value) (h : VH) : Option (Value × VH) := match c with
  | .bool t => some (if t then a else b, h)
  | _ => none
def vext (h : VH) (i : Nat) : Value → Option (Value × VH)
  | .tuple vs => match vs[i]? with
      | some v => some (v, h)
      | none => none
  | _ => none
def vconv (k : IntKind) (h : VH) : Value → Option (Value × VH)
  | .int _ n => some (.int k (k.wrap n), h)
  | _ => none
def vfld (off : Nat) (h : VH) : Value → Option (Value × VH)
  | .pointer (some a) => if vlive h a = true then some (.pointer (some { a with off := a.off + off }), h) else none
  | _ => none
def vfieldv (agg : Bool) (off n : Nat) (h : VH) : Value → Option (Value × VH)
  | .agg cs => if off + n ≤ cs.size then (if agg then some (.agg (cs.extract off (off + n)), h) else match cs[off]? with
      | some v => some (v, h)
      | none => none) else none
  | _ => none
def vmk (sz : Nat) (zero : List Value) (bytes : Nat) (h : VH) : Value → Value → Option (Value × VH)
  | .int .i64 n, .int .i64 m => if n = m ∧ 0 ≤ n ∧ bytes * n ≤ 2 ^ 47 ∧ n ≤ 2 ^ 47 then some (.slice (some ⟨h.length, 0, none⟩) n.toNat (n.toNat * sz), h ++ [⟨sz, (List.replicate n.toNat zero).flatten⟩]) else none
  | _, _ => none
def vbox (n : Nat) (h : VH) (x : Value) : Option (Value × VH) := if (vcells x).length = n ∧ isJunk x = false then some (.pointer (some ⟨h.length, 0, some n⟩), h ++ [⟨0, vcells x⟩]) else none
def vnil (h : VH) : Value → Option (Value × VH)
  | .pointer (some a) => if vlive h a = true then some (.pointer (some a), h) else none
  | .func (.func f) a c => some (.func (.func f) a c, h)
  | _ => none
def vlenStr (h : VH) : Value → Option (Value × VH)
  | .string s => some (.int .i64 s.size, h)
  | _ => none
def vmvStr (h : VH) : Value → Option (Value × VH)
  | .string s => some (.string s, h)
  | _ => none
def veqnilS (neg : Bool) (h : VH) : Value → Option (Value × VH)
  | .slice none 0 0 => some (.bool !neg, h)
  | .slice (some a) _ tot => match h[a.block]? with
      | some o => if tot = o.cells.length then some (.bool neg, h) else none
      | none => none
  | _ => none
def veqnilF (neg : Bool) (h : VH) : Value → Option (Value × VH)
  | .nilFunc => some (.bool !neg, h)
  | .func .. => some (.bool neg, h)
  | _ => none
def vcallv (call : VCall) (h : VH) (f : Value) (args : List Value) : Option (Value × VH) := match f with
  | .func (.func g) first caps => call g (first.toList ++ args ++ caps.toList) h
  | _ => none

variable (ev : Operand → Value) (h : VH)
@[simp] theorem vop_mv (x : Operand) : vop call nro ev h (.mv x) = some (ev x, h) := rfl
@[simp] theorem vop_pick (c a b : Operand) : vop call nro ev h (.pick c a b) = vpick (ev c) (ev a) (ev b) h := rfl
@[simp] theorem vop_bin (o : BinOp) (x y : Operand) : vop call nro ev h (.bin o x y) = (vbin o (ev x) (ev y)).map (·, h) := rfl
@[simp] theorem vop_beq (n : Bool) (x y : Operand) : vop call nro ev h (.beq n x y) = (vbeq n (ev x) (ev y)).map (·, h) := rfl
@[simp] theorem vop_un (o : UnOp) (x : Operand) : vop call nro ev h (.un o x) = (vun o (ev x)).map (·, h) := rfl
@[simp] theorem vop_conv (k : IntKind) (x : Operand) : vop call nro ev h (.conv k x) = vconv k h (ev x) := rfl
@[simp] theorem vop_box (n : Nat) (x : Operand) : vop call nro ev h (.box n x) = vbox n h (ev x) := rfl
@[simp] theorem vop_alloc (z : List Value) : vop call nro ev h (.alloc z) = some (.pointer (some ⟨h.length, 0, some z.length⟩), h ++ [⟨0, z⟩]) := rfl
@[simp] theorem vop_build (z : List Value) (ps : List (Nat × Nat × Operand)) : vop call nro ev h (.build z ps) = (vfill z (ps.map fun p => (p.1, p.2.1, ev p.2.2))).map fun cs => (.agg cs.toArray, h) := rfl
@[simp] theorem vop_buildSl (sz : Nat) (z : List Value) (ps : List (Nat × Nat × Operand)) (n : Nat) : vop call nro ev h (.buildSl sz z ps n) = (vfill z (ps.map fun p => (p.1, p.2.1, ev p.2.2))).map fun cs => (.slice (some ⟨h.length, 0, none⟩) n z.length, h ++ [⟨sz, cs⟩]) := rfl
@[simp] theorem vop_load (g : Bool) (n : Nat) (p : Operand) : vop call nro ev h (.load g n p) = (vload g n h (ev p)).map (·, h) := rfl
@[simp] theorem vop_store (n : Nat) (p x : Operand) : vop call nro ev h (.store n p x) = (vstore nro n h (ev p) (ev x)).map (undef, ·) := rfl
@[simp] theorem vop_nilchk (x : Operand) : vop call nro ev h (.nilchk x) = vnil h (ev x) := rfl
@[simp] theorem vop_fld (n : Nat) (p : Operand) : vop call nro ev h (.fld n p) = vfld n h (ev p) := rfl
@[simp] theorem vop_fieldv (g : Bool) (o n : Nat) (x : Operand) : vop call nro ev h (.fieldv g o n x) = vfieldv g o n h (ev x) := rfl
@[simp] theorem vop_idx (n : Nat) (s i : Operand) : vop call nro ev h (.idx n s i) = vidx n h (ev s) (ev i) := rfl
@[simp] theorem vop_mkSl (sz : Nat) (z : List Value) (b : Nat) (l c : Operand) : vop call nro ev h (.mkSl sz z b l c) = vmk sz z b h (ev l) (ev c) := rfl
@[simp] theorem vop_slc (sz : Nat) (x : Operand) (lo hi : Option Operand) : vop call nro ev h (.slc sz x lo hi) = (vslice sz h (ev x) (lo.map ev) (hi.map ev)).map (·, h) := rfl
@[simp] theorem vop_slcStr (x : Operand) (lo hi : Option Operand) : vop call nro ev h (.slcStr x lo hi) = (vsliceStr (ev x) (lo.map ev) (hi.map ev)).map (·, h) := rfl
@[simp] theorem vop_ext (x : Operand) (i : Nat) : vop call nro ev h (.ext x i) = vext h i (ev x) := rfl
@[simp] theorem vop_len (x : Operand) : vop call nro ev h (.len x) = vlen h (ev x) := rfl
@[simp] theorem vop_lenStr (x : Operand) : vop call nro ev h (.lenStr x) = vlenStr h (ev x) := rfl
@[simp] theorem vop_mvStr (x : Operand) : vop call nro ev h (.mvStr x) = vmvStr h (ev x) := rfl
@[simp] theorem vop_eqnilS (n : Bool) (x : Operand) : vop call nro ev h (.eqnilS n x) = veqnilS n h (ev x) := rfl
@[simp] theorem vop_eqnilF (n : Bool) (x : Operand) : vop call nro ev h (.eqnilF n x) = veqnilF n h (ev x) := rfl
@[simp] theorem vop_app (sz b : Nat) (z : List Value) (s x : Operand) : vop call nro ev h (.app sz b z s x) = vappend nro sz b h (ev s) (ev x) := rfl
@[simp] theorem vop_minmax (m : Bool) (xs : List Operand) : vop call nro ev h (.minmax m xs) = (vminmax m (xs.map ev)).map (·, h) := rfl
@[simp] theorem vop_call (f : Nat) (xs : List Operand) : vop call nro ev h (.call f xs) = call f (xs.map ev) h := rfl
@[simp] theorem vop_callv (f : Operand) (xs : List Operand) : vop call nro ev h (.callv f xs) = vcallv call h (ev f) (xs.map ev) := rfl
@[simp] theorem vop_clr (sz : Nat) (z : List Value) (x : Operand) : vop call nro ev h (.clr sz z x) = vclear nro sz z h (ev x) := rfl
@[simp] theorem vop_cpy (sz : Nat) (x y : Operand) : vop call nro ev h (.cpy sz x y) = vcopy nro sz h (ev x) (ev y) := rfl
@[simp] theorem vop_stop : vop call nro ev h .stop = none := rfl
@[simp] theorem vop_mkfn (f : Nat) (a b : List Operand) : vop call nro ev h (.mkfn f a b) = if (a.map ev).all isAtom && (b.map ev).all isAtom then some (.func (.func f) (a.map ev).toArray (b.map ev).toArray, h) else none := rfl
attribute [simp] VOp.eff
@[simp] theorem vpick_bool (c : Bool) (a b : Value) : vpick (.bool c) a b h = some (if c = true then a else b, h) := rfl
@[simp] theorem vconv_int (k k' : IntKind) (n : Int) : vconv k h (.int k' n) = some (.int k (k.wrap n), h) := rfl
@[simp] theorem vlenStr_str (s : ByteArray) : vlenStr h (.string s) = some (.int .i64 s.size, h) := rfl
@[simp] theorem vmvStr_str (s : ByteArray) : vmvStr h (.string s) = some (.string s, h) := rfl
@[simp] theorem vlen_nil : vlen h (.slice none 0 0) = some (.int .i64 0, h) := rfl
@[simp] theorem vlen_ref (a : Addr) (n tot : Nat) : vlen h (.slice (some a) n tot) = match h[a.block]? with
    | some o => if tot = o.cells.length then some (.int .i64 n, h) else none
    | none => none := rfl
@[simp] theorem vidx_ref (sz : Nat) (a : Addr) (n tot : Nat) (k : IntKind) (j : Int) : vidx sz h (.slice (some a) n tot) (.int k j) = match h[a.block]? with
    | some o => if o.sz = sz ∧ tot = o.cells.length ∧ 0 ≤ j ∧ j < n then some (.pointer (some ⟨a.block, a.off + j.toNat * sz, some tot⟩), h) else none
    | none => none := rfl
@[simp] theorem vext_tup (vs : Array Value) (i : Nat) : vext h i (.tuple vs) = match vs[i]? with
      | some v => some (v, h)
      | none => none := rfl
@[simp] theorem vfld_ref (off : Nat) (a : Addr) : vfld off h (.pointer (some a)) = if vlive h a = true then some (.pointer (some { a with off := a.off + off }), h) else none := rfl
@[simp] theorem vfieldv_agg (g : Bool) (off n : Nat) (cs : Array Value) : vfieldv g off n h (.agg cs) = if off + n ≤ cs.size then (if g then some (.agg (cs.extract off (off + n)), h) else match cs[off]? with
      | some v => some (v, h)
      | none => none) else none := rfl
@[simp] theorem vmk_int (sz : Nat) (z : List Value) (b : Nat) (n m : Int) : vmk sz z b h (.int .i64 n) (.int .i64 m) = if n = m ∧ 0 ≤ n ∧ b * n ≤ 2 ^ 47 ∧ n ≤ 2 ^ 47 then some (.slice (some ⟨h.length, 0, none⟩) n.toNat (n.toNat * sz), h ++ [⟨sz, (List.replicate n.toNat z).flatten⟩]) else none := rfl
@[simp] theorem vnil_ref (a : Addr) : vnil h (.pointer (some a)) = if vlive h a = true then some (.pointer (some a), h) else none := rfl
@[simp] theorem vnil_func (f : Nat) (a c : Array Value) : vnil h (.func (.func f) a c) = some (.func (.func f) a c, h) := rfl
@[simp] theorem veqnilS_nil (n : Bool) : veqnilS n h (.slice none 0 0) = some (.bool !n, h) := rfl
@[simp] theorem veqnilS_ref (n : Bool) (a : Addr) (k tot : Nat) : veqnilS n h (.slice (some a) k tot) = match h[a.block]? with
      | some o => if tot = o.cells.length then some (.bool n, h) else none
      | none => none := rfl
@[simp] theorem vcallv_func (f : Nat) (first caps : Array Value) (args : List Value) : vcallv call h (.func (.func f) first caps) args = call f (first.toList ++ args ++ caps.toList) h := rfl
attribute [simp] vbox vget vlive vfill isJunk vminmax vminmaxL vminmax2 vsliceStr
@[simp] theorem vload_ref (g : Bool) (n : Nat) (a : Addr) : vload g n h (.pointer (some a)) = match vget h a n with
    | some cs => if g then some (.agg cs.toArray) else match cs with
      | [v] => some v
      | _ => none
    | none => none := rfl
@[simp] theorem vstore_ref (nro n : Nat) (a : Addr) (x : Value) : vstore nro n h (.pointer (some a)) x = match h[a.block]? with
    | some o =>
      if nro ≤ a.block ∧ a.spot = some o.cells.length ∧ a.off + n ≤ o.cells.length ∧ (vcells x).length = n ∧ (vcells x).all (fun v => !isJunk v) = true then
        some (h.set a.block { o with cells := splice a.off (vcells x) o.cells })
      else none
    | none => none := rfl
@[simp] theorem splice_zero (v : Value) (vs : List Value) (c : Value) (cs : List Value) : splice 0 (v :: vs) (c :: cs) = v :: vs ++ cs.drop vs.length := by simp [splice]
@[simp] theorem splice_succ (k : Nat) (vs : List Value) (c : Value) (cs : List Value) : splice (k + 1) vs (c :: cs) = c :: splice k vs cs := by
  simp [splice, Nat.add_right_comm]
@[simp] theorem vsrc_nil (sz : Nat) : vsrc sz h (.slice none 0 0) = some ([], 0) := rfl
@[simp] theorem vsrc_ref (sz : Nat) (a : Addr) (n tot : Nat) : vsrc sz h (.slice (some a) n tot) = match h[a.block]? with
    | some o => if o.sz = sz ∧ tot = o.cells.length ∧ a.off + n * sz ≤ tot then some ((o.cells.drop a.off).take (n * sz), n) else none
    | none => none := rfl
/-- An append, once its source is known. -/
def vapp (nro sz bytes : Nat) (h : VH) (s : Value) : Option (List Value × Nat) → Option (Value × VH)
  | none => none
  | some (cs, m) =>
    if cs.all (fun v => !isJunk v) = true ∧ 1 ≤ sz then
      match s with
      | .slice none 0 0 =>
        if m = 0 then some (.slice none 0 0, h)
        else if m * bytes ≤ 2 ^ 40 ∧ m ≤ 2 ^ 40 then some (.slice (some ⟨h.length, 0, none⟩) m cs.length, h ++ [⟨sz, cs⟩]) else none
      | .slice (some a) n tot =>
        match h[a.block]? with
        | some o =>
          if nro ≤ a.block ∧ o.sz = sz ∧ tot = o.cells.length ∧ a.off = 0 ∧ n * sz = tot ∧ (n + m) * bytes ≤ 2 ^ 40 ∧ n + m ≤ 2 ^ 40 then
            some (.slice (some a) (n + m) (tot + cs.length), h.set a.block { o with cells := o.cells ++ cs })
          else none
        | none => none
      | _ => none
    else none
@[simp] theorem vappend_eq (nro sz b : Nat) (s x : Value) : vappend nro sz b h s x = vapp nro sz b h s (vsrc sz h x) := by
  unfold vappend vapp
  cases vsrc sz h x <;> rfl
@[simp] theorem vapp_nil (nro sz b : Nat) (cs : List Value) (m : Nat) : vapp nro sz b h (.slice none 0 0) (some (cs, m)) = if cs.all (fun v => !isJunk v) = true ∧ 1 ≤ sz then (if m = 0 then some (.slice none 0 0, h) else if m * b ≤ 2 ^ 40 ∧ m ≤ 2 ^ 40 then some (.slice (some ⟨h.length, 0, none⟩) m cs.length, h ++ [⟨sz, cs⟩]) else none) else none := rfl
@[simp] theorem vapp_ref (nro sz b : Nat) (a : Addr) (n tot : Nat) (cs : List Value) (m : Nat) : vapp nro sz b h (.slice (some a) n tot) (some (cs, m)) = if cs.all (fun v => !isJunk v) = true ∧ 1 ≤ sz then (match h[a.block]? with
        | some o =>
          if nro ≤ a.block ∧ o.sz = sz ∧ tot = o.cells.length ∧ a.off = 0 ∧ n * sz = tot ∧ (n + m) * b ≤ 2 ^ 40 ∧ n + m ≤ 2 ^ 40 then
            some (.slice (some a) (n + m) (tot + cs.length), h.set a.block { o with cells := o.cells ++ cs })
          else none
        | none => none) else none := rfl
@[simp] theorem vslice_nil (sz : Nat) (lo hi : Option Value) : vslice sz h (.slice none 0 0) lo hi = match lo.getD (.int .i64 0), hi.getD (.int .i64 0) with
    | .int _ 0, .int _ 0 => some (.slice none 0 0)
    | _, _ => none := rfl
@[simp] theorem vslice_ref (sz : Nat) (a : Addr) (n tot : Nat) (lo hi : Option Value) : vslice sz h (.slice (some a) n tot) lo hi = match h[a.block]? with
    | some o =>
      if o.sz = sz ∧ tot = o.cells.length then
        match lo.getD (.int .i64 0), hi.getD (.int .i64 n) with
        | .int _ l, .int _ u => if 0 ≤ l ∧ l ≤ u ∧ u ≤ n then some (.slice (some { a with off := a.off + l.toNat * sz }) (u.toNat - l.toNat) tot) else none
        | _, _ => none
      else none
    | none => none := rfl
@[simp] theorem vcells_agg (cs : Array Value) : vcells (.agg cs) = cs.toList := rfl
@[simp] theorem vcells_int (k : IntKind) (n : Int) : vcells (.int k n) = [.int k n] := rfl
@[simp] theorem vcells_bool (b : Bool) : vcells (.bool b) = [.bool b] := rfl
@[simp] theorem vcells_str (b : ByteArray) : vcells (.string b) = [.string b] := rfl
@[simp] theorem vcells_sl (a : Option Addr) (n c : Nat) : vcells (.slice a n c) = [.slice a n c] := rfl
@[simp] theorem vcells_ptr (a : Option Addr) : vcells (.pointer a) = [.pointer a] := rfl
end
end Go.Proofs.YtghondlbkjponaaDoor.Zv

/- Numbers: the operations on integers, and bits. -/
namespace Go.Proofs.YtghondlbkjponaaDoor.Zv
open Go

theorem wrap64 {n : Int} (h1 : -9223372036854775808 ≤ n) (h2 : n ≤ 9223372036854775807) : IntKind.i64.wrap n = n := IntWalk.i64_in n ⟨h1, h2⟩
theorem wrapu64 {n : Int} (h1 : 0 ≤ n) (h2 : n ≤ 18446744073709551615) : IntKind.u64.wrap n = n := IntWalk.u64_in n ⟨h1, h2⟩
/-! The operations on bits are hidden from the kernel's eyes: it would else compare them bit by bit. -/
theorem ex_eq {α : Type} (a : α) : ∃ b, b = a := ⟨a, rfl⟩
noncomputable def iand : IntKind → Int → Int → Int := Classical.choose (ex_eq fun (k : IntKind) (a b : Int) => (k.wrap (BitVec.ofInt k.bits a &&& BitVec.ofInt k.bits b).toNat : Int))
theorem iand_eq (k : IntKind) (a b : Int) : iand k a b = k.wrap (BitVec.ofInt k.bits a &&& BitVec.ofInt k.bits b).toNat := congrFun (congrFun (congrFun (Classical.choose_spec (ex_eq fun (k : IntKind) (a b : Int) => (k.wrap (BitVec.ofInt k.bits a &&& BitVec.ofInt k.bits b).toNat : Int))) k) a) b
noncomputable def ior : IntKind → Int → Int → Int := Classical.choose (ex_eq fun (k : IntKind) (a b : Int) => (k.wrap (BitVec.ofInt k.bits a ||| BitVec.ofInt k.bits b).toNat : Int))
theorem ior_eq (k : IntKind) (a b : Int) : ior k a b = k.wrap (BitVec.ofInt k.bits a ||| BitVec.ofInt k.bits b).toNat := congrFun (congrFun (congrFun (Classical.choose_spec (ex_eq fun (k : IntKind) (a b : Int) => (k.wrap (BitVec.ofInt k.bits a ||| BitVec.ofInt k.bits b).toNat : Int))) k) a) b
noncomputable def ixor : IntKind → Int → Int → Int := Classical.choose (ex_eq fun (k : IntKind) (a b : Int) => (k.wrap (BitVec.ofInt k.bits a ^^^ BitVec.ofInt k.bits b).toNat : Int))
theorem ixor_eq (k : IntKind) (a b : Int) : ixor k a b = k.wrap (BitVec.ofInt k.bits a ^^^ BitVec.ofInt k.bits b).toNat := congrFun (congrFun (congrFun (Classical.choose_spec (ex_eq fun (k : IntKind) (a b : Int) => (k.wrap (BitVec.ofInt k.bits a ^^^ BitVec.ofInt k.bits b).toNat : Int))) k) a) b
noncomputable def iandNot : IntKind → Int → Int → Int := Classical.choose (ex_eq fun (k : IntKind) (a b : Int) => (k.wrap (BitVec.ofInt k.bits a &&& ~~~ BitVec.ofInt k.bits b).toNat : Int))
theorem iandNot_eq (k : IntKind) (a b : Int) : iandNot k a b = k.wrap (BitVec.ofInt k.bits a &&& ~~~ BitVec.ofInt k.bits b).toNat := congrFun (congrFun (congrFun (Classical.choose_spec (ex_eq fun (k : IntKind) (a b : Int) => (k.wrap (BitVec.ofInt k.bits a &&& ~~~ BitVec.ofInt k.bits b).toNat : Int))) k) a) b
noncomputable def ishl : IntKind → Int → Int → Int := Classical.choose (ex_eq fun (k : IntKind) (a b : Int) => (k.wrap (a * 2 ^ (min b.toNat k.bits)) : Int))
theorem ishl_eq (k : IntKind) (a b : Int) : ishl k a b = k.wrap (a * 2 ^ (min b.toNat k.bits)) := congrFun (congrFun (congrFun (Classical.choose_spec (ex_eq fun (k : IntKind) (a b : Int) => (k.wrap (a * 2 ^ (min b.toNat k.bits)) : Int))) k) a) b
noncomputable def ishr : IntKind → Int → Int → Int := Classical.choose (ex_eq fun (k : IntKind) (a b : Int) => (a.fdiv (2 ^ (min b.toNat k.bits)) : Int))
theorem ishr_eq (k : IntKind) (a b : Int) : ishr k a b = a.fdiv (2 ^ (min b.toNat k.bits)) := congrFun (congrFun (congrFun (Classical.choose_spec (ex_eq fun (k : IntKind) (a b : Int) => (a.fdiv (2 ^ (min b.toNat k.bits)) : Int))) k) a) b

section
variable (k : IntKind) (a b : Int)
@[simp] theorem vbin_add : vbin .add (.int k a) (.int k b) = some (.int k (k.wrap (a + b))) := by simp [vbin]
@[simp] theorem vbin_sub : vbin .sub (.int k a) (.int k b) = some (.int k (k.wrap (a - b))) := by simp [vbin]
@[simp] theorem vbin_mul : vbin .mul (.int k a) (.int k b) = some (.int k (k.wrap (a * b))) := by simp [vbin]
@[simp] theorem vbin_quo (hb : b ≠ 0) : vbin .quo (.int k a) (.int k b) = some (.int k (k.wrap (a.tdiv b))) := by simp [vbin, hb]
@[simp] theorem vbin_rem (hb : b ≠ 0) : vbin .rem (.int k a) (.int k b) = some (.int k (a.tmod b)) := by simp [vbin, hb]
@[simp] theorem vbin_and : vbin .and (.int k a) (.int k b) = some (.int k (iand k a b)) := by simp [vbin, iand_eq]
@[simp] theorem vbin_or : vbin .or (.int k a) (.int k b) = some (.int k (ior k a b)) := by simp [vbin, ior_eq]
@[simp] theorem vbin_xor : vbin .xor (.int k a) (.int k b) = some (.int k (ixor k a b)) := by simp [vbin, ixor_eq]
@[simp] theorem vbin_andNot : vbin .andNot (.int k a) (.int k b) = some (.int k (iandNot k a b)) := by simp [vbin, iandNot_eq]
@[simp] theorem vbin_shl (k' : IntKind) (hb : 0 ≤ b) : vbin .shl (.int k a) (.int k' b) = some (.int k (ishl k a b)) := by
  have : ¬ b < 0 := by omega
  simp [vbin, ishl_eq, this]
@[simp] theorem vbin_shr (k' : IntKind) (hb : 0 ≤ b) : vbin .shr (.int k a) (.int k' b) = some (.int k (ishr k a b)) := by
  have : ¬ b < 0 := by omega
  simp [vbin, ishr_eq, this]
@[simp] theorem vbin_eql : vbin .eql (.int k a) (.int k b) = some (.bool (decide (a = b))) := by simp [vbin]; rfl
@[simp] theorem vbin_neq : vbin .neq (.int k a) (.int k b) = some (.bool (decide (a ≠ b))) := by
  simp [vbin]
  by_cases h : a = b <;> simp [h]
@[simp] theorem vbin_lss : vbin .lss (.int k a) (.int k b) = some (.bool (decide (a < b))) := by simp [vbin]
@[simp] theorem vbin_leq : vbin .leq (.int k a) (.int k b) = some (.bool (decide (a ≤ b))) := by simp [vbin]
@[simp] theorem vbin_gtr : vbin .gtr (.int k a) (.int k b) = some (.bool (decide (b < a))) := by simp [vbin]
@[simp] theorem vbin_geq : vbin .geq (.int k a) (.int k b) = some (.bool (decide (b ≤ a))) := by simp [vbin]
@[simp] theorem vbeq_bool (n : Bool) (x y : Bool) : vbeq n (.bool x) (.bool y) = some (.bool (if n = true then !(x == y) else x == y)) := rfl
@[simp] theorem vun_not (x : Bool) : vun .not (.bool x) = some (.bool !x) := rfl
@[simp] theorem vun_neg : vun .neg (.int k a) = some (.int k (k.wrap (0 - a))) := rfl
end

/-! ### bits of what is not negative -/
theorem ofInt_nat (w n : Nat) (h : n < 2 ^ w) : (BitVec.ofInt w (n : Int)).toNat = n := by
  simp
  exact Nat.mod_eq_of_lt h

theorem iand_nat {a b : Nat} (ha : a < 2 ^ 63) (hb : b < 2 ^ 63) : iand .i64 a b = ((a &&& b : Nat) : Int) := by
  rw [iand_eq]
  rw [BitVec.toNat_and]
  have e : IntKind.i64.bits = 64 := rfl
  rw [e, ofInt_nat 64 a (by omega), ofInt_nat 64 b (by omega)]
  have : a &&& b ≤ a := Nat.and_le_left
  exact wrap64 (by omega) (by omega)

theorem ior_nat {a b : Nat} (ha : a < 2 ^ 63) (hb : b < 2 ^ 63) : ior .i64 a b = ((a ||| b : Nat) : Int) := by
  rw [ior_eq]
  rw [BitVec.toNat_or]
  have e : IntKind.i64.bits = 64 := rfl
  rw [e, ofInt_nat 64 a (by omega), ofInt_nat 64 b (by omega)]
  have : a ||| b < 2 ^ 63 := Nat.or_lt_two_pow ha hb
  exact wrap64 (by omega) (by omega)

theorem ixor_nat {a b : Nat} (ha : a < 2 ^ 63) (hb : b < 2 ^ 63) : ixor .i64 a b = ((a ^^^ b : Nat) : Int) := by
  rw [ixor_eq]
  rw [BitVec.toNat_xor]
  have e : IntKind.i64.bits = 64 := rfl
  rw [e, ofInt_nat 64 a (by omega), ofInt_nat 64 b (by omega)]
  have : a ^^^ b < 2 ^ 63 := Nat.xor_lt_two_pow ha hb
  exact wrap64 (by omega) (by omega)

theorem ishr_nat {a : Nat} {b : Int} (hb : b ≤ 64) : ishr .i64 a b = ((a >>> b.toNat : Nat) : Int) := by
  rw [ishr_eq]
  have e : min b.toNat IntKind.i64.bits = b.toNat := by
    have : IntKind.i64.bits = 64 := rfl
    omega
  rw [e]
  have h1 : (a : Int).fdiv (2 ^ b.toNat) = ((a / 2 ^ b.toNat : Nat) : Int) := by
    rw [Int.fdiv_eq_ediv_of_nonneg _ (Int.pow_nonneg (by decide))]
    simp
  rw [h1, Nat.shiftRight_eq_div_pow]

theorem ishl_one {b : Int} (h1 : b ≤ 62) : ishl .i64 1 b = ((2 ^ b.toNat : Nat) : Int) := by
  rw [ishl_eq]
  have e : min b.toNat IntKind.i64.bits = b.toNat := by
    have : IntKind.i64.bits = 64 := rfl
    omega
  rw [e]
  have : 2 ^ b.toNat ≤ 4611686018427387904 := Nat.le_trans (Nat.pow_le_pow_right (by decide : 0 < 2) (by omega : b.toNat ≤ 62)) (by decide)
  have h2 : (1 : Int) * 2 ^ b.toNat = ((2 ^ b.toNat : Nat) : Int) := by simp
  rw [h2]
  generalize 2 ^ b.toNat = q at *
  exact wrap64 (by omega) (by omega)

theorem iand_one {a : Nat} (ha : a < 2 ^ 63) : iand .i64 a 1 = ((a % 2 : Nat) : Int) := by
  have := iand_nat (a := a) (b := 1) ha (by omega)
  rw [Nat.and_one_is_mod] at this
  exact this

/-- Bit j of a row. -/
theorem bit_nat {a : Nat} {b : Int} (ha : a < 2 ^ 63) (hb : b ≤ 64) : (iand .i64 (ishr .i64 a b) 1 = 1) ↔ a.testBit b.toNat = true := by
  rw [ishr_nat hb, iand_one]
  · rw [Nat.testBit_eq_decide_div_mod_eq, Nat.shiftRight_eq_div_pow]
    simp only [decide_eq_true_eq]
    omega
  · rw [Nat.shiftRight_eq_div_pow]
    exact Nat.lt_of_le_of_lt (Nat.div_le_self _ _) ha
end Go.Proofs.YtghondlbkjponaaDoor.Zv

/- What the library's TrailingZeros64 does: it reads the table. -/
namespace Go.Proofs.YtghondlbkjponaaDoor.Zv
open Go

theorem tz_idx (x : Int) : 0 ≤ tzIdx x ∧ tzIdx x < 64 := by
  unfold tzIdx IntKind.wrap
  simp [IntKind.signed, IntKind.bits]
  omega

theorem tz_idx_nat (x : Int) : (tzIdx x).toNat < 64 := by
  have := tz_idx x
  omega

theorem tz_get (i : Nat) (hi : i < 64) : tzCells[i]? = some (.int .u8 (tzTab.getD i 0)) := by
  have e : tzCells[i]? = (tzTab[i]?).map (Value.int .u8) := by simp [tzCells]
  have hl : tzTab.length = 64 := by decide
  rw [e, List.getD_eq_getElem?_getD, List.getElem?_eq_getElem (by omega)]
  rfl
theorem tz_lo (i : Nat) : 0 ≤ tzTab.getD i 0 ∧ tzTab.getD i 0 < 64 := by
  by_cases hi : i < 64
  · have : ∀ i < 64, 0 ≤ tzTab.getD i 0 ∧ tzTab.getD i 0 < 64 := by decide
    exact this i hi
  · have hl : tzTab.length = 64 := by decide
    rw [List.getD_eq_getElem?_getD, List.getElem?_eq_none (by omega)]
    decide

theorem tz_cell (w : World) (ty fz) (hw : w.heap[0]? = some (.cells tzCells ty fz)) (i : Nat) (hi : i < 64) : w.cell? { block := 0, off := i } = some (.int .u8 (tzTab.getD i 0)) := by
  simp only [World.cell?, hw]
  exact tz_get i hi

/-- The word's place, as the walk spells it. -/
theorem tz_idx2 (x : Int) : 0 ≤ IntKind.u64.wrap (bits BinOp.and IntKind.u64 x (IntKind.u64.wrap (-x)) * 285870213051353865) / 288230376151711744 ∧ IntKind.u64.wrap (bits BinOp.and IntKind.u64 x (IntKind.u64.wrap (-x)) * 285870213051353865) / 288230376151711744 < 64 := tz_idx x

theorem tz_walk0 (w : World) :
    Calls Tryd.prog 167 #[.int .u64 0] w fun e w' => e = .returned (.int .i64 64) ∧ w' = w := by
  go_enter Tryd.func167, Tryd.ntmps167
  go_wp2
  go_ret
  exact ⟨rfl, rfl⟩

theorem tz_walk1 (x : Int) (h0 : ¬ x = 0) (t : Int) (w : World) (hT : w.cell? { block := 0, off := (IntKind.u64.wrap (bits BinOp.and IntKind.u64 x (IntKind.u64.wrap (-x)) * 285870213051353865) / 288230376151711744).toNat } = some (.int .u8 t)) :
    Calls Tryd.prog 167 #[.int .u64 x] w fun e w' => e = .returned (.int .i64 (RowKit.wrap64 t)) ∧ w' = w := by
  go_enter Tryd.func167, Tryd.ntmps167
  go_wp2
  · go_ret
    exact ⟨rfl, rfl⟩
  · rename_i hb
    exact absurd (tz_idx2 x) hb

/-- What the function does, as it is told of calls. -/
theorem tz_ext (nro : Nat) : ExtOK Tryd.prog nro 167 tzX := by
  intro f args h v h' hv φ w args' hnr hR ha
  simp only at hv
  split at hv
  · rename_i hf
    subst hf
    refine ⟨⟨_, Tryd.func167, by kernel_rfl, by kernel_rfl⟩, ?_⟩
    unfold tzX at hv
    split at hv
    · rename_i x
      simp only [Option.some.injEq, Prod.mk.injEq] at hv
      obtain ⟨rfl, rfl⟩ := hv
      cases ha with
      | cons h1 h2 =>
        cases h2
        have e := h1.inv_int
        subst e
        obtain ⟨⟨ty, fz, hw⟩, _⟩ := hR.glob 0 tzCells rfl
        have key : Calls Tryd.prog 167 #[.int .u64 x] w fun e w' => e = .returned (.int .i64 (tzv x)) ∧ w' = w := by
          by_cases h0 : x = 0
          · subst h0
            exact tz_walk0 w
          · have hwr : RowKit.wrap64 (tzTab.getD (tzIdx x).toNat 0) = tzTab.getD (tzIdx x).toNat 0 := by
              have := tz_lo (tzIdx x).toNat
              unfold RowKit.wrap64
              omega
            have := tz_walk1 x h0 _ w (tz_cell w ty fz hw (tzIdx x).toNat (tz_idx_nat x))
            rw [hwr] at this
            unfold tzv
            rw [if_neg h0]
            exact this
        refine key.mono fun e w' ⟨he, hw'⟩ => ?_
        subst hw'
        exact ⟨φ, _, he, hR, X.refl .., .val (.cell (.atom (.int _ _)))⟩
    · cases hv
  · cases hv
end Go.Proofs.YtghondlbkjponaaDoor.Zv

/- Slices that are read: what a slice's value tells of a list. -/
namespace Go.Proofs.YtghondlbkjponaaDoor.Zv
open Go

/-- A slice of elements of one cell each reads as a list. -/
def Sl (h : VH) (v : Value) (cs : List Value) : Prop := vsrc 1 h v = some (cs, cs.length)

/-- The place of an element. -/
def vptr (s : Value) (j : Nat) : Value := match s with
  | .slice (some a) _ tot => .pointer (some ⟨a.block, a.off + j, some tot⟩)
  | _ => junk

def ints (xs : List Int) : List Value := xs.map (Value.int .i64)
@[simp] theorem ints_length (xs : List Int) : (ints xs).length = xs.length := by simp [ints]
@[simp] theorem ints_nil : ints [] = [] := rfl
@[simp] theorem ints_cons (x : Int) (xs : List Int) : ints (x :: xs) = .int .i64 x :: ints xs := rfl
theorem ints_set (xs : List Int) (j : Nat) (x : Int) : (ints xs).set j (.int .i64 x) = ints (xs.set j x) := by simp [ints, List.map_set]

theorem Sl.inv {h : VH} {v : Value} {cs : List Value} (hs : Sl h v cs) :
    (v = .slice none 0 0 ∧ cs = []) ∨ (v = .slice none 0 1 ∧ cs = []) ∨
    ∃ a n tot o, v = .slice (some a) n tot ∧ h[a.block]? = some o ∧ o.sz = 1 ∧ tot = o.cells.length ∧ a.off + n ≤ tot ∧ n = cs.length ∧ ∀ j, j < n → o.cells[a.off + j]? = cs[j]? := by
  unfold Sl vsrc at hs
  split at hs
  · left; simp at hs; exact ⟨rfl, hs.1⟩
  · right; left; simp at hs; exact ⟨rfl, hs.1⟩
  · rename_i a n tot
    split at hs
    · rename_i o ho
      split at hs
      · rename_i hc
        simp only [Nat.mul_one, Option.some.injEq, Prod.mk.injEq] at hs
        refine .inr (.inr ⟨a, n, tot, o, rfl, ho, hc.1, hc.2.1, by simpa using hc.2.2, hs.2, fun j hj => ?_⟩)
        rw [← hs.1, List.getElem?_take, if_pos hj, List.getElem?_drop]
      · cases hs
    · cases hs
  · cases hs

@[simp] theorem flatO_ints (n k : Nat) (xs : List Int) : flatO n ⟨k, ints xs⟩ := by
  intro r hr
  simp only [orefs, ints, List.flatMap_map, List.mem_flatMap] at hr
  obtain ⟨x, _, hx⟩ := hr
  simp [crefs, arefs] at hx
@[simp] theorem ints_all (xs : List Int) : (ints xs).all (fun v => !isJunk v) = true := by simp [ints]
theorem splice_ints {xs : List Int} {j : Nat} {v : Int} (hj : j < xs.length) : splice j [.int .i64 v] (ints xs) = ints (xs.set j v) := by
  rw [← ints_set]
  unfold splice
  rw [List.set_eq_take_append_cons_drop, if_pos (by simpa using hj)]
  simp
theorem take1_ints {xs : List Int} {j : Nat} (hj : j < xs.length) : List.take 1 (List.drop j (ints xs)) = [.int .i64 xs[j]] := by
  rw [List.drop_eq_getElem_cons (by simpa using hj)]
  simp [ints]
@[simp] theorem ints_rep (n : Nat) (x : Int) : List.replicate n (Value.int .i64 x) = ints (List.replicate n x) := by simp [ints]
@[simp] theorem ints_rep' (n : Nat) (x : Int) : (List.replicate n [Value.int .i64 x]).flatten = ints (List.replicate n x) := by
  induction n with
  | zero => rfl
  | succ n ih => simp only [List.replicate_succ, List.flatten_cons, ih, ints_cons]; rfl

attribute [simp] Nat.add_one_le_iff

section
variable {h : VH} {v : Value} {cs : List Value}

theorem Sl.app (hs : Sl h v cs) (L : VH) : Sl (h ++ L) v cs := by
  unfold Sl at hs ⊢
  unfold vsrc at hs ⊢
  split at hs
  · exact hs
  · exact hs
  · rename_i a n tot
    split at hs
    · rename_i o ho
      have : (h ++ L)[a.block]? = some o := by rw [List.getElem?_append_left (List.getElem?_eq_some_iff.mp ho).1]; exact ho
      simp only [this]
      exact hs
    · cases hs
  · cases hs

theorem Sl.old (hs : Sl h v cs) : Old h.length v := by
  rcases hs.inv with ⟨rfl, _⟩ | ⟨rfl, _⟩ | ⟨a, n, tot, o, rfl, ho, _⟩
  · simp
  · simp
  · rw [old_sl]; exact (List.getElem?_eq_some_iff.mp ho).1

theorem Sl.vlen (hs : Sl h v cs) : vlen h v = some (.int .i64 cs.length, h) := by
  rcases hs.inv with ⟨rfl, rfl⟩ | ⟨rfl, rfl⟩ | ⟨a, n, tot, o, rfl, ho, _, ht, _, hn, _⟩
  · rfl
  · rfl
  · simp [ho, ht, hn]

theorem Sl.vidx (hs : Sl h v cs) {k : IntKind} {j : Int} (h0 : 0 ≤ j) (hj : j < cs.length) : vidx 1 h v (.int k j) = some (vptr v j.toNat, h) := by
  rcases hs.inv with ⟨rfl, rfl⟩ | ⟨rfl, rfl⟩ | ⟨a, n, tot, o, rfl, ho, hz, ht, _, hn, _⟩
  · simp at hj; omega
  · simp at hj; omega
  · simp only [vidx_ref, ho, hz, ht, vptr, Nat.mul_one]
    rw [if_pos ⟨trivial, trivial, h0, by omega⟩]

theorem Sl.vload (hs : Sl h v cs) {j : Nat} (hj : j < cs.length) : vload false 1 h (vptr v j) = some cs[j] := by
  rcases hs.inv with ⟨rfl, rfl⟩ | ⟨rfl, rfl⟩ | ⟨a, n, tot, o, rfl, ho, hz, ht, hle, hn, hg⟩
  · simp at hj
  · simp at hj
  · have h1 := hg j (by omega)
    rw [List.getElem?_eq_getElem hj] at h1
    have h2 : a.off + j < o.cells.length := by omega
    have h3 : (o.cells.drop (a.off + j)).take 1 = [cs[j]] := by
      rw [List.getElem?_eq_getElem h2, Option.some.injEq] at h1
      rw [List.drop_eq_getElem_cons h2, h1]
      rfl
    simp only [vptr, Zv.vload, vget, ho]
    rw [if_pos ⟨by simp [ht], by omega⟩, h3]
    rfl

theorem Sl.vlive (hs : Sl h v cs) {j : Nat} (hj : j < cs.length) : ∃ a, vptr v j = .pointer (some a) ∧ vlive h a = true := by
  rcases hs.inv with ⟨rfl, rfl⟩ | ⟨rfl, rfl⟩ | ⟨a, n, tot, o, rfl, ho, hz, ht, hle, hn, hg⟩
  · simp at hj
  · simp at hj
  · exact ⟨_, rfl, by simp [ho, ht]⟩

/-! with more above the heap, as simp needs them -/
variable {L : VH}
theorem Sl.vlen' (hs : Sl h v cs) : Zv.vlen (h ++ L) v = some (.int .i64 cs.length, h ++ L) := (hs.app _).vlen
theorem Sl.vidx' (hs : Sl h v cs) {k : IntKind} {j : Int} (h0 : 0 ≤ j) (hj : j < cs.length) : Zv.vidx 1 (h ++ L) v (.int k j) = some (vptr v j.toNat, h ++ L) := (hs.app _).vidx h0 hj
theorem Sl.vload' (hs : Sl h v cs) {j : Nat} (hj : j < cs.length) : Zv.vload false 1 (h ++ L) (vptr v j) = some cs[j] := (hs.app _).vload hj
end

/-! ### slices of integers -/
def Sli (h : VH) (v : Value) (xs : List Int) : Prop := Sl h v (ints xs)
section
variable {h : VH} {v : Value} {xs : List Int}
theorem Sli.app (hs : Sli h v xs) (L : VH) : Sli (h ++ L) v xs := Sl.app hs L
theorem Sli.old (hs : Sli h v xs) : Old h.length v := Sl.old hs
theorem Sli.oldk (hs : Sli h v xs) {k : Nat} : Old (h.length + k) v := hs.old.le (Nat.le_add_right _ _)
theorem Sli.vlen (hs : Sli h v xs) : Zv.vlen h v = some (.int .i64 xs.length, h) := by rw [Sl.vlen hs, ints_length]
theorem Sli.vidx (hs : Sli h v xs) {k : IntKind} {j : Int} (h0 : 0 ≤ j) (hj : j < xs.length) : Zv.vidx 1 h v (.int k j) = some (vptr v j.toNat, h) := Sl.vidx hs h0 (by rw [ints_length]; exact hj)
theorem Sli.vload (hs : Sli h v xs) {j : Nat} (hj : j < xs.length) : Zv.vload false 1 h (vptr v j) = some (.int .i64 xs[j]) := by
  rw [Sl.vload hs (by rw [ints_length]; exact hj)]
  simp [ints]
variable {L : VH}
theorem Sli.vlen' (hs : Sli h v xs) : Zv.vlen (h ++ L) v = some (.int .i64 xs.length, h ++ L) := (hs.app _).vlen
theorem Sli.vidx' (hs : Sli h v xs) {k : IntKind} {j : Int} (h0 : 0 ≤ j) (hj : j < xs.length) : Zv.vidx 1 (h ++ L) v (.int k j) = some (vptr v j.toNat, h ++ L) := (hs.app _).vidx h0 hj
theorem Sli.vload' (hs : Sli h v xs) {j : Nat} (hj : j < xs.length) : Zv.vload false 1 (h ++ L) (vptr v j) = some (.int .i64 xs[j]) := (hs.app _).vload hj
end

/-! ### the same, as a function: for simp -/
def unint : Value → Int
  | .int _ n => n
  | _ => 0
def unints (cs : List Value) : List Int := cs.map unint
def isI64 : Value → Bool
  | .int .i64 _ => true
  | _ => false
@[simp] theorem unints_ints (xs : List Int) : unints (ints xs) = xs := by simp [unints, ints, unint, Function.comp_def]
@[simp] theorem all_ints (xs : List Int) : (ints xs).all isI64 = true := by simp [ints, isI64]
@[simp] theorem take_ints (xs : List Int) : List.take xs.length (ints xs) = ints xs := List.take_of_length_le (by simp)
/-- What a slice of integers reads as. -/
def rd (h : VH) (v : Value) : List Int := match vsrc 1 h v with
  | some (cs, _) => unints cs
  | none => []
def isSli (h : VH) (v : Value) : Prop := match vsrc 1 h v with
  | some (cs, n) => cs.length = n ∧ cs.all isI64 = true
  | none => False
theorem Sli.rd {h : VH} {v : Value} {xs : List Int} (hs : Sli h v xs) : rd h v = xs := by
  unfold Sli Sl at hs
  unfold Zv.rd
  rw [hs]
  exact unints_ints xs
@[simp] theorem rd_nil (h : VH) : rd h (.slice none 0 0) = [] := by simp [rd, unints]
@[simp] theorem isSli_nil (h : VH) : isSli h (.slice none 0 0) := ⟨rfl, rfl⟩
@[simp] theorem rd_ref (h : VH) (a : Addr) (n tot : Nat) : rd h (.slice (some a) n tot) = match h[a.block]? with
    | some o => if o.sz = 1 ∧ tot = o.cells.length ∧ a.off + n ≤ tot then unints ((o.cells.drop a.off).take n) else []
    | none => [] := by
  unfold rd
  rw [vsrc_ref]
  cases h[a.block]? with
  | none => rfl
  | some o =>
    simp only [Nat.mul_one]
    by_cases hc : o.sz = 1 ∧ tot = o.cells.length ∧ a.off + n ≤ tot
    · rw [if_pos hc, if_pos hc]
    · rw [if_neg hc, if_neg hc]
@[simp] theorem isSli_ref (h : VH) (a : Addr) (n tot : Nat) : isSli h (.slice (some a) n tot) ↔ match h[a.block]? with
    | some o => o.sz = 1 ∧ tot = o.cells.length ∧ a.off + n ≤ tot ∧ ((o.cells.drop a.off).take n).all isI64 = true
    | none => False := by
  unfold isSli
  rw [vsrc_ref]
  cases h[a.block]? with
  | none => exact Iff.rfl
  | some o =>
    simp only [Nat.mul_one]
    by_cases hc : o.sz = 1 ∧ tot = o.cells.length ∧ a.off + n ≤ tot
    · have : ((o.cells.drop a.off).take n).length = n := by simp; omega
      rw [if_pos hc]
      simp [hc, this]
      intro _
      omega
    · rw [if_neg hc]
      constructor
      · exact False.elim
      · rintro ⟨h1, h2, h3, _⟩; exact hc ⟨h1, h2, h3⟩
end Go.Proofs.YtghondlbkjponaaDoor.Zv

/- At a function's end: one fresh object is handed out. -/
namespace Go.Proofs.YtghondlbkjponaaDoor.Zv
open Go

theorem cleanup_one {h L : VH} {v : Value} {k : Nat} {o : VO} (hv : trefs v = [h.length + k]) (hk : L[k]? = some o) (hf : flatO h.length o) :
    kclean h [v] (h ++ L) = ([tren (renOf h.length [h.length + k]) v], h ++ [o]) := by
  have e : keepL h.length [v] = [h.length + k] := by
    unfold keepL
    simp [hv, dedup]
  have hg : (h ++ L)[h.length + k]? = some o := by rw [hgetk]; exact hk
  rw [cleanup_keep e fun i hi => ⟨o, ?_, hf⟩]
  · simp [hk]
  · simp only [List.mem_singleton] at hi
    rw [hi]
    exact hg
theorem renOf_one (n k : Nat) : renOf n [n + k] (n + k) = n := by simp [renOf]; omega
theorem renOf_one0 (n : Nat) : renOf n [n] n = n := by simp [renOf]
@[simp] theorem clean_slk (h L : VH) (k : Nat) (off n t : Nat) (hk : k < L.length) (hf : flatO h.length (L.getD k ⟨0, []⟩)) :
    kclean h [.slice (some ⟨h.length + k, off, none⟩) n t] (h ++ L) = ([.slice (some ⟨h.length, off, none⟩) n t], h ++ [L.getD k ⟨0, []⟩]) := by
  rw [cleanup_one (k := k) (o := L.getD k ⟨0, []⟩) (by simp [trefs, vrefs, crefs, arefs]) (by simp [List.getD_eq_getElem?_getD, hk]) hf]
  simp [tren, vren, cren, aren, renOf_one]
@[simp] theorem clean_sl0 (h L : VH) (off n t : Nat) (o : VO) (hf : flatO h.length o) :
    kclean h [.slice (some ⟨h.length, off, none⟩) n t] (h ++ o :: L) = ([.slice (some ⟨h.length, off, none⟩) n t], h ++ [o]) := by
  rw [cleanup_one (k := 0) (o := o) (by simp [trefs, vrefs, crefs, arefs]) (by simp) hf]
  simp [tren, vren, cren, aren, renOf_one0]
@[simp] theorem clean_aggk (h L : VH) (k : Nat) (off n t : Nat) (k1 : IntKind) (x : Int) (hk : k < L.length) (hf : flatO h.length (L.getD k ⟨0, []⟩)) :
    kclean h [.agg #[.int k1 x, .slice (some ⟨h.length + k, off, none⟩) n t]] (h ++ L) = ([.agg #[.int k1 x, .slice (some ⟨h.length, off, none⟩) n t]], h ++ [L.getD k ⟨0, []⟩]) := by
  rw [cleanup_one (k := k) (o := L.getD k ⟨0, []⟩) (by simp [trefs, vrefs, crefs, arefs]) (by simp [List.getD_eq_getElem?_getD, hk]) hf]
  simp [tren, vren, cren, aren, renOf_one]
@[simp] theorem clean_agg0 (h L : VH) (off n t : Nat) (k1 : IntKind) (x : Int) (o : VO) (hf : flatO h.length o) :
    kclean h [.agg #[.int k1 x, .slice (some ⟨h.length, off, none⟩) n t]] (h ++ o :: L) = ([.agg #[.int k1 x, .slice (some ⟨h.length, off, none⟩) n t]], h ++ [o]) := by
  rw [cleanup_one (k := 0) (o := o) (by simp [trefs, vrefs, crefs, arefs]) (by simp) hf]
  simp [tren, vren, cren, aren, renOf_one0]
@[simp] theorem clean_taggk (h L : VH) (k : Nat) (off n t : Nat) (k1 : IntKind) (x : Int) (k2 : IntKind) (y : Int) (hk : k < L.length) (hf : flatO h.length (L.getD k ⟨0, []⟩)) :
    kclean h [.tuple #[.agg #[.int k1 x, .slice (some ⟨h.length + k, off, none⟩) n t], .int k2 y]] (h ++ L) = ([.tuple #[.agg #[.int k1 x, .slice (some ⟨h.length, off, none⟩) n t], .int k2 y]], h ++ [L.getD k ⟨0, []⟩]) := by
  rw [cleanup_one (k := k) (o := L.getD k ⟨0, []⟩) (by simp [trefs, vrefs, crefs, arefs]) (by simp [List.getD_eq_getElem?_getD, hk]) hf]
  simp [tren, vren, cren, aren, renOf_one]
@[simp] theorem clean_tagg0 (h L : VH) (off n t : Nat) (k1 : IntKind) (x : Int) (k2 : IntKind) (y : Int) (o : VO) (hf : flatO h.length o) :
    kclean h [.tuple #[.agg #[.int k1 x, .slice (some ⟨h.length, off, none⟩) n t], .int k2 y]] (h ++ o :: L) = ([.tuple #[.agg #[.int k1 x, .slice (some ⟨h.length, off, none⟩) n t], .int k2 y]], h ++ [o]) := by
  rw [cleanup_one (k := 0) (o := o) (by simp [trefs, vrefs, crefs, arefs]) (by simp) hf]
  simp [tren, vren, cren, aren, renOf_one0]
@[simp] theorem clean_tslk (h L : VH) (k : Nat) (off n t : Nat) (k2 : IntKind) (y : Int) (hk : k < L.length) (hf : flatO h.length (L.getD k ⟨0, []⟩)) :
    kclean h [.tuple #[.slice (some ⟨h.length + k, off, none⟩) n t, .int k2 y]] (h ++ L) = ([.tuple #[.slice (some ⟨h.length, off, none⟩) n t, .int k2 y]], h ++ [L.getD k ⟨0, []⟩]) := by
  rw [cleanup_one (k := k) (o := L.getD k ⟨0, []⟩) (by simp [trefs, vrefs, crefs, arefs]) (by simp [List.getD_eq_getElem?_getD, hk]) hf]
  simp [tren, vren, cren, aren, renOf_one]
@[simp] theorem clean_tsl0 (h L : VH) (off n t : Nat) (k2 : IntKind) (y : Int) (o : VO) (hf : flatO h.length o) :
    kclean h [.tuple #[.slice (some ⟨h.length, off, none⟩) n t, .int k2 y]] (h ++ o :: L) = ([.tuple #[.slice (some ⟨h.length, off, none⟩) n t, .int k2 y]], h ++ [o]) := by
  rw [cleanup_one (k := 0) (o := o) (by simp [trefs, vrefs, crefs, arefs]) (by simp) hf]
  simp [tren, vren, cren, aren, renOf_one0]
@[simp] theorem clean_tslbk (h L : VH) (k : Nat) (off n t : Nat) (y2 : Bool) (hk : k < L.length) (hf : flatO h.length (L.getD k ⟨0, []⟩)) :
    kclean h [.tuple #[.slice (some ⟨h.length + k, off, none⟩) n t, .bool y2]] (h ++ L) = ([.tuple #[.slice (some ⟨h.length, off, none⟩) n t, .bool y2]], h ++ [L.getD k ⟨0, []⟩]) := by
  rw [cleanup_one (k := k) (o := L.getD k ⟨0, []⟩) (by simp [trefs, vrefs, crefs, arefs]) (by simp [List.getD_eq_getElem?_getD, hk]) hf]
  simp [tren, vren, cren, aren, renOf_one]
@[simp] theorem clean_tslb0 (h L : VH) (off n t : Nat) (y2 : Bool) (o : VO) (hf : flatO h.length o) :
    kclean h [.tuple #[.slice (some ⟨h.length, off, none⟩) n t, .bool y2]] (h ++ o :: L) = ([.tuple #[.slice (some ⟨h.length, off, none⟩) n t, .bool y2]], h ++ [o]) := by
  rw [cleanup_one (k := 0) (o := o) (by simp [trefs, vrefs, crefs, arefs]) (by simp) hf]
  simp [tren, vren, cren, aren, renOf_one0]
@[simp] theorem clean_taggbk (h L : VH) (k : Nat) (off n t : Nat) (k1 : IntKind) (x : Int) (y2 : Bool) (hk : k < L.length) (hf : flatO h.length (L.getD k ⟨0, []⟩)) :
    kclean h [.tuple #[.agg #[.int k1 x, .slice (some ⟨h.length + k, off, none⟩) n t], .bool y2]] (h ++ L) = ([.tuple #[.agg #[.int k1 x, .slice (some ⟨h.length, off, none⟩) n t], .bool y2]], h ++ [L.getD k ⟨0, []⟩]) := by
  rw [cleanup_one (k := k) (o := L.getD k ⟨0, []⟩) (by simp [trefs, vrefs, crefs, arefs]) (by simp [List.getD_eq_getElem?_getD, hk]) hf]
  simp [tren, vren, cren, aren, renOf_one]
@[simp] theorem clean_taggb0 (h L : VH) (off n t : Nat) (k1 : IntKind) (x : Int) (y2 : Bool) (o : VO) (hf : flatO h.length o) :
    kclean h [.tuple #[.agg #[.int k1 x, .slice (some ⟨h.length, off, none⟩) n t], .bool y2]] (h ++ o :: L) = ([.tuple #[.agg #[.int k1 x, .slice (some ⟨h.length, off, none⟩) n t], .bool y2]], h ++ [o]) := by
  rw [cleanup_one (k := 0) (o := o) (by simp [trefs, vrefs, crefs, arefs]) (by simp) hf]
  simp [tren, vren, cren, aren, renOf_one0]
@[simp] theorem old_agg2 (n : Nat) (k : IntKind) (x : Int) (s : Value) (hs : isAtom s = true) : Old n (.agg #[.int k x, s]) ↔ Old n s := by
  unfold Old trefs vrefs
  cases s <;> simp_all [crefs, arefs, isAtom]

/-! ### objects that were changed in place -/
def Upd (h h' : VH) : Prop := h'.length = h.length ∧ okT h.length h h'
theorem Upd.rfl' (h : VH) : Upd h h := ⟨rfl, fun _ _ ho => .inl ho⟩
theorem Upd.set' {h h' : VH} (hu : Upd h h') {b : Nat} {o : VO} (ho : flatO h.length o) : Upd h (h'.set b o) := by
  refine ⟨by rw [List.length_set]; exact hu.1, fun i p hp => ?_⟩
  rw [List.getElem?_set] at hp
  split at hp
  · split at hp
    · cases hp; exact .inr ho
    · cases hp
  · exact hu.2 i p hp
@[simp] theorem upd_rfl (h : VH) : Upd h h := Upd.rfl' h
@[simp] theorem upd_set (h : VH) (b k : Nat) (xs : List Int) : Upd h (h.set b ⟨k, ints xs⟩) := (Upd.rfl' h).set' (flatO_ints _ _ _)
theorem cleanup_upd {h h' L : VH} {vs : List Value} (hu : Upd h h') (hv : ∀ v ∈ vs, Old h.length v) : kclean h vs (h' ++ L) = (vs, h') := by
  have htake : (h' ++ L).take h.length = h' := by rw [← hu.1]; simp
  have hc : okT h.length h ((h' ++ L).take h.length) ∧ flatL h.length [] (h' ++ L) := by
    refine ⟨?_, fun i hi => by cases hi⟩
    rw [htake]
    exact hu.2
  unfold kclean cleanup
  rw [keepL_nil hv, if_pos hc, htake]
  simp only [List.filterMap_nil, List.append_nil, Prod.mk.injEq, and_true]
  have : ∀ v ∈ vs, tren (renOf h.length []) v = v := fun v h => tren_old (hv v h) fun i hi => by simp only [renOf, if_pos hi]
  exact (List.map_congr_left this).trans (by simp)
@[simp] theorem cleanup_set {h L : VH} {b k : Nat} {xs : List Int} {vs : List Value} (hv : ∀ v ∈ vs, Old h.length v) : kclean h vs (h.set b ⟨k, ints xs⟩ ++ L) = (vs, h.set b ⟨k, ints xs⟩) := cleanup_upd (upd_set h b k xs) hv
@[simp] theorem cleanup_set0 {h : VH} {b k : Nat} {xs : List Int} {vs : List Value} (hv : ∀ v ∈ vs, Old h.length v) : kclean h vs (h.set b ⟨k, ints xs⟩) = (vs, h.set b ⟨k, ints xs⟩) := by
  have := cleanup_set (h := h) (L := []) (b := b) (k := k) (xs := xs) hv
  simpa using this
theorem hget_old {h : VH} {b : Nat} {o : VO} (hb : h[b]? = some o) (L : VH) : (h ++ L)[b]? = some o := by
  rw [List.getElem?_append_left (List.getElem?_eq_some_iff.mp hb).1]; exact hb
theorem hset_old {h : VH} {b : Nat} {o : VO} (hb : h[b]? = some o) (L : VH) (p : VO) : (h ++ L).set b p = h.set b p ++ L := by
  rw [List.set_append_left _ _ (List.getElem?_eq_some_iff.mp hb).1]
theorem hget_set {h : VH} {b : Nat} {o : VO} (hb : h[b]? = some o) (L : VH) (p : VO) : (h.set b p ++ L)[b]? = some p := by
  have := (List.getElem?_eq_some_iff.mp hb).1
  rw [List.getElem?_append_left (by simpa using this)]
  simp [this]
theorem hset_set {h : VH} {b : Nat} {o : VO} (hb : h[b]? = some o) (L : VH) (p q : VO) : (h.set b p ++ L).set b q = h.set b q ++ L := by
  have := (List.getElem?_eq_some_iff.mp hb).1
  rw [List.set_append_left _ _ (by simpa using this), List.set_set]
theorem hset_self {h : VH} {b : Nat} {o : VO} (hb : h[b]? = some o) : h.set b o = h := by
  obtain ⟨h1, h2⟩ := List.getElem?_eq_some_iff.mp hb
  rw [← h2]; exact List.set_getElem_self h1

/-! ### objects whose cells are written out -/
@[simp] theorem flatO_nil (n k : Nat) : flatO n ⟨k, []⟩ := fun r hr => by simp [orefs] at hr
@[simp] theorem flatO_cons (n k : Nat) (v : Value) (cs : List Value) : flatO n ⟨k, v :: cs⟩ ↔ OldC n v ∧ flatO n ⟨k, cs⟩ := by
  unfold flatO OldC orefs
  simp only [List.flatMap_cons, List.mem_append]
  exact ⟨fun h => ⟨fun r hr => h r (.inl hr), fun r hr => h r (.inr hr)⟩, fun h r hr => hr.elim (h.1 r) (h.2 r)⟩
@[simp] theorem oldC_int (n : Nat) (k : IntKind) (i : Int) : OldC n (.int k i) := fun r hr => by simp [crefs, arefs] at hr
@[simp] theorem oldC_bool (n : Nat) (b : Bool) : OldC n (.bool b) := fun r hr => by simp [crefs, arefs] at hr
@[simp] theorem oldC_str (n : Nat) (b : ByteArray) : OldC n (.string b) := fun r hr => by simp [crefs, arefs] at hr
@[simp] theorem oldC_slN (n a b : Nat) : OldC n (.slice none a b) := fun r hr => by simp [crefs, arefs] at hr
@[simp] theorem oldC_ptrN (n : Nat) : OldC n (.pointer none) := fun r hr => by simp [crefs, arefs] at hr
@[simp] theorem oldC_nilF (n : Nat) : OldC n .nilFunc := fun r hr => by simp [crefs, arefs] at hr
@[simp] theorem oldC_sl (n : Nat) (a : Addr) (k t : Nat) : OldC n (.slice (some a) k t) ↔ a.block < n := by simp [OldC, crefs, arefs]
@[simp] theorem oldC_ptr (n : Nat) (a : Addr) : OldC n (.pointer (some a)) ↔ a.block < n := by simp [OldC, crefs, arefs]
theorem OldC.le {n m : Nat} {v : Value} (h : OldC n v) (hm : n ≤ m) : OldC m v := fun r hr => Nat.lt_of_lt_of_le (h r hr) hm
theorem Sl.oldC {h : VH} {v : Value} {cs : List Value} (hs : Sl h v cs) : OldC h.length v := by
  rcases hs.inv with ⟨rfl, _⟩ | ⟨rfl, _⟩ | ⟨a, n, tot, o, rfl, ho, _⟩
  · simp
  · simp
  · rw [oldC_sl]; exact (List.getElem?_eq_some_iff.mp ho).1
theorem Sli.oldCk {h : VH} {v : Value} {xs : List Int} (hs : Sli h v xs) {k : Nat} : OldC (h.length + k) v := (Sl.oldC hs).le (Nat.le_add_right _ _)

@[simp] theorem old_tagg_nil (n : Nat) (k k2 : IntKind) (x y : Int) (a b : Nat) : Old n (.tuple #[.agg #[.int k x, .slice none a b], .int k2 y]) := by
  intro r hr
  simp [trefs, vrefs, crefs, arefs] at hr
@[simp] theorem old_agg_nil (n : Nat) (k : IntKind) (x : Int) (a b : Nat) : Old n (.agg #[.int k x, .slice none a b]) := by
  intro r hr
  simp [trefs, vrefs, crefs, arefs] at hr
@[simp] theorem old_tsl_nil (n : Nat) (k : IntKind) (x : Int) (a b : Nat) : Old n (.tuple #[.slice none a b, .int k x]) := by
  intro r hr
  simp [trefs, vrefs, crefs, arefs] at hr
@[simp] theorem old_tup2 (k : Nat) (a b : Value) (ha : ∀ vs, a ≠ .tuple vs) (hb : ∀ vs, b ≠ .tuple vs) : Old k (.tuple #[a, b]) ↔ Old k a ∧ Old k b := by
  have e : ∀ v : Value, (∀ vs, v ≠ .tuple vs) → trefs v = vrefs v := by
    intro v hv
    unfold trefs
    split
    · exact absurd rfl (hv _)
    · rfl
  unfold Old
  rw [e a ha, e b hb]
  simp only [trefs, List.flatMap_cons, List.flatMap_nil, List.append_nil, List.mem_append]
  exact ⟨fun h => ⟨fun r hr => h r (.inl hr), fun r hr => h r (.inr hr)⟩, fun h r hr => hr.elim (h.1 r) (h.2 r)⟩

end Go.Proofs.YtghondlbkjponaaDoor.Zv

/- A row's arguments: what they are to the virtual interpreter; and a law that it tells true. -/
namespace Go.Proofs.YtghondlbkjponaaDoor.Zv
open Go Go.ChangeShapes Go.WideShapes Go.ChangeAt Go.RowKit

/-- What is known of a slice of integers that came in. -/
def IsRow (k : IntKind) (w : World) (a : Option Addr) (len cap : Nat) (zs : List Int) : Prop :=
  (a = none ∧ len = 0 ∧ cap = 0 ∧ zs = []) ∨
  ∃ x, a = some x ∧ len ≤ cap ∧ cap ≤ maxLen ∧ zs.length = cap ∧ (∀ i, i < zs.length → w.cell? (x.add i) = some (.int k (zs.getD i 0))) ∧ ∀ n ∈ zs, (Lit.int k n).wf = true

theorem IsRow.of {H : Type} {enc : TypeId × Value → H} {P : Program} {W : World} {held : Bool} {t e : TypeId} {k : IntKind} {fuel : Nat} {v : Value} {x : DataW H × List MemPlace} (ht : P.underlying t = some (.slice e)) (he : P.underlying e = some (.int k)) (hc : P.cellsOf e = 1)
    (h : DataW.trod enc P W 0 (fun _ => true) held fuel t [v] = some x) : ∃ a len cap zs, v = .slice a len cap ∧ IsRow k W a len cap zs := by
  rcases open_ints ht he hc h with ⟨hcs, _⟩ | ⟨x, l, c, zs, hcs, _, hl, hm, hz, _, hcell, hwz⟩
  · simp at hcs
    exact ⟨none, 0, 0, [], hcs, .inl ⟨rfl, rfl, rfl, rfl⟩⟩
  · simp at hcs
    exact ⟨some x, l, c, zs, hcs, .inr ⟨x, rfl, hl, hm, by simpa using hz, hcell, hwz⟩⟩

/-- Arguments so far: all objects are read alone. -/
def RA (φ : Em) (h : VH) (W : World) : Prop := RH h.length φ (VH.ph h) W
theorem RA.nil (W : World) (hg : ∀ b C, globTab b = some C → ∃ ty fz, W.heap[b]? = some (.cells C ty fz)) : RA (fun _ => ⟨0, 0, 0⟩) [] W :=
  ⟨fun i o h => by simp [VH.ph] at h, fun i j h => by simp [VH.ph] at h, fun b C hb => ⟨hg b C hb, fun i h => by simp [VH.ph] at h⟩⟩

theorem Grow.refl (φ : Em) (L : PH) : Grow φ L φ L := fun _ o h => ⟨o, h, rfl, Nat.le_refl _, fun _ => rfl⟩

theorem RA.slice {k : IntKind} {φ : Em} {h : VH} {W : World} {a : Option Addr} {len cap : Nat} {zs : List Int} (hR : RA φ h W) (hr : IsRow k W a len cap zs) :
    ∃ φ' L v, RA φ' (h ++ L) W ∧ Grow φ (VH.ph h) φ' (VH.ph (h ++ L)) ∧ AtomR φ' (VH.ph (h ++ L)) v (.slice a len cap) ∧ Sl (h ++ L) v ((zs.take len).map (.int k)) := by
  rcases hr with ⟨rfl, rfl, rfl, rfl⟩ | ⟨x, rfl, hl, hm, hz, hcell, hw⟩
  · exact ⟨φ, [], .slice none 0 0, by simpa using hR, by simpa using Grow.refl _ _, .slN, rfl⟩
  · by_cases h0 : len = 0
    · subst h0
      exact ⟨φ, [], .slice none 0 1, by simpa using hR, by simpa using Grow.refl _ _, .slE x cap, by simp [Sl, vsrc]⟩
    · have hlen : len ≤ zs.length := by omega
      have hspot : x.spot = none := by
        have := World.cell?_spot (hcell 0 (by omega))
        simpa [Addr.add] using this
      -- the cells lie in a block
      have hcl : ∀ j, j < zs.length → ∃ C ty fz, W.heap[x.block]? = some (.cells C ty fz) ∧ C[x.off + j]? = some (.int k (zs.getD j 0)) := by
        intro j hj
        have h1 := hcell j hj
        unfold World.cell? at h1
        have hb : (x.add j).block = x.block := by unfold Addr.add; split <;> rfl
        have ho : (x.add j).off = x.off + j := by
          unfold Addr.add
          split
          · rename_i h; subst h; rfl
          · rfl
        rw [hb] at h1
        split at h1
        · rename_i C ty fz hC
          split at h1
          · cases h1
          · rw [ho] at h1
            exact ⟨C, ty, fz, hC, h1⟩
        · cases h1
      let φ' : Em := fun i => if i = h.length then ⟨x.block, x.off, cap⟩ else φ i
      let ob : VO := ⟨1, (zs.take len).map (.int k)⟩
      have hlook : ∀ i o, VH.ph (h ++ [ob]) i = some o → (i < h.length ∧ VH.ph h i = some o) ∨ (i = h.length ∧ o = ob) := by
        intro i o hi
        simp only [VH.ph] at hi ⊢
        rcases Nat.lt_trichotomy i h.length with hlt | e | hgt
        · left
          rw [List.getElem?_append_left hlt] at hi
          exact ⟨hlt, hi⟩
        · right
          subst e
          rw [hget0] at hi
          simp at hi
          exact ⟨rfl, hi.symm⟩
        · rw [List.getElem?_append_right (by omega)] at hi
          rw [List.getElem?_eq_none (by simp; omega)] at hi
          cases hi
      have hg : Grow φ (VH.ph h) φ' (VH.ph (h ++ [ob])) := by
        intro i o hi
        have hlt : i < h.length := (List.getElem?_eq_some_iff.mp hi).1
        refine ⟨o, ?_, rfl, Nat.le_refl _, fun _ => ?_⟩
        · simp only [VH.ph] at hi ⊢
          rw [List.getElem?_append_left hlt]; exact hi
        · simp only [φ']; rw [if_neg (by omega)]
      refine ⟨φ', [ob], .slice (some ⟨h.length, 0, none⟩) len len, ?_, hg, ?_, ?_⟩
      · refine ⟨fun i o hi => ?_, fun i j hi _ hn => ?_, fun b C hb => ⟨(hR.glob b C hb).1, fun i hi hn => ?_⟩⟩
        · rcases hlook i o hi with ⟨hlt, hi'⟩ | ⟨rfl, rfl⟩
          · obtain ⟨C, ty, fz, h1, h2, _⟩ := hR.cells i o hi'
            have e : φ' i = φ i := by simp only [φ']; rw [if_neg (by omega)]
            rw [e]
            refine ⟨C, ty, fz, h1, fun j v hj => ?_, fun hn => by simp at hn; omega⟩
            obtain ⟨v', h3, h4⟩ := h2 j v hj
            exact ⟨v', h3, h4.grow hg⟩
          · obtain ⟨C, ty, fz, h1, _⟩ := hcl 0 (by omega)
            have e : φ' h.length = ⟨x.block, x.off, cap⟩ := by simp [φ']
            rw [e]
            refine ⟨C, ty, fz, h1, fun j v hj => ?_, fun hn => by simp at hn⟩
            simp only [ob, List.getElem?_map] at hj
            have hjl : j < len := by
              rcases Nat.lt_or_ge j len with h' | h'
              · exact h'
              · rw [List.getElem?_eq_none (by simp; omega)] at hj; cases hj
            obtain ⟨C', ty', fz', h1', h2'⟩ := hcl j (by omega)
            rw [h1] at h1'
            simp only [Option.some.injEq, Obj.cells.injEq] at h1'
            obtain ⟨rfl, _, _⟩ := h1'
            refine ⟨_, h2', ?_⟩
            rw [List.getElem?_take, if_pos hjl, List.getElem?_eq_getElem (by omega)] at hj
            simp only [Option.map_some, Option.some.injEq] at hj
            subst hj
            rw [List.getD_eq_getElem?_getD, List.getElem?_eq_getElem (by omega)]
            exact .atom (.int _ _)
        · exfalso
          have : i < (h ++ [ob]).length := by
            simp only [VH.ph] at hi
            rcases Nat.lt_or_ge i (h ++ [ob]).length with h' | h'
            · exact h'
            · rw [List.getElem?_eq_none h'] at hi; cases hi
          omega
        · exfalso
          have : i < (h ++ [ob]).length := by
            simp only [VH.ph] at hi
            rcases Nat.lt_or_ge i (h ++ [ob]).length with h' | h'
            · exact h'
            · rw [List.getElem?_eq_none h'] at hi; cases hi
          omega
      · have hL : VH.ph (h ++ [ob]) h.length = some ob := by simp [VH.ph]
        have e : φ' h.length = ⟨x.block, x.off, cap⟩ := by simp [φ']
        refine .sl (c := cap) hL (by simp [ob]; omega) (by simp [ob]) (by simp [ob]) hl (by rw [e]; simp [ob]) (.inr ?_)
        rw [e]
        obtain ⟨b, off, sp⟩ := x
        simp at hspot ⊢
        exact hspot
      · simp only [Sl, vsrc_ref, hget0, ob]
        have e : (List.map (Value.int k) (List.take len zs)).length = len := by simp; omega
        simp only [List.getElem?_cons_zero, e, Nat.zero_add, Nat.mul_one, List.drop_zero, Nat.le_refl, and_self, if_true]
        rw [List.take_of_length_le (by omega)]

/-- A law that the virtual interpreter tells true is true. -/
theorem law_true {P : Program} {call : VCall} {f : Nat} {φ : Em} {h : VH} {W : World} {vs : List Value} {vs' : List Value} (hS : CallSound P h.length call) (hR : RA φ h W) (ha : All2 (TopR φ (VH.ph h)) vs vs') {h' : VH}
    (hc : call f vs h = some (.bool true, h')) : Calls P f vs'.toArray W fun e W' => e = .returned (.bool true) ∧ Below W.heap.size W W' := by
  obtain ⟨_, hcalls⟩ := hS f vs h _ _ hc φ W vs' (Nat.le_refl _) hR ha
  refine hcalls.mono fun e W' ⟨φ', v', he, _, hX, hv⟩ => ?_
  have hb := hv.inv_bool
  subst hb
  refine ⟨he, hX.rest.1, hX.rest.2.1, hX.rest.2.2, hX.size, fun b hb => hX.frame b hb fun i hi hn => ?_⟩
  exfalso
  simp only [VH.ph] at hi
  rw [List.getElem?_eq_none hn] at hi
  cases hi
end Go.Proofs.YtghondlbkjponaaDoor.Zv

/- A row's arguments, opened: graphs, lists, numbers, desks. -/
namespace Go.Proofs.YtghondlbkjponaaDoor.Zv
open Go Go.ChangeShapes Go.WideShapes Go.ChangeAt Go.RowKit

/-- A row is well-formed: its numbers are 64-bit numbers. -/
theorem IsRow.len {k : IntKind} {W : World} {a : Option Addr} {len cap : Nat} {zs : List Int} (h : IsRow k W a len cap zs) : (zs.take len).length ≤ 9223372036854775807 := by
  rcases h with ⟨_, _, _, rfl⟩ | ⟨x, _, hl, hm, hz, _⟩
  · simp
  · have : maxLen = 9223372036854775807 := rfl
    simp; omega

variable {H : Type} {enc : TypeId × Value → H} {P : Program} {W : World} {held : Bool}

end Go.Proofs.YtghondlbkjponaaDoor.Zv

/- What all rows of the seat share: the functions' table, the library's table of bit numbers. -/
namespace Go.Proofs.YtghondlbkjponaaDoor.Zv
open Go Go.ChangeShapes Go.WideShapes Go.ChangeAt Go.RowKit
open Go.Proofs.YtghondlbkjponaaDoor

theorem own : ownKnob Tryd.prog.godebug = none := by kernel_rfl
theorem laidOut : laidOutB Tryd.prog = true := by kernel_rfl
theorem mixed : Tryd.prog.follows .mixedOrders = true := by kernel_rfl

theorem F_ir : ∀ f fn, F f = some (.ir fn) → EntOK Tryd.prog (compD Tryd.prog) f fn := by
  intro f fn hf
  unfold F at hf
  split at hf
  · rename_i g hl
    simp only [Option.some.injEq, Ent.ir.injEq] at hf
    subst hf
    have hm : (f, g) ∈ tab := by
      have h2 : ∀ (l : List (Nat × FF)), l.lookup f = some g → (f, g) ∈ l := by
        intro l
        induction l with
        | nil => intro h; cases h
        | cons p l ih =>
          intro h
          obtain ⟨a, b⟩ := p
          simp only [List.lookup] at h
          split at h
          · rename_i e
            have e2 : f = a := by simpa using e
            cases h
            rw [e2]
            exact .head _
          · exact .tail _ (ih h)
      exact h2 tab hl
    exact tabOK (f, g) hm
  · split at hf <;> cases hf

theorem F_ext : ∀ f g, F f = some (.ext g) → ∀ nro, ExtOK Tryd.prog nro f g := by
  intro f g hf nro
  unfold F at hf
  split at hf
  · cases hf
  · split at hf
    · rename_i e
      cases hf
      subst e
      exact tz_ext nro
    · cases hf

theorem allSound (nro : Nat) : CallSound Tryd.prog nro (vcall F nro) := sound mixed F F_ir fun f g h => F_ext f g h nro

/-! ### the table is laid -/
theorem tz_global : Tryd.prog.globalNamed "math/bits.deBruijn64tab" = some 0 := by kernel_rfl
theorem tz_type : (Tryd.prog.globals[0]?).map (·.type) = some 150 := by kernel_rfl
theorem tz_cellsT : Tryd.prog.cellsOf 150 = 64 := by kernel_rfl
theorem tz_cells1 : Tryd.prog.cellsOf 5 = 1 := by kernel_rfl

theorem int_of_trod {H : Type} {enc : TypeId × Value → H} {P : Program} {w : World} {base : Nat} {sp : Nat → Bool} {held : Bool} {fuel : Nat} {t : TypeId} {k : IntKind} {c : Value} {y : DataW H × List MemPlace}
    (ht : P.underlying t = some (.int k)) (h : DataW.trod enc P w base sp held fuel t [c] = some y) : ∃ n, c = .int k n ∧ y = (.lit (.int k n), []) := by
  cases fuel with
  | zero => simp [DataW.trod] at h
  | succ fuel =>
    cases c <;> simp [DataW.trod, ht] at h
    rename_i k' n
    obtain ⟨⟨rfl, _⟩, rfl⟩ := h
    exact ⟨n, rfl, rfl⟩

/-- The table, as the row lists it. -/
theorem tz_datum : Rows.laid_math_bits_deBruijn64tab (H := Unit) = .agg (tzTab.map fun n => .lit (.int .u8 n)) := by kernel_rfl

theorem read_cells (f : Nat → Option (DataW Unit × List MemPlace)) (l : List Value) (hf : ∀ i y, i < l.length → f i = some y → ∃ n, l[i]? = some (.int .u8 n) ∧ y.1 = .lit (.int .u8 n)) :
    ∀ (k s : Nat) xs, (List.range' s k).mapM f = some xs → s + k ≤ l.length → ∃ ns : List Int, (l.drop s).take k = ns.map (Value.int .u8) ∧ xs.map (fun x => x.1) = ns.map fun n => .lit (.int .u8 n)
  | 0, s, xs, h, _ => by
    simp at h
    subst h
    exact ⟨[], by simp, rfl⟩
  | k + 1, s, xs, h, hl => by
    rw [List.range'_succ] at h
    simp only [List.mapM_cons, Option.bind_eq_bind, Option.bind_eq_some_iff, Option.pure_def, Option.some.injEq] at h
    obtain ⟨y, hy, ys, hys, rfl⟩ := h
    obtain ⟨n, h1, h2⟩ := hf s y (by omega) hy
    obtain ⟨ns, h3, h4⟩ := read_cells f l hf k (s + 1) ys hys (by omega)
    refine ⟨n :: ns, ?_, ?_⟩
    · have hs : s < l.length := by omega
      rw [List.getElem?_eq_getElem hs] at h1
      rw [List.drop_eq_getElem_cons hs, List.take_succ_cons, h3, Option.some.inj h1]
      rfl
    · simp [h2, h4]

theorem cells_of_laid {W : World} (h : laidMet Tryd.prog [("math/bits.deBruijn64tab", Rows.laid_math_bits_deBruijn64tab)] W) : ∃ ty fz, W.heap[0]? = some (.cells tzCells ty fz) := by
  obtain ⟨ps, ⟨g, t, cs, fuel, p, q, hg, ht, hvar, hd, _, _⟩, _⟩ := h
  obtain rfl := Option.some.inj (tz_global.symm.trans hg)
  obtain rfl := Option.some.inj (tz_type.symm.trans ht)
  obtain ⟨l⟩ := cs
  rw [tz_datum] at hd
  have hl : l = tzTab.map (Value.int .u8) := by
    cases fuel with
    | zero => simp [DataW.trod] at hd
    | succ fuel =>
      simp only [DataW.trod, Tryd.underlying150, tz_cellsT, tz_cells1] at hd
      split at hd
      · rename_i hlen
        rw [Option.map_eq_some_iff] at hd
        obtain ⟨xs, hm, hx⟩ := hd
        rw [List.range_eq_range'] at hm
        obtain ⟨ns, h1, h2⟩ := read_cells _ l (fun i y hi hy => by
          have e : List.take 1 (List.drop (i * 1) l) = [l[i]] := by rw [Nat.mul_one, List.drop_eq_getElem_cons hi]; rfl
          rw [e] at hy
          obtain ⟨n, h1, h2⟩ := int_of_trod Tryd.underlying5 hy
          exact ⟨n, by rw [List.getElem?_eq_getElem hi, h1], by rw [h2]⟩) 64 0 xs hm (by omega)
        rw [List.drop_zero, List.take_of_length_le (by omega)] at h1
        have h3 : xs.map (fun x => x.1) = tzTab.map fun n => (.lit (.int .u8 n) : DataW Unit) := by
          have := congrArg Prod.fst hx
          simpa using this
        rw [h2] at h3
        have h4 : ns = tzTab := List.map_inj_right (f := fun n => (.lit (.int .u8 n) : DataW Unit)) (fun a b h => by injection h with h; injection h) |>.mp h3
        rw [h1, h4]
      · cases hd
  subst hl
  simp only [World.var?, tz_global, Option.bind_some] at hvar
  split at hvar
  · rename_i c ty fz hc
    cases hvar
    exact ⟨_, _, hc⟩
  · cases hvar

/-! ### a world in which the table is laid -/
noncomputable def laidWorld (os : Os) : World :=
  { World.holding Tryd.prog os ⟨#[], #[], []⟩ with heap := (World.holding Tryd.prog os ⟨#[], #[], []⟩).heap.modify 0 fun
      | .cells _ t frozen => .cells tzCells t frozen
      | o => o }

theorem tz_read (w : World) : DataW.trod (fun _ => ()) Tryd.prog w 0 (fun _ => true) false 8 150 tzCells.toList = some (Rows.laid_math_bits_deBruijn64tab, []) := by kernel_rfl

theorem tz_nodup : (MemPlace.row ⟨0, 0, none⟩ tzCells.size ++ [] ++ []).Nodup := by decide +kernel

theorem tz_noface (w : World) (off : Nat) (u : TypeId) (v : Value) (h0 : w.heap[0]? = some (.cells tzCells 150 (0, 0))) (hc : w.cell? ⟨0, off, none⟩ = some (.iface u v)) : False := by
  by_cases ho : off < 64
  · have := (tz_cell w _ _ h0 off ho).symm.trans hc
    injection this with h1
    cases h1
  · have e : w.cell? ⟨0, off, none⟩ = tzCells[off]? := by
      unfold World.cell?
      rw [h0]
      rfl
    rw [e] at hc
    have hs : tzCells.size = 64 := by decide +kernel
    rw [Array.getElem?_eq_none (by omega)] at hc
    cases hc

set_option maxRecDepth 100000 in
theorem tz_laid (w : World) (h0 : w.heap[0]? = some (.cells tzCells 150 (0, 0))) : laidMet Tryd.prog [("math/bits.deBruijn64tab", Rows.laid_math_bits_deBruijn64tab)] w := by
  refine ⟨_, ⟨0, 150, tzCells, 8, [], [], tz_global, tz_type, ?_, tz_read w, rfl, rfl⟩, tz_nodup, fun b off h => ?_⟩
  · simp only [World.var?, tz_global, Option.bind_some, h0]
  · have hb : b = 0 := by
      rw [List.append_nil, List.append_nil] at h
      unfold MemPlace.row at h
      rw [List.mem_map] at h
      obtain ⟨i, _, hi⟩ := h
      injection hi with h1 h2
      exact h1.symm
    clear h
    subst hb
    refine ⟨⟨tzCells, 150, h0⟩, fun u v hc => ?_⟩
    exact (tz_noface w off u v h0 hc).elim

theorem tz_glob {W : World} (h : laidMet Tryd.prog [("math/bits.deBruijn64tab", Rows.laid_math_bits_deBruijn64tab)] W) : ∀ b C, globTab b = some C → ∃ ty fz, W.heap[b]? = some (.cells C ty fz) := by
  intro b C hb
  unfold globTab at hb
  split at hb
  · cases hb
    exact cells_of_laid h
  · cases hb
end Go.Proofs.YtghondlbkjponaaDoor.Zv

/- What the laws' own small functions compute. -/
namespace Go.Proofs.YtghondlbkjponaaDoor.Zv
open Go

open Classical in
/-- A loop that looks for something bad. -/
theorem search {α : Type} (f : Int → α) (bad : Int → Prop) (r d : α) (n lo : Int) (hstep : ∀ i, lo ≤ i → i < n → (bad i → f i = r) ∧ (¬ bad i → f i = f (i + 1))) (hend : ∀ i, lo ≤ i → ¬ i < n → f i = d) (i : Int) (hi : lo ≤ i) :
    f i = if ∃ j, i ≤ j ∧ j < n ∧ bad j then r else d := by
  by_cases hlt : i < n
  · by_cases hb : bad i
    · rw [(hstep i hi hlt).1 hb, if_pos ⟨i, Int.le_refl _, hlt, hb⟩]
    · rw [(hstep i hi hlt).2 hb, search f bad r d n lo hstep hend (i + 1) (by omega)]
      have : (∃ j, i + 1 ≤ j ∧ j < n ∧ bad j) ↔ ∃ j, i ≤ j ∧ j < n ∧ bad j := by
        constructor
        · rintro ⟨j, h1, h2, h3⟩; exact ⟨j, by omega, h2, h3⟩
        · rintro ⟨j, h1, h2, h3⟩
          refine ⟨j, ?_, h2, h3⟩
          have : j ≠ i := fun e => hb (e ▸ h3)
          omega
      simp only [this]
  · rw [hend i hi hlt, if_neg]
    rintro ⟨j, h1, h2, _⟩
    omega
 termination_by (n - i).toNat

theorem getD_at (xs : List Int) {i : Nat} (hi : i < xs.length) : xs.getD i 0 = xs[i] := by
  rw [List.getD_eq_getElem?_getD, List.getElem?_eq_getElem hi]; rfl

variable {nro : Nat}

/-- A graph's value. -/
abbrev gv (n : Int) (s : Value) : Value := .agg #[.int .i64 n, s]

end Go.Proofs.YtghondlbkjponaaDoor.Zv

/- Words without sign. -/
namespace Go.Proofs.YtghondlbkjponaaDoor.Zv
open Go
theorem shr_u64 {a : Nat} {b : Nat} (hb : b ≤ 64) : ishr .u64 (a : Int) (b : Int) = ((a / 2 ^ b : Nat) : Int) := by
  rw [ishr_eq]
  have e : min (b : Int).toNat IntKind.u64.bits = b := by simp [IntKind.bits]; omega
  rw [e, Int.fdiv_eq_ediv_of_nonneg _ (Int.le_of_lt (by exact_mod_cast Nat.two_pow_pos b))]
  simp
theorem and_u64 {a b : Nat} (ha : a < 2 ^ 64) (hb : b < 2 ^ 64) : iand .u64 (a : Int) (b : Int) = ((a &&& b : Nat) : Int) := by
  rw [iand_eq]
  have h1 : (BitVec.ofInt IntKind.u64.bits (a : Int)).toNat = a := ofInt_nat 64 a ha
  have h2 : (BitVec.ofInt IntKind.u64.bits (b : Int)).toNat = b := ofInt_nat 64 b hb
  rw [BitVec.toNat_and, h1, h2]
  have : a &&& b < 2 ^ 64 := Nat.and_lt_two_pow _ hb
  exact wrapu64 (by omega) (by omega)
end Go.Proofs.YtghondlbkjponaaDoor.Zv

