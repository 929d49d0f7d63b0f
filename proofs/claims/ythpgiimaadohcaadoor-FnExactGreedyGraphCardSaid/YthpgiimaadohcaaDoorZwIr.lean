/- The functions' intermediate form. -/
import Derived.Test.YthpgiimaadohcaaDoorZwIr1
namespace Go.Proofs.YthpgiimaadohcaaDoor.Zv
open Go
/-- loop.example/g01331/spec.l07Given -/
def i_spec_l07Given : FF := ⟨22, [.tmp 6],
  .seq (.ops [
    ⟨some 3, .box 2 (.tmp 0), none, 0⟩,
    ⟨some 6, .mv (.const (.int .i64 0)), none, 0⟩]) <|
  .seq (.block 0 <|
  .seq (.ops [
    ⟨some 8, .load true 2 (.tmp 3), none, 0⟩,
    ⟨some 9, .call k_spec_l01Is [(.tmp 8)], none, 0⟩,
    ⟨some 10, .un .not (.tmp 9), none, 0⟩,
    ⟨some 7, .mv (.tmp 10), none, 0⟩]) <|
  .cond (.tmp 7)
    (.seq (.ops [
      ⟨some 6, .mv (.const (.int .i64 1)), none, 0⟩]) <|
    .keep [6] <|
    .ret)
    (.seq (.ops [
      ⟨some 12, .mv (.tmp 1), none, 0⟩,
      ⟨some 13, .mv (.tmp 2), none, 0⟩,
      ⟨some 14, .call k_spec_l07Numbers [(.tmp 12), (.tmp 13)], none, 0⟩,
      ⟨some 15, .un .not (.tmp 14), none, 0⟩,
      ⟨some 11, .mv (.tmp 15), none, 0⟩]) <|
    .cond (.tmp 11)
      (.seq (.ops [
        ⟨some 6, .mv (.const (.int .i64 2)), none, 0⟩]) <|
      .keep [6] <|
      .ret)
      (.seq (.ops [
        ⟨some 17, .load true 2 (.tmp 3), none, 0⟩,
        ⟨some 18, .mv (.tmp 1), none, 0⟩,
        ⟨some 19, .mv (.tmp 2), none, 0⟩,
        ⟨some 20, .call k_spec_l07Fits [(.tmp 17), (.tmp 18), (.tmp 19)], none, 0⟩,
        ⟨some 21, .un .not (.tmp 20), none, 0⟩,
        ⟨some 16, .mv (.tmp 21), none, 0⟩]) <|
      .cond (.tmp 16)
        (.seq (.ops [
          ⟨some 6, .mv (.const (.int .i64 5)), none, 0⟩]) <|
        .keep [6] <|
        .ret)
        (.skip)))) <|
  .seq (.ops [
    ⟨some 6, .mv (.const (.int .i64 0)), none, 0⟩]) <|
  .keep [6] <|
  .ret⟩

theorem e_spec_l07Given : EntOK Tryd.prog (compD Tryd.prog) k_spec_l07Given i_spec_l07Given.vf :=
  ⟨Tryd.f73, Tryd.f73.body.getD .skip, Tryd.func73, by kernel_rfl, by kernel_rfl, by kernel_rfl, by kernel_rfl, by kernel_rfl⟩

/-- loop.example/g01331/spec.l07May -/
def i_spec_l07May : FF := ⟨47, [.tmp 10],
  .seq (.ops [
    ⟨some 5, .box 2 (.tmp 0), none, 0⟩,
    ⟨some 10, .mv (.const (.bool false)), none, 0⟩]) <|
  .seq (.seq (.ops [
    ⟨some 12, .mv (.tmp 3), none, 0⟩,
    ⟨some 13, .mv (.tmp 4), none, 0⟩,
    ⟨some 14, .bin .eql (.tmp 12) (.tmp 13), none, 0⟩,
    ⟨some 15, .mv (.tmp 14), none, 0⟩,
    ⟨some 16, .load true 2 (.tmp 5), some (15, false), 0⟩,
    ⟨some 17, .mv (.tmp 3), some (15, false), 0⟩,
    ⟨some 18, .mv (.tmp 4), some (15, false), 0⟩,
    ⟨some 19, .call k_spec_l01Has [(.tmp 16), (.tmp 17), (.tmp 18)], some (15, false), 0⟩,
    ⟨some 20, .pick (.tmp 15) (.const (.bool true)) (.tmp 19), none, 0⟩,
    ⟨some 21, .mv (.tmp 20), none, 0⟩,
    ⟨some 22, .load true 2 (.tmp 5), some (21, false), 0⟩,
    ⟨some 23, .mv (.tmp 3), some (21, false), 0⟩,
    ⟨some 24, .call k_spec_l01Degree [(.tmp 22), (.tmp 23)], some (21, false), 0⟩,
    ⟨some 25, .mv (.tmp 1), some (21, false), 0⟩,
    ⟨some 26, .bin .geq (.tmp 24) (.tmp 25), some (21, false), 0⟩,
    ⟨some 27, .pick (.tmp 21) (.const (.bool true)) (.tmp 26), none, 0⟩,
    ⟨some 28, .mv (.tmp 27), none, 0⟩,
    ⟨some 29, .load true 2 (.tmp 5), some (28, false), 0⟩,
    ⟨some 30, .mv (.tmp 4), some (28, false), 0⟩,
    ⟨some 31, .call k_spec_l01Degree [(.tmp 29), (.tmp 30)], some (28, false), 0⟩,
    ⟨some 32, .mv (.tmp 1), some (28, false), 0⟩,
    ⟨some 33, .bin .geq (.tmp 31) (.tmp 32), some (28, false), 0⟩,
    ⟨some 34, .pick (.tmp 28) (.const (.bool true)) (.tmp 33), none, 0⟩]) <|
  .cond (.tmp 34)
    (.seq (.ops [
      ⟨some 10, .mv (.const (.bool false)), none, 0⟩]) <|
    .keep [10] <|
    .ret)
    (.skip)) <|
  .seq (.ops [
    ⟨some 35, .load true 2 (.tmp 5), none, 0⟩,
    ⟨some 36, .mv (.tmp 3), none, 0⟩,
    ⟨some 37, .mv (.tmp 4), none, 0⟩,
    ⟨some 38, .call k_spec_l07Far [(.tmp 35), (.tmp 36), (.tmp 37)], none, 0⟩,
    ⟨some 11, .mv (.tmp 38), none, 0⟩]) <|
  .seq (.ops [
    ⟨some 39, .mv (.tmp 11), none, 0⟩,
    ⟨some 40, .bin .lss (.tmp 39) (.const (.int .i64 0)), none, 0⟩,
    ⟨some 41, .mv (.tmp 40), none, 0⟩,
    ⟨some 42, .mv (.tmp 11), some (41, false), 0⟩,
    ⟨some 43, .bin .add (.tmp 42) (.const (.int .i64 1)), some (41, false), 0⟩,
    ⟨some 44, .mv (.tmp 2), some (41, false), 0⟩,
    ⟨some 45, .bin .geq (.tmp 43) (.tmp 44), some (41, false), 0⟩,
    ⟨some 46, .pick (.tmp 41) (.const (.bool true)) (.tmp 45), none, 0⟩,
    ⟨some 10, .mv (.tmp 46), none, 0⟩]) <|
  .keep [10] <|
  .ret⟩

theorem e_spec_l07May : EntOK Tryd.prog (compD Tryd.prog) k_spec_l07May i_spec_l07May.vf :=
  ⟨Tryd.f74, Tryd.f74.body.getD .skip, Tryd.func74, by kernel_rfl, by kernel_rfl, by kernel_rfl, by kernel_rfl, by kernel_rfl⟩

/-- loop.example/g01331/impl.fitCode -/
def i_impl_fitCode : FF := ⟨20, [.tmp 6],
  .seq (.ops [
    ⟨some 3, .box 2 (.tmp 0), none, 0⟩,
    ⟨some 6, .mv (.const (.int .i64 0)), none, 0⟩]) <|
  .seq (.seq (.ops [
    ⟨some 8, .load true 2 (.tmp 3), none, 0⟩,
    ⟨some 9, .mv (.tmp 1), none, 0⟩,
    ⟨some 10, .mv (.tmp 2), none, 0⟩,
    ⟨some 11, .call k_impl_bothCode [(.tmp 8), (.tmp 9), (.tmp 10)], none, 0⟩,
    ⟨some 7, .mv (.tmp 11), none, 0⟩]) <|
  .seq (.ops [
    ⟨some 12, .mv (.tmp 7), none, 0⟩,
    ⟨some 13, .bin .neq (.tmp 12) (.const (.int .i64 0)), none, 0⟩]) <|
  .cond (.tmp 13)
    (.seq (.ops [
      ⟨some 14, .mv (.tmp 7), none, 0⟩,
      ⟨some 6, .mv (.tmp 14), none, 0⟩]) <|
    .keep [6] <|
    .ret)
    (.skip)) <|
  .seq (.seq (.ops [
    ⟨some 15, .load true 2 (.tmp 3), none, 0⟩,
    ⟨some 16, .mv (.tmp 1), none, 0⟩,
    ⟨some 17, .mv (.tmp 2), none, 0⟩,
    ⟨some 18, .call k_impl_Graph_fits [(.tmp 15), (.tmp 16), (.tmp 17)], none, 0⟩,
    ⟨some 19, .un .not (.tmp 18), none, 0⟩]) <|
  .cond (.tmp 19)
    (.seq (.ops [
      ⟨some 6, .mv (.const (.int .i64 5)), none, 0⟩]) <|
    .keep [6] <|
    .ret)
    (.skip)) <|
  .seq (.ops [
    ⟨some 6, .mv (.const (.int .i64 0)), none, 0⟩]) <|
  .keep [6] <|
  .ret⟩

theorem e_impl_fitCode : EntOK Tryd.prog (compD Tryd.prog) k_impl_fitCode i_impl_fitCode.vf :=
  ⟨Tryd.f75, Tryd.f75.body.getD .skip, Tryd.func75, by kernel_rfl, by kernel_rfl, by kernel_rfl, by kernel_rfl, by kernel_rfl⟩

/-- (loop.example/g01331/impl.Graph).pairs -/
def i_impl_Graph_pairs_B1 : FC :=
  .seq (.seq (.ops [
    ⟨some 18, .mv (.tmp 9), none, 0⟩,
    ⟨some 19, .fld 0 (.tmp 3), none, 0⟩,
    ⟨some 20, .load false 1 (.tmp 19), none, 0⟩,
    ⟨some 21, .bin .lss (.tmp 18) (.tmp 20), none, 0⟩]) <|
  .cond (.tmp 21)
    (.skip)
    (.keep [1, 2, 3, 7, 12, 13] <|
    .exit 2)) <|
  .seq (.block 3 <|
  .seq (.ops [
    ⟨some 24, .load true 2 (.tmp 3), none, 0⟩,
    ⟨some 25, .mv (.tmp 8), none, 0⟩,
    ⟨some 26, .mv (.tmp 9), none, 0⟩,
    ⟨some 27, .mv (.tmp 1), none, 0⟩,
    ⟨some 28, .mv (.tmp 2), none, 0⟩,
    ⟨some 29, .call k_impl_Graph_mayJoin [(.tmp 24), (.tmp 25), (.tmp 26), (.tmp 27), (.tmp 28)], none, 0⟩]) <|
  .cond (.tmp 29)
    (.ops [
      ⟨some 30, .mv (.tmp 7), none, 0⟩,
      ⟨some 31, .mv (.tmp 8), none, 0⟩,
      ⟨some 32, .mv (.tmp 9), none, 0⟩,
      ⟨some 33, .buildSl 1 [.int .i64 0, .int .i64 0] [(0, 1, (.tmp 31)), (1, 1, (.tmp 32))] 2, none, 0⟩,
      ⟨some 34, .buildSl 1 [.slice none 0 0] [(0, 1, (.tmp 33))] 1, none, 0⟩,
      ⟨some 35, .app 1 24 [.slice none 0 0] (.tmp 30) (.tmp 34), none, 0⟩,
      ⟨some 7, .mv (.tmp 35), none, 0⟩])
    (.skip)) <|
  .ops [
    ⟨some 22, .mv (.tmp 9), none, 0⟩,
    ⟨some 23, .bin .add (.tmp 22) (.const (.int .i64 1)), none, 0⟩,
    ⟨some 9, .mv (.tmp 23), none, 0⟩]
def i_impl_Graph_pairs_B2 : FC :=
  .seq (.ops [
    ⟨some 14, .bin .lss (.tmp 13) (.tmp 12), none, 0⟩]) <|
  .seq (.cond (.tmp 14)
    (.skip)
    (.keep [7] <|
    .exit 0)) <|
  .seq (.block 1 <|
  .seq (.ops [
    ⟨some 15, .mv (.tmp 13), none, 0⟩,
    ⟨some 8, .mv (.tmp 15), none, 0⟩]) <|
  .seq (.ops [
    ⟨some 16, .mv (.tmp 8), none, 0⟩,
    ⟨some 17, .bin .add (.tmp 16) (.const (.int .i64 1)), none, 0⟩,
    ⟨some 9, .mv (.tmp 17), none, 0⟩]) <|
  .block 2 <|
  .loop [1, 2, 3, 7, 8, 9, 12, 13] i_impl_Graph_pairs_B1) <|
  .ops [
    ⟨some 36, .bin .add (.tmp 13) (.const (.int .i64 1)), none, 0⟩,
    ⟨some 13, .mv (.tmp 36), none, 0⟩]
def i_impl_Graph_pairs : FF := ⟨38, [.tmp 6],
  .seq (.ops [
    ⟨some 3, .box 2 (.tmp 0), none, 0⟩,
    ⟨some 6, .mv (.const (.slice none 0 0)), none, 0⟩]) <|
  .seq (.ops [
    ⟨some 10, .buildSl 1 [] [] 0, none, 0⟩,
    ⟨some 7, .mv (.tmp 10), none, 0⟩]) <|
  .seq (.seq (.ops [
    ⟨some 11, .fld 0 (.tmp 3), none, 0⟩,
    ⟨some 12, .load false 1 (.tmp 11), none, 0⟩,
    ⟨some 13, .mv (.const (.int .i64 0)), none, 0⟩]) <|
  .block 0 <|
  .loop [1, 2, 3, 7, 12, 13] i_impl_Graph_pairs_B2) <|
  .seq (.ops [
    ⟨some 37, .mv (.tmp 7), none, 0⟩,
    ⟨some 6, .mv (.tmp 37), none, 0⟩]) <|
  .keep [6] <|
  .ret⟩

theorem e_impl_Graph_pairs : EntOK Tryd.prog (compD Tryd.prog) k_impl_Graph_pairs i_impl_Graph_pairs.vf :=
  ⟨Tryd.f76, Tryd.f76.body.getD .skip, Tryd.func76, by kernel_rfl, by kernel_rfl, by kernel_rfl, by kernel_rfl, by kernel_rfl⟩

/-- loop.example/g01331/spec.l01From -/
def i_spec_l01From_B1 : FC :=
  .seq (.seq (.ops [
    ⟨some 12, .mv (.tmp 4), none, 0⟩,
    ⟨some 13, .mv (.tmp 0), none, 0⟩,
    ⟨some 14, .len (.tmp 13), none, 0⟩,
    ⟨some 15, .bin .lss (.tmp 12) (.tmp 14), none, 0⟩,
    ⟨some 16, .mv (.tmp 15), none, 0⟩,
    ⟨some 17, .mv (.tmp 4), some (16, true), 0⟩,
    ⟨some 18, .bin .lss (.tmp 17) (.const (.int .i64 4096)), some (16, true), 0⟩,
    ⟨some 19, .pick (.tmp 16) (.tmp 18) (.const (.bool false)), none, 0⟩]) <|
  .cond (.tmp 19)
    (.skip)
    (.keep [3] <|
    .exit 0)) <|
  .seq (.block 1 <|
  .dops [
    ⟨some 22, .mv (.tmp 3), none, 0⟩,
    ⟨some 23, .mv (.tmp 3), none, 0⟩,
    ⟨some 24, .nilchk (.tmp 23), none, 0⟩,
    ⟨some 25, .fld 2 (.tmp 24), none, 0⟩,
    ⟨some 26, .load false 1 (.tmp 25), none, 0⟩,
    ⟨some 27, .bin .mul (.tmp 26) (.const (.int .u64 1099511628211)), none, 0⟩,
    ⟨some 28, .mv (.tmp 0), none, 0⟩,
    ⟨some 29, .mv (.tmp 4), none, 0⟩,
    ⟨some 30, .idx 1 (.tmp 28) (.tmp 29), none, 0⟩,
    ⟨some 31, .load false 1 (.tmp 30), none, 0⟩,
    ⟨some 32, .conv .u64 (.tmp 31), none, 0⟩,
    ⟨some 33, .bin .add (.tmp 27) (.tmp 32), none, 0⟩,
    ⟨some 34, .bin .add (.tmp 33) (.const (.int .u64 157)), none, 0⟩,
    ⟨some 35, .nilchk (.tmp 22), none, 0⟩,
    ⟨some 36, .fld 2 (.tmp 35), none, 0⟩,
    ⟨none, .store 1 (.tmp 36) (.tmp 34), none, 0⟩]) <|
  .ops [
    ⟨some 20, .mv (.tmp 4), none, 0⟩,
    ⟨some 21, .bin .add (.tmp 20) (.const (.int .i64 1)), none, 0⟩,
    ⟨some 4, .mv (.tmp 21), none, 0⟩]
def i_spec_l01From : FF := ⟨38, [.tmp 2],
  .seq (.ops [
    ⟨some 2, .mv (.const (.pointer none)), none, 0⟩]) <|
  .seq (.ops [
    ⟨some 5, .mv (.tmp 0), none, 0⟩,
    ⟨some 6, .mv (.tmp 0), none, 0⟩,
    ⟨some 7, .len (.tmp 6), none, 0⟩,
    ⟨some 8, .conv .u64 (.tmp 7), none, 0⟩,
    ⟨some 9, .bin .add (.const (.int .u64 13311)) (.tmp 8), none, 0⟩,
    ⟨some 10, .build [.slice none 0 0, .int .i64 0, .int .u64 0] [(0, 1, (.tmp 5)), (2, 1, (.tmp 9))], none, 0⟩,
    ⟨some 11, .box 3 (.tmp 10), none, 0⟩,
    ⟨some 3, .mv (.tmp 11), none, 0⟩]) <|
  .seq (.seq (.ops [
    ⟨some 4, .mv (.const (.int .i64 0)), none, 0⟩]) <|
  .block 0 <|
  .loop [0, 3, 4] i_spec_l01From_B1) <|
  .seq (.ops [
    ⟨some 37, .mv (.tmp 3), none, 0⟩,
    ⟨some 2, .mv (.tmp 37), none, 0⟩]) <|
  .keep [2] <|
  .ret⟩

theorem e_spec_l01From : EntOK Tryd.prog (compD Tryd.prog) k_spec_l01From i_spec_l01From.vf :=
  ⟨Tryd.f77, Tryd.f77.body.getD .skip, Tryd.func77, by kernel_rfl, by kernel_rfl, by kernel_rfl, by kernel_rfl, by kernel_rfl⟩

/-- loop.example/g01331/spec.l07DrawNumbers -/
def i_spec_l07DrawNumbers : FF := ⟨26, [.tmp 2, .tmp 3],
  .seq (.ops [
    ⟨some 2, .mv (.const (.int .i64 0)), none, 0⟩,
    ⟨some 3, .mv (.const (.int .i64 0)), none, 0⟩]) <|
  .seq (.ops [
    ⟨some 6, .mv (.tmp 0), none, 0⟩,
    ⟨some 7, .call k_spec_l01Next [(.tmp 6), (.const (.int .i64 6))], none, 0⟩,
    ⟨some 8, .bin .add (.const (.int .i64 1)) (.tmp 7), none, 0⟩,
    ⟨some 9, .mv (.tmp 0), none, 0⟩,
    ⟨some 10, .buildSl 1 [.int .i64 0, .int .i64 0, .int .i64 0, .int .i64 0, .int .i64 0, .int .i64 0, .int .i64 0, .int .i64 0, .int .i64 0] [(0, 1, (.const (.int .i64 3))), (1, 1, (.const (.int .i64 3))), (2, 1, (.const (.int .i64 4))), (3, 1, (.const (.int .i64 5))), (4, 1, (.const (.int .i64 5))), (5, 1, (.const (.int .i64 6))), (6, 1, (.const (.int .i64 7))), (7, 1, (.const (.int .i64 8))), (8, 1, (.const (.int .i64 12)))] 9, none, 0⟩,
    ⟨some 11, .call k_spec_l01Pick [(.tmp 9), (.tmp 10)], none, 0⟩,
    ⟨some 4, .mv (.tmp 8), none, 0⟩,
    ⟨some 5, .mv (.tmp 11), none, 0⟩]) <|
  .seq (.seq (.ops [
    ⟨some 12, .mv (.tmp 0), none, 0⟩,
    ⟨some 13, .call k_spec_l01Next [(.tmp 12), (.const (.int .i64 24))], none, 0⟩]) <|
  .block 0 <|
  .seq (.ops [
    ⟨some 15, .bin .eql (.tmp 13) (.const (.int .i64 0)), none, 0⟩,
    ⟨some 14, .mv (.tmp 15), none, 0⟩]) <|
  .cond (.tmp 14)
    (.ops [
      ⟨some 16, .mv (.tmp 0), none, 0⟩,
      ⟨some 17, .buildSl 1 [.int .i64 0, .int .i64 0] [(0, 1, (.const (.int .i64 0))), (1, 1, (.const (.int .i64 7)))] 2, none, 0⟩,
      ⟨some 18, .call k_spec_l01Pick [(.tmp 16), (.tmp 17)], none, 0⟩,
      ⟨some 4, .mv (.tmp 18), none, 0⟩])
    (.seq (.ops [
      ⟨some 20, .bin .eql (.tmp 13) (.const (.int .i64 1)), none, 0⟩,
      ⟨some 19, .mv (.tmp 20), none, 0⟩]) <|
    .cond (.tmp 19)
      (.ops [
        ⟨some 21, .mv (.tmp 0), none, 0⟩,
        ⟨some 22, .buildSl 1 [.int .i64 0, .int .i64 0] [(0, 1, (.const (.int .i64 2))), (1, 1, (.const (.int .i64 13)))] 2, none, 0⟩,
        ⟨some 23, .call k_spec_l01Pick [(.tmp 21), (.tmp 22)], none, 0⟩,
        ⟨some 5, .mv (.tmp 23), none, 0⟩])
      (.skip))) <|
  .seq (.ops [
    ⟨some 24, .mv (.tmp 4), none, 0⟩,
    ⟨some 25, .mv (.tmp 5), none, 0⟩,
    ⟨some 2, .mv (.tmp 24), none, 0⟩,
    ⟨some 3, .mv (.tmp 25), none, 0⟩]) <|
  .keep [2, 3] <|
  .ret⟩

theorem e_spec_l07DrawNumbers : EntOK Tryd.prog (compD Tryd.prog) k_spec_l07DrawNumbers i_spec_l07DrawNumbers.vf :=
  ⟨Tryd.f78, Tryd.f78.body.getD .skip, Tryd.func78, by kernel_rfl, by kernel_rfl, by kernel_rfl, by kernel_rfl, by kernel_rfl⟩

/-- loop.example/g01331/spec.l01Next -/
def i_spec_l01Next : FF := ⟨58, [.tmp 4],
  .seq (.ops [
    ⟨some 4, .mv (.const (.int .i64 0)), none, 0⟩]) <|
  .seq (.seq (.ops [
    ⟨some 6, .mv (.tmp 1), none, 0⟩,
    ⟨some 7, .bin .lss (.tmp 6) (.const (.int .i64 1)), none, 0⟩]) <|
  .cond (.tmp 7)
    (.seq (.ops [
      ⟨some 4, .mv (.const (.int .i64 0)), none, 0⟩]) <|
    .keep [4] <|
    .ret)
    (.skip)) <|
  .seq (.ops [
    ⟨some 8, .mv (.tmp 0), none, 0⟩,
    ⟨some 9, .mv (.tmp 0), none, 0⟩,
    ⟨some 10, .nilchk (.tmp 9), none, 0⟩,
    ⟨some 11, .fld 2 (.tmp 10), none, 0⟩,
    ⟨some 12, .load false 1 (.tmp 11), none, 0⟩,
    ⟨some 13, .bin .mul (.tmp 12) (.const (.int .u64 6364136223846793005)), none, 0⟩,
    ⟨some 14, .bin .add (.tmp 13) (.const (.int .u64 1442695040888963407)), none, 0⟩,
    ⟨some 15, .nilchk (.tmp 8), none, 0⟩,
    ⟨some 16, .fld 2 (.tmp 15), none, 0⟩,
    ⟨none, .store 1 (.tmp 16) (.tmp 14), none, 0⟩]) <|
  .seq (.ops [
    ⟨some 17, .mv (.tmp 0), none, 0⟩,
    ⟨some 18, .nilchk (.tmp 17), none, 0⟩,
    ⟨some 19, .fld 2 (.tmp 18), none, 0⟩,
    ⟨some 20, .load false 1 (.tmp 19), none, 0⟩,
    ⟨some 21, .bin .shr (.tmp 20) (.const (.int .u64 33)), none, 0⟩,
    ⟨some 22, .bin .and (.tmp 21) (.const (.int .u64 16777215)), none, 0⟩,
    ⟨some 23, .conv .i64 (.tmp 22), none, 0⟩,
    ⟨some 5, .mv (.tmp 23), none, 0⟩]) <|
  .seq (.seq (.dops [
    ⟨some 24, .mv (.tmp 0), none, 0⟩,
    ⟨some 25, .nilchk (.tmp 24), none, 0⟩,
    ⟨some 26, .fld 1 (.tmp 25), none, 0⟩,
    ⟨some 27, .load false 1 (.tmp 26), none, 0⟩,
    ⟨some 28, .mv (.tmp 0), none, 0⟩,
    ⟨some 29, .nilchk (.tmp 28), none, 0⟩,
    ⟨some 30, .fld 0 (.tmp 29), none, 0⟩,
    ⟨some 31, .load false 1 (.tmp 30), none, 0⟩,
    ⟨some 32, .len (.tmp 31), none, 0⟩,
    ⟨some 33, .bin .lss (.tmp 27) (.tmp 32), none, 0⟩]) <|
  .cond (.tmp 33)
    (.seq (.dops [
      ⟨some 34, .mv (.tmp 5), none, 0⟩,
      ⟨some 35, .mv (.tmp 0), none, 0⟩,
      ⟨some 36, .nilchk (.tmp 35), none, 0⟩,
      ⟨some 37, .fld 0 (.tmp 36), none, 0⟩,
      ⟨some 38, .load false 1 (.tmp 37), none, 0⟩,
      ⟨some 39, .mv (.tmp 0), none, 0⟩,
      ⟨some 40, .nilchk (.tmp 39), none, 0⟩,
      ⟨some 41, .fld 1 (.tmp 40), none, 0⟩,
      ⟨some 42, .load false 1 (.tmp 41), none, 0⟩,
      ⟨some 43, .idx 1 (.tmp 38) (.tmp 42), none, 0⟩,
      ⟨some 44, .load false 1 (.tmp 43), none, 0⟩,
      ⟨some 45, .conv .i64 (.tmp 44), none, 0⟩,
      ⟨some 46, .bin .add (.tmp 34) (.tmp 45), none, 0⟩,
      ⟨some 5, .mv (.tmp 46), none, 0⟩]) <|
    .ops [
      ⟨some 47, .mv (.tmp 0), none, 0⟩,
      ⟨some 48, .mv (.tmp 0), none, 0⟩,
      ⟨some 49, .nilchk (.tmp 48), none, 0⟩,
      ⟨some 50, .fld 1 (.tmp 49), none, 0⟩,
      ⟨some 51, .load false 1 (.tmp 50), none, 0⟩,
      ⟨some 52, .bin .add (.tmp 51) (.const (.int .i64 1)), none, 0⟩,
      ⟨some 53, .nilchk (.tmp 47), none, 0⟩,
      ⟨some 54, .fld 1 (.tmp 53), none, 0⟩,
      ⟨none, .store 1 (.tmp 54) (.tmp 52), none, 0⟩])
    (.skip)) <|
  .seq (.ops [
    ⟨some 55, .mv (.tmp 5), none, 0⟩,
    ⟨some 56, .mv (.tmp 1), none, 0⟩,
    ⟨some 57, .bin .rem (.tmp 55) (.tmp 56), none, 0⟩,
    ⟨some 4, .mv (.tmp 57), none, 0⟩]) <|
  .keep [4] <|
  .ret⟩

theorem e_spec_l01Next : EntOK Tryd.prog (compD Tryd.prog) k_spec_l01Next i_spec_l01Next.vf :=
  ⟨Tryd.f79, Tryd.f79.body.getD .skip, Tryd.func79, by kernel_rfl, by kernel_rfl, by kernel_rfl, by kernel_rfl, by kernel_rfl⟩

/-- loop.example/g01331/spec.l01Pick -/
def i_spec_l01Pick : FF := ⟨12, [.tmp 4],
  .seq (.ops [
    ⟨some 4, .mv (.const (.int .i64 0)), none, 0⟩]) <|
  .seq (.ops [
    ⟨some 5, .mv (.tmp 1), none, 0⟩,
    ⟨some 6, .mv (.tmp 0), none, 0⟩,
    ⟨some 7, .mv (.tmp 1), none, 0⟩,
    ⟨some 8, .len (.tmp 7), none, 0⟩,
    ⟨some 9, .call k_spec_l01Next [(.tmp 6), (.tmp 8)], none, 0⟩,
    ⟨some 10, .idx 1 (.tmp 5) (.tmp 9), none, 0⟩,
    ⟨some 11, .load false 1 (.tmp 10), none, 0⟩,
    ⟨some 4, .mv (.tmp 11), none, 0⟩]) <|
  .keep [4] <|
  .ret⟩

theorem e_spec_l01Pick : EntOK Tryd.prog (compD Tryd.prog) k_spec_l01Pick i_spec_l01Pick.vf :=
  ⟨Tryd.f80, Tryd.f80.body.getD .skip, Tryd.func80, by kernel_rfl, by kernel_rfl, by kernel_rfl, by kernel_rfl, by kernel_rfl⟩

/-- loop.example/g01331/laws.likeInts -/
def i_laws_likeInts_B1 : FC :=
  .seq (.seq (.ops [
    ⟨some 11, .mv (.tmp 5), none, 0⟩,
    ⟨some 12, .mv (.tmp 0), none, 0⟩,
    ⟨some 13, .len (.tmp 12), none, 0⟩,
    ⟨some 14, .bin .lss (.tmp 11) (.tmp 13), none, 0⟩]) <|
  .cond (.tmp 14)
    (.skip)
    (.keep [] <|
    .exit 0)) <|
  .seq (.block 1 <|
  .seq (.dops [
    ⟨some 17, .mv (.tmp 0), none, 0⟩,
    ⟨some 18, .mv (.tmp 5), none, 0⟩,
    ⟨some 19, .idx 1 (.tmp 17) (.tmp 18), none, 0⟩,
    ⟨some 20, .load false 1 (.tmp 19), none, 0⟩,
    ⟨some 21, .mv (.tmp 1), none, 0⟩,
    ⟨some 22, .mv (.tmp 5), none, 0⟩,
    ⟨some 23, .idx 1 (.tmp 21) (.tmp 22), none, 0⟩,
    ⟨some 24, .load false 1 (.tmp 23), none, 0⟩,
    ⟨some 25, .bin .neq (.tmp 20) (.tmp 24), none, 0⟩]) <|
  .cond (.tmp 25)
    (.seq (.ops [
      ⟨some 4, .mv (.const (.bool false)), none, 0⟩]) <|
    .keep [4] <|
    .ret)
    (.skip)) <|
  .ops [
    ⟨some 15, .mv (.tmp 5), none, 0⟩,
    ⟨some 16, .bin .add (.tmp 15) (.const (.int .i64 1)), none, 0⟩,
    ⟨some 5, .mv (.tmp 16), none, 0⟩]
def i_laws_likeInts : FF := ⟨26, [.tmp 4],
  .seq (.ops [
    ⟨some 4, .mv (.const (.bool false)), none, 0⟩]) <|
  .seq (.seq (.ops [
    ⟨some 6, .mv (.tmp 0), none, 0⟩,
    ⟨some 7, .len (.tmp 6), none, 0⟩,
    ⟨some 8, .mv (.tmp 1), none, 0⟩,
    ⟨some 9, .len (.tmp 8), none, 0⟩,
    ⟨some 10, .bin .neq (.tmp 7) (.tmp 9), none, 0⟩]) <|
  .cond (.tmp 10)
    (.seq (.ops [
      ⟨some 4, .mv (.const (.bool false)), none, 0⟩]) <|
    .keep [4] <|
    .ret)
    (.skip)) <|
  .seq (.seq (.ops [
    ⟨some 5, .mv (.const (.int .i64 0)), none, 0⟩]) <|
  .block 0 <|
  .loop [0, 1, 5] i_laws_likeInts_B1) <|
  .seq (.ops [
    ⟨some 4, .mv (.const (.bool true)), none, 0⟩]) <|
  .keep [4] <|
  .ret⟩

theorem e_laws_likeInts : EntOK Tryd.prog (compD Tryd.prog) k_laws_likeInts i_laws_likeInts.vf :=
  ⟨Tryd.f81, Tryd.f81.body.getD .skip, Tryd.func81, by kernel_rfl, by kernel_rfl, by kernel_rfl, by kernel_rfl, by kernel_rfl⟩

/-- loop.example/g01331/impl.IsGraph -/
def i_impl_IsGraph_B1 : FC :=
  .seq (.ops [
    ⟨some 47, .bin .lss (.tmp 46) (.tmp 45), none, 0⟩]) <|
  .seq (.cond (.tmp 47)
    (.skip)
    (.keep [1, 3, 23, 24, 25] <|
    .exit 2)) <|
  .seq (.block 3 <|
  .seq (.ops [
    ⟨some 48, .mv (.tmp 46), none, 0⟩,
    ⟨some 6, .mv (.tmp 48), none, 0⟩]) <|
  .seq (.dops [
    ⟨some 49, .mv (.tmp 5), none, 0⟩,
    ⟨some 50, .mv (.tmp 6), none, 0⟩,
    ⟨some 51, .bin .shr (.tmp 49) (.tmp 50), none, 0⟩,
    ⟨some 52, .bin .and (.tmp 51) (.const (.int .i64 1)), none, 0⟩,
    ⟨some 53, .fld 1 (.tmp 1), none, 0⟩,
    ⟨some 54, .load false 1 (.tmp 53), none, 0⟩,
    ⟨some 55, .mv (.tmp 6), none, 0⟩,
    ⟨some 56, .idx 1 (.tmp 54) (.tmp 55), none, 0⟩,
    ⟨some 57, .load false 1 (.tmp 56), none, 0⟩,
    ⟨some 58, .mv (.tmp 4), none, 0⟩,
    ⟨some 59, .bin .shr (.tmp 57) (.tmp 58), none, 0⟩,
    ⟨some 60, .bin .and (.tmp 59) (.const (.int .i64 1)), none, 0⟩,
    ⟨some 61, .bin .neq (.tmp 52) (.tmp 60), none, 0⟩]) <|
  .cond (.tmp 61)
    (.seq (.ops [
      ⟨some 2, .mv (.const (.bool false)), none, 0⟩]) <|
    .keep [2] <|
    .ret)
    (.skip)) <|
  .ops [
    ⟨some 62, .bin .add (.tmp 46) (.const (.int .i64 1)), none, 0⟩,
    ⟨some 46, .mv (.tmp 62), none, 0⟩]
def i_impl_IsGraph_B2 : FC :=
  .seq (.ops [
    ⟨some 26, .bin .lss (.tmp 25) (.tmp 24), none, 0⟩]) <|
  .seq (.cond (.tmp 26)
    (.skip)
    (.keep [] <|
    .exit 0)) <|
  .seq (.block 1 <|
  .seq (.ops [
    ⟨some 27, .mv (.tmp 25), none, 0⟩,
    ⟨some 28, .idx 1 (.tmp 23) (.tmp 25), none, 0⟩,
    ⟨some 29, .load false 1 (.tmp 28), none, 0⟩,
    ⟨some 4, .mv (.tmp 27), none, 0⟩,
    ⟨some 5, .mv (.tmp 29), none, 0⟩]) <|
  .seq (.seq (.ops [
    ⟨some 30, .mv (.tmp 5), none, 0⟩,
    ⟨some 31, .bin .lss (.tmp 30) (.const (.int .i64 0)), none, 0⟩,
    ⟨some 32, .mv (.tmp 31), none, 0⟩,
    ⟨some 33, .mv (.tmp 5), some (32, false), 0⟩,
    ⟨some 34, .mv (.tmp 3), some (32, false), 0⟩,
    ⟨some 35, .bin .shl (.const (.int .i64 1)) (.tmp 34), some (32, false), 0⟩,
    ⟨some 36, .bin .geq (.tmp 33) (.tmp 35), some (32, false), 0⟩,
    ⟨some 37, .pick (.tmp 32) (.const (.bool true)) (.tmp 36), none, 0⟩,
    ⟨some 38, .mv (.tmp 37), none, 0⟩,
    ⟨some 39, .mv (.tmp 5), some (38, false), 0⟩,
    ⟨some 40, .mv (.tmp 4), some (38, false), 0⟩,
    ⟨some 41, .bin .shr (.tmp 39) (.tmp 40), some (38, false), 0⟩,
    ⟨some 42, .bin .and (.tmp 41) (.const (.int .i64 1)), some (38, false), 0⟩,
    ⟨some 43, .bin .eql (.tmp 42) (.const (.int .i64 1)), some (38, false), 0⟩,
    ⟨some 44, .pick (.tmp 38) (.const (.bool true)) (.tmp 43), none, 0⟩]) <|
  .cond (.tmp 44)
    (.seq (.ops [
      ⟨some 2, .mv (.const (.bool false)), none, 0⟩]) <|
    .keep [2] <|
    .ret)
    (.skip)) <|
  .seq (.ops [
    ⟨some 45, .mv (.tmp 3), none, 0⟩,
    ⟨some 46, .mv (.const (.int .i64 0)), none, 0⟩]) <|
  .block 2 <|
  .loop [1, 3, 4, 5, 23, 24, 25, 45, 46] i_impl_IsGraph_B1) <|
  .ops [
    ⟨some 63, .bin .add (.tmp 25) (.const (.int .i64 1)), none, 0⟩,
    ⟨some 25, .mv (.tmp 63), none, 0⟩]
def i_impl_IsGraph : FF := ⟨64, [.tmp 2],
  .seq (.ops [
    ⟨some 1, .box 2 (.tmp 0), none, 0⟩,
    ⟨some 2, .mv (.const (.bool false)), none, 0⟩]) <|
  .seq (.ops [
    ⟨some 7, .fld 0 (.tmp 1), none, 0⟩,
    ⟨some 8, .load false 1 (.tmp 7), none, 0⟩,
    ⟨some 3, .mv (.tmp 8), none, 0⟩]) <|
  .seq (.seq (.ops [
    ⟨some 9, .mv (.tmp 3), none, 0⟩,
    ⟨some 10, .bin .lss (.tmp 9) (.const (.int .i64 1)), none, 0⟩,
    ⟨some 11, .mv (.tmp 10), none, 0⟩,
    ⟨some 12, .mv (.tmp 3), some (11, false), 0⟩,
    ⟨some 13, .bin .gtr (.tmp 12) (.const (.int .i64 62)), some (11, false), 0⟩,
    ⟨some 14, .pick (.tmp 11) (.const (.bool true)) (.tmp 13), none, 0⟩,
    ⟨some 15, .mv (.tmp 14), none, 0⟩,
    ⟨some 16, .fld 1 (.tmp 1), some (15, false), 0⟩,
    ⟨some 17, .load false 1 (.tmp 16), some (15, false), 0⟩,
    ⟨some 18, .len (.tmp 17), some (15, false), 0⟩,
    ⟨some 19, .mv (.tmp 3), some (15, false), 0⟩,
    ⟨some 20, .bin .neq (.tmp 18) (.tmp 19), some (15, false), 0⟩,
    ⟨some 21, .pick (.tmp 15) (.const (.bool true)) (.tmp 20), none, 0⟩]) <|
  .cond (.tmp 21)
    (.seq (.ops [
      ⟨some 2, .mv (.const (.bool false)), none, 0⟩]) <|
    .keep [2] <|
    .ret)
    (.skip)) <|
  .seq (.seq (.ops [
    ⟨some 22, .fld 1 (.tmp 1), none, 0⟩,
    ⟨some 23, .load false 1 (.tmp 22), none, 0⟩,
    ⟨some 24, .len (.tmp 23), none, 0⟩,
    ⟨some 25, .mv (.const (.int .i64 0)), none, 0⟩]) <|
  .block 0 <|
  .loop [1, 3, 23, 24, 25] i_impl_IsGraph_B2) <|
  .seq (.ops [
    ⟨some 2, .mv (.const (.bool true)), none, 0⟩]) <|
  .keep [2] <|
  .ret⟩

theorem e_impl_IsGraph : EntOK Tryd.prog (compD Tryd.prog) k_impl_IsGraph i_impl_IsGraph.vf :=
  ⟨Tryd.f82, Tryd.f82.body.getD .skip, Tryd.func82, by kernel_rfl, by kernel_rfl, by kernel_rfl, by kernel_rfl, by kernel_rfl⟩

/-- (loop.example/g01331/impl.Graph).regular -/
def i_impl_Graph_regular : FF := ⟨14, [.tmp 2],
  .seq (.ops [
    ⟨some 1, .box 2 (.tmp 0), none, 0⟩,
    ⟨some 2, .mv (.const (.int .i64 0)), none, 0⟩]) <|
  .seq (.ops [
    ⟨some 4, .load true 2 (.tmp 1), none, 0⟩,
    ⟨some 5, .call k_impl_Graph_degrees [(.tmp 4)], none, 0⟩,
    ⟨some 3, .mv (.tmp 5), none, 0⟩]) <|
  .seq (.seq (.ops [
    ⟨some 6, .mv (.tmp 3), none, 0⟩,
    ⟨some 7, .call k_slices_Min_int64_int64 [(.tmp 6)], none, 0⟩,
    ⟨some 8, .mv (.tmp 3), none, 0⟩,
    ⟨some 9, .call k_slices_Max_int64_int64 [(.tmp 8)], none, 0⟩,
    ⟨some 10, .bin .neq (.tmp 7) (.tmp 9), none, 0⟩]) <|
  .cond (.tmp 10)
    (.seq (.ops [
      ⟨some 2, .mv (.const (.int .i64 (-1))), none, 0⟩]) <|
    .keep [2] <|
    .ret)
    (.skip)) <|
  .seq (.ops [
    ⟨some 11, .mv (.tmp 3), none, 0⟩,
    ⟨some 12, .idx 1 (.tmp 11) (.const (.int .i64 0)), none, 0⟩,
    ⟨some 13, .load false 1 (.tmp 12), none, 0⟩,
    ⟨some 2, .mv (.tmp 13), none, 0⟩]) <|
  .keep [2] <|
  .ret⟩

theorem e_impl_Graph_regular : EntOK Tryd.prog (compD Tryd.prog) k_impl_Graph_regular i_impl_Graph_regular.vf :=
  ⟨Tryd.f83, Tryd.f83.body.getD .skip, Tryd.func83, by kernel_rfl, by kernel_rfl, by kernel_rfl, by kernel_rfl, by kernel_rfl⟩

/-- loop.example/g01331/impl.bothCode -/
def i_impl_bothCode : FF := ⟨16, [.tmp 6],
  .seq (.ops [
    ⟨some 3, .box 2 (.tmp 0), none, 0⟩,
    ⟨some 6, .mv (.const (.int .i64 0)), none, 0⟩]) <|
  .seq (.block 0 <|
  .seq (.ops [
    ⟨some 8, .load true 2 (.tmp 3), none, 0⟩,
    ⟨some 9, .call k_impl_IsGraph [(.tmp 8)], none, 0⟩,
    ⟨some 10, .un .not (.tmp 9), none, 0⟩,
    ⟨some 7, .mv (.tmp 10), none, 0⟩]) <|
  .cond (.tmp 7)
    (.seq (.ops [
      ⟨some 6, .mv (.const (.int .i64 1)), none, 0⟩]) <|
    .keep [6] <|
    .ret)
    (.seq (.ops [
      ⟨some 12, .mv (.tmp 1), none, 0⟩,
      ⟨some 13, .mv (.tmp 2), none, 0⟩,
      ⟨some 14, .call k_impl_isBoth [(.tmp 12), (.tmp 13)], none, 0⟩,
      ⟨some 15, .un .not (.tmp 14), none, 0⟩,
      ⟨some 11, .mv (.tmp 15), none, 0⟩]) <|
    .cond (.tmp 11)
      (.seq (.ops [
        ⟨some 6, .mv (.const (.int .i64 2)), none, 0⟩]) <|
      .keep [6] <|
      .ret)
      (.skip))) <|
  .seq (.ops [
    ⟨some 6, .mv (.const (.int .i64 0)), none, 0⟩]) <|
  .keep [6] <|
  .ret⟩

theorem e_impl_bothCode : EntOK Tryd.prog (compD Tryd.prog) k_impl_bothCode i_impl_bothCode.vf :=
  ⟨Tryd.f84, Tryd.f84.body.getD .skip, Tryd.func84, by kernel_rfl, by kernel_rfl, by kernel_rfl, by kernel_rfl, by kernel_rfl⟩

/-- (loop.example/g01331/impl.Graph).fits -/
def i_impl_Graph_fits : FF := ⟨24, [.tmp 6],
  .seq (.ops [
    ⟨some 3, .box 2 (.tmp 0), none, 0⟩,
    ⟨some 6, .mv (.const (.bool false)), none, 0⟩]) <|
  .seq (.ops [
    ⟨some 8, .load true 2 (.tmp 3), none, 0⟩,
    ⟨some 9, .call k_impl_Graph_girth [(.tmp 8)], none, 0⟩,
    ⟨some 7, .mv (.tmp 9), none, 0⟩]) <|
  .seq (.ops [
    ⟨some 10, .load true 2 (.tmp 3), none, 0⟩,
    ⟨some 11, .call k_impl_Graph_degrees [(.tmp 10)], none, 0⟩,
    ⟨some 12, .call k_slices_Max_int64_int64 [(.tmp 11)], none, 0⟩,
    ⟨some 13, .mv (.tmp 1), none, 0⟩,
    ⟨some 14, .bin .leq (.tmp 12) (.tmp 13), none, 0⟩,
    ⟨some 15, .mv (.tmp 14), none, 0⟩,
    ⟨some 16, .mv (.tmp 7), some (15, true), 0⟩,
    ⟨some 17, .bin .eql (.tmp 16) (.const (.int .i64 0)), some (15, true), 0⟩,
    ⟨some 18, .mv (.tmp 17), some (15, true), 0⟩,
    ⟨some 19, .mv (.tmp 7), some (18, false), 0⟩,
    ⟨some 20, .mv (.tmp 2), some (18, false), 0⟩,
    ⟨some 21, .bin .geq (.tmp 19) (.tmp 20), some (18, false), 0⟩,
    ⟨some 22, .pick (.tmp 18) (.const (.bool true)) (.tmp 21), some (15, true), 0⟩,
    ⟨some 23, .pick (.tmp 15) (.tmp 22) (.const (.bool false)), none, 0⟩,
    ⟨some 6, .mv (.tmp 23), none, 0⟩]) <|
  .keep [6] <|
  .ret⟩

theorem e_impl_Graph_fits : EntOK Tryd.prog (compD Tryd.prog) k_impl_Graph_fits i_impl_Graph_fits.vf :=
  ⟨Tryd.f85, Tryd.f85.body.getD .skip, Tryd.func85, by kernel_rfl, by kernel_rfl, by kernel_rfl, by kernel_rfl, by kernel_rfl⟩

/-- loop.example/g01331/spec.l01Copy -/
def i_spec_l01Copy : FF := ⟨9, [.cell 2 true 2],
  .seq (.ops [
    ⟨some 1, .box 2 (.tmp 0), none, 0⟩,
    ⟨some 2, .alloc [.int .i64 0, .slice none 0 0], none, 0⟩]) <|
  .seq (.dops [
    ⟨some 5, .fld 1 (.tmp 1), none, 0⟩,
    ⟨some 6, .load false 1 (.tmp 5), none, 0⟩,
    ⟨some 7, .call k_spec_l01Own [(.tmp 6)], none, 0⟩,
    ⟨some 3, .fld 0 (.tmp 1), none, 1⟩,
    ⟨some 4, .load false 1 (.tmp 3), none, 1⟩,
    ⟨some 8, .build [.int .i64 0, .slice none 0 0] [(0, 1, (.tmp 4)), (1, 1, (.tmp 7))], none, 0⟩,
    ⟨none, .store 2 (.tmp 2) (.tmp 8), none, 0⟩]) <|
  .keep [2] <|
  .ret⟩

theorem e_spec_l01Copy : EntOK Tryd.prog (compD Tryd.prog) k_spec_l01Copy i_spec_l01Copy.vf :=
  ⟨Tryd.f86, Tryd.f86.body.getD .skip, Tryd.func86, by kernel_rfl, by kernel_rfl, by kernel_rfl, by kernel_rfl, by kernel_rfl⟩

/-- loop.example/g01331/spec.l01Put -/
def i_spec_l01Put : FF := ⟨32, [],
  .seq (.ops [
    ⟨some 3, .box 2 (.tmp 0), none, 0⟩]) <|
  .seq (.dops [
    ⟨some 6, .fld 1 (.tmp 3), none, 0⟩,
    ⟨some 7, .load false 1 (.tmp 6), none, 0⟩,
    ⟨some 8, .mv (.tmp 1), none, 0⟩,
    ⟨some 9, .fld 1 (.tmp 3), none, 0⟩,
    ⟨some 10, .load false 1 (.tmp 9), none, 0⟩,
    ⟨some 11, .mv (.tmp 1), none, 0⟩,
    ⟨some 12, .idx 1 (.tmp 10) (.tmp 11), none, 0⟩,
    ⟨some 13, .load false 1 (.tmp 12), none, 0⟩,
    ⟨some 14, .mv (.tmp 2), none, 0⟩,
    ⟨some 15, .conv .u64 (.tmp 14), none, 0⟩,
    ⟨some 16, .bin .shl (.const (.int .i64 1)) (.tmp 15), none, 0⟩,
    ⟨some 17, .bin .or (.tmp 13) (.tmp 16), none, 0⟩,
    ⟨some 18, .idx 1 (.tmp 7) (.tmp 8), none, 0⟩,
    ⟨none, .store 1 (.tmp 18) (.tmp 17), none, 0⟩]) <|
  .dops [
    ⟨some 19, .fld 1 (.tmp 3), none, 0⟩,
    ⟨some 20, .load false 1 (.tmp 19), none, 0⟩,
    ⟨some 21, .mv (.tmp 2), none, 0⟩,
    ⟨some 22, .fld 1 (.tmp 3), none, 0⟩,
    ⟨some 23, .load false 1 (.tmp 22), none, 0⟩,
    ⟨some 24, .mv (.tmp 2), none, 0⟩,
    ⟨some 25, .idx 1 (.tmp 23) (.tmp 24), none, 0⟩,
    ⟨some 26, .load false 1 (.tmp 25), none, 0⟩,
    ⟨some 27, .mv (.tmp 1), none, 0⟩,
    ⟨some 28, .conv .u64 (.tmp 27), none, 0⟩,
    ⟨some 29, .bin .shl (.const (.int .i64 1)) (.tmp 28), none, 0⟩,
    ⟨some 30, .bin .or (.tmp 26) (.tmp 29), none, 0⟩,
    ⟨some 31, .idx 1 (.tmp 20) (.tmp 21), none, 0⟩,
    ⟨none, .store 1 (.tmp 31) (.tmp 30), none, 0⟩]⟩

theorem e_spec_l01Put : EntOK Tryd.prog (compD Tryd.prog) k_spec_l01Put i_spec_l01Put.vf :=
  ⟨Tryd.f87, Tryd.f87.body.getD .skip, Tryd.func87, by kernel_rfl, by kernel_rfl, by kernel_rfl, by kernel_rfl, by kernel_rfl⟩

/-- loop.example/g01331/impl.own -/
def i_impl_own : FF := ⟨9, [.cell 2 true 2],
  .seq (.ops [
    ⟨some 1, .box 2 (.tmp 0), none, 0⟩,
    ⟨some 2, .alloc [.int .i64 0, .slice none 0 0], none, 0⟩]) <|
  .seq (.dops [
    ⟨some 5, .fld 1 (.tmp 1), none, 0⟩,
    ⟨some 6, .load false 1 (.tmp 5), none, 0⟩,
    ⟨some 7, .call k_slices_Clone_int64_int64 [(.tmp 6)], none, 0⟩,
    ⟨some 3, .fld 0 (.tmp 1), none, 1⟩,
    ⟨some 4, .load false 1 (.tmp 3), none, 1⟩,
    ⟨some 8, .build [.int .i64 0, .slice none 0 0] [(0, 1, (.tmp 4)), (1, 1, (.tmp 7))], none, 0⟩,
    ⟨none, .store 2 (.tmp 2) (.tmp 8), none, 0⟩]) <|
  .keep [2] <|
  .ret⟩

theorem e_impl_own : EntOK Tryd.prog (compD Tryd.prog) k_impl_own i_impl_own.vf :=
  ⟨Tryd.f88, Tryd.f88.body.getD .skip, Tryd.func88, by kernel_rfl, by kernel_rfl, by kernel_rfl, by kernel_rfl, by kernel_rfl⟩

/-- (loop.example/g01331/impl.Graph).mayJoin -/
def i_impl_Graph_mayJoin : FF := ⟨44, [.tmp 10],
  .seq (.ops [
    ⟨some 5, .box 2 (.tmp 0), none, 0⟩,
    ⟨some 10, .mv (.const (.bool false)), none, 0⟩]) <|
  .seq (.seq (.ops [
    ⟨some 12, .load true 2 (.tmp 5), none, 0⟩,
    ⟨some 13, .mv (.tmp 1), none, 0⟩,
    ⟨some 14, .mv (.tmp 2), none, 0⟩,
    ⟨some 15, .call k_impl_Graph_has [(.tmp 12), (.tmp 13), (.tmp 14)], none, 0⟩,
    ⟨some 16, .mv (.tmp 15), none, 0⟩,
    ⟨some 17, .load true 2 (.tmp 5), some (16, false), 0⟩,
    ⟨some 18, .mv (.tmp 1), some (16, false), 0⟩,
    ⟨some 19, .call k_impl_Graph_degree [(.tmp 17), (.tmp 18)], some (16, false), 0⟩,
    ⟨some 20, .mv (.tmp 3), some (16, false), 0⟩,
    ⟨some 21, .bin .geq (.tmp 19) (.tmp 20), some (16, false), 0⟩,
    ⟨some 22, .pick (.tmp 16) (.const (.bool true)) (.tmp 21), none, 0⟩,
    ⟨some 23, .mv (.tmp 22), none, 0⟩,
    ⟨some 24, .load true 2 (.tmp 5), some (23, false), 0⟩,
    ⟨some 25, .mv (.tmp 2), some (23, false), 0⟩,
    ⟨some 26, .call k_impl_Graph_degree [(.tmp 24), (.tmp 25)], some (23, false), 0⟩,
    ⟨some 27, .mv (.tmp 3), some (23, false), 0⟩,
    ⟨some 28, .bin .geq (.tmp 26) (.tmp 27), some (23, false), 0⟩,
    ⟨some 29, .pick (.tmp 23) (.const (.bool true)) (.tmp 28), none, 0⟩]) <|
  .cond (.tmp 29)
    (.seq (.ops [
      ⟨some 10, .mv (.const (.bool false)), none, 0⟩]) <|
    .keep [10] <|
    .ret)
    (.skip)) <|
  .seq (.ops [
    ⟨some 30, .load true 2 (.tmp 5), none, 0⟩,
    ⟨some 31, .mv (.tmp 1), none, 0⟩,
    ⟨some 32, .call k_impl_Graph_distances [(.tmp 30), (.tmp 31)], none, 0⟩,
    ⟨some 33, .mv (.tmp 2), none, 0⟩,
    ⟨some 34, .idx 1 (.tmp 32) (.tmp 33), none, 0⟩,
    ⟨some 35, .load false 1 (.tmp 34), none, 0⟩,
    ⟨some 11, .mv (.tmp 35), none, 0⟩]) <|
  .seq (.ops [
    ⟨some 36, .mv (.tmp 11), none, 0⟩,
    ⟨some 37, .bin .lss (.tmp 36) (.const (.int .i64 0)), none, 0⟩,
    ⟨some 38, .mv (.tmp 37), none, 0⟩,
    ⟨some 39, .mv (.tmp 11), some (38, false), 0⟩,
    ⟨some 40, .bin .add (.tmp 39) (.const (.int .i64 1)), some (38, false), 0⟩,
    ⟨some 41, .mv (.tmp 4), some (38, false), 0⟩,
    ⟨some 42, .bin .geq (.tmp 40) (.tmp 41), some (38, false), 0⟩,
    ⟨some 43, .pick (.tmp 38) (.const (.bool true)) (.tmp 42), none, 0⟩,
    ⟨some 10, .mv (.tmp 43), none, 0⟩]) <|
  .keep [10] <|
  .ret⟩

theorem e_impl_Graph_mayJoin : EntOK Tryd.prog (compD Tryd.prog) k_impl_Graph_mayJoin i_impl_Graph_mayJoin.vf :=
  ⟨Tryd.f89, Tryd.f89.body.getD .skip, Tryd.func89, by kernel_rfl, by kernel_rfl, by kernel_rfl, by kernel_rfl, by kernel_rfl⟩

/-- (loop.example/g01331/impl.Graph).put -/
def i_impl_Graph_put : FF := ⟨27, [],
  .seq (.ops [
    ⟨some 3, .box 2 (.tmp 0), none, 0⟩]) <|
  .seq (.ops [
    ⟨some 6, .mv (.tmp 1), none, 0⟩,
    ⟨some 7, .mv (.tmp 2), none, 0⟩,
    ⟨some 8, .bin .neq (.tmp 6) (.tmp 7), none, 0⟩]) <|
  .cond (.tmp 8)
    (.seq (.dops [
      ⟨some 9, .fld 1 (.tmp 3), none, 0⟩,
      ⟨some 10, .load false 1 (.tmp 9), none, 0⟩,
      ⟨some 11, .mv (.tmp 1), none, 0⟩,
      ⟨some 12, .idx 1 (.tmp 10) (.tmp 11), none, 0⟩,
      ⟨some 13, .load false 1 (.tmp 12), none, 0⟩,
      ⟨some 14, .mv (.tmp 2), none, 0⟩,
      ⟨some 15, .bin .shl (.const (.int .i64 1)) (.tmp 14), none, 0⟩,
      ⟨some 16, .bin .or (.tmp 13) (.tmp 15), none, 0⟩,
      ⟨some 17, .idx 1 (.tmp 10) (.tmp 11), none, 0⟩,
      ⟨none, .store 1 (.tmp 17) (.tmp 16), none, 0⟩]) <|
    .dops [
      ⟨some 18, .fld 1 (.tmp 3), none, 0⟩,
      ⟨some 19, .load false 1 (.tmp 18), none, 0⟩,
      ⟨some 20, .mv (.tmp 2), none, 0⟩,
      ⟨some 21, .idx 1 (.tmp 19) (.tmp 20), none, 0⟩,
      ⟨some 22, .load false 1 (.tmp 21), none, 0⟩,
      ⟨some 23, .mv (.tmp 1), none, 0⟩,
      ⟨some 24, .bin .shl (.const (.int .i64 1)) (.tmp 23), none, 0⟩,
      ⟨some 25, .bin .or (.tmp 22) (.tmp 24), none, 0⟩,
      ⟨some 26, .idx 1 (.tmp 19) (.tmp 20), none, 0⟩,
      ⟨none, .store 1 (.tmp 26) (.tmp 25), none, 0⟩])
    (.skip)⟩

theorem e_impl_Graph_put : EntOK Tryd.prog (compD Tryd.prog) k_impl_Graph_put i_impl_Graph_put.vf :=
  ⟨Tryd.f90, Tryd.f90.body.getD .skip, Tryd.func90, by kernel_rfl, by kernel_rfl, by kernel_rfl, by kernel_rfl, by kernel_rfl⟩

/-- loop.example/g01331/spec.l07Search -/
def i_spec_l07Search : FF := ⟨97, [.tmp 10],
  .seq (.ops [
    ⟨some 5, .box 2 (.tmp 0), none, 0⟩,
    ⟨some 10, .mv (.const (.bool false)), none, 0⟩]) <|
  .seq (.seq (.ops [
    ⟨some 11, .mv (.tmp 4), none, 0⟩,
    ⟨some 12, .fld 0 (.tmp 5), none, 0⟩,
    ⟨some 13, .load false 1 (.tmp 12), none, 0⟩,
    ⟨some 14, .bin .eql (.tmp 11) (.tmp 13), none, 0⟩]) <|
  .cond (.tmp 14)
    (.seq (.seq (.ops [
      ⟨some 15, .load true 2 (.tmp 5), none, 0⟩,
      ⟨some 16, .mv (.tmp 3), none, 0⟩,
      ⟨some 17, .call k_spec_l01Degree [(.tmp 15), (.tmp 16)], none, 0⟩,
      ⟨some 18, .mv (.tmp 1), none, 0⟩,
      ⟨some 19, .bin .neq (.tmp 17) (.tmp 18), none, 0⟩]) <|
    .cond (.tmp 19)
      (.seq (.ops [
        ⟨some 10, .mv (.const (.bool false)), none, 0⟩]) <|
      .keep [10] <|
      .ret)
      (.skip)) <|
    .seq (.ops [
      ⟨some 20, .mv (.tmp 3), none, 0⟩,
      ⟨some 21, .bin .add (.tmp 20) (.const (.int .i64 1)), none, 0⟩,
      ⟨some 3, .mv (.tmp 21), none, 0⟩]) <|
    .ops [
      ⟨some 22, .mv (.tmp 3), none, 0⟩,
      ⟨some 23, .bin .add (.tmp 22) (.const (.int .i64 1)), none, 0⟩,
      ⟨some 4, .mv (.tmp 23), none, 0⟩])
    (.skip)) <|
  .seq (.seq (.ops [
    ⟨some 24, .mv (.tmp 3), none, 0⟩,
    ⟨some 25, .fld 0 (.tmp 5), none, 0⟩,
    ⟨some 26, .load false 1 (.tmp 25), none, 0⟩,
    ⟨some 27, .bin .eql (.tmp 24) (.tmp 26), none, 0⟩]) <|
  .cond (.tmp 27)
    (.seq (.ops [
      ⟨some 10, .mv (.const (.bool true)), none, 0⟩]) <|
    .keep [10] <|
    .ret)
    (.skip)) <|
  .seq (.seq (.ops [
    ⟨some 28, .mv (.tmp 4), none, 0⟩,
    ⟨some 29, .fld 0 (.tmp 5), none, 0⟩,
    ⟨some 30, .load false 1 (.tmp 29), none, 0⟩,
    ⟨some 31, .bin .eql (.tmp 28) (.tmp 30), none, 0⟩]) <|
  .cond (.tmp 31)
    (.seq (.ops [
      ⟨some 32, .load true 2 (.tmp 5), none, 0⟩,
      ⟨some 33, .mv (.tmp 3), none, 0⟩,
      ⟨some 34, .call k_spec_l01Degree [(.tmp 32), (.tmp 33)], none, 0⟩,
      ⟨some 35, .mv (.tmp 1), none, 0⟩,
      ⟨some 36, .bin .eql (.tmp 34) (.tmp 35), none, 0⟩,
      ⟨some 10, .mv (.tmp 36), none, 0⟩]) <|
    .keep [10] <|
    .ret)
    (.skip)) <|
  .seq (.seq (.dops [
    ⟨some 37, .load true 2 (.tmp 5), none, 0⟩,
    ⟨some 38, .mv (.tmp 3), none, 0⟩,
    ⟨some 39, .call k_spec_l01Degree [(.tmp 37), (.tmp 38)], none, 0⟩,
    ⟨some 40, .fld 0 (.tmp 5), none, 1⟩,
    ⟨some 41, .load false 1 (.tmp 40), none, 1⟩,
    ⟨some 42, .bin .add (.tmp 39) (.tmp 41), none, 0⟩,
    ⟨some 43, .mv (.tmp 4), none, 1⟩,
    ⟨some 44, .bin .sub (.tmp 42) (.tmp 43), none, 0⟩,
    ⟨some 45, .mv (.tmp 1), none, 1⟩,
    ⟨some 46, .bin .lss (.tmp 44) (.tmp 45), none, 0⟩]) <|
  .cond (.tmp 46)
    (.seq (.ops [
      ⟨some 10, .mv (.const (.bool false)), none, 0⟩]) <|
    .keep [10] <|
    .ret)
    (.skip)) <|
  .seq (.seq (.ops [
    ⟨some 47, .load true 2 (.tmp 5), none, 0⟩,
    ⟨some 48, .mv (.tmp 1), none, 0⟩,
    ⟨some 49, .mv (.tmp 2), none, 0⟩,
    ⟨some 50, .mv (.tmp 3), none, 0⟩,
    ⟨some 51, .mv (.tmp 4), none, 0⟩,
    ⟨some 52, .call k_spec_l07May [(.tmp 47), (.tmp 48), (.tmp 49), (.tmp 50), (.tmp 51)], none, 0⟩]) <|
  .cond (.tmp 52)
    (.seq (.ops [
      ⟨some 53, .load true 2 (.tmp 5), none, 0⟩,
      ⟨some 54, .mv (.tmp 3), none, 0⟩,
      ⟨some 55, .mv (.tmp 4), none, 0⟩,
      ⟨some 56, .call k_spec_l01Put [(.tmp 53), (.tmp 54), (.tmp 55)], none, 0⟩]) <|
    .seq (.seq (.ops [
      ⟨some 57, .load true 2 (.tmp 5), none, 0⟩,
      ⟨some 58, .mv (.tmp 1), none, 0⟩,
      ⟨some 59, .mv (.tmp 2), none, 0⟩,
      ⟨some 60, .mv (.tmp 3), none, 0⟩,
      ⟨some 61, .mv (.tmp 4), none, 0⟩,
      ⟨some 62, .bin .add (.tmp 61) (.const (.int .i64 1)), none, 0⟩,
      ⟨some 63, .call k_spec_l07Search [(.tmp 57), (.tmp 58), (.tmp 59), (.tmp 60), (.tmp 62)], none, 0⟩]) <|
    .cond (.tmp 63)
      (.seq (.ops [
        ⟨some 10, .mv (.const (.bool true)), none, 0⟩]) <|
      .keep [10] <|
      .ret)
      (.skip)) <|
    .seq (.dops [
      ⟨some 64, .fld 1 (.tmp 5), none, 0⟩,
      ⟨some 65, .load false 1 (.tmp 64), none, 0⟩,
      ⟨some 66, .mv (.tmp 3), none, 0⟩,
      ⟨some 67, .fld 1 (.tmp 5), none, 0⟩,
      ⟨some 68, .load false 1 (.tmp 67), none, 0⟩,
      ⟨some 69, .mv (.tmp 3), none, 0⟩,
      ⟨some 70, .idx 1 (.tmp 68) (.tmp 69), none, 0⟩,
      ⟨some 71, .load false 1 (.tmp 70), none, 0⟩,
      ⟨some 72, .mv (.tmp 4), none, 0⟩,
      ⟨some 73, .conv .u64 (.tmp 72), none, 0⟩,
      ⟨some 74, .bin .shl (.const (.int .i64 1)) (.tmp 73), none, 0⟩,
      ⟨some 75, .bin .sub (.tmp 71) (.tmp 74), none, 0⟩,
      ⟨some 76, .idx 1 (.tmp 65) (.tmp 66), none, 0⟩,
      ⟨none, .store 1 (.tmp 76) (.tmp 75), none, 0⟩]) <|
    .dops [
      ⟨some 77, .fld 1 (.tmp 5), none, 0⟩,
      ⟨some 78, .load false 1 (.tmp 77), none, 0⟩,
      ⟨some 79, .mv (.tmp 4), none, 0⟩,
      ⟨some 80, .fld 1 (.tmp 5), none, 0⟩,
      ⟨some 81, .load false 1 (.tmp 80), none, 0⟩,
      ⟨some 82, .mv (.tmp 4), none, 0⟩,
      ⟨some 83, .idx 1 (.tmp 81) (.tmp 82), none, 0⟩,
      ⟨some 84, .load false 1 (.tmp 83), none, 0⟩,
      ⟨some 85, .mv (.tmp 3), none, 0⟩,
      ⟨some 86, .conv .u64 (.tmp 85), none, 0⟩,
      ⟨some 87, .bin .shl (.const (.int .i64 1)) (.tmp 86), none, 0⟩,
      ⟨some 88, .bin .sub (.tmp 84) (.tmp 87), none, 0⟩,
      ⟨some 89, .idx 1 (.tmp 78) (.tmp 79), none, 0⟩,
      ⟨none, .store 1 (.tmp 89) (.tmp 88), none, 0⟩])
    (.skip)) <|
  .seq (.ops [
    ⟨some 90, .load true 2 (.tmp 5), none, 0⟩,
    ⟨some 91, .mv (.tmp 1), none, 0⟩,
    ⟨some 92, .mv (.tmp 2), none, 0⟩,
    ⟨some 93, .mv (.tmp 3), none, 0⟩,
    ⟨some 94, .mv (.tmp 4), none, 0⟩,
    ⟨some 95, .bin .add (.tmp 94) (.const (.int .i64 1)), none, 0⟩,
    ⟨some 96, .call k_spec_l07Search [(.tmp 90), (.tmp 91), (.tmp 92), (.tmp 93), (.tmp 95)], none, 0⟩,
    ⟨some 10, .mv (.tmp 96), none, 0⟩]) <|
  .keep [10] <|
  .ret⟩

theorem e_spec_l07Search : EntOK Tryd.prog (compD Tryd.prog) k_spec_l07Search i_spec_l07Search.vf :=
  ⟨Tryd.f91, Tryd.f91.body.getD .skip, Tryd.func91, by kernel_rfl, by kernel_rfl, by kernel_rfl, by kernel_rfl, by kernel_rfl⟩

/-- loop.example/g01331/impl.girthBound -/
def i_impl_girthBound : FF := ⟨23, [.tmp 4],
  .seq (.ops [
    ⟨some 4, .mv (.const (.int .i64 0)), none, 0⟩]) <|
  .seq (.seq (.ops [
    ⟨some 5, .mv (.tmp 1), none, 0⟩,
    ⟨some 6, .bin .rem (.tmp 5) (.const (.int .i64 2)), none, 0⟩,
    ⟨some 7, .bin .eql (.tmp 6) (.const (.int .i64 1)), none, 0⟩]) <|
  .cond (.tmp 7)
    (.seq (.ops [
      ⟨some 8, .mv (.tmp 0), none, 0⟩,
      ⟨some 9, .mv (.tmp 0), none, 0⟩,
      ⟨some 10, .bin .sub (.tmp 9) (.const (.int .i64 1)), none, 0⟩,
      ⟨some 11, .mv (.tmp 1), none, 0⟩,
      ⟨some 12, .bin .sub (.tmp 11) (.const (.int .i64 1)), none, 0⟩,
      ⟨some 13, .bin .quo (.tmp 12) (.const (.int .i64 2)), none, 0⟩,
      ⟨some 14, .call k_impl_powers [(.tmp 10), (.tmp 13)], none, 0⟩,
      ⟨some 15, .bin .mul (.tmp 8) (.tmp 14), none, 0⟩,
      ⟨some 16, .bin .add (.const (.int .i64 1)) (.tmp 15), none, 0⟩,
      ⟨some 4, .mv (.tmp 16), none, 0⟩]) <|
    .keep [4] <|
    .ret)
    (.skip)) <|
  .seq (.ops [
    ⟨some 17, .mv (.tmp 0), none, 0⟩,
    ⟨some 18, .bin .sub (.tmp 17) (.const (.int .i64 1)), none, 0⟩,
    ⟨some 19, .mv (.tmp 1), none, 0⟩,
    ⟨some 20, .bin .quo (.tmp 19) (.const (.int .i64 2)), none, 0⟩,
    ⟨some 21, .call k_impl_powers [(.tmp 18), (.tmp 20)], none, 0⟩,
    ⟨some 22, .bin .mul (.const (.int .i64 2)) (.tmp 21), none, 0⟩,
    ⟨some 4, .mv (.tmp 22), none, 0⟩]) <|
  .keep [4] <|
  .ret⟩

theorem e_impl_girthBound : EntOK Tryd.prog (compD Tryd.prog) k_impl_girthBound i_impl_girthBound.vf :=
  ⟨Tryd.f92, Tryd.f92.body.getD .skip, Tryd.func92, by kernel_rfl, by kernel_rfl, by kernel_rfl, by kernel_rfl, by kernel_rfl⟩

/-- loop.example/g01331/impl.firstRegular$1 -/
def i_impl_firstRegular_1 : FF := ⟨62, [.tmp 9],
  .seq (.ops [
    ⟨some 9, .mv (.const (.bool false)), none, 0⟩]) <|
  .seq (.seq (.ops [
    ⟨some 10, .mv (.tmp 1), none, 0⟩,
    ⟨some 11, .load false 1 (.tmp 2), none, 0⟩,
    ⟨some 12, .bin .eql (.tmp 10) (.tmp 11), none, 0⟩]) <|
  .cond (.tmp 12)
    (.seq (.seq (.dops [
      ⟨some 13, .load true 2 (.tmp 3), none, 0⟩,
      ⟨some 14, .mv (.tmp 0), none, 0⟩,
      ⟨some 15, .call k_impl_Graph_degree [(.tmp 13), (.tmp 14)], none, 0⟩,
      ⟨some 16, .load false 1 (.tmp 4), none, 1⟩,
      ⟨some 17, .bin .neq (.tmp 15) (.tmp 16), none, 0⟩]) <|
    .cond (.tmp 17)
      (.seq (.ops [
        ⟨some 9, .mv (.const (.bool false)), none, 0⟩]) <|
      .keep [9] <|
      .ret)
      (.skip)) <|
    .seq (.ops [
      ⟨some 18, .mv (.tmp 0), none, 0⟩,
      ⟨some 19, .bin .add (.tmp 18) (.const (.int .i64 1)), none, 0⟩,
      ⟨some 0, .mv (.tmp 19), none, 0⟩]) <|
    .seq (.ops [
      ⟨some 20, .mv (.tmp 0), none, 0⟩,
      ⟨some 21, .bin .add (.tmp 20) (.const (.int .i64 1)), none, 0⟩,
      ⟨some 1, .mv (.tmp 21), none, 0⟩]) <|
    .seq (.seq (.ops [
      ⟨some 22, .mv (.tmp 0), none, 0⟩,
      ⟨some 23, .load false 1 (.tmp 2), none, 0⟩,
      ⟨some 24, .bin .eql (.tmp 22) (.tmp 23), none, 0⟩]) <|
    .cond (.tmp 24)
      (.seq (.ops [
        ⟨some 9, .mv (.const (.bool true)), none, 0⟩]) <|
      .keep [9] <|
      .ret)
      (.skip)) <|
    .seq (.ops [
      ⟨some 25, .load false 1 (.tmp 5), none, 0⟩,
      ⟨some 26, .mv (.tmp 0), none, 0⟩,
      ⟨some 27, .mv (.tmp 1), none, 0⟩,
      ⟨some 28, .callv (.tmp 25) [(.tmp 26), (.tmp 27)], none, 0⟩,
      ⟨some 9, .mv (.tmp 28), none, 0⟩]) <|
    .keep [9] <|
    .ret)
    (.skip)) <|
  .seq (.seq (.dops [
    ⟨some 29, .load true 2 (.tmp 3), none, 0⟩,
    ⟨some 30, .mv (.tmp 0), none, 0⟩,
    ⟨some 31, .call k_impl_Graph_degree [(.tmp 29), (.tmp 30)], none, 0⟩,
    ⟨some 32, .load false 1 (.tmp 2), none, 1⟩,
    ⟨some 33, .bin .add (.tmp 31) (.tmp 32), none, 0⟩,
    ⟨some 34, .mv (.tmp 1), none, 1⟩,
    ⟨some 35, .bin .sub (.tmp 33) (.tmp 34), none, 0⟩,
    ⟨some 36, .load false 1 (.tmp 4), none, 1⟩,
    ⟨some 37, .bin .lss (.tmp 35) (.tmp 36), none, 0⟩]) <|
  .cond (.tmp 37)
    (.seq (.ops [
      ⟨some 9, .mv (.const (.bool false)), none, 0⟩]) <|
    .keep [9] <|
    .ret)
    (.skip)) <|
  .seq (.seq (.ops [
    ⟨some 38, .load true 2 (.tmp 3), none, 0⟩,
    ⟨some 39, .mv (.tmp 0), none, 0⟩,
    ⟨some 40, .mv (.tmp 1), none, 0⟩,
    ⟨some 41, .load false 1 (.tmp 4), none, 0⟩,
    ⟨some 42, .load false 1 (.tmp 6), none, 0⟩,
    ⟨some 43, .call k_impl_Graph_mayJoin [(.tmp 38), (.tmp 39), (.tmp 40), (.tmp 41), (.tmp 42)], none, 0⟩]) <|
  .cond (.tmp 43)
    (.seq (.ops [
      ⟨some 44, .load true 2 (.tmp 3), none, 0⟩,
      ⟨some 45, .mv (.tmp 0), none, 0⟩,
      ⟨some 46, .mv (.tmp 1), none, 0⟩,
      ⟨some 47, .call k_impl_Graph_put [(.tmp 44), (.tmp 45), (.tmp 46)], none, 0⟩]) <|
    .seq (.seq (.ops [
      ⟨some 48, .load false 1 (.tmp 5), none, 0⟩,
      ⟨some 49, .mv (.tmp 0), none, 0⟩,
      ⟨some 50, .mv (.tmp 1), none, 0⟩,
      ⟨some 51, .bin .add (.tmp 50) (.const (.int .i64 1)), none, 0⟩,
      ⟨some 52, .callv (.tmp 48) [(.tmp 49), (.tmp 51)], none, 0⟩]) <|
    .cond (.tmp 52)
      (.seq (.ops [
        ⟨some 9, .mv (.const (.bool true)), none, 0⟩]) <|
      .keep [9] <|
      .ret)
      (.skip)) <|
    .ops [
      ⟨some 53, .load true 2 (.tmp 3), none, 0⟩,
      ⟨some 54, .mv (.tmp 0), none, 0⟩,
      ⟨some 55, .mv (.tmp 1), none, 0⟩,
      ⟨some 56, .call k_impl_Graph_take [(.tmp 53), (.tmp 54), (.tmp 55)], none, 0⟩])
    (.skip)) <|
  .seq (.ops [
    ⟨some 57, .load false 1 (.tmp 5), none, 0⟩,
    ⟨some 58, .mv (.tmp 0), none, 0⟩,
    ⟨some 59, .mv (.tmp 1), none, 0⟩,
    ⟨some 60, .bin .add (.tmp 59) (.const (.int .i64 1)), none, 0⟩,
    ⟨some 61, .callv (.tmp 57) [(.tmp 58), (.tmp 60)], none, 0⟩,
    ⟨some 9, .mv (.tmp 61), none, 0⟩]) <|
  .keep [9] <|
  .ret⟩

theorem e_impl_firstRegular_1 : EntOK Tryd.prog (compD Tryd.prog) k_impl_firstRegular_1 i_impl_firstRegular_1.vf :=
  ⟨Tryd.f93, Tryd.f93.body.getD .skip, Tryd.func93, by kernel_rfl, by kernel_rfl, by kernel_rfl, by kernel_rfl, by kernel_rfl⟩

/-- (loop.example/g01331/impl.Graph).degree -/
def i_impl_Graph_degree : FF := ⟨11, [.tmp 4],
  .seq (.ops [
    ⟨some 2, .box 2 (.tmp 0), none, 0⟩,
    ⟨some 4, .mv (.const (.int .i64 0)), none, 0⟩]) <|
  .seq (.ops [
    ⟨some 5, .fld 1 (.tmp 2), none, 0⟩,
    ⟨some 6, .load false 1 (.tmp 5), none, 0⟩,
    ⟨some 7, .mv (.tmp 1), none, 0⟩,
    ⟨some 8, .idx 1 (.tmp 6) (.tmp 7), none, 0⟩,
    ⟨some 9, .load false 1 (.tmp 8), none, 0⟩,
    ⟨some 10, .call k_impl_size [(.tmp 9)], none, 0⟩,
    ⟨some 4, .mv (.tmp 10), none, 0⟩]) <|
  .keep [4] <|
  .ret⟩

theorem e_impl_Graph_degree : EntOK Tryd.prog (compD Tryd.prog) k_impl_Graph_degree i_impl_Graph_degree.vf :=
  ⟨Tryd.f94, Tryd.f94.body.getD .skip, Tryd.func94, by kernel_rfl, by kernel_rfl, by kernel_rfl, by kernel_rfl, by kernel_rfl⟩

/-- (loop.example/g01331/impl.Graph).take -/
def i_impl_Graph_take : FF := ⟨24, [],
  .seq (.ops [
    ⟨some 3, .box 2 (.tmp 0), none, 0⟩]) <|
  .seq (.dops [
    ⟨some 6, .fld 1 (.tmp 3), none, 0⟩,
    ⟨some 7, .load false 1 (.tmp 6), none, 0⟩,
    ⟨some 8, .mv (.tmp 1), none, 0⟩,
    ⟨some 9, .idx 1 (.tmp 7) (.tmp 8), none, 0⟩,
    ⟨some 10, .load false 1 (.tmp 9), none, 0⟩,
    ⟨some 11, .mv (.tmp 2), none, 0⟩,
    ⟨some 12, .bin .shl (.const (.int .i64 1)) (.tmp 11), none, 0⟩,
    ⟨some 13, .bin .andNot (.tmp 10) (.tmp 12), none, 0⟩,
    ⟨some 14, .idx 1 (.tmp 7) (.tmp 8), none, 0⟩,
    ⟨none, .store 1 (.tmp 14) (.tmp 13), none, 0⟩]) <|
  .dops [
    ⟨some 15, .fld 1 (.tmp 3), none, 0⟩,
    ⟨some 16, .load false 1 (.tmp 15), none, 0⟩,
    ⟨some 17, .mv (.tmp 2), none, 0⟩,
    ⟨some 18, .idx 1 (.tmp 16) (.tmp 17), none, 0⟩,
    ⟨some 19, .load false 1 (.tmp 18), none, 0⟩,
    ⟨some 20, .mv (.tmp 1), none, 0⟩,
    ⟨some 21, .bin .shl (.const (.int .i64 1)) (.tmp 20), none, 0⟩,
    ⟨some 22, .bin .andNot (.tmp 19) (.tmp 21), none, 0⟩,
    ⟨some 23, .idx 1 (.tmp 16) (.tmp 17), none, 0⟩,
    ⟨none, .store 1 (.tmp 23) (.tmp 22), none, 0⟩]⟩

theorem e_impl_Graph_take : EntOK Tryd.prog (compD Tryd.prog) k_impl_Graph_take i_impl_Graph_take.vf :=
  ⟨Tryd.f95, Tryd.f95.body.getD .skip, Tryd.func95, by kernel_rfl, by kernel_rfl, by kernel_rfl, by kernel_rfl, by kernel_rfl⟩

/-- loop.example/g01331/spec.l01Is -/
def i_spec_l01Is_B1 : FC :=
  .seq (.seq (.ops [
    ⟨some 18, .mv (.tmp 3), none, 0⟩,
    ⟨some 19, .fld 0 (.tmp 1), none, 0⟩,
    ⟨some 20, .load false 1 (.tmp 19), none, 0⟩,
    ⟨some 21, .bin .lss (.tmp 18) (.tmp 20), none, 0⟩]) <|
  .cond (.tmp 21)
    (.skip)
    (.keep [1] <|
    .exit 0)) <|
  .seq (.block 1 <|
  .seq (.dops [
    ⟨some 24, .fld 1 (.tmp 1), none, 0⟩,
    ⟨some 25, .load false 1 (.tmp 24), none, 0⟩,
    ⟨some 26, .mv (.tmp 3), none, 0⟩,
    ⟨some 27, .idx 1 (.tmp 25) (.tmp 26), none, 0⟩,
    ⟨some 28, .load false 1 (.tmp 27), none, 0⟩,
    ⟨some 29, .fld 0 (.tmp 1), none, 0⟩,
    ⟨some 30, .load false 1 (.tmp 29), none, 0⟩,
    ⟨some 31, .conv .u64 (.tmp 30), none, 0⟩,
    ⟨some 32, .bin .shl (.const (.int .i64 1)) (.tmp 31), none, 0⟩,
    ⟨some 33, .bin .sub (.tmp 32) (.const (.int .i64 1)), none, 0⟩,
    ⟨some 34, .call k_spec_l01In [(.tmp 28), (.const (.int .i64 0)), (.tmp 33)], none, 0⟩,
    ⟨some 35, .un .not (.tmp 34), none, 0⟩,
    ⟨some 36, .mv (.tmp 35), none, 0⟩,
    ⟨some 37, .load true 2 (.tmp 1), some (36, false), 0⟩,
    ⟨some 38, .mv (.tmp 3), some (36, false), 0⟩,
    ⟨some 39, .mv (.tmp 3), some (36, false), 0⟩,
    ⟨some 40, .call k_spec_l01Has [(.tmp 37), (.tmp 38), (.tmp 39)], some (36, false), 0⟩,
    ⟨some 41, .pick (.tmp 36) (.const (.bool true)) (.tmp 40), none, 0⟩]) <|
  .cond (.tmp 41)
    (.seq (.ops [
      ⟨some 2, .mv (.const (.bool false)), none, 0⟩]) <|
    .keep [2] <|
    .ret)
    (.skip)) <|
  .ops [
    ⟨some 22, .mv (.tmp 3), none, 0⟩,
    ⟨some 23, .bin .add (.tmp 22) (.const (.int .i64 1)), none, 0⟩,
    ⟨some 3, .mv (.tmp 23), none, 0⟩]
def i_spec_l01Is_B2 : FC :=
  .seq (.seq (.ops [
    ⟨some 48, .mv (.tmp 5), none, 0⟩,
    ⟨some 49, .mv (.tmp 4), none, 0⟩,
    ⟨some 50, .bin .lss (.tmp 48) (.tmp 49), none, 0⟩]) <|
  .cond (.tmp 50)
    (.skip)
    (.keep [1, 4] <|
    .exit 4)) <|
  .seq (.block 5 <|
  .seq (.dops [
    ⟨some 53, .load true 2 (.tmp 1), none, 0⟩,
    ⟨some 54, .mv (.tmp 4), none, 0⟩,
    ⟨some 55, .mv (.tmp 5), none, 0⟩,
    ⟨some 56, .call k_spec_l01Has [(.tmp 53), (.tmp 54), (.tmp 55)], none, 0⟩,
    ⟨some 57, .load true 2 (.tmp 1), none, 1⟩,
    ⟨some 58, .mv (.tmp 5), none, 1⟩,
    ⟨some 59, .mv (.tmp 4), none, 1⟩,
    ⟨some 60, .call k_spec_l01Has [(.tmp 57), (.tmp 58), (.tmp 59)], none, 0⟩,
    ⟨some 61, .beq true (.tmp 56) (.tmp 60), none, 0⟩]) <|
  .cond (.tmp 61)
    (.seq (.ops [
      ⟨some 2, .mv (.const (.bool false)), none, 0⟩]) <|
    .keep [2] <|
    .ret)
    (.skip)) <|
  .ops [
    ⟨some 51, .mv (.tmp 5), none, 0⟩,
    ⟨some 52, .bin .add (.tmp 51) (.const (.int .i64 1)), none, 0⟩,
    ⟨some 5, .mv (.tmp 52), none, 0⟩]
def i_spec_l01Is_B3 : FC :=
  .seq (.seq (.ops [
    ⟨some 42, .mv (.tmp 4), none, 0⟩,
    ⟨some 43, .fld 0 (.tmp 1), none, 0⟩,
    ⟨some 44, .load false 1 (.tmp 43), none, 0⟩,
    ⟨some 45, .bin .lss (.tmp 42) (.tmp 44), none, 0⟩]) <|
  .cond (.tmp 45)
    (.skip)
    (.keep [] <|
    .exit 2)) <|
  .seq (.block 3 <|
  .seq (.ops [
    ⟨some 5, .mv (.const (.int .i64 0)), none, 0⟩]) <|
  .block 4 <|
  .loop [1, 4, 5] i_spec_l01Is_B2) <|
  .ops [
    ⟨some 46, .mv (.tmp 4), none, 0⟩,
    ⟨some 47, .bin .add (.tmp 46) (.const (.int .i64 1)), none, 0⟩,
    ⟨some 4, .mv (.tmp 47), none, 0⟩]
def i_spec_l01Is : FF := ⟨62, [.tmp 2],
  .seq (.ops [
    ⟨some 1, .box 2 (.tmp 0), none, 0⟩,
    ⟨some 2, .mv (.const (.bool false)), none, 0⟩]) <|
  .seq (.seq (.ops [
    ⟨some 6, .fld 0 (.tmp 1), none, 0⟩,
    ⟨some 7, .load false 1 (.tmp 6), none, 0⟩,
    ⟨some 8, .call k_spec_l01In [(.tmp 7), (.const (.int .i64 1)), (.const (.int .i64 62))], none, 0⟩,
    ⟨some 9, .un .not (.tmp 8), none, 0⟩,
    ⟨some 10, .mv (.tmp 9), none, 0⟩,
    ⟨some 11, .fld 1 (.tmp 1), some (10, false), 0⟩,
    ⟨some 12, .load false 1 (.tmp 11), some (10, false), 0⟩,
    ⟨some 13, .len (.tmp 12), some (10, false), 0⟩,
    ⟨some 14, .fld 0 (.tmp 1), some (10, false), 0⟩,
    ⟨some 15, .load false 1 (.tmp 14), some (10, false), 0⟩,
    ⟨some 16, .bin .neq (.tmp 13) (.tmp 15), some (10, false), 0⟩,
    ⟨some 17, .pick (.tmp 10) (.const (.bool true)) (.tmp 16), none, 0⟩]) <|
  .cond (.tmp 17)
    (.seq (.ops [
      ⟨some 2, .mv (.const (.bool false)), none, 0⟩]) <|
    .keep [2] <|
    .ret)
    (.skip)) <|
  .seq (.seq (.ops [
    ⟨some 3, .mv (.const (.int .i64 0)), none, 0⟩]) <|
  .block 0 <|
  .loop [1, 3] i_spec_l01Is_B1) <|
  .seq (.seq (.ops [
    ⟨some 4, .mv (.const (.int .i64 0)), none, 0⟩]) <|
  .block 2 <|
  .loop [1, 4] i_spec_l01Is_B3) <|
  .seq (.ops [
    ⟨some 2, .mv (.const (.bool true)), none, 0⟩]) <|
  .keep [2] <|
  .ret⟩

theorem e_spec_l01Is : EntOK Tryd.prog (compD Tryd.prog) k_spec_l01Is i_spec_l01Is.vf :=
  ⟨Tryd.f96, Tryd.f96.body.getD .skip, Tryd.func96, by kernel_rfl, by kernel_rfl, by kernel_rfl, by kernel_rfl, by kernel_rfl⟩

/-- (loop.example/g01331/impl.Graph).girthAt -/
def i_impl_Graph_girthAt_B1 : FC :=
  .seq (.ops [
    ⟨some 17, .bin .lss (.tmp 16) (.tmp 15), none, 0⟩]) <|
  .seq (.cond (.tmp 17)
    (.skip)
    (.keep [5] <|
    .exit 0)) <|
  .seq (.block 1 <|
  .seq (.ops [
    ⟨some 18, .idx 1 (.tmp 14) (.tmp 16), none, 0⟩,
    ⟨some 19, .load false 1 (.tmp 18), none, 0⟩,
    ⟨some 7, .mv (.tmp 19), none, 0⟩]) <|
  .seq (.ops [
    ⟨some 20, .load true 2 (.tmp 2), none, 0⟩,
    ⟨some 21, .mv (.tmp 1), none, 0⟩,
    ⟨some 22, .mv (.tmp 7), none, 0⟩,
    ⟨some 23, .call k_impl_Graph_around [(.tmp 20), (.tmp 21), (.tmp 22)], none, 0⟩,
    ⟨some 8, .mv (.tmp 23), none, 0⟩]) <|
  .seq (.ops [
    ⟨some 24, .mv (.tmp 8), none, 0⟩,
    ⟨some 25, .bin .gtr (.tmp 24) (.const (.int .i64 0)), none, 0⟩,
    ⟨some 26, .mv (.tmp 25), none, 0⟩,
    ⟨some 27, .mv (.tmp 5), some (26, true), 0⟩,
    ⟨some 28, .bin .eql (.tmp 27) (.const (.int .i64 0)), some (26, true), 0⟩,
    ⟨some 29, .mv (.tmp 28), some (26, true), 0⟩,
    ⟨some 30, .mv (.tmp 8), some (29, false), 0⟩,
    ⟨some 31, .mv (.tmp 5), some (29, false), 0⟩,
    ⟨some 32, .bin .lss (.tmp 30) (.tmp 31), some (29, false), 0⟩,
    ⟨some 33, .pick (.tmp 29) (.const (.bool true)) (.tmp 32), some (26, true), 0⟩,
    ⟨some 34, .pick (.tmp 26) (.tmp 33) (.const (.bool false)), none, 0⟩]) <|
  .cond (.tmp 34)
    (.ops [
      ⟨some 35, .mv (.tmp 8), none, 0⟩,
      ⟨some 5, .mv (.tmp 35), none, 0⟩])
    (.skip)) <|
  .ops [
    ⟨some 36, .bin .add (.tmp 16) (.const (.int .i64 1)), none, 0⟩,
    ⟨some 16, .mv (.tmp 36), none, 0⟩]
def i_impl_Graph_girthAt : FF := ⟨38, [.tmp 4],
  .seq (.ops [
    ⟨some 2, .box 2 (.tmp 0), none, 0⟩,
    ⟨some 4, .mv (.const (.int .i64 0)), none, 0⟩]) <|
  .seq (.ops [
    ⟨some 5, .mv (.const (.int .i64 0)), none, 0⟩]) <|
  .seq (.seq (.ops [
    ⟨some 9, .fld 1 (.tmp 2), none, 0⟩,
    ⟨some 10, .load false 1 (.tmp 9), none, 0⟩,
    ⟨some 11, .mv (.tmp 1), none, 0⟩,
    ⟨some 12, .idx 1 (.tmp 10) (.tmp 11), none, 0⟩,
    ⟨some 13, .load false 1 (.tmp 12), none, 0⟩,
    ⟨some 14, .call k_impl_list [(.tmp 13)], none, 0⟩,
    ⟨some 15, .len (.tmp 14), none, 0⟩,
    ⟨some 16, .mv (.const (.int .i64 0)), none, 0⟩]) <|
  .block 0 <|
  .loop [1, 2, 5, 14, 15, 16] i_impl_Graph_girthAt_B1) <|
  .seq (.ops [
    ⟨some 37, .mv (.tmp 5), none, 0⟩,
    ⟨some 4, .mv (.tmp 37), none, 0⟩]) <|
  .keep [4] <|
  .ret⟩

theorem e_impl_Graph_girthAt : EntOK Tryd.prog (compD Tryd.prog) k_impl_Graph_girthAt i_impl_Graph_girthAt.vf :=
  ⟨Tryd.f97, Tryd.f97.body.getD .skip, Tryd.func97, by kernel_rfl, by kernel_rfl, by kernel_rfl, by kernel_rfl, by kernel_rfl⟩

/-- (loop.example/g01331/impl.Graph).walks -/
def i_impl_Graph_walks_B1 : FC :=
  .seq (.ops [
    ⟨some 37, .bin .lss (.tmp 36) (.tmp 35), none, 0⟩]) <|
  .seq (.cond (.tmp 37)
    (.skip)
    (.keep [3, 7, 8, 18, 19, 25, 26] <|
    .exit 4)) <|
  .seq (.block 5 <|
  .seq (.ops [
    ⟨some 38, .idx 1 (.tmp 34) (.tmp 36), none, 0⟩,
    ⟨some 39, .load false 1 (.tmp 38), none, 0⟩,
    ⟨some 11, .mv (.tmp 39), none, 0⟩]) <|
  .dops [
    ⟨some 40, .mv (.tmp 8), none, 0⟩,
    ⟨some 41, .mv (.tmp 11), none, 0⟩,
    ⟨some 42, .idx 1 (.tmp 40) (.tmp 41), none, 0⟩,
    ⟨some 43, .load false 1 (.tmp 42), none, 0⟩,
    ⟨some 44, .mv (.tmp 7), none, 0⟩,
    ⟨some 45, .mv (.tmp 9), none, 0⟩,
    ⟨some 46, .idx 1 (.tmp 44) (.tmp 45), none, 0⟩,
    ⟨some 47, .load false 1 (.tmp 46), none, 0⟩,
    ⟨some 48, .bin .add (.tmp 43) (.tmp 47), none, 0⟩,
    ⟨some 49, .idx 1 (.tmp 40) (.tmp 41), none, 0⟩,
    ⟨none, .store 1 (.tmp 49) (.tmp 48), none, 0⟩]) <|
  .ops [
    ⟨some 50, .bin .add (.tmp 36) (.const (.int .i64 1)), none, 0⟩,
    ⟨some 36, .mv (.tmp 50), none, 0⟩]
def i_impl_Graph_walks_B2 : FC :=
  .seq (.ops [
    ⟨some 27, .bin .lss (.tmp 26) (.tmp 25), none, 0⟩]) <|
  .seq (.cond (.tmp 27)
    (.skip)
    (.keep [3, 8, 18, 19] <|
    .exit 2)) <|
  .seq (.block 3 <|
  .seq (.ops [
    ⟨some 28, .mv (.tmp 26), none, 0⟩,
    ⟨some 9, .mv (.tmp 28), none, 0⟩]) <|
  .seq (.ops [
    ⟨some 29, .fld 1 (.tmp 3), none, 0⟩,
    ⟨some 30, .load false 1 (.tmp 29), none, 0⟩,
    ⟨some 31, .mv (.tmp 9), none, 0⟩,
    ⟨some 32, .idx 1 (.tmp 30) (.tmp 31), none, 0⟩,
    ⟨some 33, .load false 1 (.tmp 32), none, 0⟩,
    ⟨some 34, .call k_impl_list [(.tmp 33)], none, 0⟩,
    ⟨some 35, .len (.tmp 34), none, 0⟩,
    ⟨some 36, .mv (.const (.int .i64 0)), none, 0⟩]) <|
  .block 4 <|
  .loop [3, 7, 8, 9, 18, 19, 25, 26, 34, 35, 36] i_impl_Graph_walks_B1) <|
  .ops [
    ⟨some 51, .bin .add (.tmp 26) (.const (.int .i64 1)), none, 0⟩,
    ⟨some 26, .mv (.tmp 51), none, 0⟩]
def i_impl_Graph_walks_B3 : FC :=
  .seq (.ops [
    ⟨some 20, .bin .lss (.tmp 19) (.tmp 18), none, 0⟩]) <|
  .seq (.cond (.tmp 20)
    (.skip)
    (.keep [7] <|
    .exit 0)) <|
  .seq (.block 1 <|
  .seq (.ops [
    ⟨some 21, .fld 0 (.tmp 3), none, 0⟩,
    ⟨some 22, .load false 1 (.tmp 21), none, 0⟩,
    ⟨some 23, .mkSl 1 [.int .i64 0] 8 (.tmp 22) (.tmp 22), none, 0⟩,
    ⟨some 8, .mv (.tmp 23), none, 0⟩]) <|
  .seq (.seq (.ops [
    ⟨some 24, .fld 0 (.tmp 3), none, 0⟩,
    ⟨some 25, .load false 1 (.tmp 24), none, 0⟩,
    ⟨some 26, .mv (.const (.int .i64 0)), none, 0⟩]) <|
  .block 2 <|
  .loop [3, 7, 8, 18, 19, 25, 26] i_impl_Graph_walks_B2) <|
  .ops [
    ⟨some 52, .mv (.tmp 8), none, 0⟩,
    ⟨some 7, .mv (.tmp 52), none, 0⟩]) <|
  .ops [
    ⟨some 53, .bin .add (.tmp 19) (.const (.int .i64 1)), none, 0⟩,
    ⟨some 19, .mv (.tmp 53), none, 0⟩]
def i_impl_Graph_walks : FF := ⟨55, [.tmp 6],
  .seq (.ops [
    ⟨some 3, .box 2 (.tmp 0), none, 0⟩,
    ⟨some 6, .mv (.const (.slice none 0 0)), none, 0⟩]) <|
  .seq (.ops [
    ⟨some 12, .fld 0 (.tmp 3), none, 0⟩,
    ⟨some 13, .load false 1 (.tmp 12), none, 0⟩,
    ⟨some 14, .mkSl 1 [.int .i64 0] 8 (.tmp 13) (.tmp 13), none, 0⟩,
    ⟨some 7, .mv (.tmp 14), none, 0⟩]) <|
  .seq (.ops [
    ⟨some 15, .mv (.tmp 7), none, 0⟩,
    ⟨some 16, .mv (.tmp 1), none, 0⟩,
    ⟨some 17, .idx 1 (.tmp 15) (.tmp 16), none, 0⟩,
    ⟨none, .store 1 (.tmp 17) (.const (.int .i64 1)), none, 0⟩]) <|
  .seq (.seq (.ops [
    ⟨some 18, .mv (.tmp 2), none, 0⟩,
    ⟨some 19, .mv (.const (.int .i64 0)), none, 0⟩]) <|
  .block 0 <|
  .loop [3, 7, 18, 19] i_impl_Graph_walks_B3) <|
  .seq (.ops [
    ⟨some 54, .mv (.tmp 7), none, 0⟩,
    ⟨some 6, .mv (.tmp 54), none, 0⟩]) <|
  .keep [6] <|
  .ret⟩

theorem e_impl_Graph_walks : EntOK Tryd.prog (compD Tryd.prog) k_impl_Graph_walks i_impl_Graph_walks.vf :=
  ⟨Tryd.f98, Tryd.f98.body.getD .skip, Tryd.func98, by kernel_rfl, by kernel_rfl, by kernel_rfl, by kernel_rfl, by kernel_rfl⟩

/-- loop.example/g01331/spec.l02Connected -/
def i_spec_l02Connected_B1 : FC :=
  .seq (.seq (.ops [
    ⟨some 7, .mv (.tmp 4), none, 0⟩,
    ⟨some 8, .mv (.tmp 3), none, 0⟩,
    ⟨some 9, .len (.tmp 8), none, 0⟩,
    ⟨some 10, .bin .lss (.tmp 7) (.tmp 9), none, 0⟩]) <|
  .cond (.tmp 10)
    (.skip)
    (.keep [] <|
    .exit 0)) <|
  .seq (.block 1 <|
  .seq (.ops [
    ⟨some 13, .mv (.tmp 3), none, 0⟩,
    ⟨some 14, .mv (.tmp 4), none, 0⟩,
    ⟨some 15, .idx 1 (.tmp 13) (.tmp 14), none, 0⟩,
    ⟨some 16, .load false 1 (.tmp 15), none, 0⟩,
    ⟨some 17, .bin .lss (.tmp 16) (.const (.int .i64 0)), none, 0⟩]) <|
  .cond (.tmp 17)
    (.seq (.ops [
      ⟨some 2, .mv (.const (.bool false)), none, 0⟩]) <|
    .keep [2] <|
    .ret)
    (.skip)) <|
  .ops [
    ⟨some 11, .mv (.tmp 4), none, 0⟩,
    ⟨some 12, .bin .add (.tmp 11) (.const (.int .i64 1)), none, 0⟩,
    ⟨some 4, .mv (.tmp 12), none, 0⟩]
def i_spec_l02Connected : FF := ⟨18, [.tmp 2],
  .seq (.ops [
    ⟨some 1, .box 2 (.tmp 0), none, 0⟩,
    ⟨some 2, .mv (.const (.bool false)), none, 0⟩]) <|
  .seq (.ops [
    ⟨some 5, .load true 2 (.tmp 1), none, 0⟩,
    ⟨some 6, .call k_spec_l02From [(.tmp 5), (.const (.int .i64 0)), (.const (.int .i64 (-1))), (.const (.int .i64 (-1)))], none, 0⟩,
    ⟨some 3, .mv (.tmp 6), none, 0⟩]) <|
  .seq (.seq (.ops [
    ⟨some 4, .mv (.const (.int .i64 0)), none, 0⟩]) <|
  .block 0 <|
  .loop [3, 4] i_spec_l02Connected_B1) <|
  .seq (.ops [
    ⟨some 2, .mv (.const (.bool true)), none, 0⟩]) <|
  .keep [2] <|
  .ret⟩

theorem e_spec_l02Connected : EntOK Tryd.prog (compD Tryd.prog) k_spec_l02Connected i_spec_l02Connected.vf :=
  ⟨Tryd.f99, Tryd.f99.body.getD .skip, Tryd.func99, by kernel_rfl, by kernel_rfl, by kernel_rfl, by kernel_rfl, by kernel_rfl⟩

/-- (loop.example/g01331/impl.Graph).connected -/
def i_impl_Graph_connected : FF := ⟨9, [.tmp 2],
  .seq (.ops [
    ⟨some 1, .box 2 (.tmp 0), none, 0⟩,
    ⟨some 2, .mv (.const (.bool false)), none, 0⟩]) <|
  .seq (.dops [
    ⟨some 3, .load true 2 (.tmp 1), none, 0⟩,
    ⟨some 4, .call k_impl_Graph_part [(.tmp 3), (.const (.int .i64 0))], none, 0⟩,
    ⟨some 5, .fld 0 (.tmp 1), none, 1⟩,
    ⟨some 6, .load false 1 (.tmp 5), none, 1⟩,
    ⟨some 7, .call k_impl_all [(.tmp 6)], none, 0⟩,
    ⟨some 8, .bin .eql (.tmp 4) (.tmp 7), none, 0⟩,
    ⟨some 2, .mv (.tmp 8), none, 0⟩]) <|
  .keep [2] <|
  .ret⟩

theorem e_impl_Graph_connected : EntOK Tryd.prog (compD Tryd.prog) k_impl_Graph_connected i_impl_Graph_connected.vf :=
  ⟨Tryd.f100, Tryd.f100.body.getD .skip, Tryd.func100, by kernel_rfl, by kernel_rfl, by kernel_rfl, by kernel_rfl, by kernel_rfl⟩

/-- (loop.example/g01331/impl.Graph).parts -/
def i_impl_Graph_parts_B1 : FC :=
  .seq (.seq (.ops [
    ⟨some 10, .mv (.tmp 4), none, 0⟩,
    ⟨some 11, .bin .neq (.tmp 10) (.const (.int .i64 0)), none, 0⟩]) <|
  .cond (.tmp 11)
    (.skip)
    (.keep [3] <|
    .exit 0)) <|
  .block 1 <|
  .seq (.dops [
    ⟨some 13, .mv (.tmp 4), none, 0⟩,
    ⟨some 14, .call k_impl_list [(.tmp 13)], none, 0⟩,
    ⟨some 12, .load true 2 (.tmp 1), none, 1⟩,
    ⟨some 15, .idx 1 (.tmp 14) (.const (.int .i64 0)), none, 0⟩,
    ⟨some 16, .load false 1 (.tmp 15), none, 0⟩,
    ⟨some 17, .call k_impl_Graph_part [(.tmp 12), (.tmp 16)], none, 0⟩,
    ⟨some 5, .mv (.tmp 17), none, 0⟩]) <|
  .seq (.ops [
    ⟨some 18, .mv (.tmp 3), none, 0⟩,
    ⟨some 19, .mv (.tmp 5), none, 0⟩,
    ⟨some 20, .call k_impl_list [(.tmp 19)], none, 0⟩,
    ⟨some 21, .buildSl 1 [.slice none 0 0] [(0, 1, (.tmp 20))] 1, none, 0⟩,
    ⟨some 22, .app 1 24 [.slice none 0 0] (.tmp 18) (.tmp 21), none, 0⟩,
    ⟨some 3, .mv (.tmp 22), none, 0⟩]) <|
  .ops [
    ⟨some 23, .mv (.tmp 4), none, 0⟩,
    ⟨some 24, .mv (.tmp 5), none, 0⟩,
    ⟨some 25, .bin .andNot (.tmp 23) (.tmp 24), none, 0⟩,
    ⟨some 4, .mv (.tmp 25), none, 0⟩]
def i_impl_Graph_parts : FF := ⟨27, [.tmp 2],
  .seq (.ops [
    ⟨some 1, .box 2 (.tmp 0), none, 0⟩,
    ⟨some 2, .mv (.const (.slice none 0 0)), none, 0⟩]) <|
  .seq (.ops [
    ⟨some 6, .buildSl 1 [] [] 0, none, 0⟩,
    ⟨some 7, .fld 0 (.tmp 1), none, 0⟩,
    ⟨some 8, .load false 1 (.tmp 7), none, 0⟩,
    ⟨some 9, .call k_impl_all [(.tmp 8)], none, 0⟩,
    ⟨some 3, .mv (.tmp 6), none, 0⟩,
    ⟨some 4, .mv (.tmp 9), none, 0⟩]) <|
  .seq (.block 0 <|
  .loop [1, 3, 4] i_impl_Graph_parts_B1) <|
  .seq (.ops [
    ⟨some 26, .mv (.tmp 3), none, 0⟩,
    ⟨some 2, .mv (.tmp 26), none, 0⟩]) <|
  .keep [2] <|
  .ret⟩

theorem e_impl_Graph_parts : EntOK Tryd.prog (compD Tryd.prog) k_impl_Graph_parts i_impl_Graph_parts.vf :=
  ⟨Tryd.f101, Tryd.f101.body.getD .skip, Tryd.func101, by kernel_rfl, by kernel_rfl, by kernel_rfl, by kernel_rfl, by kernel_rfl⟩

/-- (loop.example/g01331/impl.Graph).edges -/
def i_impl_Graph_edges_B1 : FC :=
  .seq (.ops [
    ⟨some 21, .bin .lss (.tmp 20) (.tmp 19), none, 0⟩]) <|
  .seq (.cond (.tmp 21)
    (.skip)
    (.keep [1, 3, 9, 10] <|
    .exit 2)) <|
  .seq (.block 3 <|
  .seq (.ops [
    ⟨some 22, .idx 1 (.tmp 18) (.tmp 20), none, 0⟩,
    ⟨some 23, .load false 1 (.tmp 22), none, 0⟩,
    ⟨some 6, .mv (.tmp 23), none, 0⟩]) <|
  .seq (.ops [
    ⟨some 24, .mv (.tmp 6), none, 0⟩,
    ⟨some 25, .mv (.tmp 4), none, 0⟩,
    ⟨some 26, .bin .gtr (.tmp 24) (.tmp 25), none, 0⟩]) <|
  .cond (.tmp 26)
    (.ops [
      ⟨some 27, .mv (.tmp 3), none, 0⟩,
      ⟨some 28, .mv (.tmp 4), none, 0⟩,
      ⟨some 29, .mv (.tmp 6), none, 0⟩,
      ⟨some 30, .buildSl 1 [.int .i64 0, .int .i64 0] [(0, 1, (.tmp 28)), (1, 1, (.tmp 29))] 2, none, 0⟩,
      ⟨some 31, .buildSl 1 [.slice none 0 0] [(0, 1, (.tmp 30))] 1, none, 0⟩,
      ⟨some 32, .app 1 24 [.slice none 0 0] (.tmp 27) (.tmp 31), none, 0⟩,
      ⟨some 3, .mv (.tmp 32), none, 0⟩])
    (.skip)) <|
  .ops [
    ⟨some 33, .bin .add (.tmp 20) (.const (.int .i64 1)), none, 0⟩,
    ⟨some 20, .mv (.tmp 33), none, 0⟩]
def i_impl_Graph_edges_B2 : FC :=
  .seq (.ops [
    ⟨some 11, .bin .lss (.tmp 10) (.tmp 9), none, 0⟩]) <|
  .seq (.cond (.tmp 11)
    (.skip)
    (.keep [3] <|
    .exit 0)) <|
  .seq (.block 1 <|
  .seq (.ops [
    ⟨some 12, .mv (.tmp 10), none, 0⟩,
    ⟨some 4, .mv (.tmp 12), none, 0⟩]) <|
  .seq (.ops [
    ⟨some 13, .fld 1 (.tmp 1), none, 0⟩,
    ⟨some 14, .load false 1 (.tmp 13), none, 0⟩,
    ⟨some 15, .mv (.tmp 4), none, 0⟩,
    ⟨some 16, .idx 1 (.tmp 14) (.tmp 15), none, 0⟩,
    ⟨some 17, .load false 1 (.tmp 16), none, 0⟩,
    ⟨some 18, .call k_impl_list [(.tmp 17)], none, 0⟩,
    ⟨some 19, .len (.tmp 18), none, 0⟩,
    ⟨some 20, .mv (.const (.int .i64 0)), none, 0⟩]) <|
  .block 2 <|
  .loop [1, 3, 4, 9, 10, 18, 19, 20] i_impl_Graph_edges_B1) <|
  .ops [
    ⟨some 34, .bin .add (.tmp 10) (.const (.int .i64 1)), none, 0⟩,
    ⟨some 10, .mv (.tmp 34), none, 0⟩]
def i_impl_Graph_edges : FF := ⟨36, [.tmp 2],
  .seq (.ops [
    ⟨some 1, .box 2 (.tmp 0), none, 0⟩,
    ⟨some 2, .mv (.const (.slice none 0 0)), none, 0⟩]) <|
  .seq (.ops [
    ⟨some 7, .buildSl 1 [] [] 0, none, 0⟩,
    ⟨some 3, .mv (.tmp 7), none, 0⟩]) <|
  .seq (.seq (.ops [
    ⟨some 8, .fld 0 (.tmp 1), none, 0⟩,
    ⟨some 9, .load false 1 (.tmp 8), none, 0⟩,
    ⟨some 10, .mv (.const (.int .i64 0)), none, 0⟩]) <|
  .block 0 <|
  .loop [1, 3, 9, 10] i_impl_Graph_edges_B2) <|
  .seq (.ops [
    ⟨some 35, .mv (.tmp 3), none, 0⟩,
    ⟨some 2, .mv (.tmp 35), none, 0⟩]) <|
  .keep [2] <|
  .ret⟩

theorem e_impl_Graph_edges : EntOK Tryd.prog (compD Tryd.prog) k_impl_Graph_edges i_impl_Graph_edges.vf :=
  ⟨Tryd.f102, Tryd.f102.body.getD .skip, Tryd.func102, by kernel_rfl, by kernel_rfl, by kernel_rfl, by kernel_rfl, by kernel_rfl⟩

/-- slices.Repeat[[]int64,int64] -/
def i_slices_Repeat_int64_int64_B1 : FC :=
  .seq (.seq (.ops [
    ⟨some 34, .mv (.tmp 8), none, 0⟩,
    ⟨some 35, .mv (.tmp 7), none, 0⟩,
    ⟨some 36, .len (.tmp 35), none, 0⟩,
    ⟨some 37, .bin .lss (.tmp 34) (.tmp 36), none, 0⟩]) <|
  .cond (.tmp 37)
    (.skip)
    (.keep [7] <|
    .exit 0)) <|
  .block 1 <|
  .dops [
    ⟨some 39, .mv (.tmp 7), none, 0⟩,
    ⟨some 40, .mv (.tmp 8), none, 0⟩,
    ⟨some 41, .slc 1 (.tmp 39) (some (.tmp 40)) none, none, 0⟩,
    ⟨some 42, .mv (.tmp 7), none, 0⟩,
    ⟨some 43, .mv (.tmp 8), none, 0⟩,
    ⟨some 44, .slc 1 (.tmp 42) none (some (.tmp 43)), none, 0⟩,
    ⟨some 45, .cpy 1 (.tmp 41) (.tmp 44), none, 0⟩,
    ⟨some 38, .mv (.tmp 8), none, 1⟩,
    ⟨some 46, .bin .add (.tmp 38) (.tmp 45), none, 0⟩,
    ⟨some 8, .mv (.tmp 46), none, 0⟩]
def i_slices_Repeat_int64_int64 : FF := ⟨48, [.tmp 4],
  .seq (.ops [
    ⟨some 4, .mv (.const (.slice none 0 0)), none, 0⟩]) <|
  .seq (.seq (.ops [
    ⟨some 9, .mv (.tmp 1), none, 0⟩,
    ⟨some 10, .bin .lss (.tmp 9) (.const (.int .i64 0)), none, 0⟩]) <|
  .cond (.tmp 10)
    (.ops [
      ⟨some 11, .stop, none, 0⟩,
      ⟨none, .stop, none, 0⟩])
    (.skip)) <|
  .seq (.ops [
    ⟨some 13, .mv (.tmp 0), none, 0⟩,
    ⟨some 14, .len (.tmp 13), none, 0⟩,
    ⟨some 15, .conv .u64 (.tmp 14), none, 0⟩,
    ⟨some 16, .mv (.tmp 1), none, 0⟩,
    ⟨some 17, .conv .u64 (.tmp 16), none, 0⟩,
    ⟨some 18, .call k_math_bits_Mul [(.tmp 15), (.tmp 17)], none, 0⟩,
    ⟨some 12, .mv (.tmp 18), none, 0⟩,
    ⟨some 19, .ext (.tmp 12) 0, none, 0⟩,
    ⟨some 20, .ext (.tmp 12) 1, none, 0⟩,
    ⟨some 5, .mv (.tmp 19), none, 0⟩,
    ⟨some 6, .mv (.tmp 20), none, 0⟩]) <|
  .seq (.seq (.ops [
    ⟨some 21, .mv (.tmp 5), none, 0⟩,
    ⟨some 22, .bin .gtr (.tmp 21) (.const (.int .u64 0)), none, 0⟩,
    ⟨some 23, .mv (.tmp 22), none, 0⟩,
    ⟨some 24, .mv (.tmp 6), some (23, false), 0⟩,
    ⟨some 25, .bin .gtr (.tmp 24) (.const (.int .u64 9223372036854775807)), some (23, false), 0⟩,
    ⟨some 26, .pick (.tmp 23) (.const (.bool true)) (.tmp 25), none, 0⟩]) <|
  .cond (.tmp 26)
    (.ops [
      ⟨some 27, .stop, none, 0⟩,
      ⟨none, .stop, none, 0⟩])
    (.skip)) <|
  .seq (.ops [
    ⟨some 28, .mv (.tmp 6), none, 0⟩,
    ⟨some 29, .conv .i64 (.tmp 28), none, 0⟩,
    ⟨some 30, .mkSl 1 [.int .i64 0] 8 (.tmp 29) (.tmp 29), none, 0⟩,
    ⟨some 7, .mv (.tmp 30), none, 0⟩]) <|
  .seq (.ops [
    ⟨some 31, .mv (.tmp 7), none, 0⟩,
    ⟨some 32, .mv (.tmp 0), none, 0⟩,
    ⟨some 33, .cpy 1 (.tmp 31) (.tmp 32), none, 0⟩,
    ⟨some 8, .mv (.tmp 33), none, 0⟩]) <|
  .seq (.block 0 <|
  .loop [7, 8] i_slices_Repeat_int64_int64_B1) <|
  .seq (.ops [
    ⟨some 47, .mv (.tmp 7), none, 0⟩,
    ⟨some 4, .mv (.tmp 47), none, 0⟩]) <|
  .keep [4] <|
  .ret⟩

theorem e_slices_Repeat_int64_int64 : EntOK Tryd.prog (compD Tryd.prog) k_slices_Repeat_int64_int64 i_slices_Repeat_int64_int64.vf :=
  ⟨Tryd.f103, Tryd.f103.body.getD .skip, Tryd.func103, by kernel_rfl, by kernel_rfl, by kernel_rfl, by kernel_rfl, by kernel_rfl⟩

/-- loop.example/g01331/impl.list -/
def i_impl_list_B1 : FC :=
  .seq (.seq (.ops [
    ⟨some 5, .mv (.tmp 0), none, 0⟩,
    ⟨some 6, .bin .neq (.tmp 5) (.const (.int .i64 0)), none, 0⟩]) <|
  .cond (.tmp 6)
    (.skip)
    (.keep [3] <|
    .exit 0)) <|
  .seq (.block 1 <|
  .ops [
    ⟨some 11, .mv (.tmp 3), none, 0⟩,
    ⟨some 12, .mv (.tmp 0), none, 0⟩,
    ⟨some 13, .conv .u64 (.tmp 12), none, 0⟩,
    ⟨some 14, .call k_math_bits_TrailingZeros64 [(.tmp 13)], none, 0⟩,
    ⟨some 15, .buildSl 1 [.int .i64 0] [(0, 1, (.tmp 14))] 1, none, 0⟩,
    ⟨some 16, .app 1 8 [.int .i64 0] (.tmp 11) (.tmp 15), none, 0⟩,
    ⟨some 3, .mv (.tmp 16), none, 0⟩]) <|
  .ops [
    ⟨some 7, .mv (.tmp 0), none, 0⟩,
    ⟨some 8, .mv (.tmp 0), none, 0⟩,
    ⟨some 9, .bin .sub (.tmp 8) (.const (.int .i64 1)), none, 0⟩,
    ⟨some 10, .bin .and (.tmp 7) (.tmp 9), none, 0⟩,
    ⟨some 0, .mv (.tmp 10), none, 0⟩]
def i_impl_list : FF := ⟨18, [.tmp 2],
  .seq (.ops [
    ⟨some 2, .mv (.const (.slice none 0 0)), none, 0⟩]) <|
  .seq (.ops [
    ⟨some 4, .buildSl 1 [] [] 0, none, 0⟩,
    ⟨some 3, .mv (.tmp 4), none, 0⟩]) <|
  .seq (.block 0 <|
  .loop [0, 3] i_impl_list_B1) <|
  .seq (.ops [
    ⟨some 17, .mv (.tmp 3), none, 0⟩,
    ⟨some 2, .mv (.tmp 17), none, 0⟩]) <|
  .keep [2] <|
  .ret⟩

theorem e_impl_list : EntOK Tryd.prog (compD Tryd.prog) k_impl_list i_impl_list.vf :=
  ⟨Tryd.f104, Tryd.f104.body.getD .skip, Tryd.func104, by kernel_rfl, by kernel_rfl, by kernel_rfl, by kernel_rfl, by kernel_rfl⟩

/-- loop.example/g01331/spec.l07Fits -/
def i_spec_l07Fits_B1 : FC :=
  .seq (.seq (.ops [
    ⟨some 11, .mv (.tmp 7), none, 0⟩,
    ⟨some 12, .fld 0 (.tmp 3), none, 0⟩,
    ⟨some 13, .load false 1 (.tmp 12), none, 0⟩,
    ⟨some 14, .bin .lss (.tmp 11) (.tmp 13), none, 0⟩]) <|
  .cond (.tmp 14)
    (.skip)
    (.keep [2, 3] <|
    .exit 0)) <|
  .seq (.block 1 <|
  .seq (.ops [
    ⟨some 17, .load true 2 (.tmp 3), none, 0⟩,
    ⟨some 18, .mv (.tmp 7), none, 0⟩,
    ⟨some 19, .call k_spec_l01Degree [(.tmp 17), (.tmp 18)], none, 0⟩,
    ⟨some 20, .mv (.tmp 1), none, 0⟩,
    ⟨some 21, .bin .gtr (.tmp 19) (.tmp 20), none, 0⟩]) <|
  .cond (.tmp 21)
    (.seq (.ops [
      ⟨some 6, .mv (.const (.bool false)), none, 0⟩]) <|
    .keep [6] <|
    .ret)
    (.skip)) <|
  .ops [
    ⟨some 15, .mv (.tmp 7), none, 0⟩,
    ⟨some 16, .bin .add (.tmp 15) (.const (.int .i64 1)), none, 0⟩,
    ⟨some 7, .mv (.tmp 16), none, 0⟩]
def i_spec_l07Fits_B2 : FC :=
  .seq (.seq (.ops [
    ⟨some 24, .mv (.tmp 9), none, 0⟩,
    ⟨some 25, .mv (.tmp 8), none, 0⟩,
    ⟨some 26, .len (.tmp 25), none, 0⟩,
    ⟨some 27, .bin .lss (.tmp 24) (.tmp 26), none, 0⟩]) <|
  .cond (.tmp 27)
    (.skip)
    (.keep [] <|
    .exit 2)) <|
  .seq (.block 3 <|
  .seq (.dops [
    ⟨some 30, .load true 2 (.tmp 3), none, 0⟩,
    ⟨some 31, .mv (.tmp 8), none, 0⟩,
    ⟨some 32, .mv (.tmp 9), none, 0⟩,
    ⟨some 33, .idx 1 (.tmp 31) (.tmp 32), none, 0⟩,
    ⟨some 34, .load false 1 (.tmp 33), none, 0⟩,
    ⟨some 35, .idx 1 (.tmp 34) (.const (.int .i64 0)), none, 0⟩,
    ⟨some 36, .load false 1 (.tmp 35), none, 0⟩,
    ⟨some 37, .mv (.tmp 8), none, 0⟩,
    ⟨some 38, .mv (.tmp 9), none, 0⟩,
    ⟨some 39, .idx 1 (.tmp 37) (.tmp 38), none, 0⟩,
    ⟨some 40, .load false 1 (.tmp 39), none, 0⟩,
    ⟨some 41, .idx 1 (.tmp 40) (.const (.int .i64 1)), none, 0⟩,
    ⟨some 42, .load false 1 (.tmp 41), none, 0⟩,
    ⟨some 43, .call k_spec_l01Cut [(.tmp 30), (.tmp 36), (.tmp 42)], none, 0⟩,
    ⟨some 44, .mv (.tmp 8), none, 1⟩,
    ⟨some 45, .mv (.tmp 9), none, 1⟩,
    ⟨some 46, .idx 1 (.tmp 44) (.tmp 45), none, 1⟩,
    ⟨some 47, .load false 1 (.tmp 46), none, 1⟩,
    ⟨some 48, .idx 1 (.tmp 47) (.const (.int .i64 0)), none, 1⟩,
    ⟨some 49, .load false 1 (.tmp 48), none, 1⟩,
    ⟨some 50, .mv (.tmp 8), none, 1⟩,
    ⟨some 51, .mv (.tmp 9), none, 1⟩,
    ⟨some 52, .idx 1 (.tmp 50) (.tmp 51), none, 1⟩,
    ⟨some 53, .load false 1 (.tmp 52), none, 1⟩,
    ⟨some 54, .idx 1 (.tmp 53) (.const (.int .i64 1)), none, 1⟩,
    ⟨some 55, .load false 1 (.tmp 54), none, 1⟩,
    ⟨some 56, .call k_spec_l07Far [(.tmp 43), (.tmp 49), (.tmp 55)], none, 0⟩,
    ⟨some 10, .mv (.tmp 56), none, 0⟩]) <|
  .seq (.ops [
    ⟨some 57, .mv (.tmp 10), none, 0⟩,
    ⟨some 58, .bin .gtr (.tmp 57) (.const (.int .i64 0)), none, 0⟩,
    ⟨some 59, .mv (.tmp 58), none, 0⟩,
    ⟨some 60, .mv (.tmp 10), some (59, true), 0⟩,
    ⟨some 61, .bin .add (.tmp 60) (.const (.int .i64 1)), some (59, true), 0⟩,
    ⟨some 62, .mv (.tmp 2), some (59, true), 0⟩,
    ⟨some 63, .bin .lss (.tmp 61) (.tmp 62), some (59, true), 0⟩,
    ⟨some 64, .pick (.tmp 59) (.tmp 63) (.const (.bool false)), none, 0⟩]) <|
  .cond (.tmp 64)
    (.seq (.ops [
      ⟨some 6, .mv (.const (.bool false)), none, 0⟩]) <|
    .keep [6] <|
    .ret)
    (.skip)) <|
  .ops [
    ⟨some 28, .mv (.tmp 9), none, 0⟩,
    ⟨some 29, .bin .add (.tmp 28) (.const (.int .i64 1)), none, 0⟩,
    ⟨some 9, .mv (.tmp 29), none, 0⟩]
def i_spec_l07Fits : FF := ⟨65, [.tmp 6],
  .seq (.ops [
    ⟨some 3, .box 2 (.tmp 0), none, 0⟩,
    ⟨some 6, .mv (.const (.bool false)), none, 0⟩]) <|
  .seq (.seq (.ops [
    ⟨some 7, .mv (.const (.int .i64 0)), none, 0⟩]) <|
  .block 0 <|
  .loop [1, 2, 3, 7] i_spec_l07Fits_B1) <|
  .seq (.ops [
    ⟨some 22, .load true 2 (.tmp 3), none, 0⟩,
    ⟨some 23, .call k_spec_l01Edges [(.tmp 22)], none, 0⟩,
    ⟨some 8, .mv (.tmp 23), none, 0⟩]) <|
  .seq (.seq (.ops [
    ⟨some 9, .mv (.const (.int .i64 0)), none, 0⟩]) <|
  .block 2 <|
  .loop [2, 3, 8, 9] i_spec_l07Fits_B2) <|
  .seq (.ops [
    ⟨some 6, .mv (.const (.bool true)), none, 0⟩]) <|
  .keep [6] <|
  .ret⟩

theorem e_spec_l07Fits : EntOK Tryd.prog (compD Tryd.prog) k_spec_l07Fits i_spec_l07Fits.vf :=
  ⟨Tryd.f105, Tryd.f105.body.getD .skip, Tryd.func105, by kernel_rfl, by kernel_rfl, by kernel_rfl, by kernel_rfl, by kernel_rfl⟩

/-- loop.example/g01331/spec.l01Has -/
def i_spec_l01Has : FF := ⟨17, [.tmp 6],
  .seq (.ops [
    ⟨some 3, .box 2 (.tmp 0), none, 0⟩,
    ⟨some 6, .mv (.const (.bool false)), none, 0⟩]) <|
  .seq (.ops [
    ⟨some 7, .fld 1 (.tmp 3), none, 0⟩,
    ⟨some 8, .load false 1 (.tmp 7), none, 0⟩,
    ⟨some 9, .mv (.tmp 1), none, 0⟩,
    ⟨some 10, .idx 1 (.tmp 8) (.tmp 9), none, 0⟩,
    ⟨some 11, .load false 1 (.tmp 10), none, 0⟩,
    ⟨some 12, .mv (.tmp 2), none, 0⟩,
    ⟨some 13, .conv .u64 (.tmp 12), none, 0⟩,
    ⟨some 14, .bin .shr (.tmp 11) (.tmp 13), none, 0⟩,
    ⟨some 15, .bin .and (.tmp 14) (.const (.int .i64 1)), none, 0⟩,
    ⟨some 16, .bin .eql (.tmp 15) (.const (.int .i64 1)), none, 0⟩,
    ⟨some 6, .mv (.tmp 16), none, 0⟩]) <|
  .keep [6] <|
  .ret⟩

theorem e_spec_l01Has : EntOK Tryd.prog (compD Tryd.prog) k_spec_l01Has i_spec_l01Has.vf :=
  ⟨Tryd.f106, Tryd.f106.body.getD .skip, Tryd.func106, by kernel_rfl, by kernel_rfl, by kernel_rfl, by kernel_rfl, by kernel_rfl⟩

/-- loop.example/g01331/spec.l01Degree -/
def i_spec_l01Degree : FF := ⟨11, [.tmp 4],
  .seq (.ops [
    ⟨some 2, .box 2 (.tmp 0), none, 0⟩,
    ⟨some 4, .mv (.const (.int .i64 0)), none, 0⟩]) <|
  .seq (.ops [
    ⟨some 5, .fld 1 (.tmp 2), none, 0⟩,
    ⟨some 6, .load false 1 (.tmp 5), none, 0⟩,
    ⟨some 7, .mv (.tmp 1), none, 0⟩,
    ⟨some 8, .idx 1 (.tmp 6) (.tmp 7), none, 0⟩,
    ⟨some 9, .load false 1 (.tmp 8), none, 0⟩,
    ⟨some 10, .call k_spec_l01Bits [(.tmp 9)], none, 0⟩,
    ⟨some 4, .mv (.tmp 10), none, 0⟩]) <|
  .keep [4] <|
  .ret⟩

theorem e_spec_l01Degree : EntOK Tryd.prog (compD Tryd.prog) k_spec_l01Degree i_spec_l01Degree.vf :=
  ⟨Tryd.f107, Tryd.f107.body.getD .skip, Tryd.func107, by kernel_rfl, by kernel_rfl, by kernel_rfl, by kernel_rfl, by kernel_rfl⟩

/-- loop.example/g01331/spec.l07Far -/
def i_spec_l07Far_B1 : FC :=
  .seq (.seq (.ops [
    ⟨some 27, .mv (.tmp 11), none, 0⟩,
    ⟨some 28, .fld 0 (.tmp 3), none, 0⟩,
    ⟨some 29, .load false 1 (.tmp 28), none, 0⟩,
    ⟨some 30, .bin .lss (.tmp 27) (.tmp 29), none, 0⟩]) <|
  .cond (.tmp 30)
    (.skip)
    (.keep [2, 3, 7, 9, 10] <|
    .exit 2)) <|
  .seq (.block 3 <|
  .seq (.ops [
    ⟨some 33, .mv (.tmp 8), none, 0⟩,
    ⟨some 34, .mv (.tmp 11), none, 0⟩,
    ⟨some 35, .conv .u64 (.tmp 34), none, 0⟩,
    ⟨some 36, .bin .shr (.tmp 33) (.tmp 35), none, 0⟩,
    ⟨some 37, .bin .and (.tmp 36) (.const (.int .i64 1)), none, 0⟩,
    ⟨some 38, .bin .eql (.tmp 37) (.const (.int .i64 1)), none, 0⟩]) <|
  .cond (.tmp 38)
    (.ops [
      ⟨some 39, .mv (.tmp 10), none, 0⟩,
      ⟨some 40, .fld 1 (.tmp 3), none, 0⟩,
      ⟨some 41, .load false 1 (.tmp 40), none, 0⟩,
      ⟨some 42, .mv (.tmp 11), none, 0⟩,
      ⟨some 43, .idx 1 (.tmp 41) (.tmp 42), none, 0⟩,
      ⟨some 44, .load false 1 (.tmp 43), none, 0⟩,
      ⟨some 45, .bin .or (.tmp 39) (.tmp 44), none, 0⟩,
      ⟨some 10, .mv (.tmp 45), none, 0⟩])
    (.skip)) <|
  .ops [
    ⟨some 31, .mv (.tmp 11), none, 0⟩,
    ⟨some 32, .bin .add (.tmp 31) (.const (.int .i64 1)), none, 0⟩,
    ⟨some 11, .mv (.tmp 32), none, 0⟩]
def i_spec_l07Far_B2 : FC :=
  .seq (.seq (.ops [
    ⟨some 18, .mv (.tmp 8), none, 0⟩,
    ⟨some 19, .bin .neq (.tmp 18) (.const (.int .i64 0)), none, 0⟩]) <|
  .cond (.tmp 19)
    (.skip)
    (.keep [] <|
    .exit 0)) <|
  .block 1 <|
  .seq (.seq (.ops [
    ⟨some 20, .mv (.tmp 8), none, 0⟩,
    ⟨some 21, .mv (.tmp 2), none, 0⟩,
    ⟨some 22, .conv .u64 (.tmp 21), none, 0⟩,
    ⟨some 23, .bin .shr (.tmp 20) (.tmp 22), none, 0⟩,
    ⟨some 24, .bin .and (.tmp 23) (.const (.int .i64 1)), none, 0⟩,
    ⟨some 25, .bin .eql (.tmp 24) (.const (.int .i64 1)), none, 0⟩]) <|
  .cond (.tmp 25)
    (.seq (.ops [
      ⟨some 26, .mv (.tmp 9), none, 0⟩,
      ⟨some 6, .mv (.tmp 26), none, 0⟩]) <|
    .keep [6] <|
    .ret)
    (.skip)) <|
  .seq (.ops [
    ⟨some 10, .mv (.const (.int .i64 0)), none, 0⟩]) <|
  .seq (.seq (.ops [
    ⟨some 11, .mv (.const (.int .i64 0)), none, 0⟩]) <|
  .block 2 <|
  .loop [2, 3, 7, 8, 9, 10, 11] i_spec_l07Far_B1) <|
  .seq (.ops [
    ⟨some 46, .mv (.tmp 10), none, 0⟩,
    ⟨some 47, .mv (.tmp 10), none, 0⟩,
    ⟨some 48, .mv (.tmp 7), none, 0⟩,
    ⟨some 49, .bin .and (.tmp 47) (.tmp 48), none, 0⟩,
    ⟨some 50, .bin .sub (.tmp 46) (.tmp 49), none, 0⟩,
    ⟨some 8, .mv (.tmp 50), none, 0⟩]) <|
  .seq (.ops [
    ⟨some 51, .mv (.tmp 7), none, 0⟩,
    ⟨some 52, .mv (.tmp 10), none, 0⟩,
    ⟨some 53, .bin .or (.tmp 51) (.tmp 52), none, 0⟩,
    ⟨some 7, .mv (.tmp 53), none, 0⟩]) <|
  .ops [
    ⟨some 54, .mv (.tmp 9), none, 0⟩,
    ⟨some 55, .bin .add (.tmp 54) (.const (.int .i64 1)), none, 0⟩,
    ⟨some 9, .mv (.tmp 55), none, 0⟩]
def i_spec_l07Far : FF := ⟨56, [.tmp 6],
  .seq (.ops [
    ⟨some 3, .box 2 (.tmp 0), none, 0⟩,
    ⟨some 6, .mv (.const (.int .i64 0)), none, 0⟩]) <|
  .seq (.ops [
    ⟨some 12, .mv (.tmp 1), none, 0⟩,
    ⟨some 13, .conv .u64 (.tmp 12), none, 0⟩,
    ⟨some 14, .bin .shl (.const (.int .i64 1)) (.tmp 13), none, 0⟩,
    ⟨some 15, .mv (.tmp 1), none, 0⟩,
    ⟨some 16, .conv .u64 (.tmp 15), none, 0⟩,
    ⟨some 17, .bin .shl (.const (.int .i64 1)) (.tmp 16), none, 0⟩,
    ⟨some 7, .mv (.tmp 14), none, 0⟩,
    ⟨some 8, .mv (.tmp 17), none, 0⟩,
    ⟨some 9, .mv (.const (.int .i64 0)), none, 0⟩]) <|
  .seq (.block 0 <|
  .loop [2, 3, 7, 8, 9] i_spec_l07Far_B2) <|
  .seq (.ops [
    ⟨some 6, .mv (.const (.int .i64 (-1))), none, 0⟩]) <|
  .keep [6] <|
  .ret⟩

theorem e_spec_l07Far : EntOK Tryd.prog (compD Tryd.prog) k_spec_l07Far i_spec_l07Far.vf :=
  ⟨Tryd.f108, Tryd.f108.body.getD .skip, Tryd.func108, by kernel_rfl, by kernel_rfl, by kernel_rfl, by kernel_rfl, by kernel_rfl⟩

/-- (loop.example/g01331/impl.Graph).degrees -/
def i_impl_Graph_degrees_B1 : FC :=
  .seq (.ops [
    ⟨some 9, .bin .lss (.tmp 8) (.tmp 7), none, 0⟩]) <|
  .seq (.cond (.tmp 9)
    (.skip)
    (.keep [3] <|
    .exit 0)) <|
  .seq (.block 1 <|
  .seq (.ops [
    ⟨some 10, .mv (.tmp 8), none, 0⟩,
    ⟨some 4, .mv (.tmp 10), none, 0⟩]) <|
  .ops [
    ⟨some 11, .mv (.tmp 3), none, 0⟩,
    ⟨some 12, .load true 2 (.tmp 1), none, 0⟩,
    ⟨some 13, .mv (.tmp 4), none, 0⟩,
    ⟨some 14, .call k_impl_Graph_degree [(.tmp 12), (.tmp 13)], none, 0⟩,
    ⟨some 15, .buildSl 1 [.int .i64 0] [(0, 1, (.tmp 14))] 1, none, 0⟩,
    ⟨some 16, .app 1 8 [.int .i64 0] (.tmp 11) (.tmp 15), none, 0⟩,
    ⟨some 3, .mv (.tmp 16), none, 0⟩]) <|
  .ops [
    ⟨some 17, .bin .add (.tmp 8) (.const (.int .i64 1)), none, 0⟩,
    ⟨some 8, .mv (.tmp 17), none, 0⟩]
def i_impl_Graph_degrees : FF := ⟨19, [.tmp 2],
  .seq (.ops [
    ⟨some 1, .box 2 (.tmp 0), none, 0⟩,
    ⟨some 2, .mv (.const (.slice none 0 0)), none, 0⟩]) <|
  .seq (.ops [
    ⟨some 5, .buildSl 1 [] [] 0, none, 0⟩,
    ⟨some 3, .mv (.tmp 5), none, 0⟩]) <|
  .seq (.seq (.ops [
    ⟨some 6, .fld 0 (.tmp 1), none, 0⟩,
    ⟨some 7, .load false 1 (.tmp 6), none, 0⟩,
    ⟨some 8, .mv (.const (.int .i64 0)), none, 0⟩]) <|
  .block 0 <|
  .loop [1, 3, 7, 8] i_impl_Graph_degrees_B1) <|
  .seq (.ops [
    ⟨some 18, .mv (.tmp 3), none, 0⟩,
    ⟨some 2, .mv (.tmp 18), none, 0⟩]) <|
  .keep [2] <|
  .ret⟩

theorem e_impl_Graph_degrees : EntOK Tryd.prog (compD Tryd.prog) k_impl_Graph_degrees i_impl_Graph_degrees.vf :=
  ⟨Tryd.f109, Tryd.f109.body.getD .skip, Tryd.func109, by kernel_rfl, by kernel_rfl, by kernel_rfl, by kernel_rfl, by kernel_rfl⟩

/-- slices.Min[[]int64,int64] -/
def i_slices_Min_int64_int64_B1 : FC :=
  .seq (.seq (.ops [
    ⟨some 12, .mv (.tmp 4), none, 0⟩,
    ⟨some 13, .mv (.tmp 0), none, 0⟩,
    ⟨some 14, .len (.tmp 13), none, 0⟩,
    ⟨some 15, .bin .lss (.tmp 12) (.tmp 14), none, 0⟩]) <|
  .cond (.tmp 15)
    (.skip)
    (.keep [3] <|
    .exit 0)) <|
  .seq (.block 1 <|
  .ops [
    ⟨some 18, .mv (.tmp 3), none, 0⟩,
    ⟨some 19, .mv (.tmp 0), none, 0⟩,
    ⟨some 20, .mv (.tmp 4), none, 0⟩,
    ⟨some 21, .idx 1 (.tmp 19) (.tmp 20), none, 0⟩,
    ⟨some 22, .load false 1 (.tmp 21), none, 0⟩,
    ⟨some 23, .minmax false [(.tmp 18), (.tmp 22)], none, 0⟩,
    ⟨some 3, .mv (.tmp 23), none, 0⟩]) <|
  .ops [
    ⟨some 16, .mv (.tmp 4), none, 0⟩,
    ⟨some 17, .bin .add (.tmp 16) (.const (.int .i64 1)), none, 0⟩,
    ⟨some 4, .mv (.tmp 17), none, 0⟩]
def i_slices_Min_int64_int64 : FF := ⟨25, [.tmp 2],
  .seq (.ops [
    ⟨some 2, .mv (.const (.int .i64 0)), none, 0⟩]) <|
  .seq (.seq (.ops [
    ⟨some 5, .mv (.tmp 0), none, 0⟩,
    ⟨some 6, .len (.tmp 5), none, 0⟩,
    ⟨some 7, .bin .lss (.tmp 6) (.const (.int .i64 1)), none, 0⟩]) <|
  .cond (.tmp 7)
    (.ops [
      ⟨some 8, .stop, none, 0⟩,
      ⟨none, .stop, none, 0⟩])
    (.skip)) <|
  .seq (.ops [
    ⟨some 9, .mv (.tmp 0), none, 0⟩,
    ⟨some 10, .idx 1 (.tmp 9) (.const (.int .i64 0)), none, 0⟩,
    ⟨some 11, .load false 1 (.tmp 10), none, 0⟩,
    ⟨some 3, .mv (.tmp 11), none, 0⟩]) <|
  .seq (.seq (.ops [
    ⟨some 4, .mv (.const (.int .i64 1)), none, 0⟩]) <|
  .block 0 <|
  .loop [0, 3, 4] i_slices_Min_int64_int64_B1) <|
  .seq (.ops [
    ⟨some 24, .mv (.tmp 3), none, 0⟩,
    ⟨some 2, .mv (.tmp 24), none, 0⟩]) <|
  .keep [2] <|
  .ret⟩

theorem e_slices_Min_int64_int64 : EntOK Tryd.prog (compD Tryd.prog) k_slices_Min_int64_int64 i_slices_Min_int64_int64.vf :=
  ⟨Tryd.f110, Tryd.f110.body.getD .skip, Tryd.func110, by kernel_rfl, by kernel_rfl, by kernel_rfl, by kernel_rfl, by kernel_rfl⟩

/-- slices.Max[[]int64,int64] -/
def i_slices_Max_int64_int64_B1 : FC :=
  .seq (.seq (.ops [
    ⟨some 12, .mv (.tmp 4), none, 0⟩,
    ⟨some 13, .mv (.tmp 0), none, 0⟩,
    ⟨some 14, .len (.tmp 13), none, 0⟩,
    ⟨some 15, .bin .lss (.tmp 12) (.tmp 14), none, 0⟩]) <|
  .cond (.tmp 15)
    (.skip)
    (.keep [3] <|
    .exit 0)) <|
  .seq (.block 1 <|
  .ops [
    ⟨some 18, .mv (.tmp 3), none, 0⟩,
    ⟨some 19, .mv (.tmp 0), none, 0⟩,
    ⟨some 20, .mv (.tmp 4), none, 0⟩,
    ⟨some 21, .idx 1 (.tmp 19) (.tmp 20), none, 0⟩,
    ⟨some 22, .load false 1 (.tmp 21), none, 0⟩,
    ⟨some 23, .minmax true [(.tmp 18), (.tmp 22)], none, 0⟩,
    ⟨some 3, .mv (.tmp 23), none, 0⟩]) <|
  .ops [
    ⟨some 16, .mv (.tmp 4), none, 0⟩,
    ⟨some 17, .bin .add (.tmp 16) (.const (.int .i64 1)), none, 0⟩,
    ⟨some 4, .mv (.tmp 17), none, 0⟩]
def i_slices_Max_int64_int64 : FF := ⟨25, [.tmp 2],
  .seq (.ops [
    ⟨some 2, .mv (.const (.int .i64 0)), none, 0⟩]) <|
  .seq (.seq (.ops [
    ⟨some 5, .mv (.tmp 0), none, 0⟩,
    ⟨some 6, .len (.tmp 5), none, 0⟩,
    ⟨some 7, .bin .lss (.tmp 6) (.const (.int .i64 1)), none, 0⟩]) <|
  .cond (.tmp 7)
    (.ops [
      ⟨some 8, .stop, none, 0⟩,
      ⟨none, .stop, none, 0⟩])
    (.skip)) <|
  .seq (.ops [
    ⟨some 9, .mv (.tmp 0), none, 0⟩,
    ⟨some 10, .idx 1 (.tmp 9) (.const (.int .i64 0)), none, 0⟩,
    ⟨some 11, .load false 1 (.tmp 10), none, 0⟩,
    ⟨some 3, .mv (.tmp 11), none, 0⟩]) <|
  .seq (.seq (.ops [
    ⟨some 4, .mv (.const (.int .i64 1)), none, 0⟩]) <|
  .block 0 <|
  .loop [0, 3, 4] i_slices_Max_int64_int64_B1) <|
  .seq (.ops [
    ⟨some 24, .mv (.tmp 3), none, 0⟩,
    ⟨some 2, .mv (.tmp 24), none, 0⟩]) <|
  .keep [2] <|
  .ret⟩

theorem e_slices_Max_int64_int64 : EntOK Tryd.prog (compD Tryd.prog) k_slices_Max_int64_int64 i_slices_Max_int64_int64.vf :=
  ⟨Tryd.f111, Tryd.f111.body.getD .skip, Tryd.func111, by kernel_rfl, by kernel_rfl, by kernel_rfl, by kernel_rfl, by kernel_rfl⟩

/-- loop.example/g01331/spec.l01Own -/
def i_spec_l01Own : FF := ⟨6, [.tmp 2],
  .seq (.ops [
    ⟨some 2, .mv (.const (.slice none 0 0)), none, 0⟩]) <|
  .seq (.ops [
    ⟨some 3, .buildSl 1 [] [] 0, none, 0⟩,
    ⟨some 4, .mv (.tmp 0), none, 0⟩,
    ⟨some 5, .app 1 8 [.int .i64 0] (.tmp 3) (.tmp 4), none, 0⟩,
    ⟨some 2, .mv (.tmp 5), none, 0⟩]) <|
  .keep [2] <|
  .ret⟩

theorem e_spec_l01Own : EntOK Tryd.prog (compD Tryd.prog) k_spec_l01Own i_spec_l01Own.vf :=
  ⟨Tryd.f112, Tryd.f112.body.getD .skip, Tryd.func112, by kernel_rfl, by kernel_rfl, by kernel_rfl, by kernel_rfl, by kernel_rfl⟩

/-- slices.Clone[[]int64,int64] -/
def i_slices_Clone_int64_int64 : FF := ⟨8, [.tmp 2],
  .seq (.ops [
    ⟨some 2, .mv (.const (.slice none 0 0)), none, 0⟩]) <|
  .seq (.seq (.ops [
    ⟨some 3, .mv (.tmp 0), none, 0⟩,
    ⟨some 4, .eqnilS false (.tmp 3), none, 0⟩]) <|
  .cond (.tmp 4)
    (.seq (.ops [
      ⟨some 2, .mv (.const (.slice none 0 0)), none, 0⟩]) <|
    .keep [2] <|
    .ret)
    (.skip)) <|
  .seq (.ops [
    ⟨some 5, .buildSl 1 [] [] 0, none, 0⟩,
    ⟨some 6, .mv (.tmp 0), none, 0⟩,
    ⟨some 7, .app 1 8 [.int .i64 0] (.tmp 5) (.tmp 6), none, 0⟩,
    ⟨some 2, .mv (.tmp 7), none, 0⟩]) <|
  .keep [2] <|
  .ret⟩

theorem e_slices_Clone_int64_int64 : EntOK Tryd.prog (compD Tryd.prog) k_slices_Clone_int64_int64 i_slices_Clone_int64_int64.vf :=
  ⟨Tryd.f113, Tryd.f113.body.getD .skip, Tryd.func113, by kernel_rfl, by kernel_rfl, by kernel_rfl, by kernel_rfl, by kernel_rfl⟩

/-- loop.example/g01331/impl.powers -/
def i_impl_powers_B1 : FC :=
  .seq (.ops [
    ⟨some 9, .bin .lss (.tmp 8) (.tmp 7), none, 0⟩]) <|
  .seq (.cond (.tmp 9)
    (.skip)
    (.keep [5] <|
    .exit 0)) <|
  .seq (.block 1 <|
  .seq (.ops [
    ⟨some 10, .mv (.tmp 5), none, 0⟩,
    ⟨some 11, .mv (.tmp 6), none, 0⟩,
    ⟨some 12, .bin .add (.tmp 10) (.tmp 11), none, 0⟩,
    ⟨some 13, .minmax false [(.tmp 12), (.const (.int .i64 1000000000001))], none, 0⟩,
    ⟨some 5, .mv (.tmp 13), none, 0⟩]) <|
  .ops [
    ⟨some 14, .mv (.tmp 6), none, 0⟩,
    ⟨some 15, .mv (.tmp 0), none, 0⟩,
    ⟨some 16, .bin .mul (.tmp 14) (.tmp 15), none, 0⟩,
    ⟨some 17, .minmax false [(.tmp 16), (.const (.int .i64 1000000000001))], none, 0⟩,
    ⟨some 6, .mv (.tmp 17), none, 0⟩]) <|
  .ops [
    ⟨some 18, .bin .add (.tmp 8) (.const (.int .i64 1)), none, 0⟩,
    ⟨some 8, .mv (.tmp 18), none, 0⟩]
def i_impl_powers : FF := ⟨20, [.tmp 4],
  .seq (.ops [
    ⟨some 4, .mv (.const (.int .i64 0)), none, 0⟩]) <|
  .seq (.ops [
    ⟨some 5, .mv (.const (.int .i64 0)), none, 0⟩,
    ⟨some 6, .mv (.const (.int .i64 1)), none, 0⟩]) <|
  .seq (.seq (.ops [
    ⟨some 7, .mv (.tmp 1), none, 0⟩,
    ⟨some 8, .mv (.const (.int .i64 0)), none, 0⟩]) <|
  .block 0 <|
  .loop [0, 5, 6, 7, 8] i_impl_powers_B1) <|
  .seq (.ops [
    ⟨some 19, .mv (.tmp 5), none, 0⟩,
    ⟨some 4, .mv (.tmp 19), none, 0⟩]) <|
  .keep [4] <|
  .ret⟩

theorem e_impl_powers : EntOK Tryd.prog (compD Tryd.prog) k_impl_powers i_impl_powers.vf :=
  ⟨Tryd.f114, Tryd.f114.body.getD .skip, Tryd.func114, by kernel_rfl, by kernel_rfl, by kernel_rfl, by kernel_rfl, by kernel_rfl⟩

/-- loop.example/g01331/impl.size -/
def i_impl_size : FF := ⟨6, [.tmp 2],
  .seq (.ops [
    ⟨some 2, .mv (.const (.int .i64 0)), none, 0⟩]) <|
  .seq (.ops [
    ⟨some 3, .mv (.tmp 0), none, 0⟩,
    ⟨some 4, .conv .u64 (.tmp 3), none, 0⟩,
    ⟨some 5, .call k_math_bits_OnesCount64 [(.tmp 4)], none, 0⟩,
    ⟨some 2, .mv (.tmp 5), none, 0⟩]) <|
  .keep [2] <|
  .ret⟩

theorem e_impl_size : EntOK Tryd.prog (compD Tryd.prog) k_impl_size i_impl_size.vf :=
  ⟨Tryd.f115, Tryd.f115.body.getD .skip, Tryd.func115, by kernel_rfl, by kernel_rfl, by kernel_rfl, by kernel_rfl, by kernel_rfl⟩

/-- (loop.example/g01331/impl.Graph).part -/
def i_impl_Graph_part_B1 : FC :=
  .seq (.ops [
    ⟨some 19, .bin .lss (.tmp 18) (.tmp 17), none, 0⟩]) <|
  .seq (.cond (.tmp 19)
    (.skip)
    (.keep [2, 5, 7] <|
    .exit 2)) <|
  .seq (.block 3 <|
  .seq (.ops [
    ⟨some 20, .idx 1 (.tmp 16) (.tmp 18), none, 0⟩,
    ⟨some 21, .load false 1 (.tmp 20), none, 0⟩,
    ⟨some 9, .mv (.tmp 21), none, 0⟩]) <|
  .ops [
    ⟨some 22, .mv (.tmp 7), none, 0⟩,
    ⟨some 23, .fld 1 (.tmp 2), none, 0⟩,
    ⟨some 24, .load false 1 (.tmp 23), none, 0⟩,
    ⟨some 25, .mv (.tmp 9), none, 0⟩,
    ⟨some 26, .idx 1 (.tmp 24) (.tmp 25), none, 0⟩,
    ⟨some 27, .load false 1 (.tmp 26), none, 0⟩,
    ⟨some 28, .bin .or (.tmp 22) (.tmp 27), none, 0⟩,
    ⟨some 7, .mv (.tmp 28), none, 0⟩]) <|
  .ops [
    ⟨some 29, .bin .add (.tmp 18) (.const (.int .i64 1)), none, 0⟩,
    ⟨some 18, .mv (.tmp 29), none, 0⟩]
def i_impl_Graph_part_B2 : FC :=
  .seq (.seq (.ops [
    ⟨some 13, .mv (.tmp 6), none, 0⟩,
    ⟨some 14, .bin .neq (.tmp 13) (.const (.int .i64 0)), none, 0⟩]) <|
  .cond (.tmp 14)
    (.skip)
    (.keep [5] <|
    .exit 0)) <|
  .block 1 <|
  .seq (.ops [
    ⟨some 7, .mv (.const (.int .i64 0)), none, 0⟩]) <|
  .seq (.seq (.ops [
    ⟨some 15, .mv (.tmp 6), none, 0⟩,
    ⟨some 16, .call k_impl_list [(.tmp 15)], none, 0⟩,
    ⟨some 17, .len (.tmp 16), none, 0⟩,
    ⟨some 18, .mv (.const (.int .i64 0)), none, 0⟩]) <|
  .block 2 <|
  .loop [2, 5, 7, 16, 17, 18] i_impl_Graph_part_B1) <|
  .seq (.ops [
    ⟨some 30, .mv (.tmp 7), none, 0⟩,
    ⟨some 31, .mv (.tmp 5), none, 0⟩,
    ⟨some 32, .bin .andNot (.tmp 30) (.tmp 31), none, 0⟩,
    ⟨some 6, .mv (.tmp 32), none, 0⟩]) <|
  .ops [
    ⟨some 33, .mv (.tmp 5), none, 0⟩,
    ⟨some 34, .mv (.tmp 7), none, 0⟩,
    ⟨some 35, .bin .or (.tmp 33) (.tmp 34), none, 0⟩,
    ⟨some 5, .mv (.tmp 35), none, 0⟩]
def i_impl_Graph_part : FF := ⟨37, [.tmp 4],
  .seq (.ops [
    ⟨some 2, .box 2 (.tmp 0), none, 0⟩,
    ⟨some 4, .mv (.const (.int .i64 0)), none, 0⟩]) <|
  .seq (.ops [
    ⟨some 10, .mv (.tmp 1), none, 0⟩,
    ⟨some 11, .bin .shl (.const (.int .i64 1)) (.tmp 10), none, 0⟩,
    ⟨some 5, .mv (.tmp 11), none, 0⟩]) <|
  .seq (.seq (.ops [
    ⟨some 12, .mv (.tmp 5), none, 0⟩,
    ⟨some 6, .mv (.tmp 12), none, 0⟩]) <|
  .block 0 <|
  .loop [2, 5, 6] i_impl_Graph_part_B2) <|
  .seq (.ops [
    ⟨some 36, .mv (.tmp 5), none, 0⟩,
    ⟨some 4, .mv (.tmp 36), none, 0⟩]) <|
  .keep [4] <|
  .ret⟩

theorem e_impl_Graph_part : EntOK Tryd.prog (compD Tryd.prog) k_impl_Graph_part i_impl_Graph_part.vf :=
  ⟨Tryd.f116, Tryd.f116.body.getD .skip, Tryd.func116, by kernel_rfl, by kernel_rfl, by kernel_rfl, by kernel_rfl, by kernel_rfl⟩

/-- loop.example/g01331/impl.all -/
def i_impl_all : FF := ⟨6, [.tmp 2],
  .seq (.ops [
    ⟨some 2, .mv (.const (.int .i64 0)), none, 0⟩]) <|
  .seq (.ops [
    ⟨some 3, .mv (.tmp 0), none, 0⟩,
    ⟨some 4, .bin .shl (.const (.int .i64 1)) (.tmp 3), none, 0⟩,
    ⟨some 5, .bin .sub (.tmp 4) (.const (.int .i64 1)), none, 0⟩,
    ⟨some 2, .mv (.tmp 5), none, 0⟩]) <|
  .keep [2] <|
  .ret⟩

theorem e_impl_all : EntOK Tryd.prog (compD Tryd.prog) k_impl_all i_impl_all.vf :=
  ⟨Tryd.f117, Tryd.f117.body.getD .skip, Tryd.func117, by kernel_rfl, by kernel_rfl, by kernel_rfl, by kernel_rfl, by kernel_rfl⟩

/-- math/bits.Mul -/
def i_math_bits_Mul : FF := ⟨30, [.tmp 4, .tmp 5],
  .seq (.ops [
    ⟨some 4, .mv (.const (.int .u64 0)), none, 0⟩,
    ⟨some 5, .mv (.const (.int .u64 0)), none, 0⟩]) <|
  .seq (.cond (.const (.bool false))
    (.seq (.ops [
      ⟨some 11, .mv (.tmp 0), none, 0⟩,
      ⟨some 12, .conv .u32 (.tmp 11), none, 0⟩,
      ⟨some 13, .mv (.tmp 1), none, 0⟩,
      ⟨some 14, .conv .u32 (.tmp 13), none, 0⟩,
      ⟨some 15, .call k_math_bits_Mul32 [(.tmp 12), (.tmp 14)], none, 0⟩,
      ⟨some 10, .mv (.tmp 15), none, 0⟩,
      ⟨some 16, .ext (.tmp 10) 0, none, 0⟩,
      ⟨some 17, .ext (.tmp 10) 1, none, 0⟩,
      ⟨some 6, .mv (.tmp 16), none, 0⟩,
      ⟨some 7, .mv (.tmp 17), none, 0⟩]) <|
    .seq (.ops [
      ⟨some 18, .mv (.tmp 6), none, 0⟩,
      ⟨some 19, .conv .u64 (.tmp 18), none, 0⟩,
      ⟨some 20, .mv (.tmp 7), none, 0⟩,
      ⟨some 21, .conv .u64 (.tmp 20), none, 0⟩,
      ⟨some 4, .mv (.tmp 19), none, 0⟩,
      ⟨some 5, .mv (.tmp 21), none, 0⟩]) <|
    .keep [4, 5] <|
    .ret)
    (.skip)) <|
  .seq (.ops [
    ⟨some 23, .mv (.tmp 0), none, 0⟩,
    ⟨some 24, .mv (.tmp 1), none, 0⟩,
    ⟨some 25, .call k_math_bits_Mul64 [(.tmp 23), (.tmp 24)], none, 0⟩,
    ⟨some 22, .mv (.tmp 25), none, 0⟩,
    ⟨some 26, .ext (.tmp 22) 0, none, 0⟩,
    ⟨some 27, .ext (.tmp 22) 1, none, 0⟩,
    ⟨some 8, .mv (.tmp 26), none, 0⟩,
    ⟨some 9, .mv (.tmp 27), none, 0⟩]) <|
  .seq (.ops [
    ⟨some 28, .mv (.tmp 8), none, 0⟩,
    ⟨some 29, .mv (.tmp 9), none, 0⟩,
    ⟨some 4, .mv (.tmp 28), none, 0⟩,
    ⟨some 5, .mv (.tmp 29), none, 0⟩]) <|
  .keep [4, 5] <|
  .ret⟩

theorem e_math_bits_Mul : EntOK Tryd.prog (compD Tryd.prog) k_math_bits_Mul i_math_bits_Mul.vf :=
  ⟨Tryd.f118, Tryd.f118.body.getD .skip, Tryd.func118, by kernel_rfl, by kernel_rfl, by kernel_rfl, by kernel_rfl, by kernel_rfl⟩

/-- loop.example/g01331/spec.l01Edges -/
def i_spec_l01Edges_B1 : FC :=
  .seq (.seq (.ops [
    ⟨some 15, .mv (.tmp 5), none, 0⟩,
    ⟨some 16, .fld 0 (.tmp 1), none, 0⟩,
    ⟨some 17, .load false 1 (.tmp 16), none, 0⟩,
    ⟨some 18, .bin .lss (.tmp 15) (.tmp 17), none, 0⟩]) <|
  .cond (.tmp 18)
    (.skip)
    (.keep [1, 3, 4] <|
    .exit 2)) <|
  .seq (.block 3 <|
  .seq (.ops [
    ⟨some 21, .load true 2 (.tmp 1), none, 0⟩,
    ⟨some 22, .mv (.tmp 4), none, 0⟩,
    ⟨some 23, .mv (.tmp 5), none, 0⟩,
    ⟨some 24, .call k_spec_l01Has [(.tmp 21), (.tmp 22), (.tmp 23)], none, 0⟩]) <|
  .cond (.tmp 24)
    (.ops [
      ⟨some 25, .mv (.tmp 3), none, 0⟩,
      ⟨some 26, .mv (.tmp 4), none, 0⟩,
      ⟨some 27, .mv (.tmp 5), none, 0⟩,
      ⟨some 28, .buildSl 1 [.int .i64 0, .int .i64 0] [(0, 1, (.tmp 26)), (1, 1, (.tmp 27))] 2, none, 0⟩,
      ⟨some 29, .buildSl 1 [.slice none 0 0] [(0, 1, (.tmp 28))] 1, none, 0⟩,
      ⟨some 30, .app 1 24 [.slice none 0 0] (.tmp 25) (.tmp 29), none, 0⟩,
      ⟨some 3, .mv (.tmp 30), none, 0⟩])
    (.skip)) <|
  .ops [
    ⟨some 19, .mv (.tmp 5), none, 0⟩,
    ⟨some 20, .bin .add (.tmp 19) (.const (.int .i64 1)), none, 0⟩,
    ⟨some 5, .mv (.tmp 20), none, 0⟩]
def i_spec_l01Edges_B2 : FC :=
  .seq (.seq (.ops [
    ⟨some 7, .mv (.tmp 4), none, 0⟩,
    ⟨some 8, .fld 0 (.tmp 1), none, 0⟩,
    ⟨some 9, .load false 1 (.tmp 8), none, 0⟩,
    ⟨some 10, .bin .lss (.tmp 7) (.tmp 9), none, 0⟩]) <|
  .cond (.tmp 10)
    (.skip)
    (.keep [3] <|
    .exit 0)) <|
  .seq (.block 1 <|
  .seq (.ops [
    ⟨some 13, .mv (.tmp 4), none, 0⟩,
    ⟨some 14, .bin .add (.tmp 13) (.const (.int .i64 1)), none, 0⟩,
    ⟨some 5, .mv (.tmp 14), none, 0⟩]) <|
  .block 2 <|
  .loop [1, 3, 4, 5] i_spec_l01Edges_B1) <|
  .ops [
    ⟨some 11, .mv (.tmp 4), none, 0⟩,
    ⟨some 12, .bin .add (.tmp 11) (.const (.int .i64 1)), none, 0⟩,
    ⟨some 4, .mv (.tmp 12), none, 0⟩]
def i_spec_l01Edges : FF := ⟨32, [.tmp 2],
  .seq (.ops [
    ⟨some 1, .box 2 (.tmp 0), none, 0⟩,
    ⟨some 2, .mv (.const (.slice none 0 0)), none, 0⟩]) <|
  .seq (.ops [
    ⟨some 6, .buildSl 1 [] [] 0, none, 0⟩,
    ⟨some 3, .mv (.tmp 6), none, 0⟩]) <|
  .seq (.seq (.ops [
    ⟨some 4, .mv (.const (.int .i64 0)), none, 0⟩]) <|
  .block 0 <|
  .loop [1, 3, 4] i_spec_l01Edges_B2) <|
  .seq (.ops [
    ⟨some 31, .mv (.tmp 3), none, 0⟩,
    ⟨some 2, .mv (.tmp 31), none, 0⟩]) <|
  .keep [2] <|
  .ret⟩

theorem e_spec_l01Edges : EntOK Tryd.prog (compD Tryd.prog) k_spec_l01Edges i_spec_l01Edges.vf :=
  ⟨Tryd.f120, Tryd.f120.body.getD .skip, Tryd.func120, by kernel_rfl, by kernel_rfl, by kernel_rfl, by kernel_rfl, by kernel_rfl⟩

/-- loop.example/g01331/spec.l01Cut -/
def i_spec_l01Cut : FF := ⟨39, [.cell 6 true 2],
  .seq (.ops [
    ⟨some 3, .box 2 (.tmp 0), none, 0⟩,
    ⟨some 6, .alloc [.int .i64 0, .slice none 0 0], none, 0⟩]) <|
  .seq (.ops [
    ⟨some 8, .load true 2 (.tmp 3), none, 0⟩,
    ⟨some 9, .mv (.tmp 1), none, 0⟩,
    ⟨some 10, .mv (.tmp 2), none, 0⟩,
    ⟨some 11, .call k_spec_l01Join [(.tmp 8), (.tmp 9), (.tmp 10)], none, 0⟩,
    ⟨some 7, .alloc [.int .i64 0, .slice none 0 0], none, 0⟩,
    ⟨none, .store 2 (.tmp 7) (.tmp 11), none, 0⟩]) <|
  .seq (.dops [
    ⟨some 12, .fld 1 (.tmp 7), none, 0⟩,
    ⟨some 13, .load false 1 (.tmp 12), none, 0⟩,
    ⟨some 14, .mv (.tmp 1), none, 0⟩,
    ⟨some 15, .fld 1 (.tmp 7), none, 0⟩,
    ⟨some 16, .load false 1 (.tmp 15), none, 0⟩,
    ⟨some 17, .mv (.tmp 1), none, 0⟩,
    ⟨some 18, .idx 1 (.tmp 16) (.tmp 17), none, 0⟩,
    ⟨some 19, .load false 1 (.tmp 18), none, 0⟩,
    ⟨some 20, .mv (.tmp 2), none, 0⟩,
    ⟨some 21, .conv .u64 (.tmp 20), none, 0⟩,
    ⟨some 22, .bin .shl (.const (.int .i64 1)) (.tmp 21), none, 0⟩,
    ⟨some 23, .bin .sub (.tmp 19) (.tmp 22), none, 0⟩,
    ⟨some 24, .idx 1 (.tmp 13) (.tmp 14), none, 0⟩,
    ⟨none, .store 1 (.tmp 24) (.tmp 23), none, 0⟩]) <|
  .seq (.dops [
    ⟨some 25, .fld 1 (.tmp 7), none, 0⟩,
    ⟨some 26, .load false 1 (.tmp 25), none, 0⟩,
    ⟨some 27, .mv (.tmp 2), none, 0⟩,
    ⟨some 28, .fld 1 (.tmp 7), none, 0⟩,
    ⟨some 29, .load false 1 (.tmp 28), none, 0⟩,
    ⟨some 30, .mv (.tmp 2), none, 0⟩,
    ⟨some 31, .idx 1 (.tmp 29) (.tmp 30), none, 0⟩,
    ⟨some 32, .load false 1 (.tmp 31), none, 0⟩,
    ⟨some 33, .mv (.tmp 1), none, 0⟩,
    ⟨some 34, .conv .u64 (.tmp 33), none, 0⟩,
    ⟨some 35, .bin .shl (.const (.int .i64 1)) (.tmp 34), none, 0⟩,
    ⟨some 36, .bin .sub (.tmp 32) (.tmp 35), none, 0⟩,
    ⟨some 37, .idx 1 (.tmp 26) (.tmp 27), none, 0⟩,
    ⟨none, .store 1 (.tmp 37) (.tmp 36), none, 0⟩]) <|
  .seq (.ops [
    ⟨some 38, .load true 2 (.tmp 7), none, 0⟩,
    ⟨none, .store 2 (.tmp 6) (.tmp 38), none, 0⟩]) <|
  .keep [6] <|
  .ret⟩

theorem e_spec_l01Cut : EntOK Tryd.prog (compD Tryd.prog) k_spec_l01Cut i_spec_l01Cut.vf :=
  ⟨Tryd.f121, Tryd.f121.body.getD .skip, Tryd.func121, by kernel_rfl, by kernel_rfl, by kernel_rfl, by kernel_rfl, by kernel_rfl⟩

/-- loop.example/g01331/spec.l01Bits -/
def i_spec_l01Bits_B1 : FC :=
  .seq (.seq (.ops [
    ⟨some 4, .mv (.tmp 0), none, 0⟩,
    ⟨some 5, .bin .gtr (.tmp 4) (.const (.int .i64 0)), none, 0⟩]) <|
  .cond (.tmp 5)
    (.skip)
    (.keep [3] <|
    .exit 0)) <|
  .seq (.block 1 <|
  .ops [
    ⟨some 8, .mv (.tmp 3), none, 0⟩,
    ⟨some 9, .mv (.tmp 0), none, 0⟩,
    ⟨some 10, .bin .rem (.tmp 9) (.const (.int .i64 2)), none, 0⟩,
    ⟨some 11, .bin .add (.tmp 8) (.tmp 10), none, 0⟩,
    ⟨some 3, .mv (.tmp 11), none, 0⟩]) <|
  .ops [
    ⟨some 6, .mv (.tmp 0), none, 0⟩,
    ⟨some 7, .bin .quo (.tmp 6) (.const (.int .i64 2)), none, 0⟩,
    ⟨some 0, .mv (.tmp 7), none, 0⟩]
def i_spec_l01Bits : FF := ⟨13, [.tmp 2],
  .seq (.ops [
    ⟨some 2, .mv (.const (.int .i64 0)), none, 0⟩]) <|
  .seq (.ops [
    ⟨some 3, .mv (.const (.int .i64 0)), none, 0⟩]) <|
  .seq (.block 0 <|
  .loop [0, 3] i_spec_l01Bits_B1) <|
  .seq (.ops [
    ⟨some 12, .mv (.tmp 3), none, 0⟩,
    ⟨some 2, .mv (.tmp 12), none, 0⟩]) <|
  .keep [2] <|
  .ret⟩

theorem e_spec_l01Bits : EntOK Tryd.prog (compD Tryd.prog) k_spec_l01Bits i_spec_l01Bits.vf :=
  ⟨Tryd.f122, Tryd.f122.body.getD .skip, Tryd.func122, by kernel_rfl, by kernel_rfl, by kernel_rfl, by kernel_rfl, by kernel_rfl⟩

/-- math/bits.OnesCount64 -/
def i_math_bits_OnesCount64 : FF := ⟨35, [.tmp 2],
  .seq (.ops [
    ⟨some 2, .mv (.const (.int .i64 0)), none, 0⟩]) <|
  .seq (.ops [
    ⟨some 3, .mv (.tmp 0), none, 0⟩,
    ⟨some 4, .bin .shr (.tmp 3) (.const (.int .u64 1)), none, 0⟩,
    ⟨some 5, .bin .and (.tmp 4) (.const (.int .u64 6148914691236517205)), none, 0⟩,
    ⟨some 6, .mv (.tmp 0), none, 0⟩,
    ⟨some 7, .bin .and (.tmp 6) (.const (.int .u64 6148914691236517205)), none, 0⟩,
    ⟨some 8, .bin .add (.tmp 5) (.tmp 7), none, 0⟩,
    ⟨some 0, .mv (.tmp 8), none, 0⟩]) <|
  .seq (.ops [
    ⟨some 9, .mv (.tmp 0), none, 0⟩,
    ⟨some 10, .bin .shr (.tmp 9) (.const (.int .u64 2)), none, 0⟩,
    ⟨some 11, .bin .and (.tmp 10) (.const (.int .u64 3689348814741910323)), none, 0⟩,
    ⟨some 12, .mv (.tmp 0), none, 0⟩,
    ⟨some 13, .bin .and (.tmp 12) (.const (.int .u64 3689348814741910323)), none, 0⟩,
    ⟨some 14, .bin .add (.tmp 11) (.tmp 13), none, 0⟩,
    ⟨some 0, .mv (.tmp 14), none, 0⟩]) <|
  .seq (.ops [
    ⟨some 15, .mv (.tmp 0), none, 0⟩,
    ⟨some 16, .bin .shr (.tmp 15) (.const (.int .u64 4)), none, 0⟩,
    ⟨some 17, .mv (.tmp 0), none, 0⟩,
    ⟨some 18, .bin .add (.tmp 16) (.tmp 17), none, 0⟩,
    ⟨some 19, .bin .and (.tmp 18) (.const (.int .u64 1085102592571150095)), none, 0⟩,
    ⟨some 0, .mv (.tmp 19), none, 0⟩]) <|
  .seq (.ops [
    ⟨some 20, .mv (.tmp 0), none, 0⟩,
    ⟨some 21, .mv (.tmp 0), none, 0⟩,
    ⟨some 22, .bin .shr (.tmp 21) (.const (.int .u64 8)), none, 0⟩,
    ⟨some 23, .bin .add (.tmp 20) (.tmp 22), none, 0⟩,
    ⟨some 0, .mv (.tmp 23), none, 0⟩]) <|
  .seq (.ops [
    ⟨some 24, .mv (.tmp 0), none, 0⟩,
    ⟨some 25, .mv (.tmp 0), none, 0⟩,
    ⟨some 26, .bin .shr (.tmp 25) (.const (.int .u64 16)), none, 0⟩,
    ⟨some 27, .bin .add (.tmp 24) (.tmp 26), none, 0⟩,
    ⟨some 0, .mv (.tmp 27), none, 0⟩]) <|
  .seq (.ops [
    ⟨some 28, .mv (.tmp 0), none, 0⟩,
    ⟨some 29, .mv (.tmp 0), none, 0⟩,
    ⟨some 30, .bin .shr (.tmp 29) (.const (.int .u64 32)), none, 0⟩,
    ⟨some 31, .bin .add (.tmp 28) (.tmp 30), none, 0⟩,
    ⟨some 0, .mv (.tmp 31), none, 0⟩]) <|
  .seq (.ops [
    ⟨some 32, .mv (.tmp 0), none, 0⟩,
    ⟨some 33, .conv .i64 (.tmp 32), none, 0⟩,
    ⟨some 34, .bin .and (.tmp 33) (.const (.int .i64 127)), none, 0⟩,
    ⟨some 2, .mv (.tmp 34), none, 0⟩]) <|
  .keep [2] <|
  .ret⟩

theorem e_math_bits_OnesCount64 : EntOK Tryd.prog (compD Tryd.prog) k_math_bits_OnesCount64 i_math_bits_OnesCount64.vf :=
  ⟨Tryd.f123, Tryd.f123.body.getD .skip, Tryd.func123, by kernel_rfl, by kernel_rfl, by kernel_rfl, by kernel_rfl, by kernel_rfl⟩

/-- math/bits.Mul32 -/
def i_math_bits_Mul32 : FF := ⟨17, [.tmp 4, .tmp 5],
  .seq (.ops [
    ⟨some 4, .mv (.const (.int .u32 0)), none, 0⟩,
    ⟨some 5, .mv (.const (.int .u32 0)), none, 0⟩]) <|
  .seq (.ops [
    ⟨some 7, .mv (.tmp 0), none, 0⟩,
    ⟨some 8, .conv .u64 (.tmp 7), none, 0⟩,
    ⟨some 9, .mv (.tmp 1), none, 0⟩,
    ⟨some 10, .conv .u64 (.tmp 9), none, 0⟩,
    ⟨some 11, .bin .mul (.tmp 8) (.tmp 10), none, 0⟩,
    ⟨some 6, .mv (.tmp 11), none, 0⟩]) <|
  .seq (.ops [
    ⟨some 12, .mv (.tmp 6), none, 0⟩,
    ⟨some 13, .bin .shr (.tmp 12) (.const (.int .u64 32)), none, 0⟩,
    ⟨some 14, .conv .u32 (.tmp 13), none, 0⟩,
    ⟨some 15, .mv (.tmp 6), none, 0⟩,
    ⟨some 16, .conv .u32 (.tmp 15), none, 0⟩,
    ⟨some 4, .mv (.tmp 14), none, 0⟩,
    ⟨some 5, .mv (.tmp 16), none, 0⟩]) <|
  .keep [4, 5] <|
  .ret⟩

theorem e_math_bits_Mul32 : EntOK Tryd.prog (compD Tryd.prog) k_math_bits_Mul32 i_math_bits_Mul32.vf :=
  ⟨Tryd.f124, Tryd.f124.body.getD .skip, Tryd.func124, by kernel_rfl, by kernel_rfl, by kernel_rfl, by kernel_rfl, by kernel_rfl⟩

/-- math/bits.Mul64 -/
def i_math_bits_Mul64 : FF := ⟨51, [.tmp 4, .tmp 5],
  .seq (.ops [
    ⟨some 4, .mv (.const (.int .u64 0)), none, 0⟩,
    ⟨some 5, .mv (.const (.int .u64 0)), none, 0⟩]) <|
  .seq (.ops [
    ⟨some 14, .mv (.tmp 0), none, 0⟩,
    ⟨some 15, .bin .and (.tmp 14) (.const (.int .u64 4294967295)), none, 0⟩,
    ⟨some 6, .mv (.tmp 15), none, 0⟩]) <|
  .seq (.ops [
    ⟨some 16, .mv (.tmp 0), none, 0⟩,
    ⟨some 17, .bin .shr (.tmp 16) (.const (.int .u64 32)), none, 0⟩,
    ⟨some 7, .mv (.tmp 17), none, 0⟩]) <|
  .seq (.ops [
    ⟨some 18, .mv (.tmp 1), none, 0⟩,
    ⟨some 19, .bin .and (.tmp 18) (.const (.int .u64 4294967295)), none, 0⟩,
    ⟨some 8, .mv (.tmp 19), none, 0⟩]) <|
  .seq (.ops [
    ⟨some 20, .mv (.tmp 1), none, 0⟩,
    ⟨some 21, .bin .shr (.tmp 20) (.const (.int .u64 32)), none, 0⟩,
    ⟨some 9, .mv (.tmp 21), none, 0⟩]) <|
  .seq (.ops [
    ⟨some 22, .mv (.tmp 6), none, 0⟩,
    ⟨some 23, .mv (.tmp 8), none, 0⟩,
    ⟨some 24, .bin .mul (.tmp 22) (.tmp 23), none, 0⟩,
    ⟨some 10, .mv (.tmp 24), none, 0⟩]) <|
  .seq (.ops [
    ⟨some 25, .mv (.tmp 7), none, 0⟩,
    ⟨some 26, .mv (.tmp 8), none, 0⟩,
    ⟨some 27, .bin .mul (.tmp 25) (.tmp 26), none, 0⟩,
    ⟨some 28, .mv (.tmp 10), none, 0⟩,
    ⟨some 29, .bin .shr (.tmp 28) (.const (.int .u64 32)), none, 0⟩,
    ⟨some 30, .bin .add (.tmp 27) (.tmp 29), none, 0⟩,
    ⟨some 11, .mv (.tmp 30), none, 0⟩]) <|
  .seq (.ops [
    ⟨some 31, .mv (.tmp 11), none, 0⟩,
    ⟨some 32, .bin .and (.tmp 31) (.const (.int .u64 4294967295)), none, 0⟩,
    ⟨some 12, .mv (.tmp 32), none, 0⟩]) <|
  .seq (.ops [
    ⟨some 33, .mv (.tmp 11), none, 0⟩,
    ⟨some 34, .bin .shr (.tmp 33) (.const (.int .u64 32)), none, 0⟩,
    ⟨some 13, .mv (.tmp 34), none, 0⟩]) <|
  .seq (.ops [
    ⟨some 35, .mv (.tmp 12), none, 0⟩,
    ⟨some 36, .mv (.tmp 6), none, 0⟩,
    ⟨some 37, .mv (.tmp 9), none, 0⟩,
    ⟨some 38, .bin .mul (.tmp 36) (.tmp 37), none, 0⟩,
    ⟨some 39, .bin .add (.tmp 35) (.tmp 38), none, 0⟩,
    ⟨some 12, .mv (.tmp 39), none, 0⟩]) <|
  .seq (.ops [
    ⟨some 40, .mv (.tmp 7), none, 0⟩,
    ⟨some 41, .mv (.tmp 9), none, 0⟩,
    ⟨some 42, .bin .mul (.tmp 40) (.tmp 41), none, 0⟩,
    ⟨some 43, .mv (.tmp 13), none, 0⟩,
    ⟨some 44, .bin .add (.tmp 42) (.tmp 43), none, 0⟩,
    ⟨some 45, .mv (.tmp 12), none, 0⟩,
    ⟨some 46, .bin .shr (.tmp 45) (.const (.int .u64 32)), none, 0⟩,
    ⟨some 47, .bin .add (.tmp 44) (.tmp 46), none, 0⟩,
    ⟨some 4, .mv (.tmp 47), none, 0⟩]) <|
  .seq (.ops [
    ⟨some 48, .mv (.tmp 0), none, 0⟩,
    ⟨some 49, .mv (.tmp 1), none, 0⟩,
    ⟨some 50, .bin .mul (.tmp 48) (.tmp 49), none, 0⟩,
    ⟨some 5, .mv (.tmp 50), none, 0⟩]) <|
  .keep [4, 5] <|
  .ret⟩

theorem e_math_bits_Mul64 : EntOK Tryd.prog (compD Tryd.prog) k_math_bits_Mul64 i_math_bits_Mul64.vf :=
  ⟨Tryd.f125, Tryd.f125.body.getD .skip, Tryd.func125, by kernel_rfl, by kernel_rfl, by kernel_rfl, by kernel_rfl, by kernel_rfl⟩

/-- loop.example/g01331/spec.l01Join -/
def i_spec_l01Join : FF := ⟨15, [.cell 6 true 2],
  .seq (.ops [
    ⟨some 3, .box 2 (.tmp 0), none, 0⟩,
    ⟨some 6, .alloc [.int .i64 0, .slice none 0 0], none, 0⟩]) <|
  .seq (.ops [
    ⟨some 8, .load true 2 (.tmp 3), none, 0⟩,
    ⟨some 9, .call k_spec_l01Copy [(.tmp 8)], none, 0⟩,
    ⟨some 7, .alloc [.int .i64 0, .slice none 0 0], none, 0⟩,
    ⟨none, .store 2 (.tmp 7) (.tmp 9), none, 0⟩]) <|
  .seq (.ops [
    ⟨some 10, .load true 2 (.tmp 7), none, 0⟩,
    ⟨some 11, .mv (.tmp 1), none, 0⟩,
    ⟨some 12, .mv (.tmp 2), none, 0⟩,
    ⟨some 13, .call k_spec_l01Put [(.tmp 10), (.tmp 11), (.tmp 12)], none, 0⟩]) <|
  .seq (.ops [
    ⟨some 14, .load true 2 (.tmp 7), none, 0⟩,
    ⟨none, .store 2 (.tmp 6) (.tmp 14), none, 0⟩]) <|
  .keep [6] <|
  .ret⟩

theorem e_spec_l01Join : EntOK Tryd.prog (compD Tryd.prog) k_spec_l01Join i_spec_l01Join.vf :=
  ⟨Tryd.f126, Tryd.f126.body.getD .skip, Tryd.func126, by kernel_rfl, by kernel_rfl, by kernel_rfl, by kernel_rfl, by kernel_rfl⟩

def tab : List (Nat × FF) := [(k_laws_FnExactGreedyGraph, i_laws_FnExactGreedyGraph), (k_laws_FnExactLeastVertices, i_laws_FnExactLeastVertices), (k_laws_FnExactFirstRegular, i_laws_FnExactFirstRegular), (k_laws_FnExactShortestThrough, i_laws_FnExactShortestThrough), (k_laws_FnExactHalfOf, i_laws_FnExactHalfOf), (k_laws_FnExactIsFull, i_laws_FnExactIsFull), (k_laws_FnExactFillGraph, i_laws_FnExactFillGraph), (k_laws_FnExactPairsToJoin, i_laws_FnExactPairsToJoin), (k_laws_FnFirstRegular, i_laws_FnFirstRegular), (k_spec_GreedyGraph, i_spec_GreedyGraph), (k_impl_GreedyGraph, i_impl_GreedyGraph), (k_laws_eqGraph, i_laws_eqGraph), (k_laws_markGraph, i_laws_markGraph), (k_laws_heldGraph, i_laws_heldGraph), (k_spec_LeastVertices, i_spec_LeastVertices), (k_impl_LeastVertices, i_impl_LeastVertices), (k_spec_FirstRegular, i_spec_FirstRegular), (k_impl_FirstRegular, i_impl_FirstRegular), (k_laws_szGraph, i_laws_szGraph), (k_spec_ShortestThrough, i_spec_ShortestThrough), (k_laws_toGraph, i_laws_toGraph), (k_impl_ShortestThrough, i_impl_ShortestThrough), (k_spec_HalfOf, i_spec_HalfOf), (k_impl_HalfOf, i_impl_HalfOf), (k_spec_IsFull, i_spec_IsFull), (k_impl_IsFull, i_impl_IsFull), (k_spec_FillGraph, i_spec_FillGraph), (k_impl_FillGraph, i_impl_FillGraph), (k_spec_PairsToJoin, i_spec_PairsToJoin), (k_impl_PairsToJoin, i_impl_PairsToJoin), (k_laws_eqInt64SS, i_laws_eqInt64SS), (k_laws_markInt64SS, i_laws_markInt64SS), (k_laws_heldInt64SS, i_laws_heldInt64SS), (k_laws_big, i_laws_big), (k_spec_DrawFirstRegular, i_spec_DrawFirstRegular), (k_laws_graphs5, i_laws_graphs5), (k_impl_RegularDegree, i_impl_RegularDegree), (k_impl_FitsBoth, i_impl_FitsBoth), (k_spec_DrawLeastVertices, i_spec_DrawLeastVertices), (k_spec_l01In, i_spec_l01In), (k_spec_l07Numbers, i_spec_l07Numbers), (k_spec_l07Fill, i_spec_l07Fill), (k_spec_l01Empty, i_spec_l01Empty), (k_impl_isBoth, i_impl_isBoth), (k_impl_filled, i_impl_filled), (k_impl_empty, i_impl_empty), (k_laws_eqInt64S, i_laws_eqInt64S), (k_laws_markInt64S, i_laws_markInt64S), (k_laws_heldInt64S, i_laws_heldInt64S), (k_spec_l07First, i_spec_l07First), (k_impl_firstRegular, i_impl_firstRegular), (k_laws_szInt64S, i_laws_szInt64S), (k_spec_l02Code, i_spec_l02Code), (k_spec_l02Girth, i_spec_l02Girth), (k_spec_l02Around, i_spec_l02Around), (k_laws_toInt64S, i_laws_toInt64S), (k_impl_graphCode, i_impl_graphCode), (k_impl_Graph_has, i_impl_Graph_has), (k_impl_Graph_girth, i_impl_Graph_girth), (k_impl_Graph_around, i_impl_Graph_around), (k_impl_Graph_through, i_impl_Graph_through), (k_spec_l06Code, i_spec_l06Code), (k_spec_l02From, i_spec_l02From), (k_spec_l06Rows, i_spec_l06Rows), (k_spec_l04With, i_spec_l04With), (k_impl_connectedCode, i_impl_connectedCode), (k_impl_Graph_bipartite, i_impl_Graph_bipartite), (k_impl_Graph_distances, i_impl_Graph_distances), (k_impl_Graph_at, i_impl_Graph_at), (k_impl_Graph_partOn, i_impl_Graph_partOn), (k_spec_l07Given, i_spec_l07Given), (k_spec_l07May, i_spec_l07May), (k_impl_fitCode, i_impl_fitCode), (k_impl_Graph_pairs, i_impl_Graph_pairs), (k_spec_l01From, i_spec_l01From), (k_spec_l07DrawNumbers, i_spec_l07DrawNumbers), (k_spec_l01Next, i_spec_l01Next), (k_spec_l01Pick, i_spec_l01Pick), (k_laws_likeInts, i_laws_likeInts), (k_impl_IsGraph, i_impl_IsGraph), (k_impl_Graph_regular, i_impl_Graph_regular), (k_impl_bothCode, i_impl_bothCode), (k_impl_Graph_fits, i_impl_Graph_fits), (k_spec_l01Copy, i_spec_l01Copy), (k_spec_l01Put, i_spec_l01Put), (k_impl_own, i_impl_own), (k_impl_Graph_mayJoin, i_impl_Graph_mayJoin), (k_impl_Graph_put, i_impl_Graph_put), (k_spec_l07Search, i_spec_l07Search), (k_impl_girthBound, i_impl_girthBound), (k_impl_firstRegular_1, i_impl_firstRegular_1), (k_impl_Graph_degree, i_impl_Graph_degree), (k_impl_Graph_take, i_impl_Graph_take), (k_spec_l01Is, i_spec_l01Is), (k_impl_Graph_girthAt, i_impl_Graph_girthAt), (k_impl_Graph_walks, i_impl_Graph_walks), (k_spec_l02Connected, i_spec_l02Connected), (k_impl_Graph_connected, i_impl_Graph_connected), (k_impl_Graph_parts, i_impl_Graph_parts), (k_impl_Graph_edges, i_impl_Graph_edges), (k_slices_Repeat_int64_int64, i_slices_Repeat_int64_int64), (k_impl_list, i_impl_list), (k_spec_l07Fits, i_spec_l07Fits), (k_spec_l01Has, i_spec_l01Has), (k_spec_l01Degree, i_spec_l01Degree), (k_spec_l07Far, i_spec_l07Far), (k_impl_Graph_degrees, i_impl_Graph_degrees), (k_slices_Min_int64_int64, i_slices_Min_int64_int64), (k_slices_Max_int64_int64, i_slices_Max_int64_int64), (k_spec_l01Own, i_spec_l01Own), (k_slices_Clone_int64_int64, i_slices_Clone_int64_int64), (k_impl_powers, i_impl_powers), (k_impl_size, i_impl_size), (k_impl_Graph_part, i_impl_Graph_part), (k_impl_all, i_impl_all), (k_math_bits_Mul, i_math_bits_Mul), (k_spec_l01Edges, i_spec_l01Edges), (k_spec_l01Cut, i_spec_l01Cut), (k_spec_l01Bits, i_spec_l01Bits), (k_math_bits_OnesCount64, i_math_bits_OnesCount64), (k_math_bits_Mul32, i_math_bits_Mul32), (k_math_bits_Mul64, i_math_bits_Mul64), (k_spec_l01Join, i_spec_l01Join)]
theorem tabOK : ∀ p ∈ tab, EntOK Tryd.prog (compD Tryd.prog) p.1 p.2.vf := by
  intro p hp
  simp only [tab, List.mem_cons, List.not_mem_nil, or_false] at hp
  rcases hp with rfl | rfl | rfl | rfl | rfl | rfl | rfl | rfl | rfl | rfl | rfl | rfl | rfl | rfl | rfl | rfl | rfl | rfl | rfl | rfl | rfl | rfl | rfl | rfl | rfl | rfl | rfl | rfl | rfl | rfl | rfl | rfl | rfl | rfl | rfl | rfl | rfl | rfl | rfl | rfl | rfl | rfl | rfl | rfl | rfl | rfl | rfl | rfl | rfl | rfl | rfl | rfl | rfl | rfl | rfl | rfl | rfl | rfl | rfl | rfl | rfl | rfl | rfl | rfl | rfl | rfl | rfl | rfl | rfl | rfl | rfl | rfl | rfl | rfl | rfl | rfl | rfl | rfl | rfl | rfl | rfl | rfl | rfl | rfl | rfl | rfl | rfl | rfl | rfl | rfl | rfl | rfl | rfl | rfl | rfl | rfl | rfl | rfl | rfl | rfl | rfl | rfl | rfl | rfl | rfl | rfl | rfl | rfl | rfl | rfl | rfl | rfl | rfl | rfl | rfl | rfl | rfl | rfl | rfl | rfl | rfl | rfl | rfl
  · exact e_laws_FnExactGreedyGraph
  · exact e_laws_FnExactLeastVertices
  · exact e_laws_FnExactFirstRegular
  · exact e_laws_FnExactShortestThrough
  · exact e_laws_FnExactHalfOf
  · exact e_laws_FnExactIsFull
  · exact e_laws_FnExactFillGraph
  · exact e_laws_FnExactPairsToJoin
  · exact e_laws_FnFirstRegular
  · exact e_spec_GreedyGraph
  · exact e_impl_GreedyGraph
  · exact e_laws_eqGraph
  · exact e_laws_markGraph
  · exact e_laws_heldGraph
  · exact e_spec_LeastVertices
  · exact e_impl_LeastVertices
  · exact e_spec_FirstRegular
  · exact e_impl_FirstRegular
  · exact e_laws_szGraph
  · exact e_spec_ShortestThrough
  · exact e_laws_toGraph
  · exact e_impl_ShortestThrough
  · exact e_spec_HalfOf
  · exact e_impl_HalfOf
  · exact e_spec_IsFull
  · exact e_impl_IsFull
  · exact e_spec_FillGraph
  · exact e_impl_FillGraph
  · exact e_spec_PairsToJoin
  · exact e_impl_PairsToJoin
  · exact e_laws_eqInt64SS
  · exact e_laws_markInt64SS
  · exact e_laws_heldInt64SS
  · exact e_laws_big
  · exact e_spec_DrawFirstRegular
  · exact e_laws_graphs5
  · exact e_impl_RegularDegree
  · exact e_impl_FitsBoth
  · exact e_spec_DrawLeastVertices
  · exact e_spec_l01In
  · exact e_spec_l07Numbers
  · exact e_spec_l07Fill
  · exact e_spec_l01Empty
  · exact e_impl_isBoth
  · exact e_impl_filled
  · exact e_impl_empty
  · exact e_laws_eqInt64S
  · exact e_laws_markInt64S
  · exact e_laws_heldInt64S
  · exact e_spec_l07First
  · exact e_impl_firstRegular
  · exact e_laws_szInt64S
  · exact e_spec_l02Code
  · exact e_spec_l02Girth
  · exact e_spec_l02Around
  · exact e_laws_toInt64S
  · exact e_impl_graphCode
  · exact e_impl_Graph_has
  · exact e_impl_Graph_girth
  · exact e_impl_Graph_around
  · exact e_impl_Graph_through
  · exact e_spec_l06Code
  · exact e_spec_l02From
  · exact e_spec_l06Rows
  · exact e_spec_l04With
  · exact e_impl_connectedCode
  · exact e_impl_Graph_bipartite
  · exact e_impl_Graph_distances
  · exact e_impl_Graph_at
  · exact e_impl_Graph_partOn
  · exact e_spec_l07Given
  · exact e_spec_l07May
  · exact e_impl_fitCode
  · exact e_impl_Graph_pairs
  · exact e_spec_l01From
  · exact e_spec_l07DrawNumbers
  · exact e_spec_l01Next
  · exact e_spec_l01Pick
  · exact e_laws_likeInts
  · exact e_impl_IsGraph
  · exact e_impl_Graph_regular
  · exact e_impl_bothCode
  · exact e_impl_Graph_fits
  · exact e_spec_l01Copy
  · exact e_spec_l01Put
  · exact e_impl_own
  · exact e_impl_Graph_mayJoin
  · exact e_impl_Graph_put
  · exact e_spec_l07Search
  · exact e_impl_girthBound
  · exact e_impl_firstRegular_1
  · exact e_impl_Graph_degree
  · exact e_impl_Graph_take
  · exact e_spec_l01Is
  · exact e_impl_Graph_girthAt
  · exact e_impl_Graph_walks
  · exact e_spec_l02Connected
  · exact e_impl_Graph_connected
  · exact e_impl_Graph_parts
  · exact e_impl_Graph_edges
  · exact e_slices_Repeat_int64_int64
  · exact e_impl_list
  · exact e_spec_l07Fits
  · exact e_spec_l01Has
  · exact e_spec_l01Degree
  · exact e_spec_l07Far
  · exact e_impl_Graph_degrees
  · exact e_slices_Min_int64_int64
  · exact e_slices_Max_int64_int64
  · exact e_spec_l01Own
  · exact e_slices_Clone_int64_int64
  · exact e_impl_powers
  · exact e_impl_size
  · exact e_impl_Graph_part
  · exact e_impl_all
  · exact e_math_bits_Mul
  · exact e_spec_l01Edges
  · exact e_spec_l01Cut
  · exact e_spec_l01Bits
  · exact e_math_bits_OnesCount64
  · exact e_math_bits_Mul32
  · exact e_math_bits_Mul64
  · exact e_spec_l01Join

def F (n : Nat) : Option Ent := match tab.lookup n with
  | some f => some (.ir f.vf)
  | none => if n = k_math_bits_TrailingZeros64 then some (.ext tzX) else none
theorem v_laws_FnExactGreedyGraph {nro : Nat} {args : List Value} {h : VH} {r : Value × VH} (ha : args.length ≤ i_laws_FnExactGreedyGraph.ntmps) (hr : fbody (vcall F nro) nro i_laws_FnExactGreedyGraph args h = some r) : vcall F nro k_laws_FnExactGreedyGraph args h = some r := vcall_f (by kernel_rfl) (by kernel_rfl) ha hr
theorem v_laws_FnExactLeastVertices {nro : Nat} {args : List Value} {h : VH} {r : Value × VH} (ha : args.length ≤ i_laws_FnExactLeastVertices.ntmps) (hr : fbody (vcall F nro) nro i_laws_FnExactLeastVertices args h = some r) : vcall F nro k_laws_FnExactLeastVertices args h = some r := vcall_f (by kernel_rfl) (by kernel_rfl) ha hr
theorem v_laws_FnExactFirstRegular {nro : Nat} {args : List Value} {h : VH} {r : Value × VH} (ha : args.length ≤ i_laws_FnExactFirstRegular.ntmps) (hr : fbody (vcall F nro) nro i_laws_FnExactFirstRegular args h = some r) : vcall F nro k_laws_FnExactFirstRegular args h = some r := vcall_f (by kernel_rfl) (by kernel_rfl) ha hr
theorem v_laws_FnExactShortestThrough {nro : Nat} {args : List Value} {h : VH} {r : Value × VH} (ha : args.length ≤ i_laws_FnExactShortestThrough.ntmps) (hr : fbody (vcall F nro) nro i_laws_FnExactShortestThrough args h = some r) : vcall F nro k_laws_FnExactShortestThrough args h = some r := vcall_f (by kernel_rfl) (by kernel_rfl) ha hr
theorem v_laws_FnExactHalfOf {nro : Nat} {args : List Value} {h : VH} {r : Value × VH} (ha : args.length ≤ i_laws_FnExactHalfOf.ntmps) (hr : fbody (vcall F nro) nro i_laws_FnExactHalfOf args h = some r) : vcall F nro k_laws_FnExactHalfOf args h = some r := vcall_f (by kernel_rfl) (by kernel_rfl) ha hr
theorem v_laws_FnExactIsFull {nro : Nat} {args : List Value} {h : VH} {r : Value × VH} (ha : args.length ≤ i_laws_FnExactIsFull.ntmps) (hr : fbody (vcall F nro) nro i_laws_FnExactIsFull args h = some r) : vcall F nro k_laws_FnExactIsFull args h = some r := vcall_f (by kernel_rfl) (by kernel_rfl) ha hr
theorem v_laws_FnExactFillGraph {nro : Nat} {args : List Value} {h : VH} {r : Value × VH} (ha : args.length ≤ i_laws_FnExactFillGraph.ntmps) (hr : fbody (vcall F nro) nro i_laws_FnExactFillGraph args h = some r) : vcall F nro k_laws_FnExactFillGraph args h = some r := vcall_f (by kernel_rfl) (by kernel_rfl) ha hr
theorem v_laws_FnExactPairsToJoin {nro : Nat} {args : List Value} {h : VH} {r : Value × VH} (ha : args.length ≤ i_laws_FnExactPairsToJoin.ntmps) (hr : fbody (vcall F nro) nro i_laws_FnExactPairsToJoin args h = some r) : vcall F nro k_laws_FnExactPairsToJoin args h = some r := vcall_f (by kernel_rfl) (by kernel_rfl) ha hr
theorem v_laws_FnFirstRegular {nro : Nat} {args : List Value} {h : VH} {r : Value × VH} (ha : args.length ≤ i_laws_FnFirstRegular.ntmps) (hr : fbody (vcall F nro) nro i_laws_FnFirstRegular args h = some r) : vcall F nro k_laws_FnFirstRegular args h = some r := vcall_f (by kernel_rfl) (by kernel_rfl) ha hr
theorem v_spec_GreedyGraph {nro : Nat} {args : List Value} {h : VH} {r : Value × VH} (ha : args.length ≤ i_spec_GreedyGraph.ntmps) (hr : fbody (vcall F nro) nro i_spec_GreedyGraph args h = some r) : vcall F nro k_spec_GreedyGraph args h = some r := vcall_f (by kernel_rfl) (by kernel_rfl) ha hr
theorem v_impl_GreedyGraph {nro : Nat} {args : List Value} {h : VH} {r : Value × VH} (ha : args.length ≤ i_impl_GreedyGraph.ntmps) (hr : fbody (vcall F nro) nro i_impl_GreedyGraph args h = some r) : vcall F nro k_impl_GreedyGraph args h = some r := vcall_f (by kernel_rfl) (by kernel_rfl) ha hr
theorem v_laws_eqGraph {nro : Nat} {args : List Value} {h : VH} {r : Value × VH} (ha : args.length ≤ i_laws_eqGraph.ntmps) (hr : fbody (vcall F nro) nro i_laws_eqGraph args h = some r) : vcall F nro k_laws_eqGraph args h = some r := vcall_f (by kernel_rfl) (by kernel_rfl) ha hr
theorem v_laws_markGraph {nro : Nat} {args : List Value} {h : VH} {r : Value × VH} (ha : args.length ≤ i_laws_markGraph.ntmps) (hr : fbody (vcall F nro) nro i_laws_markGraph args h = some r) : vcall F nro k_laws_markGraph args h = some r := vcall_f (by kernel_rfl) (by kernel_rfl) ha hr
theorem v_laws_heldGraph {nro : Nat} {args : List Value} {h : VH} {r : Value × VH} (ha : args.length ≤ i_laws_heldGraph.ntmps) (hr : fbody (vcall F nro) nro i_laws_heldGraph args h = some r) : vcall F nro k_laws_heldGraph args h = some r := vcall_f (by kernel_rfl) (by kernel_rfl) ha hr
theorem v_spec_LeastVertices {nro : Nat} {args : List Value} {h : VH} {r : Value × VH} (ha : args.length ≤ i_spec_LeastVertices.ntmps) (hr : fbody (vcall F nro) nro i_spec_LeastVertices args h = some r) : vcall F nro k_spec_LeastVertices args h = some r := vcall_f (by kernel_rfl) (by kernel_rfl) ha hr
theorem v_impl_LeastVertices {nro : Nat} {args : List Value} {h : VH} {r : Value × VH} (ha : args.length ≤ i_impl_LeastVertices.ntmps) (hr : fbody (vcall F nro) nro i_impl_LeastVertices args h = some r) : vcall F nro k_impl_LeastVertices args h = some r := vcall_f (by kernel_rfl) (by kernel_rfl) ha hr
theorem v_spec_FirstRegular {nro : Nat} {args : List Value} {h : VH} {r : Value × VH} (ha : args.length ≤ i_spec_FirstRegular.ntmps) (hr : fbody (vcall F nro) nro i_spec_FirstRegular args h = some r) : vcall F nro k_spec_FirstRegular args h = some r := vcall_f (by kernel_rfl) (by kernel_rfl) ha hr
theorem v_impl_FirstRegular {nro : Nat} {args : List Value} {h : VH} {r : Value × VH} (ha : args.length ≤ i_impl_FirstRegular.ntmps) (hr : fbody (vcall F nro) nro i_impl_FirstRegular args h = some r) : vcall F nro k_impl_FirstRegular args h = some r := vcall_f (by kernel_rfl) (by kernel_rfl) ha hr
theorem v_laws_szGraph {nro : Nat} {args : List Value} {h : VH} {r : Value × VH} (ha : args.length ≤ i_laws_szGraph.ntmps) (hr : fbody (vcall F nro) nro i_laws_szGraph args h = some r) : vcall F nro k_laws_szGraph args h = some r := vcall_f (by kernel_rfl) (by kernel_rfl) ha hr
theorem v_spec_ShortestThrough {nro : Nat} {args : List Value} {h : VH} {r : Value × VH} (ha : args.length ≤ i_spec_ShortestThrough.ntmps) (hr : fbody (vcall F nro) nro i_spec_ShortestThrough args h = some r) : vcall F nro k_spec_ShortestThrough args h = some r := vcall_f (by kernel_rfl) (by kernel_rfl) ha hr
theorem v_laws_toGraph {nro : Nat} {args : List Value} {h : VH} {r : Value × VH} (ha : args.length ≤ i_laws_toGraph.ntmps) (hr : fbody (vcall F nro) nro i_laws_toGraph args h = some r) : vcall F nro k_laws_toGraph args h = some r := vcall_f (by kernel_rfl) (by kernel_rfl) ha hr
theorem v_impl_ShortestThrough {nro : Nat} {args : List Value} {h : VH} {r : Value × VH} (ha : args.length ≤ i_impl_ShortestThrough.ntmps) (hr : fbody (vcall F nro) nro i_impl_ShortestThrough args h = some r) : vcall F nro k_impl_ShortestThrough args h = some r := vcall_f (by kernel_rfl) (by kernel_rfl) ha hr
theorem v_spec_HalfOf {nro : Nat} {args : List Value} {h : VH} {r : Value × VH} (ha : args.length ≤ i_spec_HalfOf.ntmps) (hr : fbody (vcall F nro) nro i_spec_HalfOf args h = some r) : vcall F nro k_spec_HalfOf args h = some r := vcall_f (by kernel_rfl) (by kernel_rfl) ha hr
theorem v_impl_HalfOf {nro : Nat} {args : List Value} {h : VH} {r : Value × VH} (ha : args.length ≤ i_impl_HalfOf.ntmps) (hr : fbody (vcall F nro) nro i_impl_HalfOf args h = some r) : vcall F nro k_impl_HalfOf args h = some r := vcall_f (by kernel_rfl) (by kernel_rfl) ha hr
theorem v_spec_IsFull {nro : Nat} {args : List Value} {h : VH} {r : Value × VH} (ha : args.length ≤ i_spec_IsFull.ntmps) (hr : fbody (vcall F nro) nro i_spec_IsFull args h = some r) : vcall F nro k_spec_IsFull args h = some r := vcall_f (by kernel_rfl) (by kernel_rfl) ha hr
theorem v_impl_IsFull {nro : Nat} {args : List Value} {h : VH} {r : Value × VH} (ha : args.length ≤ i_impl_IsFull.ntmps) (hr : fbody (vcall F nro) nro i_impl_IsFull args h = some r) : vcall F nro k_impl_IsFull args h = some r := vcall_f (by kernel_rfl) (by kernel_rfl) ha hr
theorem v_spec_FillGraph {nro : Nat} {args : List Value} {h : VH} {r : Value × VH} (ha : args.length ≤ i_spec_FillGraph.ntmps) (hr : fbody (vcall F nro) nro i_spec_FillGraph args h = some r) : vcall F nro k_spec_FillGraph args h = some r := vcall_f (by kernel_rfl) (by kernel_rfl) ha hr
theorem v_impl_FillGraph {nro : Nat} {args : List Value} {h : VH} {r : Value × VH} (ha : args.length ≤ i_impl_FillGraph.ntmps) (hr : fbody (vcall F nro) nro i_impl_FillGraph args h = some r) : vcall F nro k_impl_FillGraph args h = some r := vcall_f (by kernel_rfl) (by kernel_rfl) ha hr
theorem v_spec_PairsToJoin {nro : Nat} {args : List Value} {h : VH} {r : Value × VH} (ha : args.length ≤ i_spec_PairsToJoin.ntmps) (hr : fbody (vcall F nro) nro i_spec_PairsToJoin args h = some r) : vcall F nro k_spec_PairsToJoin args h = some r := vcall_f (by kernel_rfl) (by kernel_rfl) ha hr
theorem v_impl_PairsToJoin {nro : Nat} {args : List Value} {h : VH} {r : Value × VH} (ha : args.length ≤ i_impl_PairsToJoin.ntmps) (hr : fbody (vcall F nro) nro i_impl_PairsToJoin args h = some r) : vcall F nro k_impl_PairsToJoin args h = some r := vcall_f (by kernel_rfl) (by kernel_rfl) ha hr
theorem v_laws_eqInt64SS {nro : Nat} {args : List Value} {h : VH} {r : Value × VH} (ha : args.length ≤ i_laws_eqInt64SS.ntmps) (hr : fbody (vcall F nro) nro i_laws_eqInt64SS args h = some r) : vcall F nro k_laws_eqInt64SS args h = some r := vcall_f (by kernel_rfl) (by kernel_rfl) ha hr
theorem v_laws_markInt64SS {nro : Nat} {args : List Value} {h : VH} {r : Value × VH} (ha : args.length ≤ i_laws_markInt64SS.ntmps) (hr : fbody (vcall F nro) nro i_laws_markInt64SS args h = some r) : vcall F nro k_laws_markInt64SS args h = some r := vcall_f (by kernel_rfl) (by kernel_rfl) ha hr
theorem v_laws_heldInt64SS {nro : Nat} {args : List Value} {h : VH} {r : Value × VH} (ha : args.length ≤ i_laws_heldInt64SS.ntmps) (hr : fbody (vcall F nro) nro i_laws_heldInt64SS args h = some r) : vcall F nro k_laws_heldInt64SS args h = some r := vcall_f (by kernel_rfl) (by kernel_rfl) ha hr
theorem v_laws_big {nro : Nat} {args : List Value} {h : VH} {r : Value × VH} (ha : args.length ≤ i_laws_big.ntmps) (hr : fbody (vcall F nro) nro i_laws_big args h = some r) : vcall F nro k_laws_big args h = some r := vcall_f (by kernel_rfl) (by kernel_rfl) ha hr
theorem v_spec_DrawFirstRegular {nro : Nat} {args : List Value} {h : VH} {r : Value × VH} (ha : args.length ≤ i_spec_DrawFirstRegular.ntmps) (hr : fbody (vcall F nro) nro i_spec_DrawFirstRegular args h = some r) : vcall F nro k_spec_DrawFirstRegular args h = some r := vcall_f (by kernel_rfl) (by kernel_rfl) ha hr
theorem v_laws_graphs5 {nro : Nat} {args : List Value} {h : VH} {r : Value × VH} (ha : args.length ≤ i_laws_graphs5.ntmps) (hr : fbody (vcall F nro) nro i_laws_graphs5 args h = some r) : vcall F nro k_laws_graphs5 args h = some r := vcall_f (by kernel_rfl) (by kernel_rfl) ha hr
theorem v_impl_RegularDegree {nro : Nat} {args : List Value} {h : VH} {r : Value × VH} (ha : args.length ≤ i_impl_RegularDegree.ntmps) (hr : fbody (vcall F nro) nro i_impl_RegularDegree args h = some r) : vcall F nro k_impl_RegularDegree args h = some r := vcall_f (by kernel_rfl) (by kernel_rfl) ha hr
theorem v_impl_FitsBoth {nro : Nat} {args : List Value} {h : VH} {r : Value × VH} (ha : args.length ≤ i_impl_FitsBoth.ntmps) (hr : fbody (vcall F nro) nro i_impl_FitsBoth args h = some r) : vcall F nro k_impl_FitsBoth args h = some r := vcall_f (by kernel_rfl) (by kernel_rfl) ha hr
theorem v_spec_DrawLeastVertices {nro : Nat} {args : List Value} {h : VH} {r : Value × VH} (ha : args.length ≤ i_spec_DrawLeastVertices.ntmps) (hr : fbody (vcall F nro) nro i_spec_DrawLeastVertices args h = some r) : vcall F nro k_spec_DrawLeastVertices args h = some r := vcall_f (by kernel_rfl) (by kernel_rfl) ha hr
theorem v_spec_l01In {nro : Nat} {args : List Value} {h : VH} {r : Value × VH} (ha : args.length ≤ i_spec_l01In.ntmps) (hr : fbody (vcall F nro) nro i_spec_l01In args h = some r) : vcall F nro k_spec_l01In args h = some r := vcall_f (by kernel_rfl) (by kernel_rfl) ha hr
theorem v_spec_l07Numbers {nro : Nat} {args : List Value} {h : VH} {r : Value × VH} (ha : args.length ≤ i_spec_l07Numbers.ntmps) (hr : fbody (vcall F nro) nro i_spec_l07Numbers args h = some r) : vcall F nro k_spec_l07Numbers args h = some r := vcall_f (by kernel_rfl) (by kernel_rfl) ha hr
theorem v_spec_l07Fill {nro : Nat} {args : List Value} {h : VH} {r : Value × VH} (ha : args.length ≤ i_spec_l07Fill.ntmps) (hr : fbody (vcall F nro) nro i_spec_l07Fill args h = some r) : vcall F nro k_spec_l07Fill args h = some r := vcall_f (by kernel_rfl) (by kernel_rfl) ha hr
theorem v_spec_l01Empty {nro : Nat} {args : List Value} {h : VH} {r : Value × VH} (ha : args.length ≤ i_spec_l01Empty.ntmps) (hr : fbody (vcall F nro) nro i_spec_l01Empty args h = some r) : vcall F nro k_spec_l01Empty args h = some r := vcall_f (by kernel_rfl) (by kernel_rfl) ha hr
theorem v_impl_isBoth {nro : Nat} {args : List Value} {h : VH} {r : Value × VH} (ha : args.length ≤ i_impl_isBoth.ntmps) (hr : fbody (vcall F nro) nro i_impl_isBoth args h = some r) : vcall F nro k_impl_isBoth args h = some r := vcall_f (by kernel_rfl) (by kernel_rfl) ha hr
theorem v_impl_filled {nro : Nat} {args : List Value} {h : VH} {r : Value × VH} (ha : args.length ≤ i_impl_filled.ntmps) (hr : fbody (vcall F nro) nro i_impl_filled args h = some r) : vcall F nro k_impl_filled args h = some r := vcall_f (by kernel_rfl) (by kernel_rfl) ha hr
theorem v_impl_empty {nro : Nat} {args : List Value} {h : VH} {r : Value × VH} (ha : args.length ≤ i_impl_empty.ntmps) (hr : fbody (vcall F nro) nro i_impl_empty args h = some r) : vcall F nro k_impl_empty args h = some r := vcall_f (by kernel_rfl) (by kernel_rfl) ha hr
theorem v_laws_eqInt64S {nro : Nat} {args : List Value} {h : VH} {r : Value × VH} (ha : args.length ≤ i_laws_eqInt64S.ntmps) (hr : fbody (vcall F nro) nro i_laws_eqInt64S args h = some r) : vcall F nro k_laws_eqInt64S args h = some r := vcall_f (by kernel_rfl) (by kernel_rfl) ha hr
theorem v_laws_markInt64S {nro : Nat} {args : List Value} {h : VH} {r : Value × VH} (ha : args.length ≤ i_laws_markInt64S.ntmps) (hr : fbody (vcall F nro) nro i_laws_markInt64S args h = some r) : vcall F nro k_laws_markInt64S args h = some r := vcall_f (by kernel_rfl) (by kernel_rfl) ha hr
theorem v_laws_heldInt64S {nro : Nat} {args : List Value} {h : VH} {r : Value × VH} (ha : args.length ≤ i_laws_heldInt64S.ntmps) (hr : fbody (vcall F nro) nro i_laws_heldInt64S args h = some r) : vcall F nro k_laws_heldInt64S args h = some r := vcall_f (by kernel_rfl) (by kernel_rfl) ha hr
theorem v_spec_l07First {nro : Nat} {args : List Value} {h : VH} {r : Value × VH} (ha : args.length ≤ i_spec_l07First.ntmps) (hr : fbody (vcall F nro) nro i_spec_l07First args h = some r) : vcall F nro k_spec_l07First args h = some r := vcall_f (by kernel_rfl) (by kernel_rfl) ha hr
theorem v_impl_firstRegular {nro : Nat} {args : List Value} {h : VH} {r : Value × VH} (ha : args.length ≤ i_impl_firstRegular.ntmps) (hr : fbody (vcall F nro) nro i_impl_firstRegular args h = some r) : vcall F nro k_impl_firstRegular args h = some r := vcall_f (by kernel_rfl) (by kernel_rfl) ha hr
theorem v_laws_szInt64S {nro : Nat} {args : List Value} {h : VH} {r : Value × VH} (ha : args.length ≤ i_laws_szInt64S.ntmps) (hr : fbody (vcall F nro) nro i_laws_szInt64S args h = some r) : vcall F nro k_laws_szInt64S args h = some r := vcall_f (by kernel_rfl) (by kernel_rfl) ha hr
theorem v_spec_l02Code {nro : Nat} {args : List Value} {h : VH} {r : Value × VH} (ha : args.length ≤ i_spec_l02Code.ntmps) (hr : fbody (vcall F nro) nro i_spec_l02Code args h = some r) : vcall F nro k_spec_l02Code args h = some r := vcall_f (by kernel_rfl) (by kernel_rfl) ha hr
theorem v_spec_l02Girth {nro : Nat} {args : List Value} {h : VH} {r : Value × VH} (ha : args.length ≤ i_spec_l02Girth.ntmps) (hr : fbody (vcall F nro) nro i_spec_l02Girth args h = some r) : vcall F nro k_spec_l02Girth args h = some r := vcall_f (by kernel_rfl) (by kernel_rfl) ha hr
theorem v_spec_l02Around {nro : Nat} {args : List Value} {h : VH} {r : Value × VH} (ha : args.length ≤ i_spec_l02Around.ntmps) (hr : fbody (vcall F nro) nro i_spec_l02Around args h = some r) : vcall F nro k_spec_l02Around args h = some r := vcall_f (by kernel_rfl) (by kernel_rfl) ha hr
theorem v_laws_toInt64S {nro : Nat} {args : List Value} {h : VH} {r : Value × VH} (ha : args.length ≤ i_laws_toInt64S.ntmps) (hr : fbody (vcall F nro) nro i_laws_toInt64S args h = some r) : vcall F nro k_laws_toInt64S args h = some r := vcall_f (by kernel_rfl) (by kernel_rfl) ha hr
theorem v_impl_graphCode {nro : Nat} {args : List Value} {h : VH} {r : Value × VH} (ha : args.length ≤ i_impl_graphCode.ntmps) (hr : fbody (vcall F nro) nro i_impl_graphCode args h = some r) : vcall F nro k_impl_graphCode args h = some r := vcall_f (by kernel_rfl) (by kernel_rfl) ha hr
theorem v_impl_Graph_has {nro : Nat} {args : List Value} {h : VH} {r : Value × VH} (ha : args.length ≤ i_impl_Graph_has.ntmps) (hr : fbody (vcall F nro) nro i_impl_Graph_has args h = some r) : vcall F nro k_impl_Graph_has args h = some r := vcall_f (by kernel_rfl) (by kernel_rfl) ha hr
theorem v_impl_Graph_girth {nro : Nat} {args : List Value} {h : VH} {r : Value × VH} (ha : args.length ≤ i_impl_Graph_girth.ntmps) (hr : fbody (vcall F nro) nro i_impl_Graph_girth args h = some r) : vcall F nro k_impl_Graph_girth args h = some r := vcall_f (by kernel_rfl) (by kernel_rfl) ha hr
theorem v_impl_Graph_around {nro : Nat} {args : List Value} {h : VH} {r : Value × VH} (ha : args.length ≤ i_impl_Graph_around.ntmps) (hr : fbody (vcall F nro) nro i_impl_Graph_around args h = some r) : vcall F nro k_impl_Graph_around args h = some r := vcall_f (by kernel_rfl) (by kernel_rfl) ha hr
theorem v_impl_Graph_through {nro : Nat} {args : List Value} {h : VH} {r : Value × VH} (ha : args.length ≤ i_impl_Graph_through.ntmps) (hr : fbody (vcall F nro) nro i_impl_Graph_through args h = some r) : vcall F nro k_impl_Graph_through args h = some r := vcall_f (by kernel_rfl) (by kernel_rfl) ha hr
theorem v_spec_l06Code {nro : Nat} {args : List Value} {h : VH} {r : Value × VH} (ha : args.length ≤ i_spec_l06Code.ntmps) (hr : fbody (vcall F nro) nro i_spec_l06Code args h = some r) : vcall F nro k_spec_l06Code args h = some r := vcall_f (by kernel_rfl) (by kernel_rfl) ha hr
theorem v_spec_l02From {nro : Nat} {args : List Value} {h : VH} {r : Value × VH} (ha : args.length ≤ i_spec_l02From.ntmps) (hr : fbody (vcall F nro) nro i_spec_l02From args h = some r) : vcall F nro k_spec_l02From args h = some r := vcall_f (by kernel_rfl) (by kernel_rfl) ha hr
theorem v_spec_l06Rows {nro : Nat} {args : List Value} {h : VH} {r : Value × VH} (ha : args.length ≤ i_spec_l06Rows.ntmps) (hr : fbody (vcall F nro) nro i_spec_l06Rows args h = some r) : vcall F nro k_spec_l06Rows args h = some r := vcall_f (by kernel_rfl) (by kernel_rfl) ha hr
theorem v_spec_l04With {nro : Nat} {args : List Value} {h : VH} {r : Value × VH} (ha : args.length ≤ i_spec_l04With.ntmps) (hr : fbody (vcall F nro) nro i_spec_l04With args h = some r) : vcall F nro k_spec_l04With args h = some r := vcall_f (by kernel_rfl) (by kernel_rfl) ha hr
theorem v_impl_connectedCode {nro : Nat} {args : List Value} {h : VH} {r : Value × VH} (ha : args.length ≤ i_impl_connectedCode.ntmps) (hr : fbody (vcall F nro) nro i_impl_connectedCode args h = some r) : vcall F nro k_impl_connectedCode args h = some r := vcall_f (by kernel_rfl) (by kernel_rfl) ha hr
theorem v_impl_Graph_bipartite {nro : Nat} {args : List Value} {h : VH} {r : Value × VH} (ha : args.length ≤ i_impl_Graph_bipartite.ntmps) (hr : fbody (vcall F nro) nro i_impl_Graph_bipartite args h = some r) : vcall F nro k_impl_Graph_bipartite args h = some r := vcall_f (by kernel_rfl) (by kernel_rfl) ha hr
theorem v_impl_Graph_distances {nro : Nat} {args : List Value} {h : VH} {r : Value × VH} (ha : args.length ≤ i_impl_Graph_distances.ntmps) (hr : fbody (vcall F nro) nro i_impl_Graph_distances args h = some r) : vcall F nro k_impl_Graph_distances args h = some r := vcall_f (by kernel_rfl) (by kernel_rfl) ha hr
theorem v_impl_Graph_at {nro : Nat} {args : List Value} {h : VH} {r : Value × VH} (ha : args.length ≤ i_impl_Graph_at.ntmps) (hr : fbody (vcall F nro) nro i_impl_Graph_at args h = some r) : vcall F nro k_impl_Graph_at args h = some r := vcall_f (by kernel_rfl) (by kernel_rfl) ha hr
theorem v_impl_Graph_partOn {nro : Nat} {args : List Value} {h : VH} {r : Value × VH} (ha : args.length ≤ i_impl_Graph_partOn.ntmps) (hr : fbody (vcall F nro) nro i_impl_Graph_partOn args h = some r) : vcall F nro k_impl_Graph_partOn args h = some r := vcall_f (by kernel_rfl) (by kernel_rfl) ha hr
theorem v_spec_l07Given {nro : Nat} {args : List Value} {h : VH} {r : Value × VH} (ha : args.length ≤ i_spec_l07Given.ntmps) (hr : fbody (vcall F nro) nro i_spec_l07Given args h = some r) : vcall F nro k_spec_l07Given args h = some r := vcall_f (by kernel_rfl) (by kernel_rfl) ha hr
theorem v_spec_l07May {nro : Nat} {args : List Value} {h : VH} {r : Value × VH} (ha : args.length ≤ i_spec_l07May.ntmps) (hr : fbody (vcall F nro) nro i_spec_l07May args h = some r) : vcall F nro k_spec_l07May args h = some r := vcall_f (by kernel_rfl) (by kernel_rfl) ha hr
theorem v_impl_fitCode {nro : Nat} {args : List Value} {h : VH} {r : Value × VH} (ha : args.length ≤ i_impl_fitCode.ntmps) (hr : fbody (vcall F nro) nro i_impl_fitCode args h = some r) : vcall F nro k_impl_fitCode args h = some r := vcall_f (by kernel_rfl) (by kernel_rfl) ha hr
theorem v_impl_Graph_pairs {nro : Nat} {args : List Value} {h : VH} {r : Value × VH} (ha : args.length ≤ i_impl_Graph_pairs.ntmps) (hr : fbody (vcall F nro) nro i_impl_Graph_pairs args h = some r) : vcall F nro k_impl_Graph_pairs args h = some r := vcall_f (by kernel_rfl) (by kernel_rfl) ha hr
theorem v_spec_l01From {nro : Nat} {args : List Value} {h : VH} {r : Value × VH} (ha : args.length ≤ i_spec_l01From.ntmps) (hr : fbody (vcall F nro) nro i_spec_l01From args h = some r) : vcall F nro k_spec_l01From args h = some r := vcall_f (by kernel_rfl) (by kernel_rfl) ha hr
theorem v_spec_l07DrawNumbers {nro : Nat} {args : List Value} {h : VH} {r : Value × VH} (ha : args.length ≤ i_spec_l07DrawNumbers.ntmps) (hr : fbody (vcall F nro) nro i_spec_l07DrawNumbers args h = some r) : vcall F nro k_spec_l07DrawNumbers args h = some r := vcall_f (by kernel_rfl) (by kernel_rfl) ha hr
theorem v_spec_l01Next {nro : Nat} {args : List Value} {h : VH} {r : Value × VH} (ha : args.length ≤ i_spec_l01Next.ntmps) (hr : fbody (vcall F nro) nro i_spec_l01Next args h = some r) : vcall F nro k_spec_l01Next args h = some r := vcall_f (by kernel_rfl) (by kernel_rfl) ha hr
theorem v_spec_l01Pick {nro : Nat} {args : List Value} {h : VH} {r : Value × VH} (ha : args.length ≤ i_spec_l01Pick.ntmps) (hr : fbody (vcall F nro) nro i_spec_l01Pick args h = some r) : vcall F nro k_spec_l01Pick args h = some r := vcall_f (by kernel_rfl) (by kernel_rfl) ha hr
theorem v_laws_likeInts {nro : Nat} {args : List Value} {h : VH} {r : Value × VH} (ha : args.length ≤ i_laws_likeInts.ntmps) (hr : fbody (vcall F nro) nro i_laws_likeInts args h = some r) : vcall F nro k_laws_likeInts args h = some r := vcall_f (by kernel_rfl) (by kernel_rfl) ha hr
theorem v_impl_IsGraph {nro : Nat} {args : List Value} {h : VH} {r : Value × VH} (ha : args.length ≤ i_impl_IsGraph.ntmps) (hr : fbody (vcall F nro) nro i_impl_IsGraph args h = some r) : vcall F nro k_impl_IsGraph args h = some r := vcall_f (by kernel_rfl) (by kernel_rfl) ha hr
theorem v_impl_Graph_regular {nro : Nat} {args : List Value} {h : VH} {r : Value × VH} (ha : args.length ≤ i_impl_Graph_regular.ntmps) (hr : fbody (vcall F nro) nro i_impl_Graph_regular args h = some r) : vcall F nro k_impl_Graph_regular args h = some r := vcall_f (by kernel_rfl) (by kernel_rfl) ha hr
theorem v_impl_bothCode {nro : Nat} {args : List Value} {h : VH} {r : Value × VH} (ha : args.length ≤ i_impl_bothCode.ntmps) (hr : fbody (vcall F nro) nro i_impl_bothCode args h = some r) : vcall F nro k_impl_bothCode args h = some r := vcall_f (by kernel_rfl) (by kernel_rfl) ha hr
theorem v_impl_Graph_fits {nro : Nat} {args : List Value} {h : VH} {r : Value × VH} (ha : args.length ≤ i_impl_Graph_fits.ntmps) (hr : fbody (vcall F nro) nro i_impl_Graph_fits args h = some r) : vcall F nro k_impl_Graph_fits args h = some r := vcall_f (by kernel_rfl) (by kernel_rfl) ha hr
theorem v_spec_l01Copy {nro : Nat} {args : List Value} {h : VH} {r : Value × VH} (ha : args.length ≤ i_spec_l01Copy.ntmps) (hr : fbody (vcall F nro) nro i_spec_l01Copy args h = some r) : vcall F nro k_spec_l01Copy args h = some r := vcall_f (by kernel_rfl) (by kernel_rfl) ha hr
theorem v_spec_l01Put {nro : Nat} {args : List Value} {h : VH} {r : Value × VH} (ha : args.length ≤ i_spec_l01Put.ntmps) (hr : fbody (vcall F nro) nro i_spec_l01Put args h = some r) : vcall F nro k_spec_l01Put args h = some r := vcall_f (by kernel_rfl) (by kernel_rfl) ha hr
theorem v_impl_own {nro : Nat} {args : List Value} {h : VH} {r : Value × VH} (ha : args.length ≤ i_impl_own.ntmps) (hr : fbody (vcall F nro) nro i_impl_own args h = some r) : vcall F nro k_impl_own args h = some r := vcall_f (by kernel_rfl) (by kernel_rfl) ha hr
theorem v_impl_Graph_mayJoin {nro : Nat} {args : List Value} {h : VH} {r : Value × VH} (ha : args.length ≤ i_impl_Graph_mayJoin.ntmps) (hr : fbody (vcall F nro) nro i_impl_Graph_mayJoin args h = some r) : vcall F nro k_impl_Graph_mayJoin args h = some r := vcall_f (by kernel_rfl) (by kernel_rfl) ha hr
theorem v_impl_Graph_put {nro : Nat} {args : List Value} {h : VH} {r : Value × VH} (ha : args.length ≤ i_impl_Graph_put.ntmps) (hr : fbody (vcall F nro) nro i_impl_Graph_put args h = some r) : vcall F nro k_impl_Graph_put args h = some r := vcall_f (by kernel_rfl) (by kernel_rfl) ha hr
theorem v_spec_l07Search {nro : Nat} {args : List Value} {h : VH} {r : Value × VH} (ha : args.length ≤ i_spec_l07Search.ntmps) (hr : fbody (vcall F nro) nro i_spec_l07Search args h = some r) : vcall F nro k_spec_l07Search args h = some r := vcall_f (by kernel_rfl) (by kernel_rfl) ha hr
theorem v_impl_girthBound {nro : Nat} {args : List Value} {h : VH} {r : Value × VH} (ha : args.length ≤ i_impl_girthBound.ntmps) (hr : fbody (vcall F nro) nro i_impl_girthBound args h = some r) : vcall F nro k_impl_girthBound args h = some r := vcall_f (by kernel_rfl) (by kernel_rfl) ha hr
theorem v_impl_firstRegular_1 {nro : Nat} {args : List Value} {h : VH} {r : Value × VH} (ha : args.length ≤ i_impl_firstRegular_1.ntmps) (hr : fbody (vcall F nro) nro i_impl_firstRegular_1 args h = some r) : vcall F nro k_impl_firstRegular_1 args h = some r := vcall_f (by kernel_rfl) (by kernel_rfl) ha hr
theorem v_impl_Graph_degree {nro : Nat} {args : List Value} {h : VH} {r : Value × VH} (ha : args.length ≤ i_impl_Graph_degree.ntmps) (hr : fbody (vcall F nro) nro i_impl_Graph_degree args h = some r) : vcall F nro k_impl_Graph_degree args h = some r := vcall_f (by kernel_rfl) (by kernel_rfl) ha hr
theorem v_impl_Graph_take {nro : Nat} {args : List Value} {h : VH} {r : Value × VH} (ha : args.length ≤ i_impl_Graph_take.ntmps) (hr : fbody (vcall F nro) nro i_impl_Graph_take args h = some r) : vcall F nro k_impl_Graph_take args h = some r := vcall_f (by kernel_rfl) (by kernel_rfl) ha hr
theorem v_spec_l01Is {nro : Nat} {args : List Value} {h : VH} {r : Value × VH} (ha : args.length ≤ i_spec_l01Is.ntmps) (hr : fbody (vcall F nro) nro i_spec_l01Is args h = some r) : vcall F nro k_spec_l01Is args h = some r := vcall_f (by kernel_rfl) (by kernel_rfl) ha hr
theorem v_impl_Graph_girthAt {nro : Nat} {args : List Value} {h : VH} {r : Value × VH} (ha : args.length ≤ i_impl_Graph_girthAt.ntmps) (hr : fbody (vcall F nro) nro i_impl_Graph_girthAt args h = some r) : vcall F nro k_impl_Graph_girthAt args h = some r := vcall_f (by kernel_rfl) (by kernel_rfl) ha hr
theorem v_impl_Graph_walks {nro : Nat} {args : List Value} {h : VH} {r : Value × VH} (ha : args.length ≤ i_impl_Graph_walks.ntmps) (hr : fbody (vcall F nro) nro i_impl_Graph_walks args h = some r) : vcall F nro k_impl_Graph_walks args h = some r := vcall_f (by kernel_rfl) (by kernel_rfl) ha hr
theorem v_spec_l02Connected {nro : Nat} {args : List Value} {h : VH} {r : Value × VH} (ha : args.length ≤ i_spec_l02Connected.ntmps) (hr : fbody (vcall F nro) nro i_spec_l02Connected args h = some r) : vcall F nro k_spec_l02Connected args h = some r := vcall_f (by kernel_rfl) (by kernel_rfl) ha hr
theorem v_impl_Graph_connected {nro : Nat} {args : List Value} {h : VH} {r : Value × VH} (ha : args.length ≤ i_impl_Graph_connected.ntmps) (hr : fbody (vcall F nro) nro i_impl_Graph_connected args h = some r) : vcall F nro k_impl_Graph_connected args h = some r := vcall_f (by kernel_rfl) (by kernel_rfl) ha hr
theorem v_impl_Graph_parts {nro : Nat} {args : List Value} {h : VH} {r : Value × VH} (ha : args.length ≤ i_impl_Graph_parts.ntmps) (hr : fbody (vcall F nro) nro i_impl_Graph_parts args h = some r) : vcall F nro k_impl_Graph_parts args h = some r := vcall_f (by kernel_rfl) (by kernel_rfl) ha hr
theorem v_impl_Graph_edges {nro : Nat} {args : List Value} {h : VH} {r : Value × VH} (ha : args.length ≤ i_impl_Graph_edges.ntmps) (hr : fbody (vcall F nro) nro i_impl_Graph_edges args h = some r) : vcall F nro k_impl_Graph_edges args h = some r := vcall_f (by kernel_rfl) (by kernel_rfl) ha hr
theorem v_slices_Repeat_int64_int64 {nro : Nat} {args : List Value} {h : VH} {r : Value × VH} (ha : args.length ≤ i_slices_Repeat_int64_int64.ntmps) (hr : fbody (vcall F nro) nro i_slices_Repeat_int64_int64 args h = some r) : vcall F nro k_slices_Repeat_int64_int64 args h = some r := vcall_f (by kernel_rfl) (by kernel_rfl) ha hr
theorem v_impl_list {nro : Nat} {args : List Value} {h : VH} {r : Value × VH} (ha : args.length ≤ i_impl_list.ntmps) (hr : fbody (vcall F nro) nro i_impl_list args h = some r) : vcall F nro k_impl_list args h = some r := vcall_f (by kernel_rfl) (by kernel_rfl) ha hr
theorem v_spec_l07Fits {nro : Nat} {args : List Value} {h : VH} {r : Value × VH} (ha : args.length ≤ i_spec_l07Fits.ntmps) (hr : fbody (vcall F nro) nro i_spec_l07Fits args h = some r) : vcall F nro k_spec_l07Fits args h = some r := vcall_f (by kernel_rfl) (by kernel_rfl) ha hr
theorem v_spec_l01Has {nro : Nat} {args : List Value} {h : VH} {r : Value × VH} (ha : args.length ≤ i_spec_l01Has.ntmps) (hr : fbody (vcall F nro) nro i_spec_l01Has args h = some r) : vcall F nro k_spec_l01Has args h = some r := vcall_f (by kernel_rfl) (by kernel_rfl) ha hr
theorem v_spec_l01Degree {nro : Nat} {args : List Value} {h : VH} {r : Value × VH} (ha : args.length ≤ i_spec_l01Degree.ntmps) (hr : fbody (vcall F nro) nro i_spec_l01Degree args h = some r) : vcall F nro k_spec_l01Degree args h = some r := vcall_f (by kernel_rfl) (by kernel_rfl) ha hr
theorem v_spec_l07Far {nro : Nat} {args : List Value} {h : VH} {r : Value × VH} (ha : args.length ≤ i_spec_l07Far.ntmps) (hr : fbody (vcall F nro) nro i_spec_l07Far args h = some r) : vcall F nro k_spec_l07Far args h = some r := vcall_f (by kernel_rfl) (by kernel_rfl) ha hr
theorem v_impl_Graph_degrees {nro : Nat} {args : List Value} {h : VH} {r : Value × VH} (ha : args.length ≤ i_impl_Graph_degrees.ntmps) (hr : fbody (vcall F nro) nro i_impl_Graph_degrees args h = some r) : vcall F nro k_impl_Graph_degrees args h = some r := vcall_f (by kernel_rfl) (by kernel_rfl) ha hr
theorem v_slices_Min_int64_int64 {nro : Nat} {args : List Value} {h : VH} {r : Value × VH} (ha : args.length ≤ i_slices_Min_int64_int64.ntmps) (hr : fbody (vcall F nro) nro i_slices_Min_int64_int64 args h = some r) : vcall F nro k_slices_Min_int64_int64 args h = some r := vcall_f (by kernel_rfl) (by kernel_rfl) ha hr
theorem v_slices_Max_int64_int64 {nro : Nat} {args : List Value} {h : VH} {r : Value × VH} (ha : args.length ≤ i_slices_Max_int64_int64.ntmps) (hr : fbody (vcall F nro) nro i_slices_Max_int64_int64 args h = some r) : vcall F nro k_slices_Max_int64_int64 args h = some r := vcall_f (by kernel_rfl) (by kernel_rfl) ha hr
theorem v_spec_l01Own {nro : Nat} {args : List Value} {h : VH} {r : Value × VH} (ha : args.length ≤ i_spec_l01Own.ntmps) (hr : fbody (vcall F nro) nro i_spec_l01Own args h = some r) : vcall F nro k_spec_l01Own args h = some r := vcall_f (by kernel_rfl) (by kernel_rfl) ha hr
theorem v_slices_Clone_int64_int64 {nro : Nat} {args : List Value} {h : VH} {r : Value × VH} (ha : args.length ≤ i_slices_Clone_int64_int64.ntmps) (hr : fbody (vcall F nro) nro i_slices_Clone_int64_int64 args h = some r) : vcall F nro k_slices_Clone_int64_int64 args h = some r := vcall_f (by kernel_rfl) (by kernel_rfl) ha hr
theorem v_impl_powers {nro : Nat} {args : List Value} {h : VH} {r : Value × VH} (ha : args.length ≤ i_impl_powers.ntmps) (hr : fbody (vcall F nro) nro i_impl_powers args h = some r) : vcall F nro k_impl_powers args h = some r := vcall_f (by kernel_rfl) (by kernel_rfl) ha hr
theorem v_impl_size {nro : Nat} {args : List Value} {h : VH} {r : Value × VH} (ha : args.length ≤ i_impl_size.ntmps) (hr : fbody (vcall F nro) nro i_impl_size args h = some r) : vcall F nro k_impl_size args h = some r := vcall_f (by kernel_rfl) (by kernel_rfl) ha hr
theorem v_impl_Graph_part {nro : Nat} {args : List Value} {h : VH} {r : Value × VH} (ha : args.length ≤ i_impl_Graph_part.ntmps) (hr : fbody (vcall F nro) nro i_impl_Graph_part args h = some r) : vcall F nro k_impl_Graph_part args h = some r := vcall_f (by kernel_rfl) (by kernel_rfl) ha hr
theorem v_impl_all {nro : Nat} {args : List Value} {h : VH} {r : Value × VH} (ha : args.length ≤ i_impl_all.ntmps) (hr : fbody (vcall F nro) nro i_impl_all args h = some r) : vcall F nro k_impl_all args h = some r := vcall_f (by kernel_rfl) (by kernel_rfl) ha hr
theorem v_math_bits_Mul {nro : Nat} {args : List Value} {h : VH} {r : Value × VH} (ha : args.length ≤ i_math_bits_Mul.ntmps) (hr : fbody (vcall F nro) nro i_math_bits_Mul args h = some r) : vcall F nro k_math_bits_Mul args h = some r := vcall_f (by kernel_rfl) (by kernel_rfl) ha hr
theorem v_spec_l01Edges {nro : Nat} {args : List Value} {h : VH} {r : Value × VH} (ha : args.length ≤ i_spec_l01Edges.ntmps) (hr : fbody (vcall F nro) nro i_spec_l01Edges args h = some r) : vcall F nro k_spec_l01Edges args h = some r := vcall_f (by kernel_rfl) (by kernel_rfl) ha hr
theorem v_spec_l01Cut {nro : Nat} {args : List Value} {h : VH} {r : Value × VH} (ha : args.length ≤ i_spec_l01Cut.ntmps) (hr : fbody (vcall F nro) nro i_spec_l01Cut args h = some r) : vcall F nro k_spec_l01Cut args h = some r := vcall_f (by kernel_rfl) (by kernel_rfl) ha hr
theorem v_spec_l01Bits {nro : Nat} {args : List Value} {h : VH} {r : Value × VH} (ha : args.length ≤ i_spec_l01Bits.ntmps) (hr : fbody (vcall F nro) nro i_spec_l01Bits args h = some r) : vcall F nro k_spec_l01Bits args h = some r := vcall_f (by kernel_rfl) (by kernel_rfl) ha hr
theorem v_math_bits_OnesCount64 {nro : Nat} {args : List Value} {h : VH} {r : Value × VH} (ha : args.length ≤ i_math_bits_OnesCount64.ntmps) (hr : fbody (vcall F nro) nro i_math_bits_OnesCount64 args h = some r) : vcall F nro k_math_bits_OnesCount64 args h = some r := vcall_f (by kernel_rfl) (by kernel_rfl) ha hr
theorem v_math_bits_Mul32 {nro : Nat} {args : List Value} {h : VH} {r : Value × VH} (ha : args.length ≤ i_math_bits_Mul32.ntmps) (hr : fbody (vcall F nro) nro i_math_bits_Mul32 args h = some r) : vcall F nro k_math_bits_Mul32 args h = some r := vcall_f (by kernel_rfl) (by kernel_rfl) ha hr
theorem v_math_bits_Mul64 {nro : Nat} {args : List Value} {h : VH} {r : Value × VH} (ha : args.length ≤ i_math_bits_Mul64.ntmps) (hr : fbody (vcall F nro) nro i_math_bits_Mul64 args h = some r) : vcall F nro k_math_bits_Mul64 args h = some r := vcall_f (by kernel_rfl) (by kernel_rfl) ha hr
theorem v_spec_l01Join {nro : Nat} {args : List Value} {h : VH} {r : Value × VH} (ha : args.length ≤ i_spec_l01Join.ntmps) (hr : fbody (vcall F nro) nro i_spec_l01Join args h = some r) : vcall F nro k_spec_l01Join args h = some r := vcall_f (by kernel_rfl) (by kernel_rfl) ha hr

end Go.Proofs.YthpgiimaadohcaaDoor.Zv
