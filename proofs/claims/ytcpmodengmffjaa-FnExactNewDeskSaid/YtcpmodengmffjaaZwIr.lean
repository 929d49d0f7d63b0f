/- The functions' intermediate form. -/
import Derived.Test.YtcpmodengmffjaaZwIr1
namespace Go.Proofs.Ytcpmodengmffjaa.Zv
open Go
/-- (loop.example/g01331/impl.Graph).put -/
def i_impl_Graph_put : FF := ⟨27, [],
  .seq (.ops [
    ⟨some 3, .box 2 (.tmp 0), none, 0⟩]) <|
  .seq (.ops [
    ⟨some 6, .mv (.tmp 1), none, 0⟩,
    ⟨some 7, .mv (.tmp 2), none, 0⟩,
    ⟨some 8, .bin .neq (.tmp 6) (.tmp 7), none, 0⟩]) <|
  .cond (.tmp 8)
    (.seq (.dops [
      ⟨some 9, .fld 1 (.tmp 3), none, 0⟩,
      ⟨some 10, .load false 1 (.tmp 9), none, 0⟩,
      ⟨some 11, .mv (.tmp 1), none, 0⟩,
      ⟨some 12, .idx 1 (.tmp 10) (.tmp 11), none, 0⟩,
      ⟨some 13, .load false 1 (.tmp 12), none, 0⟩,
      ⟨some 14, .mv (.tmp 2), none, 0⟩,
      ⟨some 15, .bin .shl (.const (.int .i64 1)) (.tmp 14), none, 0⟩,
      ⟨some 16, .bin .or (.tmp 13) (.tmp 15), none, 0⟩,
      ⟨some 17, .idx 1 (.tmp 10) (.tmp 11), none, 0⟩,
      ⟨none, .store 1 (.tmp 17) (.tmp 16), none, 0⟩]) <|
    .dops [
      ⟨some 18, .fld 1 (.tmp 3), none, 0⟩,
      ⟨some 19, .load false 1 (.tmp 18), none, 0⟩,
      ⟨some 20, .mv (.tmp 2), none, 0⟩,
      ⟨some 21, .idx 1 (.tmp 19) (.tmp 20), none, 0⟩,
      ⟨some 22, .load false 1 (.tmp 21), none, 0⟩,
      ⟨some 23, .mv (.tmp 1), none, 0⟩,
      ⟨some 24, .bin .shl (.const (.int .i64 1)) (.tmp 23), none, 0⟩,
      ⟨some 25, .bin .or (.tmp 22) (.tmp 24), none, 0⟩,
      ⟨some 26, .idx 1 (.tmp 19) (.tmp 20), none, 0⟩,
      ⟨none, .store 1 (.tmp 26) (.tmp 25), none, 0⟩])
    (.skip)⟩

theorem e_impl_Graph_put : EntOK Try.prog (compD Try.prog) k_impl_Graph_put i_impl_Graph_put.vf :=
  ⟨Try.f74, Try.f74.body.getD .skip, Try.func74, by kernel_rfl, by kernel_rfl, by kernel_rfl, by kernel_rfl, by kernel_rfl⟩

/-- loop.example/g01331/spec.l01Cut -/
def i_spec_l01Cut : FF := ⟨39, [.cell 6 true 2],
  .seq (.ops [
    ⟨some 3, .box 2 (.tmp 0), none, 0⟩,
    ⟨some 6, .alloc [.int .i64 0, .slice none 0 0], none, 0⟩]) <|
  .seq (.ops [
    ⟨some 8, .load true 2 (.tmp 3), none, 0⟩,
    ⟨some 9, .mv (.tmp 1), none, 0⟩,
    ⟨some 10, .mv (.tmp 2), none, 0⟩,
    ⟨some 11, .call k_spec_l01Join [(.tmp 8), (.tmp 9), (.tmp 10)], none, 0⟩,
    ⟨some 7, .alloc [.int .i64 0, .slice none 0 0], none, 0⟩,
    ⟨none, .store 2 (.tmp 7) (.tmp 11), none, 0⟩]) <|
  .seq (.dops [
    ⟨some 12, .fld 1 (.tmp 7), none, 0⟩,
    ⟨some 13, .load false 1 (.tmp 12), none, 0⟩,
    ⟨some 14, .mv (.tmp 1), none, 0⟩,
    ⟨some 15, .fld 1 (.tmp 7), none, 0⟩,
    ⟨some 16, .load false 1 (.tmp 15), none, 0⟩,
    ⟨some 17, .mv (.tmp 1), none, 0⟩,
    ⟨some 18, .idx 1 (.tmp 16) (.tmp 17), none, 0⟩,
    ⟨some 19, .load false 1 (.tmp 18), none, 0⟩,
    ⟨some 20, .mv (.tmp 2), none, 0⟩,
    ⟨some 21, .conv .u64 (.tmp 20), none, 0⟩,
    ⟨some 22, .bin .shl (.const (.int .i64 1)) (.tmp 21), none, 0⟩,
    ⟨some 23, .bin .sub (.tmp 19) (.tmp 22), none, 0⟩,
    ⟨some 24, .idx 1 (.tmp 13) (.tmp 14), none, 0⟩,
    ⟨none, .store 1 (.tmp 24) (.tmp 23), none, 0⟩]) <|
  .seq (.dops [
    ⟨some 25, .fld 1 (.tmp 7), none, 0⟩,
    ⟨some 26, .load false 1 (.tmp 25), none, 0⟩,
    ⟨some 27, .mv (.tmp 2), none, 0⟩,
    ⟨some 28, .fld 1 (.tmp 7), none, 0⟩,
    ⟨some 29, .load false 1 (.tmp 28), none, 0⟩,
    ⟨some 30, .mv (.tmp 2), none, 0⟩,
    ⟨some 31, .idx 1 (.tmp 29) (.tmp 30), none, 0⟩,
    ⟨some 32, .load false 1 (.tmp 31), none, 0⟩,
    ⟨some 33, .mv (.tmp 1), none, 0⟩,
    ⟨some 34, .conv .u64 (.tmp 33), none, 0⟩,
    ⟨some 35, .bin .shl (.const (.int .i64 1)) (.tmp 34), none, 0⟩,
    ⟨some 36, .bin .sub (.tmp 32) (.tmp 35), none, 0⟩,
    ⟨some 37, .idx 1 (.tmp 26) (.tmp 27), none, 0⟩,
    ⟨none, .store 1 (.tmp 37) (.tmp 36), none, 0⟩]) <|
  .seq (.ops [
    ⟨some 38, .load true 2 (.tmp 7), none, 0⟩,
    ⟨none, .store 2 (.tmp 6) (.tmp 38), none, 0⟩]) <|
  .keep [6] <|
  .ret⟩

theorem e_spec_l01Cut : EntOK Try.prog (compD Try.prog) k_spec_l01Cut i_spec_l01Cut.vf :=
  ⟨Try.f75, Try.f75.body.getD .skip, Try.func75, by kernel_rfl, by kernel_rfl, by kernel_rfl, by kernel_rfl, by kernel_rfl⟩

/-- (loop.example/g01331/impl.Graph).take -/
def i_impl_Graph_take : FF := ⟨24, [],
  .seq (.ops [
    ⟨some 3, .box 2 (.tmp 0), none, 0⟩]) <|
  .seq (.dops [
    ⟨some 6, .fld 1 (.tmp 3), none, 0⟩,
    ⟨some 7, .load false 1 (.tmp 6), none, 0⟩,
    ⟨some 8, .mv (.tmp 1), none, 0⟩,
    ⟨some 9, .idx 1 (.tmp 7) (.tmp 8), none, 0⟩,
    ⟨some 10, .load false 1 (.tmp 9), none, 0⟩,
    ⟨some 11, .mv (.tmp 2), none, 0⟩,
    ⟨some 12, .bin .shl (.const (.int .i64 1)) (.tmp 11), none, 0⟩,
    ⟨some 13, .bin .andNot (.tmp 10) (.tmp 12), none, 0⟩,
    ⟨some 14, .idx 1 (.tmp 7) (.tmp 8), none, 0⟩,
    ⟨none, .store 1 (.tmp 14) (.tmp 13), none, 0⟩]) <|
  .dops [
    ⟨some 15, .fld 1 (.tmp 3), none, 0⟩,
    ⟨some 16, .load false 1 (.tmp 15), none, 0⟩,
    ⟨some 17, .mv (.tmp 2), none, 0⟩,
    ⟨some 18, .idx 1 (.tmp 16) (.tmp 17), none, 0⟩,
    ⟨some 19, .load false 1 (.tmp 18), none, 0⟩,
    ⟨some 20, .mv (.tmp 1), none, 0⟩,
    ⟨some 21, .bin .shl (.const (.int .i64 1)) (.tmp 20), none, 0⟩,
    ⟨some 22, .bin .andNot (.tmp 19) (.tmp 21), none, 0⟩,
    ⟨some 23, .idx 1 (.tmp 16) (.tmp 17), none, 0⟩,
    ⟨none, .store 1 (.tmp 23) (.tmp 22), none, 0⟩]⟩

theorem e_impl_Graph_take : EntOK Try.prog (compD Try.prog) k_impl_Graph_take i_impl_Graph_take.vf :=
  ⟨Try.f76, Try.f76.body.getD .skip, Try.func76, by kernel_rfl, by kernel_rfl, by kernel_rfl, by kernel_rfl, by kernel_rfl⟩

/-- loop.example/g01331/spec.l09Code -/
def i_spec_l09Code_B1 : FC :=
  .seq (.seq (.ops [
    ⟨some 4, .mv (.tmp 3), none, 0⟩,
    ⟨some 5, .mv (.tmp 0), none, 0⟩,
    ⟨some 6, .len (.tmp 5), none, 0⟩,
    ⟨some 7, .bin .lss (.tmp 4) (.tmp 6), none, 0⟩]) <|
  .cond (.tmp 7)
    (.skip)
    (.keep [] <|
    .exit 0)) <|
  .seq (.block 1 <|
  .seq (.ops [
    ⟨some 10, .mv (.tmp 0), none, 0⟩,
    ⟨some 11, .mv (.tmp 3), none, 0⟩,
    ⟨some 12, .idx 2 (.tmp 10) (.tmp 11), none, 0⟩,
    ⟨some 13, .load true 2 (.tmp 12), none, 0⟩,
    ⟨some 14, .call k_spec_l01Is [(.tmp 13)], none, 0⟩,
    ⟨some 15, .un .not (.tmp 14), none, 0⟩]) <|
  .cond (.tmp 15)
    (.seq (.ops [
      ⟨some 2, .mv (.const (.int .i64 1)), none, 0⟩]) <|
    .keep [2] <|
    .ret)
    (.skip)) <|
  .ops [
    ⟨some 8, .mv (.tmp 3), none, 0⟩,
    ⟨some 9, .bin .add (.tmp 8) (.const (.int .i64 1)), none, 0⟩,
    ⟨some 3, .mv (.tmp 9), none, 0⟩]
def i_spec_l09Code : FF := ⟨16, [.tmp 2],
  .seq (.ops [
    ⟨some 2, .mv (.const (.int .i64 0)), none, 0⟩]) <|
  .seq (.seq (.ops [
    ⟨some 3, .mv (.const (.int .i64 0)), none, 0⟩]) <|
  .block 0 <|
  .loop [0, 3] i_spec_l09Code_B1) <|
  .seq (.ops [
    ⟨some 2, .mv (.const (.int .i64 0)), none, 0⟩]) <|
  .keep [2] <|
  .ret⟩

theorem e_spec_l09Code : EntOK Try.prog (compD Try.prog) k_spec_l09Code i_spec_l09Code.vf :=
  ⟨Try.f77, Try.f77.body.getD .skip, Try.func77, by kernel_rfl, by kernel_rfl, by kernel_rfl, by kernel_rfl, by kernel_rfl⟩

/-- loop.example/g01331/spec.l09Told -/
def i_spec_l09Told : FF := ⟨6, [.tmp 2],
  .seq (.ops [
    ⟨some 2, .mv (.const (.int .i64 0)), none, 0⟩]) <|
  .seq (.seq (.ops [
    ⟨some 3, .mv (.tmp 0), none, 0⟩,
    ⟨some 4, .call k_spec_l01In [(.tmp 3), (.const (.int .i64 1)), (.const (.int .i64 62))], none, 0⟩,
    ⟨some 5, .un .not (.tmp 4), none, 0⟩]) <|
  .cond (.tmp 5)
    (.seq (.ops [
      ⟨some 2, .mv (.const (.int .i64 3)), none, 0⟩]) <|
    .keep [2] <|
    .ret)
    (.skip)) <|
  .seq (.ops [
    ⟨some 2, .mv (.const (.int .i64 0)), none, 0⟩]) <|
  .keep [2] <|
  .ret⟩

theorem e_spec_l09Told : EntOK Try.prog (compD Try.prog) k_spec_l09Told i_spec_l09Told.vf :=
  ⟨Try.f78, Try.f78.body.getD .skip, Try.func78, by kernel_rfl, by kernel_rfl, by kernel_rfl, by kernel_rfl, by kernel_rfl⟩

/-- loop.example/g01331/spec.l09Direct -/
def i_spec_l09Direct_B1 : FC :=
  .seq (.seq (.ops [
    ⟨some 26, .mv (.tmp 9), none, 0⟩,
    ⟨some 27, .mv (.tmp 7), none, 0⟩,
    ⟨some 28, .len (.tmp 27), none, 0⟩,
    ⟨some 29, .bin .lss (.tmp 26) (.tmp 28), none, 0⟩]) <|
  .cond (.tmp 29)
    (.skip)
    (.keep [3, 4, 5, 6, 7, 8] <|
    .exit 2)) <|
  .seq (.block 3 <|
  .seq (.dops [
    ⟨some 32, .load true 2 (.tmp 5), none, 0⟩,
    ⟨some 33, .mv (.tmp 6), none, 0⟩,
    ⟨some 34, .mv (.tmp 8), none, 0⟩,
    ⟨some 35, .idx 1 (.tmp 33) (.tmp 34), none, 0⟩,
    ⟨some 36, .load false 1 (.tmp 35), none, 0⟩,
    ⟨some 37, .idx 1 (.tmp 36) (.const (.int .i64 0)), none, 0⟩,
    ⟨some 38, .load false 1 (.tmp 37), none, 0⟩,
    ⟨some 39, .fld 0 (.tmp 3), none, 0⟩,
    ⟨some 40, .load false 1 (.tmp 39), none, 0⟩,
    ⟨some 41, .bin .mul (.tmp 38) (.tmp 40), none, 0⟩,
    ⟨some 42, .mv (.tmp 7), none, 0⟩,
    ⟨some 43, .mv (.tmp 9), none, 0⟩,
    ⟨some 44, .idx 1 (.tmp 42) (.tmp 43), none, 0⟩,
    ⟨some 45, .load false 1 (.tmp 44), none, 0⟩,
    ⟨some 46, .idx 1 (.tmp 45) (.const (.int .i64 0)), none, 0⟩,
    ⟨some 47, .load false 1 (.tmp 46), none, 0⟩,
    ⟨some 48, .bin .add (.tmp 41) (.tmp 47), none, 0⟩,
    ⟨some 49, .mv (.tmp 6), none, 0⟩,
    ⟨some 50, .mv (.tmp 8), none, 0⟩,
    ⟨some 51, .idx 1 (.tmp 49) (.tmp 50), none, 0⟩,
    ⟨some 52, .load false 1 (.tmp 51), none, 0⟩,
    ⟨some 53, .idx 1 (.tmp 52) (.const (.int .i64 1)), none, 0⟩,
    ⟨some 54, .load false 1 (.tmp 53), none, 0⟩,
    ⟨some 55, .fld 0 (.tmp 3), none, 0⟩,
    ⟨some 56, .load false 1 (.tmp 55), none, 0⟩,
    ⟨some 57, .bin .mul (.tmp 54) (.tmp 56), none, 0⟩,
    ⟨some 58, .mv (.tmp 7), none, 0⟩,
    ⟨some 59, .mv (.tmp 9), none, 0⟩,
    ⟨some 60, .idx 1 (.tmp 58) (.tmp 59), none, 0⟩,
    ⟨some 61, .load false 1 (.tmp 60), none, 0⟩,
    ⟨some 62, .idx 1 (.tmp 61) (.const (.int .i64 1)), none, 0⟩,
    ⟨some 63, .load false 1 (.tmp 62), none, 0⟩,
    ⟨some 64, .bin .add (.tmp 57) (.tmp 63), none, 0⟩,
    ⟨some 65, .call k_spec_l01Put [(.tmp 32), (.tmp 48), (.tmp 64)], none, 0⟩]) <|
  .dops [
    ⟨some 66, .load true 2 (.tmp 5), none, 0⟩,
    ⟨some 67, .mv (.tmp 6), none, 0⟩,
    ⟨some 68, .mv (.tmp 8), none, 0⟩,
    ⟨some 69, .idx 1 (.tmp 67) (.tmp 68), none, 0⟩,
    ⟨some 70, .load false 1 (.tmp 69), none, 0⟩,
    ⟨some 71, .idx 1 (.tmp 70) (.const (.int .i64 0)), none, 0⟩,
    ⟨some 72, .load false 1 (.tmp 71), none, 0⟩,
    ⟨some 73, .fld 0 (.tmp 3), none, 0⟩,
    ⟨some 74, .load false 1 (.tmp 73), none, 0⟩,
    ⟨some 75, .bin .mul (.tmp 72) (.tmp 74), none, 0⟩,
    ⟨some 76, .mv (.tmp 7), none, 0⟩,
    ⟨some 77, .mv (.tmp 9), none, 0⟩,
    ⟨some 78, .idx 1 (.tmp 76) (.tmp 77), none, 0⟩,
    ⟨some 79, .load false 1 (.tmp 78), none, 0⟩,
    ⟨some 80, .idx 1 (.tmp 79) (.const (.int .i64 1)), none, 0⟩,
    ⟨some 81, .load false 1 (.tmp 80), none, 0⟩,
    ⟨some 82, .bin .add (.tmp 75) (.tmp 81), none, 0⟩,
    ⟨some 83, .mv (.tmp 6), none, 0⟩,
    ⟨some 84, .mv (.tmp 8), none, 0⟩,
    ⟨some 85, .idx 1 (.tmp 83) (.tmp 84), none, 0⟩,
    ⟨some 86, .load false 1 (.tmp 85), none, 0⟩,
    ⟨some 87, .idx 1 (.tmp 86) (.const (.int .i64 1)), none, 0⟩,
    ⟨some 88, .load false 1 (.tmp 87), none, 0⟩,
    ⟨some 89, .fld 0 (.tmp 3), none, 0⟩,
    ⟨some 90, .load false 1 (.tmp 89), none, 0⟩,
    ⟨some 91, .bin .mul (.tmp 88) (.tmp 90), none, 0⟩,
    ⟨some 92, .mv (.tmp 7), none, 0⟩,
    ⟨some 93, .mv (.tmp 9), none, 0⟩,
    ⟨some 94, .idx 1 (.tmp 92) (.tmp 93), none, 0⟩,
    ⟨some 95, .load false 1 (.tmp 94), none, 0⟩,
    ⟨some 96, .idx 1 (.tmp 95) (.const (.int .i64 0)), none, 0⟩,
    ⟨some 97, .load false 1 (.tmp 96), none, 0⟩,
    ⟨some 98, .bin .add (.tmp 91) (.tmp 97), none, 0⟩,
    ⟨some 99, .call k_spec_l01Put [(.tmp 66), (.tmp 82), (.tmp 98)], none, 0⟩]) <|
  .ops [
    ⟨some 30, .mv (.tmp 9), none, 0⟩,
    ⟨some 31, .bin .add (.tmp 30) (.const (.int .i64 1)), none, 0⟩,
    ⟨some 9, .mv (.tmp 31), none, 0⟩]
def i_spec_l09Direct_B2 : FC :=
  .seq (.seq (.ops [
    ⟨some 20, .mv (.tmp 8), none, 0⟩,
    ⟨some 21, .mv (.tmp 6), none, 0⟩,
    ⟨some 22, .len (.tmp 21), none, 0⟩,
    ⟨some 23, .bin .lss (.tmp 20) (.tmp 22), none, 0⟩]) <|
  .cond (.tmp 23)
    (.skip)
    (.keep [4, 5] <|
    .exit 0)) <|
  .seq (.block 1 <|
  .seq (.ops [
    ⟨some 9, .mv (.const (.int .i64 0)), none, 0⟩]) <|
  .block 2 <|
  .loop [3, 4, 5, 6, 7, 8, 9] i_spec_l09Direct_B1) <|
  .ops [
    ⟨some 24, .mv (.tmp 8), none, 0⟩,
    ⟨some 25, .bin .add (.tmp 24) (.const (.int .i64 1)), none, 0⟩,
    ⟨some 8, .mv (.tmp 25), none, 0⟩]
def i_spec_l09Direct : FF := ⟨101, [.cell 4 true 2],
  .seq (.ops [
    ⟨some 2, .box 2 (.tmp 0), none, 0⟩,
    ⟨some 3, .box 2 (.tmp 1), none, 0⟩,
    ⟨some 4, .alloc [.int .i64 0, .slice none 0 0], none, 0⟩]) <|
  .seq (.dops [
    ⟨some 10, .fld 0 (.tmp 2), none, 0⟩,
    ⟨some 11, .load false 1 (.tmp 10), none, 0⟩,
    ⟨some 12, .fld 0 (.tmp 3), none, 0⟩,
    ⟨some 13, .load false 1 (.tmp 12), none, 0⟩,
    ⟨some 14, .bin .mul (.tmp 11) (.tmp 13), none, 0⟩,
    ⟨some 15, .call k_spec_l01Empty [(.tmp 14)], none, 0⟩,
    ⟨some 16, .load true 2 (.tmp 2), none, 1⟩,
    ⟨some 17, .call k_spec_l01Edges [(.tmp 16)], none, 0⟩,
    ⟨some 18, .load true 2 (.tmp 3), none, 2⟩,
    ⟨some 19, .call k_spec_l01Edges [(.tmp 18)], none, 0⟩,
    ⟨some 5, .alloc [.int .i64 0, .slice none 0 0], none, 3⟩,
    ⟨none, .store 2 (.tmp 5) (.tmp 15), none, 1⟩,
    ⟨some 6, .mv (.tmp 17), none, 1⟩,
    ⟨some 7, .mv (.tmp 19), none, 1⟩]) <|
  .seq (.seq (.ops [
    ⟨some 8, .mv (.const (.int .i64 0)), none, 0⟩]) <|
  .block 0 <|
  .loop [3, 4, 5, 6, 7, 8] i_spec_l09Direct_B2) <|
  .seq (.ops [
    ⟨some 100, .load true 2 (.tmp 5), none, 0⟩,
    ⟨none, .store 2 (.tmp 4) (.tmp 100), none, 0⟩]) <|
  .keep [4] <|
  .ret⟩

theorem e_spec_l09Direct : EntOK Try.prog (compD Try.prog) k_spec_l09Direct i_spec_l09Direct.vf :=
  ⟨Try.f79, Try.f79.body.getD .skip, Try.func79, by kernel_rfl, by kernel_rfl, by kernel_rfl, by kernel_rfl, by kernel_rfl⟩

/-- loop.example/g01331/impl.product -/
def i_impl_product : FF := ⟨33, [.cell 6 true 2, .tmp 7],
  .seq (.ops [
    ⟨some 3, .box 2 (.tmp 0), none, 0⟩,
    ⟨some 4, .box 2 (.tmp 1), none, 0⟩,
    ⟨some 5, .box 1 (.tmp 2), none, 0⟩,
    ⟨some 6, .alloc [.int .i64 0, .slice none 0 0], none, 0⟩,
    ⟨some 7, .mv (.const (.int .i64 0)), none, 0⟩]) <|
  .seq (.seq (.ops [
    ⟨some 10, .load true 2 (.tmp 3), none, 0⟩,
    ⟨some 11, .load true 2 (.tmp 4), none, 0⟩,
    ⟨some 12, .buildSl 2 [.int .i64 0, .slice none 0 0, .int .i64 0, .slice none 0 0] [(0, 2, (.tmp 10)), (2, 2, (.tmp 11))] 2, none, 0⟩,
    ⟨some 13, .call k_impl_areGraphs [(.tmp 12)], none, 0⟩,
    ⟨some 14, .un .not (.tmp 13), none, 0⟩]) <|
  .cond (.tmp 14)
    (.seq (.ops [
      ⟨some 15, .build [.int .i64 0, .slice none 0 0] [], none, 0⟩,
      ⟨none, .store 2 (.tmp 6) (.tmp 15), none, 0⟩,
      ⟨some 7, .mv (.const (.int .i64 1)), none, 0⟩]) <|
    .keep [6, 7] <|
    .ret)
    (.skip)) <|
  .seq (.ops [
    ⟨some 16, .fld 0 (.tmp 4), none, 0⟩,
    ⟨some 17, .load false 1 (.tmp 16), none, 0⟩,
    ⟨some 8, .alloc [.int .i64 0], none, 0⟩,
    ⟨none, .store 1 (.tmp 8) (.tmp 17), none, 0⟩]) <|
  .seq (.seq (.ops [
    ⟨some 18, .fld 0 (.tmp 3), none, 0⟩,
    ⟨some 19, .load false 1 (.tmp 18), none, 0⟩,
    ⟨some 20, .load false 1 (.tmp 8), none, 0⟩,
    ⟨some 21, .bin .mul (.tmp 19) (.tmp 20), none, 0⟩,
    ⟨some 22, .call k_impl_limitedCode [(.tmp 21)], none, 0⟩,
    ⟨some 9, .mv (.tmp 22), none, 0⟩]) <|
  .seq (.ops [
    ⟨some 23, .mv (.tmp 9), none, 0⟩,
    ⟨some 24, .bin .neq (.tmp 23) (.const (.int .i64 0)), none, 0⟩]) <|
  .cond (.tmp 24)
    (.seq (.ops [
      ⟨some 25, .build [.int .i64 0, .slice none 0 0] [], none, 0⟩,
      ⟨some 26, .mv (.tmp 9), none, 0⟩,
      ⟨none, .store 2 (.tmp 6) (.tmp 25), none, 0⟩,
      ⟨some 7, .mv (.tmp 26), none, 0⟩]) <|
    .keep [6, 7] <|
    .ret)
    (.skip)) <|
  .seq (.ops [
    ⟨some 27, .fld 0 (.tmp 3), none, 0⟩,
    ⟨some 28, .load false 1 (.tmp 27), none, 0⟩,
    ⟨some 29, .load false 1 (.tmp 8), none, 0⟩,
    ⟨some 30, .bin .mul (.tmp 28) (.tmp 29), none, 0⟩,
    ⟨some 31, .mkfn k_impl_product_1 [] [(.tmp 5), (.tmp 8)], none, 0⟩,
    ⟨some 32, .call k_impl_made [(.tmp 30), (.tmp 31)], none, 0⟩,
    ⟨none, .store 2 (.tmp 6) (.tmp 32), none, 0⟩,
    ⟨some 7, .mv (.const (.int .i64 0)), none, 0⟩]) <|
  .keep [6, 7] <|
  .ret⟩

theorem e_impl_product : EntOK Try.prog (compD Try.prog) k_impl_product i_impl_product.vf :=
  ⟨Try.f80, Try.f80.body.getD .skip, Try.func80, by kernel_rfl, by kernel_rfl, by kernel_rfl, by kernel_rfl, by kernel_rfl⟩

/-- loop.example/g01331/impl.DirectProduct$1 -/
def i_impl_DirectProduct_1 : FF := ⟨21, [.tmp 10],
  .seq (.ops [
    ⟨some 10, .mv (.const (.bool false)), none, 0⟩]) <|
  .seq (.ops [
    ⟨some 11, .load true 2 (.tmp 4), none, 0⟩,
    ⟨some 12, .mv (.tmp 0), none, 0⟩,
    ⟨some 13, .mv (.tmp 2), none, 0⟩,
    ⟨some 14, .call k_impl_Graph_has [(.tmp 11), (.tmp 12), (.tmp 13)], none, 0⟩,
    ⟨some 15, .mv (.tmp 14), none, 0⟩,
    ⟨some 16, .load true 2 (.tmp 5), some (15, true), 0⟩,
    ⟨some 17, .mv (.tmp 1), some (15, true), 0⟩,
    ⟨some 18, .mv (.tmp 3), some (15, true), 0⟩,
    ⟨some 19, .call k_impl_Graph_has [(.tmp 16), (.tmp 17), (.tmp 18)], some (15, true), 0⟩,
    ⟨some 20, .pick (.tmp 15) (.tmp 19) (.const (.bool false)), none, 0⟩,
    ⟨some 10, .mv (.tmp 20), none, 0⟩]) <|
  .keep [10] <|
  .ret⟩

theorem e_impl_DirectProduct_1 : EntOK Try.prog (compD Try.prog) k_impl_DirectProduct_1 i_impl_DirectProduct_1.vf :=
  ⟨Try.f81, Try.f81.body.getD .skip, Try.func81, by kernel_rfl, by kernel_rfl, by kernel_rfl, by kernel_rfl, by kernel_rfl⟩

/-- loop.example/g01331/spec.l09Product -/
def i_spec_l09Product_B1 : FC :=
  .seq (.seq (.ops [
    ⟨some 28, .mv (.tmp 9), none, 0⟩,
    ⟨some 29, .fld 0 (.tmp 3), none, 0⟩,
    ⟨some 30, .load false 1 (.tmp 29), none, 0⟩,
    ⟨some 31, .bin .lss (.tmp 28) (.tmp 30), none, 0⟩]) <|
  .cond (.tmp 31)
    (.skip)
    (.keep [2, 3, 4, 5, 6, 7, 8] <|
    .exit 2)) <|
  .seq (.block 3 <|
  .dops [
    ⟨some 34, .load true 2 (.tmp 5), none, 0⟩,
    ⟨some 35, .mv (.tmp 6), none, 0⟩,
    ⟨some 36, .mv (.tmp 8), none, 0⟩,
    ⟨some 37, .idx 1 (.tmp 35) (.tmp 36), none, 0⟩,
    ⟨some 38, .load false 1 (.tmp 37), none, 0⟩,
    ⟨some 39, .idx 1 (.tmp 38) (.const (.int .i64 0)), none, 0⟩,
    ⟨some 40, .load false 1 (.tmp 39), none, 0⟩,
    ⟨some 41, .fld 0 (.tmp 3), none, 0⟩,
    ⟨some 42, .load false 1 (.tmp 41), none, 0⟩,
    ⟨some 43, .bin .mul (.tmp 40) (.tmp 42), none, 0⟩,
    ⟨some 44, .mv (.tmp 9), none, 0⟩,
    ⟨some 45, .bin .add (.tmp 43) (.tmp 44), none, 0⟩,
    ⟨some 46, .mv (.tmp 6), none, 0⟩,
    ⟨some 47, .mv (.tmp 8), none, 0⟩,
    ⟨some 48, .idx 1 (.tmp 46) (.tmp 47), none, 0⟩,
    ⟨some 49, .load false 1 (.tmp 48), none, 0⟩,
    ⟨some 50, .idx 1 (.tmp 49) (.const (.int .i64 1)), none, 0⟩,
    ⟨some 51, .load false 1 (.tmp 50), none, 0⟩,
    ⟨some 52, .fld 0 (.tmp 3), none, 0⟩,
    ⟨some 53, .load false 1 (.tmp 52), none, 0⟩,
    ⟨some 54, .bin .mul (.tmp 51) (.tmp 53), none, 0⟩,
    ⟨some 55, .mv (.tmp 9), none, 0⟩,
    ⟨some 56, .bin .add (.tmp 54) (.tmp 55), none, 0⟩,
    ⟨some 57, .call k_spec_l01Put [(.tmp 34), (.tmp 45), (.tmp 56)], none, 0⟩]) <|
  .ops [
    ⟨some 32, .mv (.tmp 9), none, 0⟩,
    ⟨some 33, .bin .add (.tmp 32) (.const (.int .i64 1)), none, 0⟩,
    ⟨some 9, .mv (.tmp 33), none, 0⟩]
def i_spec_l09Product_B2 : FC :=
  .seq (.seq (.ops [
    ⟨some 22, .mv (.tmp 8), none, 0⟩,
    ⟨some 23, .mv (.tmp 6), none, 0⟩,
    ⟨some 24, .len (.tmp 23), none, 0⟩,
    ⟨some 25, .bin .lss (.tmp 22) (.tmp 24), none, 0⟩]) <|
  .cond (.tmp 25)
    (.skip)
    (.keep [2, 3, 4, 5, 7] <|
    .exit 0)) <|
  .seq (.block 1 <|
  .seq (.ops [
    ⟨some 9, .mv (.const (.int .i64 0)), none, 0⟩]) <|
  .block 2 <|
  .loop [2, 3, 4, 5, 6, 7, 8, 9] i_spec_l09Product_B1) <|
  .ops [
    ⟨some 26, .mv (.tmp 8), none, 0⟩,
    ⟨some 27, .bin .add (.tmp 26) (.const (.int .i64 1)), none, 0⟩,
    ⟨some 8, .mv (.tmp 27), none, 0⟩]
def i_spec_l09Product_B3 : FC :=
  .seq (.seq (.ops [
    ⟨some 64, .mv (.tmp 11), none, 0⟩,
    ⟨some 65, .fld 0 (.tmp 2), none, 0⟩,
    ⟨some 66, .load false 1 (.tmp 65), none, 0⟩,
    ⟨some 67, .bin .lss (.tmp 64) (.tmp 66), none, 0⟩]) <|
  .cond (.tmp 67)
    (.skip)
    (.keep [2, 3, 4, 5, 7, 10] <|
    .exit 6)) <|
  .seq (.block 7 <|
  .dops [
    ⟨some 70, .load true 2 (.tmp 5), none, 0⟩,
    ⟨some 71, .mv (.tmp 11), none, 0⟩,
    ⟨some 72, .fld 0 (.tmp 3), none, 0⟩,
    ⟨some 73, .load false 1 (.tmp 72), none, 0⟩,
    ⟨some 74, .bin .mul (.tmp 71) (.tmp 73), none, 0⟩,
    ⟨some 75, .mv (.tmp 7), none, 0⟩,
    ⟨some 76, .mv (.tmp 10), none, 0⟩,
    ⟨some 77, .idx 1 (.tmp 75) (.tmp 76), none, 0⟩,
    ⟨some 78, .load false 1 (.tmp 77), none, 0⟩,
    ⟨some 79, .idx 1 (.tmp 78) (.const (.int .i64 0)), none, 0⟩,
    ⟨some 80, .load false 1 (.tmp 79), none, 0⟩,
    ⟨some 81, .bin .add (.tmp 74) (.tmp 80), none, 0⟩,
    ⟨some 82, .mv (.tmp 11), none, 0⟩,
    ⟨some 83, .fld 0 (.tmp 3), none, 0⟩,
    ⟨some 84, .load false 1 (.tmp 83), none, 0⟩,
    ⟨some 85, .bin .mul (.tmp 82) (.tmp 84), none, 0⟩,
    ⟨some 86, .mv (.tmp 7), none, 0⟩,
    ⟨some 87, .mv (.tmp 10), none, 0⟩,
    ⟨some 88, .idx 1 (.tmp 86) (.tmp 87), none, 0⟩,
    ⟨some 89, .load false 1 (.tmp 88), none, 0⟩,
    ⟨some 90, .idx 1 (.tmp 89) (.const (.int .i64 1)), none, 0⟩,
    ⟨some 91, .load false 1 (.tmp 90), none, 0⟩,
    ⟨some 92, .bin .add (.tmp 85) (.tmp 91), none, 0⟩,
    ⟨some 93, .call k_spec_l01Put [(.tmp 70), (.tmp 81), (.tmp 92)], none, 0⟩]) <|
  .ops [
    ⟨some 68, .mv (.tmp 11), none, 0⟩,
    ⟨some 69, .bin .add (.tmp 68) (.const (.int .i64 1)), none, 0⟩,
    ⟨some 11, .mv (.tmp 69), none, 0⟩]
def i_spec_l09Product_B4 : FC :=
  .seq (.seq (.ops [
    ⟨some 58, .mv (.tmp 10), none, 0⟩,
    ⟨some 59, .mv (.tmp 7), none, 0⟩,
    ⟨some 60, .len (.tmp 59), none, 0⟩,
    ⟨some 61, .bin .lss (.tmp 58) (.tmp 60), none, 0⟩]) <|
  .cond (.tmp 61)
    (.skip)
    (.keep [4, 5] <|
    .exit 4)) <|
  .seq (.block 5 <|
  .seq (.ops [
    ⟨some 11, .mv (.const (.int .i64 0)), none, 0⟩]) <|
  .block 6 <|
  .loop [2, 3, 4, 5, 7, 10, 11] i_spec_l09Product_B3) <|
  .ops [
    ⟨some 62, .mv (.tmp 10), none, 0⟩,
    ⟨some 63, .bin .add (.tmp 62) (.const (.int .i64 1)), none, 0⟩,
    ⟨some 10, .mv (.tmp 63), none, 0⟩]
def i_spec_l09Product : FF := ⟨95, [.cell 4 true 2],
  .seq (.ops [
    ⟨some 2, .box 2 (.tmp 0), none, 0⟩,
    ⟨some 3, .box 2 (.tmp 1), none, 0⟩,
    ⟨some 4, .alloc [.int .i64 0, .slice none 0 0], none, 0⟩]) <|
  .seq (.dops [
    ⟨some 12, .fld 0 (.tmp 2), none, 0⟩,
    ⟨some 13, .load false 1 (.tmp 12), none, 0⟩,
    ⟨some 14, .fld 0 (.tmp 3), none, 0⟩,
    ⟨some 15, .load false 1 (.tmp 14), none, 0⟩,
    ⟨some 16, .bin .mul (.tmp 13) (.tmp 15), none, 0⟩,
    ⟨some 17, .call k_spec_l01Empty [(.tmp 16)], none, 0⟩,
    ⟨some 18, .load true 2 (.tmp 2), none, 1⟩,
    ⟨some 19, .call k_spec_l01Edges [(.tmp 18)], none, 0⟩,
    ⟨some 20, .load true 2 (.tmp 3), none, 2⟩,
    ⟨some 21, .call k_spec_l01Edges [(.tmp 20)], none, 0⟩,
    ⟨some 5, .alloc [.int .i64 0, .slice none 0 0], none, 3⟩,
    ⟨none, .store 2 (.tmp 5) (.tmp 17), none, 1⟩,
    ⟨some 6, .mv (.tmp 19), none, 1⟩,
    ⟨some 7, .mv (.tmp 21), none, 1⟩]) <|
  .seq (.seq (.ops [
    ⟨some 8, .mv (.const (.int .i64 0)), none, 0⟩]) <|
  .block 0 <|
  .loop [2, 3, 4, 5, 6, 7, 8] i_spec_l09Product_B2) <|
  .seq (.seq (.ops [
    ⟨some 10, .mv (.const (.int .i64 0)), none, 0⟩]) <|
  .block 4 <|
  .loop [2, 3, 4, 5, 7, 10] i_spec_l09Product_B4) <|
  .seq (.ops [
    ⟨some 94, .load true 2 (.tmp 5), none, 0⟩,
    ⟨none, .store 2 (.tmp 4) (.tmp 94), none, 0⟩]) <|
  .keep [4] <|
  .ret⟩

theorem e_spec_l09Product : EntOK Try.prog (compD Try.prog) k_spec_l09Product i_spec_l09Product.vf :=
  ⟨Try.f82, Try.f82.body.getD .skip, Try.func82, by kernel_rfl, by kernel_rfl, by kernel_rfl, by kernel_rfl, by kernel_rfl⟩

/-- loop.example/g01331/impl.ProductOf$1 -/
def i_impl_ProductOf_1 : FF := ⟨31, [.tmp 10],
  .seq (.ops [
    ⟨some 10, .mv (.const (.bool false)), none, 0⟩]) <|
  .seq (.ops [
    ⟨some 11, .mv (.tmp 0), none, 0⟩,
    ⟨some 12, .mv (.tmp 2), none, 0⟩,
    ⟨some 13, .bin .eql (.tmp 11) (.tmp 12), none, 0⟩,
    ⟨some 14, .mv (.tmp 13), none, 0⟩,
    ⟨some 15, .load true 2 (.tmp 4), some (14, true), 0⟩,
    ⟨some 16, .mv (.tmp 1), some (14, true), 0⟩,
    ⟨some 17, .mv (.tmp 3), some (14, true), 0⟩,
    ⟨some 18, .call k_impl_Graph_has [(.tmp 15), (.tmp 16), (.tmp 17)], some (14, true), 0⟩,
    ⟨some 19, .pick (.tmp 14) (.tmp 18) (.const (.bool false)), none, 0⟩,
    ⟨some 20, .mv (.tmp 19), none, 0⟩,
    ⟨some 21, .mv (.tmp 1), some (20, false), 0⟩,
    ⟨some 22, .mv (.tmp 3), some (20, false), 0⟩,
    ⟨some 23, .bin .eql (.tmp 21) (.tmp 22), some (20, false), 0⟩,
    ⟨some 24, .mv (.tmp 23), some (20, false), 0⟩,
    ⟨some 25, .load true 2 (.tmp 5), some (24, true), 0⟩,
    ⟨some 26, .mv (.tmp 0), some (24, true), 0⟩,
    ⟨some 27, .mv (.tmp 2), some (24, true), 0⟩,
    ⟨some 28, .call k_impl_Graph_has [(.tmp 25), (.tmp 26), (.tmp 27)], some (24, true), 0⟩,
    ⟨some 29, .pick (.tmp 24) (.tmp 28) (.const (.bool false)), some (20, false), 0⟩,
    ⟨some 30, .pick (.tmp 20) (.const (.bool true)) (.tmp 29), none, 0⟩,
    ⟨some 10, .mv (.tmp 30), none, 0⟩]) <|
  .keep [10] <|
  .ret⟩

theorem e_impl_ProductOf_1 : EntOK Try.prog (compD Try.prog) k_impl_ProductOf_1 i_impl_ProductOf_1.vf :=
  ⟨Try.f83, Try.f83.body.getD .skip, Try.func83, by kernel_rfl, by kernel_rfl, by kernel_rfl, by kernel_rfl, by kernel_rfl⟩

/-- loop.example/g01331/spec.l09Without -/
def i_spec_l09Without_B1 : FC :=
  .seq (.seq (.ops [
    ⟨some 8, .mv (.tmp 6), none, 0⟩,
    ⟨some 9, .fld 0 (.tmp 2), none, 0⟩,
    ⟨some 10, .load false 1 (.tmp 9), none, 0⟩,
    ⟨some 11, .bin .lss (.tmp 8) (.tmp 10), none, 0⟩]) <|
  .cond (.tmp 11)
    (.skip)
    (.keep [2, 4, 5] <|
    .exit 0)) <|
  .seq (.block 1 <|
  .seq (.ops [
    ⟨some 14, .mv (.tmp 6), none, 0⟩,
    ⟨some 15, .mv (.tmp 1), none, 0⟩,
    ⟨some 16, .bin .neq (.tmp 14) (.tmp 15), none, 0⟩]) <|
  .cond (.tmp 16)
    (.ops [
      ⟨some 17, .mv (.tmp 5), none, 0⟩,
      ⟨some 18, .mv (.tmp 6), none, 0⟩,
      ⟨some 19, .buildSl 1 [.int .i64 0] [(0, 1, (.tmp 18))] 1, none, 0⟩,
      ⟨some 20, .app 1 8 [.int .i64 0] (.tmp 17) (.tmp 19), none, 0⟩,
      ⟨some 5, .mv (.tmp 20), none, 0⟩])
    (.skip)) <|
  .ops [
    ⟨some 12, .mv (.tmp 6), none, 0⟩,
    ⟨some 13, .bin .add (.tmp 12) (.const (.int .i64 1)), none, 0⟩,
    ⟨some 6, .mv (.tmp 13), none, 0⟩]
def i_spec_l09Without : FF := ⟨24, [.cell 4 true 2],
  .seq (.ops [
    ⟨some 2, .box 2 (.tmp 0), none, 0⟩,
    ⟨some 4, .alloc [.int .i64 0, .slice none 0 0], none, 0⟩]) <|
  .seq (.ops [
    ⟨some 7, .buildSl 1 [] [] 0, none, 0⟩,
    ⟨some 5, .mv (.tmp 7), none, 0⟩]) <|
  .seq (.seq (.ops [
    ⟨some 6, .mv (.const (.int .i64 0)), none, 0⟩]) <|
  .block 0 <|
  .loop [1, 2, 4, 5, 6] i_spec_l09Without_B1) <|
  .seq (.ops [
    ⟨some 21, .load true 2 (.tmp 2), none, 0⟩,
    ⟨some 22, .mv (.tmp 5), none, 0⟩,
    ⟨some 23, .call k_spec_l01On [(.tmp 21), (.tmp 22)], none, 0⟩,
    ⟨none, .store 2 (.tmp 4) (.tmp 23), none, 0⟩]) <|
  .keep [4] <|
  .ret⟩

theorem e_spec_l09Without : EntOK Try.prog (compD Try.prog) k_spec_l09Without i_spec_l09Without.vf :=
  ⟨Try.f84, Try.f84.body.getD .skip, Try.func84, by kernel_rfl, by kernel_rfl, by kernel_rfl, by kernel_rfl, by kernel_rfl⟩

/-- (loop.example/g01331/impl.Graph).without -/
def i_impl_Graph_without : FF := ⟨12, [.cell 4 true 2],
  .seq (.ops [
    ⟨some 2, .box 2 (.tmp 0), none, 0⟩,
    ⟨some 3, .box 1 (.tmp 1), none, 0⟩,
    ⟨some 4, .alloc [.int .i64 0, .slice none 0 0], none, 0⟩]) <|
  .seq (.dops [
    ⟨some 6, .fld 0 (.tmp 2), none, 0⟩,
    ⟨some 7, .load false 1 (.tmp 6), none, 0⟩,
    ⟨some 8, .call k_impl_counting [(.tmp 7)], none, 0⟩,
    ⟨some 9, .mkfn k_impl_Graph_without_1 [] [(.tmp 3)], none, 1⟩,
    ⟨some 10, .call k_slices_DeleteFunc_int64_int64 [(.tmp 8), (.tmp 9)], none, 0⟩,
    ⟨some 5, .load true 2 (.tmp 2), none, 2⟩,
    ⟨some 11, .call k_impl_Graph_partOn [(.tmp 5), (.tmp 10)], none, 0⟩,
    ⟨none, .store 2 (.tmp 4) (.tmp 11), none, 0⟩]) <|
  .keep [4] <|
  .ret⟩

theorem e_impl_Graph_without : EntOK Try.prog (compD Try.prog) k_impl_Graph_without i_impl_Graph_without.vf :=
  ⟨Try.f85, Try.f85.body.getD .skip, Try.func85, by kernel_rfl, by kernel_rfl, by kernel_rfl, by kernel_rfl, by kernel_rfl⟩

/-- loop.example/g01331/spec.l11New -/
def i_spec_l11New : FF := ⟨16, [.cell 0 true 4],
  .seq (.ops [
    ⟨some 0, .alloc [.int .i64 0, .slice none 0 0, .int .i64 0, .slice none 0 0], none, 0⟩]) <|
  .seq (.ops [
    ⟨some 6, .call k_spec_l01Named [(.const (.string ⟨#[112, 101, 116, 101, 114, 115, 101, 110]⟩))], none, 0⟩,
    ⟨some 5, .mv (.tmp 6), none, 0⟩,
    ⟨some 7, .ext (.tmp 5) 0, none, 0⟩,
    ⟨some 8, .ext (.tmp 5) 1, none, 0⟩,
    ⟨some 1, .alloc [.int .i64 0, .slice none 0 0], none, 0⟩,
    ⟨none, .store 2 (.tmp 1) (.tmp 7), none, 0⟩,
    ⟨some 2, .mv (.tmp 8), none, 0⟩]) <|
  .seq (.ops [
    ⟨some 10, .call k_spec_KautzDigraph [(.const (.int .i64 2)), (.const (.int .i64 2))], none, 0⟩,
    ⟨some 9, .mv (.tmp 10), none, 0⟩,
    ⟨some 11, .ext (.tmp 9) 0, none, 0⟩,
    ⟨some 12, .ext (.tmp 9) 1, none, 0⟩,
    ⟨some 3, .alloc [.int .i64 0, .slice none 0 0], none, 0⟩,
    ⟨none, .store 2 (.tmp 3) (.tmp 11), none, 0⟩,
    ⟨some 4, .mv (.tmp 12), none, 0⟩]) <|
  .seq (.ops [
    ⟨some 13, .load true 2 (.tmp 1), none, 0⟩,
    ⟨some 14, .load true 2 (.tmp 3), none, 0⟩,
    ⟨some 15, .build [.int .i64 0, .slice none 0 0, .int .i64 0, .slice none 0 0] [(0, 2, (.tmp 13)), (2, 2, (.tmp 14))], none, 0⟩,
    ⟨none, .store 4 (.tmp 0) (.tmp 15), none, 0⟩]) <|
  .keep [0] <|
  .ret⟩

theorem e_spec_l11New : EntOK Try.prog (compD Try.prog) k_spec_l11New i_spec_l11New.vf :=
  ⟨Try.f86, Try.f86.body.getD .skip, Try.func86, by kernel_rfl, by kernel_rfl, by kernel_rfl, by kernel_rfl, by kernel_rfl⟩

/-- loop.example/g01331/impl.ringGraph -/
def i_impl_ringGraph_B1 : FC :=
  .seq (.ops [
    ⟨some 12, .bin .lss (.tmp 11) (.tmp 10), none, 0⟩]) <|
  .seq (.cond (.tmp 12)
    (.skip)
    (.keep [4, 5] <|
    .exit 0)) <|
  .seq (.block 1 <|
  .seq (.ops [
    ⟨some 13, .mv (.tmp 11), none, 0⟩,
    ⟨some 6, .mv (.tmp 13), none, 0⟩]) <|
  .seq (.dops [
    ⟨some 14, .load true 2 (.tmp 5), none, 0⟩,
    ⟨some 15, .mv (.tmp 6), none, 0⟩,
    ⟨some 16, .mv (.tmp 6), none, 0⟩,
    ⟨some 17, .bin .add (.tmp 16) (.const (.int .i64 1)), none, 0⟩,
    ⟨some 18, .mv (.tmp 0), none, 0⟩,
    ⟨some 19, .bin .rem (.tmp 17) (.tmp 18), none, 0⟩,
    ⟨some 20, .call k_impl_Graph_put [(.tmp 14), (.tmp 15), (.tmp 19)], none, 0⟩]) <|
  .seq (.ops [
    ⟨some 21, .load true 2 (.tmp 5), none, 0⟩,
    ⟨some 22, .mv (.tmp 6), none, 0⟩,
    ⟨some 23, .mv (.tmp 0), none, 0⟩,
    ⟨some 24, .mv (.tmp 6), none, 0⟩,
    ⟨some 25, .bin .add (.tmp 23) (.tmp 24), none, 0⟩,
    ⟨some 26, .call k_impl_Graph_put [(.tmp 21), (.tmp 22), (.tmp 25)], none, 0⟩]) <|
  .dops [
    ⟨some 27, .load true 2 (.tmp 5), none, 0⟩,
    ⟨some 28, .mv (.tmp 0), none, 0⟩,
    ⟨some 29, .mv (.tmp 6), none, 0⟩,
    ⟨some 30, .bin .add (.tmp 28) (.tmp 29), none, 0⟩,
    ⟨some 31, .mv (.tmp 0), none, 0⟩,
    ⟨some 32, .mv (.tmp 6), none, 0⟩,
    ⟨some 33, .mv (.tmp 1), none, 0⟩,
    ⟨some 34, .bin .add (.tmp 32) (.tmp 33), none, 0⟩,
    ⟨some 35, .mv (.tmp 0), none, 0⟩,
    ⟨some 36, .bin .rem (.tmp 34) (.tmp 35), none, 0⟩,
    ⟨some 37, .bin .add (.tmp 31) (.tmp 36), none, 0⟩,
    ⟨some 38, .call k_impl_Graph_put [(.tmp 27), (.tmp 30), (.tmp 37)], none, 0⟩]) <|
  .ops [
    ⟨some 39, .bin .add (.tmp 11) (.const (.int .i64 1)), none, 0⟩,
    ⟨some 11, .mv (.tmp 39), none, 0⟩]
def i_impl_ringGraph : FF := ⟨41, [.cell 4 true 2],
  .seq (.ops [
    ⟨some 4, .alloc [.int .i64 0, .slice none 0 0], none, 0⟩]) <|
  .seq (.ops [
    ⟨some 7, .mv (.tmp 0), none, 0⟩,
    ⟨some 8, .bin .mul (.const (.int .i64 2)) (.tmp 7), none, 0⟩,
    ⟨some 9, .call k_impl_empty [(.tmp 8)], none, 0⟩,
    ⟨some 5, .alloc [.int .i64 0, .slice none 0 0], none, 0⟩,
    ⟨none, .store 2 (.tmp 5) (.tmp 9), none, 0⟩]) <|
  .seq (.seq (.ops [
    ⟨some 10, .mv (.tmp 0), none, 0⟩,
    ⟨some 11, .mv (.const (.int .i64 0)), none, 0⟩]) <|
  .block 0 <|
  .loop [0, 1, 4, 5, 10, 11] i_impl_ringGraph_B1) <|
  .seq (.ops [
    ⟨some 40, .load true 2 (.tmp 5), none, 0⟩,
    ⟨none, .store 2 (.tmp 4) (.tmp 40), none, 0⟩]) <|
  .keep [4] <|
  .ret⟩

theorem e_impl_ringGraph : EntOK Try.prog (compD Try.prog) k_impl_ringGraph i_impl_ringGraph.vf :=
  ⟨Try.f87, Try.f87.body.getD .skip, Try.func87, by kernel_rfl, by kernel_rfl, by kernel_rfl, by kernel_rfl, by kernel_rfl⟩

/-- loop.example/g01331/impl.kautz -/
def i_impl_kautz : FF := ⟨13, [.cell 4 true 2],
  .seq (.ops [
    ⟨some 3, .box 1 (.tmp 1), none, 0⟩,
    ⟨some 4, .alloc [.int .i64 0, .slice none 0 0], none, 0⟩]) <|
  .seq (.ops [
    ⟨some 6, .mv (.tmp 0), none, 0⟩,
    ⟨some 7, .load false 1 (.tmp 3), none, 0⟩,
    ⟨some 8, .call k_impl_kautzWords [(.tmp 6), (.tmp 7)], none, 0⟩,
    ⟨some 5, .alloc [.slice none 0 0], none, 0⟩,
    ⟨none, .store 1 (.tmp 5) (.tmp 8), none, 0⟩]) <|
  .seq (.ops [
    ⟨some 9, .load false 1 (.tmp 5), none, 0⟩,
    ⟨some 10, .len (.tmp 9), none, 0⟩,
    ⟨some 11, .mkfn k_impl_kautz_1 [] [(.tmp 5), (.tmp 3)], none, 0⟩,
    ⟨some 12, .call k_impl_directed [(.tmp 10), (.tmp 11)], none, 0⟩,
    ⟨none, .store 2 (.tmp 4) (.tmp 12), none, 0⟩]) <|
  .keep [4] <|
  .ret⟩

theorem e_impl_kautz : EntOK Try.prog (compD Try.prog) k_impl_kautz i_impl_kautz.vf :=
  ⟨Try.f88, Try.f88.body.getD .skip, Try.func88, by kernel_rfl, by kernel_rfl, by kernel_rfl, by kernel_rfl, by kernel_rfl⟩

/-- loop.example/g01331/laws.markDigraph -/
def i_laws_markDigraph : FF := ⟨10, [.tmp 4],
  .seq (.ops [
    ⟨some 2, .box 2 (.tmp 0), none, 0⟩,
    ⟨some 4, .mv (.const (.int .i64 0)), none, 0⟩]) <|
  .seq (.ops [
    ⟨some 5, .fld 1 (.tmp 2), none, 0⟩,
    ⟨some 6, .load false 1 (.tmp 5), none, 0⟩,
    ⟨some 7, .mv (.tmp 1), none, 0⟩,
    ⟨some 8, .call k_laws_markInt64S [(.tmp 6), (.tmp 7)], none, 0⟩,
    ⟨some 1, .mv (.tmp 8), none, 0⟩]) <|
  .seq (.ops [
    ⟨some 9, .mv (.tmp 1), none, 0⟩,
    ⟨some 4, .mv (.tmp 9), none, 0⟩]) <|
  .keep [4] <|
  .ret⟩

theorem e_laws_markDigraph : EntOK Try.prog (compD Try.prog) k_laws_markDigraph i_laws_markDigraph.vf :=
  ⟨Try.f89, Try.f89.body.getD .skip, Try.func89, by kernel_rfl, by kernel_rfl, by kernel_rfl, by kernel_rfl, by kernel_rfl⟩

/-- loop.example/g01331/laws.heldDigraph -/
def i_laws_heldDigraph : FF := ⟨12, [.tmp 4],
  .seq (.ops [
    ⟨some 2, .box 2 (.tmp 0), none, 0⟩,
    ⟨some 4, .mv (.const (.int .i64 0)), none, 0⟩]) <|
  .seq (.ops [
    ⟨some 5, .fld 1 (.tmp 2), none, 0⟩,
    ⟨some 6, .load false 1 (.tmp 5), none, 0⟩,
    ⟨some 7, .mv (.tmp 1), none, 0⟩,
    ⟨some 8, .call k_laws_heldInt64S [(.tmp 6), (.tmp 7)], none, 0⟩,
    ⟨some 1, .mv (.tmp 8), none, 0⟩]) <|
  .seq (.seq (.ops [
    ⟨some 9, .mv (.tmp 1), none, 0⟩,
    ⟨some 10, .bin .lss (.tmp 9) (.const (.int .i64 0)), none, 0⟩]) <|
  .cond (.tmp 10)
    (.seq (.ops [
      ⟨some 4, .mv (.const (.int .i64 (-1))), none, 0⟩]) <|
    .keep [4] <|
    .ret)
    (.skip)) <|
  .seq (.ops [
    ⟨some 11, .mv (.tmp 1), none, 0⟩,
    ⟨some 4, .mv (.tmp 11), none, 0⟩]) <|
  .keep [4] <|
  .ret⟩

theorem e_laws_heldDigraph : EntOK Try.prog (compD Try.prog) k_laws_heldDigraph i_laws_heldDigraph.vf :=
  ⟨Try.f90, Try.f90.body.getD .skip, Try.func90, by kernel_rfl, by kernel_rfl, by kernel_rfl, by kernel_rfl, by kernel_rfl⟩

/-- loop.example/g01331/impl.empty -/
def i_impl_empty : FF := ⟨7, [.cell 2 true 2],
  .seq (.ops [
    ⟨some 2, .alloc [.int .i64 0, .slice none 0 0], none, 0⟩]) <|
  .seq (.ops [
    ⟨some 3, .mv (.tmp 0), none, 0⟩,
    ⟨some 4, .mv (.tmp 0), none, 0⟩,
    ⟨some 5, .mkSl 1 [.int .i64 0] 8 (.tmp 4) (.tmp 4), none, 0⟩,
    ⟨some 6, .build [.int .i64 0, .slice none 0 0] [(0, 1, (.tmp 3)), (1, 1, (.tmp 5))], none, 0⟩,
    ⟨none, .store 2 (.tmp 2) (.tmp 6), none, 0⟩]) <|
  .keep [2] <|
  .ret⟩

theorem e_impl_empty : EntOK Try.prog (compD Try.prog) k_impl_empty i_impl_empty.vf :=
  ⟨Try.f91, Try.f91.body.getD .skip, Try.func91, by kernel_rfl, by kernel_rfl, by kernel_rfl, by kernel_rfl, by kernel_rfl⟩

/-- slices.ContainsFunc[[]int64,int64] -/
def i_slices_ContainsFunc_int64_int64 : FF := ⟨9, [.tmp 4],
  .seq (.ops [
    ⟨some 4, .mv (.const (.bool false)), none, 0⟩]) <|
  .seq (.ops [
    ⟨some 5, .mv (.tmp 0), none, 0⟩,
    ⟨some 6, .mv (.tmp 1), none, 0⟩,
    ⟨some 7, .call k_slices_IndexFunc_int64_int64 [(.tmp 5), (.tmp 6)], none, 0⟩,
    ⟨some 8, .bin .geq (.tmp 7) (.const (.int .i64 0)), none, 0⟩,
    ⟨some 4, .mv (.tmp 8), none, 0⟩]) <|
  .keep [4] <|
  .ret⟩

theorem e_slices_ContainsFunc_int64_int64 : EntOK Try.prog (compD Try.prog) k_slices_ContainsFunc_int64_int64 i_slices_ContainsFunc_int64_int64.vf :=
  ⟨Try.f92, Try.f92.body.getD .skip, Try.func92, by kernel_rfl, by kernel_rfl, by kernel_rfl, by kernel_rfl, by kernel_rfl⟩

/-- loop.example/g01331/impl.IsDigraph$1 -/
def i_impl_IsDigraph_1 : FF := ⟨12, [.tmp 3],
  .seq (.ops [
    ⟨some 3, .mv (.const (.bool false)), none, 0⟩]) <|
  .seq (.ops [
    ⟨some 4, .mv (.tmp 0), none, 0⟩,
    ⟨some 5, .bin .lss (.tmp 4) (.const (.int .i64 0)), none, 0⟩,
    ⟨some 6, .mv (.tmp 5), none, 0⟩,
    ⟨some 7, .mv (.tmp 0), some (6, false), 0⟩,
    ⟨some 8, .load false 1 (.tmp 1), some (6, false), 0⟩,
    ⟨some 9, .bin .shl (.const (.int .i64 1)) (.tmp 8), some (6, false), 0⟩,
    ⟨some 10, .bin .geq (.tmp 7) (.tmp 9), some (6, false), 0⟩,
    ⟨some 11, .pick (.tmp 6) (.const (.bool true)) (.tmp 10), none, 0⟩,
    ⟨some 3, .mv (.tmp 11), none, 0⟩]) <|
  .keep [3] <|
  .ret⟩

theorem e_impl_IsDigraph_1 : EntOK Try.prog (compD Try.prog) k_impl_IsDigraph_1 i_impl_IsDigraph_1.vf :=
  ⟨Try.f93, Try.f93.body.getD .skip, Try.func93, by kernel_rfl, by kernel_rfl, by kernel_rfl, by kernel_rfl, by kernel_rfl⟩

/-- math/bits.OnesCount64 -/
def i_math_bits_OnesCount64 : FF := ⟨35, [.tmp 2],
  .seq (.ops [
    ⟨some 2, .mv (.const (.int .i64 0)), none, 0⟩]) <|
  .seq (.ops [
    ⟨some 3, .mv (.tmp 0), none, 0⟩,
    ⟨some 4, .bin .shr (.tmp 3) (.const (.int .u64 1)), none, 0⟩,
    ⟨some 5, .bin .and (.tmp 4) (.const (.int .u64 6148914691236517205)), none, 0⟩,
    ⟨some 6, .mv (.tmp 0), none, 0⟩,
    ⟨some 7, .bin .and (.tmp 6) (.const (.int .u64 6148914691236517205)), none, 0⟩,
    ⟨some 8, .bin .add (.tmp 5) (.tmp 7), none, 0⟩,
    ⟨some 0, .mv (.tmp 8), none, 0⟩]) <|
  .seq (.ops [
    ⟨some 9, .mv (.tmp 0), none, 0⟩,
    ⟨some 10, .bin .shr (.tmp 9) (.const (.int .u64 2)), none, 0⟩,
    ⟨some 11, .bin .and (.tmp 10) (.const (.int .u64 3689348814741910323)), none, 0⟩,
    ⟨some 12, .mv (.tmp 0), none, 0⟩,
    ⟨some 13, .bin .and (.tmp 12) (.const (.int .u64 3689348814741910323)), none, 0⟩,
    ⟨some 14, .bin .add (.tmp 11) (.tmp 13), none, 0⟩,
    ⟨some 0, .mv (.tmp 14), none, 0⟩]) <|
  .seq (.ops [
    ⟨some 15, .mv (.tmp 0), none, 0⟩,
    ⟨some 16, .bin .shr (.tmp 15) (.const (.int .u64 4)), none, 0⟩,
    ⟨some 17, .mv (.tmp 0), none, 0⟩,
    ⟨some 18, .bin .add (.tmp 16) (.tmp 17), none, 0⟩,
    ⟨some 19, .bin .and (.tmp 18) (.const (.int .u64 1085102592571150095)), none, 0⟩,
    ⟨some 0, .mv (.tmp 19), none, 0⟩]) <|
  .seq (.ops [
    ⟨some 20, .mv (.tmp 0), none, 0⟩,
    ⟨some 21, .mv (.tmp 0), none, 0⟩,
    ⟨some 22, .bin .shr (.tmp 21) (.const (.int .u64 8)), none, 0⟩,
    ⟨some 23, .bin .add (.tmp 20) (.tmp 22), none, 0⟩,
    ⟨some 0, .mv (.tmp 23), none, 0⟩]) <|
  .seq (.ops [
    ⟨some 24, .mv (.tmp 0), none, 0⟩,
    ⟨some 25, .mv (.tmp 0), none, 0⟩,
    ⟨some 26, .bin .shr (.tmp 25) (.const (.int .u64 16)), none, 0⟩,
    ⟨some 27, .bin .add (.tmp 24) (.tmp 26), none, 0⟩,
    ⟨some 0, .mv (.tmp 27), none, 0⟩]) <|
  .seq (.ops [
    ⟨some 28, .mv (.tmp 0), none, 0⟩,
    ⟨some 29, .mv (.tmp 0), none, 0⟩,
    ⟨some 30, .bin .shr (.tmp 29) (.const (.int .u64 32)), none, 0⟩,
    ⟨some 31, .bin .add (.tmp 28) (.tmp 30), none, 0⟩,
    ⟨some 0, .mv (.tmp 31), none, 0⟩]) <|
  .seq (.ops [
    ⟨some 32, .mv (.tmp 0), none, 0⟩,
    ⟨some 33, .conv .i64 (.tmp 32), none, 0⟩,
    ⟨some 34, .bin .and (.tmp 33) (.const (.int .i64 127)), none, 0⟩,
    ⟨some 2, .mv (.tmp 34), none, 0⟩]) <|
  .keep [2] <|
  .ret⟩

theorem e_math_bits_OnesCount64 : EntOK Try.prog (compD Try.prog) k_math_bits_OnesCount64 i_math_bits_OnesCount64.vf :=
  ⟨Try.f94, Try.f94.body.getD .skip, Try.func94, by kernel_rfl, by kernel_rfl, by kernel_rfl, by kernel_rfl, by kernel_rfl⟩

/-- loop.example/g01331/spec.l01Put -/
def i_spec_l01Put : FF := ⟨32, [],
  .seq (.ops [
    ⟨some 3, .box 2 (.tmp 0), none, 0⟩]) <|
  .seq (.dops [
    ⟨some 6, .fld 1 (.tmp 3), none, 0⟩,
    ⟨some 7, .load false 1 (.tmp 6), none, 0⟩,
    ⟨some 8, .mv (.tmp 1), none, 0⟩,
    ⟨some 9, .fld 1 (.tmp 3), none, 0⟩,
    ⟨some 10, .load false 1 (.tmp 9), none, 0⟩,
    ⟨some 11, .mv (.tmp 1), none, 0⟩,
    ⟨some 12, .idx 1 (.tmp 10) (.tmp 11), none, 0⟩,
    ⟨some 13, .load false 1 (.tmp 12), none, 0⟩,
    ⟨some 14, .mv (.tmp 2), none, 0⟩,
    ⟨some 15, .conv .u64 (.tmp 14), none, 0⟩,
    ⟨some 16, .bin .shl (.const (.int .i64 1)) (.tmp 15), none, 0⟩,
    ⟨some 17, .bin .or (.tmp 13) (.tmp 16), none, 0⟩,
    ⟨some 18, .idx 1 (.tmp 7) (.tmp 8), none, 0⟩,
    ⟨none, .store 1 (.tmp 18) (.tmp 17), none, 0⟩]) <|
  .dops [
    ⟨some 19, .fld 1 (.tmp 3), none, 0⟩,
    ⟨some 20, .load false 1 (.tmp 19), none, 0⟩,
    ⟨some 21, .mv (.tmp 2), none, 0⟩,
    ⟨some 22, .fld 1 (.tmp 3), none, 0⟩,
    ⟨some 23, .load false 1 (.tmp 22), none, 0⟩,
    ⟨some 24, .mv (.tmp 2), none, 0⟩,
    ⟨some 25, .idx 1 (.tmp 23) (.tmp 24), none, 0⟩,
    ⟨some 26, .load false 1 (.tmp 25), none, 0⟩,
    ⟨some 27, .mv (.tmp 1), none, 0⟩,
    ⟨some 28, .conv .u64 (.tmp 27), none, 0⟩,
    ⟨some 29, .bin .shl (.const (.int .i64 1)) (.tmp 28), none, 0⟩,
    ⟨some 30, .bin .or (.tmp 26) (.tmp 29), none, 0⟩,
    ⟨some 31, .idx 1 (.tmp 20) (.tmp 21), none, 0⟩,
    ⟨none, .store 1 (.tmp 31) (.tmp 30), none, 0⟩]⟩

theorem e_spec_l01Put : EntOK Try.prog (compD Try.prog) k_spec_l01Put i_spec_l01Put.vf :=
  ⟨Try.f95, Try.f95.body.getD .skip, Try.func95, by kernel_rfl, by kernel_rfl, by kernel_rfl, by kernel_rfl, by kernel_rfl⟩

/-- loop.example/g01331/spec.l01Copy -/
def i_spec_l01Copy : FF := ⟨9, [.cell 2 true 2],
  .seq (.ops [
    ⟨some 1, .box 2 (.tmp 0), none, 0⟩,
    ⟨some 2, .alloc [.int .i64 0, .slice none 0 0], none, 0⟩]) <|
  .seq (.dops [
    ⟨some 5, .fld 1 (.tmp 1), none, 0⟩,
    ⟨some 6, .load false 1 (.tmp 5), none, 0⟩,
    ⟨some 7, .call k_spec_l01Own [(.tmp 6)], none, 0⟩,
    ⟨some 3, .fld 0 (.tmp 1), none, 1⟩,
    ⟨some 4, .load false 1 (.tmp 3), none, 1⟩,
    ⟨some 8, .build [.int .i64 0, .slice none 0 0] [(0, 1, (.tmp 4)), (1, 1, (.tmp 7))], none, 0⟩,
    ⟨none, .store 2 (.tmp 2) (.tmp 8), none, 0⟩]) <|
  .keep [2] <|
  .ret⟩

theorem e_spec_l01Copy : EntOK Try.prog (compD Try.prog) k_spec_l01Copy i_spec_l01Copy.vf :=
  ⟨Try.f96, Try.f96.body.getD .skip, Try.func96, by kernel_rfl, by kernel_rfl, by kernel_rfl, by kernel_rfl, by kernel_rfl⟩

/-- slices.Clone[[]int64,int64] -/
def i_slices_Clone_int64_int64 : FF := ⟨8, [.tmp 2],
  .seq (.ops [
    ⟨some 2, .mv (.const (.slice none 0 0)), none, 0⟩]) <|
  .seq (.seq (.ops [
    ⟨some 3, .mv (.tmp 0), none, 0⟩,
    ⟨some 4, .eqnilS false (.tmp 3), none, 0⟩]) <|
  .cond (.tmp 4)
    (.seq (.ops [
      ⟨some 2, .mv (.const (.slice none 0 0)), none, 0⟩]) <|
    .keep [2] <|
    .ret)
    (.skip)) <|
  .seq (.ops [
    ⟨some 5, .buildSl 1 [] [] 0, none, 0⟩,
    ⟨some 6, .mv (.tmp 0), none, 0⟩,
    ⟨some 7, .app 1 8 [.int .i64 0] (.tmp 5) (.tmp 6), none, 0⟩,
    ⟨some 2, .mv (.tmp 7), none, 0⟩]) <|
  .keep [2] <|
  .ret⟩

theorem e_slices_Clone_int64_int64 : EntOK Try.prog (compD Try.prog) k_slices_Clone_int64_int64 i_slices_Clone_int64_int64.vf :=
  ⟨Try.f97, Try.f97.body.getD .skip, Try.func97, by kernel_rfl, by kernel_rfl, by kernel_rfl, by kernel_rfl, by kernel_rfl⟩

/-- loop.example/g01331/spec.l01Edges -/
def i_spec_l01Edges_B1 : FC :=
  .seq (.seq (.ops [
    ⟨some 15, .mv (.tmp 5), none, 0⟩,
    ⟨some 16, .fld 0 (.tmp 1), none, 0⟩,
    ⟨some 17, .load false 1 (.tmp 16), none, 0⟩,
    ⟨some 18, .bin .lss (.tmp 15) (.tmp 17), none, 0⟩]) <|
  .cond (.tmp 18)
    (.skip)
    (.keep [1, 3, 4] <|
    .exit 2)) <|
  .seq (.block 3 <|
  .seq (.ops [
    ⟨some 21, .load true 2 (.tmp 1), none, 0⟩,
    ⟨some 22, .mv (.tmp 4), none, 0⟩,
    ⟨some 23, .mv (.tmp 5), none, 0⟩,
    ⟨some 24, .call k_spec_l01Has [(.tmp 21), (.tmp 22), (.tmp 23)], none, 0⟩]) <|
  .cond (.tmp 24)
    (.ops [
      ⟨some 25, .mv (.tmp 3), none, 0⟩,
      ⟨some 26, .mv (.tmp 4), none, 0⟩,
      ⟨some 27, .mv (.tmp 5), none, 0⟩,
      ⟨some 28, .buildSl 1 [.int .i64 0, .int .i64 0] [(0, 1, (.tmp 26)), (1, 1, (.tmp 27))] 2, none, 0⟩,
      ⟨some 29, .buildSl 1 [.slice none 0 0] [(0, 1, (.tmp 28))] 1, none, 0⟩,
      ⟨some 30, .app 1 24 [.slice none 0 0] (.tmp 25) (.tmp 29), none, 0⟩,
      ⟨some 3, .mv (.tmp 30), none, 0⟩])
    (.skip)) <|
  .ops [
    ⟨some 19, .mv (.tmp 5), none, 0⟩,
    ⟨some 20, .bin .add (.tmp 19) (.const (.int .i64 1)), none, 0⟩,
    ⟨some 5, .mv (.tmp 20), none, 0⟩]
def i_spec_l01Edges_B2 : FC :=
  .seq (.seq (.ops [
    ⟨some 7, .mv (.tmp 4), none, 0⟩,
    ⟨some 8, .fld 0 (.tmp 1), none, 0⟩,
    ⟨some 9, .load false 1 (.tmp 8), none, 0⟩,
    ⟨some 10, .bin .lss (.tmp 7) (.tmp 9), none, 0⟩]) <|
  .cond (.tmp 10)
    (.skip)
    (.keep [3] <|
    .exit 0)) <|
  .seq (.block 1 <|
  .seq (.ops [
    ⟨some 13, .mv (.tmp 4), none, 0⟩,
    ⟨some 14, .bin .add (.tmp 13) (.const (.int .i64 1)), none, 0⟩,
    ⟨some 5, .mv (.tmp 14), none, 0⟩]) <|
  .block 2 <|
  .loop [1, 3, 4, 5] i_spec_l01Edges_B1) <|
  .ops [
    ⟨some 11, .mv (.tmp 4), none, 0⟩,
    ⟨some 12, .bin .add (.tmp 11) (.const (.int .i64 1)), none, 0⟩,
    ⟨some 4, .mv (.tmp 12), none, 0⟩]
def i_spec_l01Edges : FF := ⟨32, [.tmp 2],
  .seq (.ops [
    ⟨some 1, .box 2 (.tmp 0), none, 0⟩,
    ⟨some 2, .mv (.const (.slice none 0 0)), none, 0⟩]) <|
  .seq (.ops [
    ⟨some 6, .buildSl 1 [] [] 0, none, 0⟩,
    ⟨some 3, .mv (.tmp 6), none, 0⟩]) <|
  .seq (.seq (.ops [
    ⟨some 4, .mv (.const (.int .i64 0)), none, 0⟩]) <|
  .block 0 <|
  .loop [1, 3, 4] i_spec_l01Edges_B2) <|
  .seq (.ops [
    ⟨some 31, .mv (.tmp 3), none, 0⟩,
    ⟨some 2, .mv (.tmp 31), none, 0⟩]) <|
  .keep [2] <|
  .ret⟩

theorem e_spec_l01Edges : EntOK Try.prog (compD Try.prog) k_spec_l01Edges i_spec_l01Edges.vf :=
  ⟨Try.f98, Try.f98.body.getD .skip, Try.func98, by kernel_rfl, by kernel_rfl, by kernel_rfl, by kernel_rfl, by kernel_rfl⟩

/-- loop.example/g01331/impl.limitedCode -/
def i_impl_limitedCode : FF := ⟨9, [.tmp 2],
  .seq (.ops [
    ⟨some 2, .mv (.const (.int .i64 0)), none, 0⟩]) <|
  .seq (.seq (.ops [
    ⟨some 3, .mv (.tmp 0), none, 0⟩,
    ⟨some 4, .bin .lss (.tmp 3) (.const (.int .i64 1)), none, 0⟩,
    ⟨some 5, .mv (.tmp 4), none, 0⟩,
    ⟨some 6, .mv (.tmp 0), some (5, false), 0⟩,
    ⟨some 7, .bin .gtr (.tmp 6) (.const (.int .i64 62)), some (5, false), 0⟩,
    ⟨some 8, .pick (.tmp 5) (.const (.bool true)) (.tmp 7), none, 0⟩]) <|
  .cond (.tmp 8)
    (.seq (.ops [
      ⟨some 2, .mv (.const (.int .i64 3)), none, 0⟩]) <|
    .keep [2] <|
    .ret)
    (.skip)) <|
  .seq (.ops [
    ⟨some 2, .mv (.const (.int .i64 0)), none, 0⟩]) <|
  .keep [2] <|
  .ret⟩

theorem e_impl_limitedCode : EntOK Try.prog (compD Try.prog) k_impl_limitedCode i_impl_limitedCode.vf :=
  ⟨Try.f99, Try.f99.body.getD .skip, Try.func99, by kernel_rfl, by kernel_rfl, by kernel_rfl, by kernel_rfl, by kernel_rfl⟩

/-- loop.example/g01331/impl.product$1 -/
def i_impl_product_1 : FF := ⟨21, [.tmp 6],
  .seq (.ops [
    ⟨some 6, .mv (.const (.bool false)), none, 0⟩]) <|
  .seq (.dops [
    ⟨some 7, .load false 1 (.tmp 2), none, 0⟩,
    ⟨some 8, .mv (.tmp 0), none, 0⟩,
    ⟨some 9, .load false 1 (.tmp 3), none, 0⟩,
    ⟨some 10, .bin .quo (.tmp 8) (.tmp 9), none, 0⟩,
    ⟨some 11, .mv (.tmp 0), none, 0⟩,
    ⟨some 12, .load false 1 (.tmp 3), none, 0⟩,
    ⟨some 13, .bin .rem (.tmp 11) (.tmp 12), none, 0⟩,
    ⟨some 14, .mv (.tmp 1), none, 0⟩,
    ⟨some 15, .load false 1 (.tmp 3), none, 0⟩,
    ⟨some 16, .bin .quo (.tmp 14) (.tmp 15), none, 0⟩,
    ⟨some 17, .mv (.tmp 1), none, 0⟩,
    ⟨some 18, .load false 1 (.tmp 3), none, 0⟩,
    ⟨some 19, .bin .rem (.tmp 17) (.tmp 18), none, 0⟩,
    ⟨some 20, .callv (.tmp 7) [(.tmp 10), (.tmp 13), (.tmp 16), (.tmp 19)], none, 0⟩,
    ⟨some 6, .mv (.tmp 20), none, 0⟩]) <|
  .keep [6] <|
  .ret⟩

theorem e_impl_product_1 : EntOK Try.prog (compD Try.prog) k_impl_product_1 i_impl_product_1.vf :=
  ⟨Try.f100, Try.f100.body.getD .skip, Try.func100, by kernel_rfl, by kernel_rfl, by kernel_rfl, by kernel_rfl, by kernel_rfl⟩

/-- slices.DeleteFunc[[]int64,int64] -/
def i_slices_DeleteFunc_int64_int64_B1 : FC :=
  .seq (.seq (.ops [
    ⟨some 16, .mv (.tmp 6), none, 0⟩,
    ⟨some 17, .mv (.tmp 0), none, 0⟩,
    ⟨some 18, .len (.tmp 17), none, 0⟩,
    ⟨some 19, .bin .lss (.tmp 16) (.tmp 18), none, 0⟩]) <|
  .cond (.tmp 19)
    (.skip)
    (.keep [0, 5] <|
    .exit 0)) <|
  .seq (.block 1 <|
  .seq (.ops [
    ⟨some 22, .mv (.tmp 0), none, 0⟩,
    ⟨some 23, .mv (.tmp 6), none, 0⟩,
    ⟨some 24, .idx 1 (.tmp 22) (.tmp 23), none, 0⟩,
    ⟨some 25, .load false 1 (.tmp 24), none, 0⟩,
    ⟨some 7, .mv (.tmp 25), none, 0⟩]) <|
  .seq (.ops [
    ⟨some 26, .mv (.tmp 1), none, 0⟩,
    ⟨some 27, .mv (.tmp 7), none, 0⟩,
    ⟨some 28, .callv (.tmp 26) [(.tmp 27)], none, 0⟩,
    ⟨some 29, .un .not (.tmp 28), none, 0⟩]) <|
  .cond (.tmp 29)
    (.seq (.ops [
      ⟨some 30, .mv (.tmp 0), none, 0⟩,
      ⟨some 31, .mv (.tmp 5), none, 0⟩,
      ⟨some 32, .mv (.tmp 7), none, 0⟩,
      ⟨some 33, .idx 1 (.tmp 30) (.tmp 31), none, 0⟩,
      ⟨none, .store 1 (.tmp 33) (.tmp 32), none, 0⟩]) <|
    .ops [
      ⟨some 34, .mv (.tmp 5), none, 0⟩,
      ⟨some 35, .bin .add (.tmp 34) (.const (.int .i64 1)), none, 0⟩,
      ⟨some 5, .mv (.tmp 35), none, 0⟩])
    (.skip)) <|
  .ops [
    ⟨some 20, .mv (.tmp 6), none, 0⟩,
    ⟨some 21, .bin .add (.tmp 20) (.const (.int .i64 1)), none, 0⟩,
    ⟨some 6, .mv (.tmp 21), none, 0⟩]
def i_slices_DeleteFunc_int64_int64 : FF := ⟨42, [.tmp 4],
  .seq (.ops [
    ⟨some 4, .mv (.const (.slice none 0 0)), none, 0⟩]) <|
  .seq (.ops [
    ⟨some 8, .mv (.tmp 0), none, 0⟩,
    ⟨some 9, .mv (.tmp 1), none, 0⟩,
    ⟨some 10, .call k_slices_IndexFunc_int64_int64 [(.tmp 8), (.tmp 9)], none, 0⟩,
    ⟨some 5, .mv (.tmp 10), none, 0⟩]) <|
  .seq (.seq (.ops [
    ⟨some 11, .mv (.tmp 5), none, 0⟩,
    ⟨some 12, .bin .eql (.tmp 11) (.const (.int .i64 (-1))), none, 0⟩]) <|
  .cond (.tmp 12)
    (.seq (.ops [
      ⟨some 13, .mv (.tmp 0), none, 0⟩,
      ⟨some 4, .mv (.tmp 13), none, 0⟩]) <|
    .keep [4] <|
    .ret)
    (.skip)) <|
  .seq (.seq (.ops [
    ⟨some 14, .mv (.tmp 5), none, 0⟩,
    ⟨some 15, .bin .add (.tmp 14) (.const (.int .i64 1)), none, 0⟩,
    ⟨some 6, .mv (.tmp 15), none, 0⟩]) <|
  .block 0 <|
  .loop [0, 1, 5, 6] i_slices_DeleteFunc_int64_int64_B1) <|
  .seq (.ops [
    ⟨some 36, .mv (.tmp 0), none, 0⟩,
    ⟨some 37, .mv (.tmp 5), none, 0⟩,
    ⟨some 38, .slc 1 (.tmp 36) (some (.tmp 37)) none, none, 0⟩,
    ⟨none, .clr 1 [.int .i64 0] (.tmp 38), none, 0⟩]) <|
  .seq (.ops [
    ⟨some 39, .mv (.tmp 0), none, 0⟩,
    ⟨some 40, .mv (.tmp 5), none, 0⟩,
    ⟨some 41, .slc 1 (.tmp 39) none (some (.tmp 40)), none, 0⟩,
    ⟨some 4, .mv (.tmp 41), none, 0⟩]) <|
  .keep [4] <|
  .ret⟩

theorem e_slices_DeleteFunc_int64_int64 : EntOK Try.prog (compD Try.prog) k_slices_DeleteFunc_int64_int64 i_slices_DeleteFunc_int64_int64.vf :=
  ⟨Try.f101, Try.f101.body.getD .skip, Try.func101, by kernel_rfl, by kernel_rfl, by kernel_rfl, by kernel_rfl, by kernel_rfl⟩

/-- loop.example/g01331/impl.counting -/
def i_impl_counting_B1 : FC :=
  .seq (.ops [
    ⟨some 8, .bin .lss (.tmp 7) (.tmp 6), none, 0⟩]) <|
  .seq (.cond (.tmp 8)
    (.skip)
    (.keep [3] <|
    .exit 0)) <|
  .seq (.block 1 <|
  .seq (.ops [
    ⟨some 9, .mv (.tmp 7), none, 0⟩,
    ⟨some 4, .mv (.tmp 9), none, 0⟩]) <|
  .ops [
    ⟨some 10, .mv (.tmp 3), none, 0⟩,
    ⟨some 11, .mv (.tmp 4), none, 0⟩,
    ⟨some 12, .buildSl 1 [.int .i64 0] [(0, 1, (.tmp 11))] 1, none, 0⟩,
    ⟨some 13, .app 1 8 [.int .i64 0] (.tmp 10) (.tmp 12), none, 0⟩,
    ⟨some 3, .mv (.tmp 13), none, 0⟩]) <|
  .ops [
    ⟨some 14, .bin .add (.tmp 7) (.const (.int .i64 1)), none, 0⟩,
    ⟨some 7, .mv (.tmp 14), none, 0⟩]
def i_impl_counting : FF := ⟨16, [.tmp 2],
  .seq (.ops [
    ⟨some 2, .mv (.const (.slice none 0 0)), none, 0⟩]) <|
  .seq (.ops [
    ⟨some 5, .buildSl 1 [] [] 0, none, 0⟩,
    ⟨some 3, .mv (.tmp 5), none, 0⟩]) <|
  .seq (.seq (.ops [
    ⟨some 6, .mv (.tmp 0), none, 0⟩,
    ⟨some 7, .mv (.const (.int .i64 0)), none, 0⟩]) <|
  .block 0 <|
  .loop [3, 6, 7] i_impl_counting_B1) <|
  .seq (.ops [
    ⟨some 15, .mv (.tmp 3), none, 0⟩,
    ⟨some 2, .mv (.tmp 15), none, 0⟩]) <|
  .keep [2] <|
  .ret⟩

theorem e_impl_counting : EntOK Try.prog (compD Try.prog) k_impl_counting i_impl_counting.vf :=
  ⟨Try.f102, Try.f102.body.getD .skip, Try.func102, by kernel_rfl, by kernel_rfl, by kernel_rfl, by kernel_rfl, by kernel_rfl⟩

/-- (loop.example/g01331/impl.Graph).without$1 -/
def i_impl_Graph_without_1 : FF := ⟨7, [.tmp 3],
  .seq (.ops [
    ⟨some 3, .mv (.const (.bool false)), none, 0⟩]) <|
  .seq (.ops [
    ⟨some 4, .mv (.tmp 0), none, 0⟩,
    ⟨some 5, .load false 1 (.tmp 1), none, 0⟩,
    ⟨some 6, .bin .eql (.tmp 4) (.tmp 5), none, 0⟩,
    ⟨some 3, .mv (.tmp 6), none, 0⟩]) <|
  .keep [3] <|
  .ret⟩

theorem e_impl_Graph_without_1 : EntOK Try.prog (compD Try.prog) k_impl_Graph_without_1 i_impl_Graph_without_1.vf :=
  ⟨Try.f103, Try.f103.body.getD .skip, Try.func103, by kernel_rfl, by kernel_rfl, by kernel_rfl, by kernel_rfl, by kernel_rfl⟩

/-- loop.example/g01331/spec.l01Named -/
def i_spec_l01Named_B1 : FC :=
  .seq (.seq (.ops [
    ⟨some 46, .mv (.tmp 7), none, 0⟩,
    ⟨some 47, .mv (.tmp 4), none, 0⟩,
    ⟨some 48, .bin .lss (.tmp 46) (.tmp 47), none, 0⟩]) <|
  .cond (.tmp 48)
    (.skip)
    (.keep [2, 4, 5, 6] <|
    .exit 3)) <|
  .seq (.block 4 <|
  .ops [
    ⟨some 51, .load true 2 (.tmp 5), none, 0⟩,
    ⟨some 52, .mv (.tmp 6), none, 0⟩,
    ⟨some 53, .mv (.tmp 6), none, 0⟩,
    ⟨some 54, .mv (.tmp 7), none, 0⟩,
    ⟨some 55, .bin .xor (.tmp 53) (.tmp 54), none, 0⟩,
    ⟨some 56, .call k_spec_l01Put [(.tmp 51), (.tmp 52), (.tmp 55)], none, 0⟩]) <|
  .ops [
    ⟨some 49, .mv (.tmp 7), none, 0⟩,
    ⟨some 50, .bin .mul (.const (.int .i64 2)) (.tmp 49), none, 0⟩,
    ⟨some 7, .mv (.tmp 50), none, 0⟩]
def i_spec_l01Named_B2 : FC :=
  .seq (.seq (.ops [
    ⟨some 41, .mv (.tmp 6), none, 0⟩,
    ⟨some 42, .mv (.tmp 4), none, 0⟩,
    ⟨some 43, .bin .lss (.tmp 41) (.tmp 42), none, 0⟩]) <|
  .cond (.tmp 43)
    (.skip)
    (.keep [2, 5] <|
    .exit 1)) <|
  .seq (.block 2 <|
  .seq (.seq (.ops [
    ⟨some 7, .mv (.const (.int .i64 1)), none, 0⟩]) <|
  .block 3 <|
  .loop [2, 4, 5, 6, 7] i_spec_l01Named_B1) <|
  .seq (.ops [
    ⟨some 57, .mv (.tmp 4), none, 0⟩,
    ⟨some 58, .bin .eql (.tmp 57) (.const (.int .i64 16)), none, 0⟩]) <|
  .cond (.tmp 58)
    (.ops [
      ⟨some 59, .load true 2 (.tmp 5), none, 0⟩,
      ⟨some 60, .mv (.tmp 6), none, 0⟩,
      ⟨some 61, .mv (.tmp 6), none, 0⟩,
      ⟨some 62, .bin .sub (.const (.int .i64 15)) (.tmp 61), none, 0⟩,
      ⟨some 63, .call k_spec_l01Put [(.tmp 59), (.tmp 60), (.tmp 62)], none, 0⟩])
    (.skip)) <|
  .ops [
    ⟨some 44, .mv (.tmp 6), none, 0⟩,
    ⟨some 45, .bin .add (.tmp 44) (.const (.int .i64 1)), none, 0⟩,
    ⟨some 6, .mv (.tmp 45), none, 0⟩]
def i_spec_l01Named_B3 : FC :=
  .seq (.seq (.ops [
    ⟨some 68, .mv (.tmp 9), none, 0⟩,
    ⟨some 69, .bin .lss (.tmp 68) (.const (.int .i64 5)), none, 0⟩]) <|
  .cond (.tmp 69)
    (.skip)
    (.keep [2, 8] <|
    .exit 5)) <|
  .seq (.block 6 <|
  .seq (.ops [
    ⟨some 72, .load true 2 (.tmp 8), none, 0⟩,
    ⟨some 73, .mv (.tmp 9), none, 0⟩,
    ⟨some 74, .mv (.tmp 9), none, 0⟩,
    ⟨some 75, .bin .add (.tmp 74) (.const (.int .i64 1)), none, 0⟩,
    ⟨some 76, .bin .rem (.tmp 75) (.const (.int .i64 5)), none, 0⟩,
    ⟨some 77, .call k_spec_l01Put [(.tmp 72), (.tmp 73), (.tmp 76)], none, 0⟩]) <|
  .seq (.ops [
    ⟨some 78, .load true 2 (.tmp 8), none, 0⟩,
    ⟨some 79, .mv (.tmp 9), none, 0⟩,
    ⟨some 80, .mv (.tmp 9), none, 0⟩,
    ⟨some 81, .bin .add (.tmp 80) (.const (.int .i64 5)), none, 0⟩,
    ⟨some 82, .call k_spec_l01Put [(.tmp 78), (.tmp 79), (.tmp 81)], none, 0⟩]) <|
  .ops [
    ⟨some 83, .load true 2 (.tmp 8), none, 0⟩,
    ⟨some 84, .mv (.tmp 9), none, 0⟩,
    ⟨some 85, .bin .add (.tmp 84) (.const (.int .i64 5)), none, 0⟩,
    ⟨some 86, .mv (.tmp 9), none, 0⟩,
    ⟨some 87, .bin .add (.tmp 86) (.const (.int .i64 2)), none, 0⟩,
    ⟨some 88, .bin .rem (.tmp 87) (.const (.int .i64 5)), none, 0⟩,
    ⟨some 89, .bin .add (.tmp 88) (.const (.int .i64 5)), none, 0⟩,
    ⟨some 90, .call k_spec_l01Put [(.tmp 83), (.tmp 85), (.tmp 89)], none, 0⟩]) <|
  .ops [
    ⟨some 70, .mv (.tmp 9), none, 0⟩,
    ⟨some 71, .bin .add (.tmp 70) (.const (.int .i64 1)), none, 0⟩,
    ⟨some 9, .mv (.tmp 71), none, 0⟩]
def i_spec_l01Named_B4 : FC :=
  .seq (.seq (.ops [
    ⟨some 95, .mv (.tmp 11), none, 0⟩,
    ⟨some 96, .bin .lss (.tmp 95) (.const (.int .i64 5)), none, 0⟩]) <|
  .cond (.tmp 96)
    (.skip)
    (.keep [2, 10] <|
    .exit 7)) <|
  .seq (.block 8 <|
  .seq (.ops [
    ⟨some 99, .mv (.tmp 11), none, 0⟩,
    ⟨some 100, .bin .add (.tmp 99) (.const (.int .i64 1)), none, 0⟩,
    ⟨some 101, .bin .rem (.tmp 100) (.const (.int .i64 5)), none, 0⟩,
    ⟨some 12, .mv (.tmp 101), none, 0⟩]) <|
  .seq (.ops [
    ⟨some 102, .load true 2 (.tmp 10), none, 0⟩,
    ⟨some 103, .mv (.tmp 11), none, 0⟩,
    ⟨some 104, .bin .add (.const (.int .i64 1)) (.tmp 103), none, 0⟩,
    ⟨some 105, .call k_spec_l01Put [(.tmp 102), (.const (.int .i64 0)), (.tmp 104)], none, 0⟩]) <|
  .seq (.ops [
    ⟨some 106, .load true 2 (.tmp 10), none, 0⟩,
    ⟨some 107, .mv (.tmp 11), none, 0⟩,
    ⟨some 108, .bin .add (.const (.int .i64 6)) (.tmp 107), none, 0⟩,
    ⟨some 109, .call k_spec_l01Put [(.tmp 106), (.const (.int .i64 11)), (.tmp 108)], none, 0⟩]) <|
  .seq (.ops [
    ⟨some 110, .load true 2 (.tmp 10), none, 0⟩,
    ⟨some 111, .mv (.tmp 11), none, 0⟩,
    ⟨some 112, .bin .add (.const (.int .i64 1)) (.tmp 111), none, 0⟩,
    ⟨some 113, .mv (.tmp 12), none, 0⟩,
    ⟨some 114, .bin .add (.const (.int .i64 1)) (.tmp 113), none, 0⟩,
    ⟨some 115, .call k_spec_l01Put [(.tmp 110), (.tmp 112), (.tmp 114)], none, 0⟩]) <|
  .seq (.ops [
    ⟨some 116, .load true 2 (.tmp 10), none, 0⟩,
    ⟨some 117, .mv (.tmp 11), none, 0⟩,
    ⟨some 118, .bin .add (.const (.int .i64 6)) (.tmp 117), none, 0⟩,
    ⟨some 119, .mv (.tmp 12), none, 0⟩,
    ⟨some 120, .bin .add (.const (.int .i64 6)) (.tmp 119), none, 0⟩,
    ⟨some 121, .call k_spec_l01Put [(.tmp 116), (.tmp 118), (.tmp 120)], none, 0⟩]) <|
  .seq (.ops [
    ⟨some 122, .load true 2 (.tmp 10), none, 0⟩,
    ⟨some 123, .mv (.tmp 11), none, 0⟩,
    ⟨some 124, .bin .add (.const (.int .i64 1)) (.tmp 123), none, 0⟩,
    ⟨some 125, .mv (.tmp 11), none, 0⟩,
    ⟨some 126, .bin .add (.const (.int .i64 6)) (.tmp 125), none, 0⟩,
    ⟨some 127, .call k_spec_l01Put [(.tmp 122), (.tmp 124), (.tmp 126)], none, 0⟩]) <|
  .ops [
    ⟨some 128, .load true 2 (.tmp 10), none, 0⟩,
    ⟨some 129, .mv (.tmp 11), none, 0⟩,
    ⟨some 130, .bin .add (.const (.int .i64 1)) (.tmp 129), none, 0⟩,
    ⟨some 131, .mv (.tmp 12), none, 0⟩,
    ⟨some 132, .bin .add (.const (.int .i64 6)) (.tmp 131), none, 0⟩,
    ⟨some 133, .call k_spec_l01Put [(.tmp 128), (.tmp 130), (.tmp 132)], none, 0⟩]) <|
  .ops [
    ⟨some 97, .mv (.tmp 11), none, 0⟩,
    ⟨some 98, .bin .add (.tmp 97) (.const (.int .i64 1)), none, 0⟩,
    ⟨some 11, .mv (.tmp 98), none, 0⟩]
def i_spec_l01Named_B5 : FC :=
  .seq (.seq (.ops [
    ⟨some 172, .mv (.tmp 16), none, 0⟩,
    ⟨some 173, .bin .lss (.tmp 172) (.const (.int .i64 5)), none, 0⟩]) <|
  .cond (.tmp 173)
    (.skip)
    (.keep [2, 13, 14, 15] <|
    .exit 13)) <|
  .seq (.block 14 <|
  .ops [
    ⟨some 176, .load true 2 (.tmp 13), none, 0⟩,
    ⟨some 177, .mv (.tmp 14), none, 0⟩,
    ⟨some 178, .bin .mul (.const (.int .i64 5)) (.tmp 177), none, 0⟩,
    ⟨some 179, .mv (.tmp 15), none, 0⟩,
    ⟨some 180, .bin .add (.tmp 178) (.tmp 179), none, 0⟩,
    ⟨some 181, .mv (.tmp 16), none, 0⟩,
    ⟨some 182, .bin .mul (.const (.int .i64 5)) (.tmp 181), none, 0⟩,
    ⟨some 183, .bin .add (.const (.int .i64 25)) (.tmp 182), none, 0⟩,
    ⟨some 184, .mv (.tmp 14), none, 0⟩,
    ⟨some 185, .mv (.tmp 16), none, 0⟩,
    ⟨some 186, .bin .mul (.tmp 184) (.tmp 185), none, 0⟩,
    ⟨some 187, .mv (.tmp 15), none, 0⟩,
    ⟨some 188, .bin .add (.tmp 186) (.tmp 187), none, 0⟩,
    ⟨some 189, .bin .rem (.tmp 188) (.const (.int .i64 5)), none, 0⟩,
    ⟨some 190, .bin .add (.tmp 183) (.tmp 189), none, 0⟩,
    ⟨some 191, .call k_spec_l01Put [(.tmp 176), (.tmp 180), (.tmp 190)], none, 0⟩]) <|
  .ops [
    ⟨some 174, .mv (.tmp 16), none, 0⟩,
    ⟨some 175, .bin .add (.tmp 174) (.const (.int .i64 1)), none, 0⟩,
    ⟨some 16, .mv (.tmp 175), none, 0⟩]
def i_spec_l01Named_B6 : FC :=
  .seq (.seq (.ops [
    ⟨some 142, .mv (.tmp 15), none, 0⟩,
    ⟨some 143, .bin .lss (.tmp 142) (.const (.int .i64 5)), none, 0⟩]) <|
  .cond (.tmp 143)
    (.skip)
    (.keep [2, 13, 14] <|
    .exit 11)) <|
  .seq (.block 12 <|
  .seq (.ops [
    ⟨some 146, .load true 2 (.tmp 13), none, 0⟩,
    ⟨some 147, .mv (.tmp 14), none, 0⟩,
    ⟨some 148, .bin .mul (.const (.int .i64 5)) (.tmp 147), none, 0⟩,
    ⟨some 149, .mv (.tmp 15), none, 0⟩,
    ⟨some 150, .bin .add (.tmp 148) (.tmp 149), none, 0⟩,
    ⟨some 151, .mv (.tmp 14), none, 0⟩,
    ⟨some 152, .bin .mul (.const (.int .i64 5)) (.tmp 151), none, 0⟩,
    ⟨some 153, .mv (.tmp 15), none, 0⟩,
    ⟨some 154, .bin .add (.tmp 153) (.const (.int .i64 1)), none, 0⟩,
    ⟨some 155, .bin .rem (.tmp 154) (.const (.int .i64 5)), none, 0⟩,
    ⟨some 156, .bin .add (.tmp 152) (.tmp 155), none, 0⟩,
    ⟨some 157, .call k_spec_l01Put [(.tmp 146), (.tmp 150), (.tmp 156)], none, 0⟩]) <|
  .seq (.ops [
    ⟨some 158, .load true 2 (.tmp 13), none, 0⟩,
    ⟨some 159, .mv (.tmp 14), none, 0⟩,
    ⟨some 160, .bin .mul (.const (.int .i64 5)) (.tmp 159), none, 0⟩,
    ⟨some 161, .bin .add (.const (.int .i64 25)) (.tmp 160), none, 0⟩,
    ⟨some 162, .mv (.tmp 15), none, 0⟩,
    ⟨some 163, .bin .add (.tmp 161) (.tmp 162), none, 0⟩,
    ⟨some 164, .mv (.tmp 14), none, 0⟩,
    ⟨some 165, .bin .mul (.const (.int .i64 5)) (.tmp 164), none, 0⟩,
    ⟨some 166, .bin .add (.const (.int .i64 25)) (.tmp 165), none, 0⟩,
    ⟨some 167, .mv (.tmp 15), none, 0⟩,
    ⟨some 168, .bin .add (.tmp 167) (.const (.int .i64 2)), none, 0⟩,
    ⟨some 169, .bin .rem (.tmp 168) (.const (.int .i64 5)), none, 0⟩,
    ⟨some 170, .bin .add (.tmp 166) (.tmp 169), none, 0⟩,
    ⟨some 171, .call k_spec_l01Put [(.tmp 158), (.tmp 163), (.tmp 170)], none, 0⟩]) <|
  .seq (.ops [
    ⟨some 16, .mv (.const (.int .i64 0)), none, 0⟩]) <|
  .block 13 <|
  .loop [2, 13, 14, 15, 16] i_spec_l01Named_B5) <|
  .ops [
    ⟨some 144, .mv (.tmp 15), none, 0⟩,
    ⟨some 145, .bin .add (.tmp 144) (.const (.int .i64 1)), none, 0⟩,
    ⟨some 15, .mv (.tmp 145), none, 0⟩]
def i_spec_l01Named_B7 : FC :=
  .seq (.seq (.ops [
    ⟨some 138, .mv (.tmp 14), none, 0⟩,
    ⟨some 139, .bin .lss (.tmp 138) (.const (.int .i64 5)), none, 0⟩]) <|
  .cond (.tmp 139)
    (.skip)
    (.keep [2, 13] <|
    .exit 9)) <|
  .seq (.block 10 <|
  .seq (.ops [
    ⟨some 15, .mv (.const (.int .i64 0)), none, 0⟩]) <|
  .block 11 <|
  .loop [2, 13, 14, 15] i_spec_l01Named_B6) <|
  .ops [
    ⟨some 140, .mv (.tmp 14), none, 0⟩,
    ⟨some 141, .bin .add (.tmp 140) (.const (.int .i64 1)), none, 0⟩,
    ⟨some 14, .mv (.tmp 141), none, 0⟩]
def i_spec_l01Named : FF := ⟨222, [.cell 2 true 2, .tmp 3],
  .seq (.ops [
    ⟨some 2, .alloc [.int .i64 0, .slice none 0 0], none, 0⟩,
    ⟨some 3, .mv (.const (.bool false)), none, 0⟩]) <|
  .seq (.seq (.ops [
    ⟨some 17, .mv (.tmp 0), none, 0⟩]) <|
  .block 0 <|
  .seq (.ops [
    ⟨some 19, .bin .eql (.tmp 17) (.const (.string ⟨#[107, 52]⟩)), none, 0⟩,
    ⟨some 18, .mv (.tmp 19), none, 0⟩]) <|
  .cond (.tmp 18)
    (.seq (.ops [
      ⟨some 20, .call k_spec_l01Empty [(.const (.int .i64 4))], none, 0⟩,
      ⟨some 21, .call k_spec_l01Complement [(.tmp 20)], none, 0⟩,
      ⟨none, .store 2 (.tmp 2) (.tmp 21), none, 0⟩,
      ⟨some 3, .mv (.const (.bool true)), none, 0⟩]) <|
    .keep [2, 3] <|
    .ret)
    (.seq (.ops [
      ⟨some 23, .bin .eql (.tmp 17) (.const (.string ⟨#[107, 53]⟩)), none, 0⟩,
      ⟨some 22, .mv (.tmp 23), none, 0⟩]) <|
    .cond (.tmp 22)
      (.seq (.ops [
        ⟨some 24, .call k_spec_l01Empty [(.const (.int .i64 5))], none, 0⟩,
        ⟨some 25, .call k_spec_l01Complement [(.tmp 24)], none, 0⟩,
        ⟨none, .store 2 (.tmp 2) (.tmp 25), none, 0⟩,
        ⟨some 3, .mv (.const (.bool true)), none, 0⟩]) <|
      .keep [2, 3] <|
      .ret)
      (.seq (.ops [
        ⟨some 27, .bin .eql (.tmp 17) (.const (.string ⟨#[107, 51, 51]⟩)), none, 0⟩,
        ⟨some 26, .mv (.tmp 27), none, 0⟩]) <|
      .cond (.tmp 26)
        (.seq (.ops [
          ⟨some 28, .call k_spec_l01Empty [(.const (.int .i64 3))], none, 0⟩,
          ⟨some 29, .call k_spec_l01Complement [(.tmp 28)], none, 0⟩,
          ⟨some 30, .call k_spec_l01Empty [(.const (.int .i64 3))], none, 0⟩,
          ⟨some 31, .call k_spec_l01Complement [(.tmp 30)], none, 0⟩,
          ⟨some 32, .call k_spec_l01Beside [(.tmp 29), (.tmp 31)], none, 0⟩,
          ⟨some 33, .call k_spec_l01Complement [(.tmp 32)], none, 0⟩,
          ⟨none, .store 2 (.tmp 2) (.tmp 33), none, 0⟩,
          ⟨some 3, .mv (.const (.bool true)), none, 0⟩]) <|
        .keep [2, 3] <|
        .ret)
        (.seq (.seq (.ops [
          ⟨some 35, .bin .eql (.tmp 17) (.const (.string ⟨#[99, 117, 98, 101]⟩)), none, 0⟩,
          ⟨some 34, .mv (.tmp 35), none, 0⟩]) <|
        .cond (.tmp 34)
          (.skip)
          (.ops [
            ⟨some 36, .bin .eql (.tmp 17) (.const (.string ⟨#[99, 108, 101, 98, 115, 99, 104]⟩)), none, 0⟩,
            ⟨some 34, .mv (.tmp 36), none, 0⟩])) <|
        .cond (.tmp 34)
          (.seq (.ops [
            ⟨some 4, .mv (.const (.int .i64 8)), none, 0⟩]) <|
          .seq (.seq (.ops [
            ⟨some 37, .mv (.tmp 0), none, 0⟩,
            ⟨some 38, .bin .eql (.tmp 37) (.const (.string ⟨#[99, 108, 101, 98, 115, 99, 104]⟩)), none, 0⟩]) <|
          .cond (.tmp 38)
            (.ops [
              ⟨some 4, .mv (.const (.int .i64 16)), none, 0⟩])
            (.skip)) <|
          .seq (.ops [
            ⟨some 39, .mv (.tmp 4), none, 0⟩,
            ⟨some 40, .call k_spec_l01Empty [(.tmp 39)], none, 0⟩,
            ⟨some 5, .alloc [.int .i64 0, .slice none 0 0], none, 0⟩,
            ⟨none, .store 2 (.tmp 5) (.tmp 40), none, 0⟩]) <|
          .seq (.seq (.ops [
            ⟨some 6, .mv (.const (.int .i64 0)), none, 0⟩]) <|
          .block 1 <|
          .loop [2, 4, 5, 6] i_spec_l01Named_B2) <|
          .seq (.ops [
            ⟨some 64, .load true 2 (.tmp 5), none, 0⟩,
            ⟨none, .store 2 (.tmp 2) (.tmp 64), none, 0⟩,
            ⟨some 3, .mv (.const (.bool true)), none, 0⟩]) <|
          .keep [2, 3] <|
          .ret)
          (.seq (.ops [
            ⟨some 66, .bin .eql (.tmp 17) (.const (.string ⟨#[112, 101, 116, 101, 114, 115, 101, 110]⟩)), none, 0⟩,
            ⟨some 65, .mv (.tmp 66), none, 0⟩]) <|
          .cond (.tmp 65)
            (.seq (.ops [
              ⟨some 67, .call k_spec_l01Empty [(.const (.int .i64 10))], none, 0⟩,
              ⟨some 8, .alloc [.int .i64 0, .slice none 0 0], none, 0⟩,
              ⟨none, .store 2 (.tmp 8) (.tmp 67), none, 0⟩]) <|
            .seq (.seq (.ops [
              ⟨some 9, .mv (.const (.int .i64 0)), none, 0⟩]) <|
            .block 5 <|
            .loop [2, 8, 9] i_spec_l01Named_B3) <|
            .seq (.ops [
              ⟨some 91, .load true 2 (.tmp 8), none, 0⟩,
              ⟨none, .store 2 (.tmp 2) (.tmp 91), none, 0⟩,
              ⟨some 3, .mv (.const (.bool true)), none, 0⟩]) <|
            .keep [2, 3] <|
            .ret)
            (.seq (.ops [
              ⟨some 93, .bin .eql (.tmp 17) (.const (.string ⟨#[105, 99, 111, 115, 97, 104, 101, 100, 114, 111, 110]⟩)), none, 0⟩,
              ⟨some 92, .mv (.tmp 93), none, 0⟩]) <|
            .cond (.tmp 92)
              (.seq (.ops [
                ⟨some 94, .call k_spec_l01Empty [(.const (.int .i64 12))], none, 0⟩,
                ⟨some 10, .alloc [.int .i64 0, .slice none 0 0], none, 0⟩,
                ⟨none, .store 2 (.tmp 10) (.tmp 94), none, 0⟩]) <|
              .seq (.seq (.ops [
                ⟨some 11, .mv (.const (.int .i64 0)), none, 0⟩]) <|
              .block 7 <|
              .loop [2, 10, 11] i_spec_l01Named_B4) <|
              .seq (.ops [
                ⟨some 134, .load true 2 (.tmp 10), none, 0⟩,
                ⟨none, .store 2 (.tmp 2) (.tmp 134), none, 0⟩,
                ⟨some 3, .mv (.const (.bool true)), none, 0⟩]) <|
              .keep [2, 3] <|
              .ret)
              (.seq (.ops [
                ⟨some 136, .bin .eql (.tmp 17) (.const (.string ⟨#[104, 111, 102, 102, 109, 97, 110, 115, 105, 110, 103, 108, 101, 116, 111, 110]⟩)), none, 0⟩,
                ⟨some 135, .mv (.tmp 136), none, 0⟩]) <|
              .cond (.tmp 135)
                (.seq (.ops [
                  ⟨some 137, .call k_spec_l01Empty [(.const (.int .i64 50))], none, 0⟩,
                  ⟨some 13, .alloc [.int .i64 0, .slice none 0 0], none, 0⟩,
                  ⟨none, .store 2 (.tmp 13) (.tmp 137), none, 0⟩]) <|
                .seq (.seq (.ops [
                  ⟨some 14, .mv (.const (.int .i64 0)), none, 0⟩]) <|
                .block 9 <|
                .loop [2, 13, 14] i_spec_l01Named_B7) <|
                .seq (.ops [
                  ⟨some 192, .load true 2 (.tmp 13), none, 0⟩,
                  ⟨none, .store 2 (.tmp 2) (.tmp 192), none, 0⟩,
                  ⟨some 3, .mv (.const (.bool true)), none, 0⟩]) <|
                .keep [2, 3] <|
                .ret)
                (.seq (.ops [
                  ⟨some 194, .bin .eql (.tmp 17) (.const (.string ⟨#[104, 101, 97, 119, 111, 111, 100]⟩)), none, 0⟩,
                  ⟨some 193, .mv (.tmp 194), none, 0⟩]) <|
                .cond (.tmp 193)
                  (.seq (.ops [
                    ⟨some 195, .buildSl 1 [.int .i64 0, .int .i64 0] [(0, 1, (.const (.int .i64 5))), (1, 1, (.const (.int .i64 9)))] 2, none, 0⟩,
                    ⟨some 196, .call k_spec_l01Jumps [(.const (.int .i64 14)), (.tmp 195)], none, 0⟩,
                    ⟨none, .store 2 (.tmp 2) (.tmp 196), none, 0⟩,
                    ⟨some 3, .mv (.const (.bool true)), none, 0⟩]) <|
                  .keep [2, 3] <|
                  .ret)
                  (.seq (.ops [
                    ⟨some 198, .bin .eql (.tmp 17) (.const (.string ⟨#[109, 111, 101, 98, 105, 117, 115, 107, 97, 110, 116, 111, 114]⟩)), none, 0⟩,
                    ⟨some 197, .mv (.tmp 198), none, 0⟩]) <|
                  .cond (.tmp 197)
                    (.seq (.ops [
                      ⟨some 199, .buildSl 1 [.int .i64 0, .int .i64 0] [(0, 1, (.const (.int .i64 5))), (1, 1, (.const (.int .i64 11)))] 2, none, 0⟩,
                      ⟨some 200, .call k_spec_l01Jumps [(.const (.int .i64 16)), (.tmp 199)], none, 0⟩,
                      ⟨none, .store 2 (.tmp 2) (.tmp 200), none, 0⟩,
                      ⟨some 3, .mv (.const (.bool true)), none, 0⟩]) <|
                    .keep [2, 3] <|
                    .ret)
                    (.seq (.ops [
                      ⟨some 202, .bin .eql (.tmp 17) (.const (.string ⟨#[112, 97, 112, 112, 117, 115]⟩)), none, 0⟩,
                      ⟨some 201, .mv (.tmp 202), none, 0⟩]) <|
                    .cond (.tmp 201)
                      (.seq (.ops [
                        ⟨some 203, .buildSl 1 [.int .i64 0, .int .i64 0, .int .i64 0, .int .i64 0, .int .i64 0, .int .i64 0] [(0, 1, (.const (.int .i64 5))), (1, 1, (.const (.int .i64 7))), (2, 1, (.const (.int .i64 11))), (3, 1, (.const (.int .i64 7))), (4, 1, (.const (.int .i64 11))), (5, 1, (.const (.int .i64 13)))] 6, none, 0⟩,
                        ⟨some 204, .call k_spec_l01Jumps [(.const (.int .i64 18)), (.tmp 203)], none, 0⟩,
                        ⟨none, .store 2 (.tmp 2) (.tmp 204), none, 0⟩,
                        ⟨some 3, .mv (.const (.bool true)), none, 0⟩]) <|
                      .keep [2, 3] <|
                      .ret)
                      (.seq (.ops [
                        ⟨some 206, .bin .eql (.tmp 17) (.const (.string ⟨#[100, 101, 115, 97, 114, 103, 117, 101, 115]⟩)), none, 0⟩,
                        ⟨some 205, .mv (.tmp 206), none, 0⟩]) <|
                      .cond (.tmp 205)
                        (.seq (.ops [
                          ⟨some 207, .buildSl 1 [.int .i64 0, .int .i64 0, .int .i64 0, .int .i64 0] [(0, 1, (.const (.int .i64 5))), (1, 1, (.const (.int .i64 15))), (2, 1, (.const (.int .i64 9))), (3, 1, (.const (.int .i64 11)))] 4, none, 0⟩,
                          ⟨some 208, .call k_spec_l01Jumps [(.const (.int .i64 20)), (.tmp 207)], none, 0⟩,
                          ⟨none, .store 2 (.tmp 2) (.tmp 208), none, 0⟩,
                          ⟨some 3, .mv (.const (.bool true)), none, 0⟩]) <|
                        .keep [2, 3] <|
                        .ret)
                        (.seq (.ops [
                          ⟨some 210, .bin .eql (.tmp 17) (.const (.string ⟨#[100, 111, 100, 101, 99, 97, 104, 101, 100, 114, 111, 110]⟩)), none, 0⟩,
                          ⟨some 209, .mv (.tmp 210), none, 0⟩]) <|
                        .cond (.tmp 209)
                          (.seq (.ops [
                            ⟨some 211, .buildSl 1 [.int .i64 0, .int .i64 0, .int .i64 0, .int .i64 0, .int .i64 0, .int .i64 0, .int .i64 0, .int .i64 0, .int .i64 0, .int .i64 0] [(0, 1, (.const (.int .i64 10))), (1, 1, (.const (.int .i64 7))), (2, 1, (.const (.int .i64 4))), (3, 1, (.const (.int .i64 16))), (4, 1, (.const (.int .i64 13))), (5, 1, (.const (.int .i64 10))), (6, 1, (.const (.int .i64 16))), (7, 1, (.const (.int .i64 7))), (8, 1, (.const (.int .i64 13))), (9, 1, (.const (.int .i64 4)))] 10, none, 0⟩,
                            ⟨some 212, .call k_spec_l01Jumps [(.const (.int .i64 20)), (.tmp 211)], none, 0⟩,
                            ⟨none, .store 2 (.tmp 2) (.tmp 212), none, 0⟩,
                            ⟨some 3, .mv (.const (.bool true)), none, 0⟩]) <|
                          .keep [2, 3] <|
                          .ret)
                          (.seq (.ops [
                            ⟨some 214, .bin .eql (.tmp 17) (.const (.string ⟨#[109, 99, 103, 101, 101]⟩)), none, 0⟩,
                            ⟨some 213, .mv (.tmp 214), none, 0⟩]) <|
                          .cond (.tmp 213)
                            (.seq (.ops [
                              ⟨some 215, .buildSl 1 [.int .i64 0, .int .i64 0, .int .i64 0] [(0, 1, (.const (.int .i64 12))), (1, 1, (.const (.int .i64 7))), (2, 1, (.const (.int .i64 17)))] 3, none, 0⟩,
                              ⟨some 216, .call k_spec_l01Jumps [(.const (.int .i64 24)), (.tmp 215)], none, 0⟩,
                              ⟨none, .store 2 (.tmp 2) (.tmp 216), none, 0⟩,
                              ⟨some 3, .mv (.const (.bool true)), none, 0⟩]) <|
                            .keep [2, 3] <|
                            .ret)
                            (.seq (.ops [
                              ⟨some 218, .bin .eql (.tmp 17) (.const (.string ⟨#[116, 117, 116, 116, 101, 99, 111, 120, 101, 116, 101, 114]⟩)), none, 0⟩,
                              ⟨some 217, .mv (.tmp 218), none, 0⟩]) <|
                            .cond (.tmp 217)
                              (.seq (.ops [
                                ⟨some 219, .buildSl 1 [.int .i64 0, .int .i64 0, .int .i64 0, .int .i64 0, .int .i64 0, .int .i64 0] [(0, 1, (.const (.int .i64 17))), (1, 1, (.const (.int .i64 21))), (2, 1, (.const (.int .i64 7))), (3, 1, (.const (.int .i64 23))), (4, 1, (.const (.int .i64 9))), (5, 1, (.const (.int .i64 13)))] 6, none, 0⟩,
                                ⟨some 220, .call k_spec_l01Jumps [(.const (.int .i64 30)), (.tmp 219)], none, 0⟩,
                                ⟨none, .store 2 (.tmp 2) (.tmp 220), none, 0⟩,
                                ⟨some 3, .mv (.const (.bool true)), none, 0⟩]) <|
                              .keep [2, 3] <|
                              .ret)
                              (.skip))))))))))))))) <|
  .seq (.ops [
    ⟨some 221, .build [.int .i64 0, .slice none 0 0] [], none, 0⟩,
    ⟨none, .store 2 (.tmp 2) (.tmp 221), none, 0⟩,
    ⟨some 3, .mv (.const (.bool false)), none, 0⟩]) <|
  .keep [2, 3] <|
  .ret⟩

theorem e_spec_l01Named : EntOK Try.prog (compD Try.prog) k_spec_l01Named i_spec_l01Named.vf :=
  ⟨Try.f104, Try.f104.body.getD .skip, Try.func104, by kernel_rfl, by kernel_rfl, by kernel_rfl, by kernel_rfl, by kernel_rfl⟩

/-- loop.example/g01331/spec.KautzDigraph -/
def i_spec_KautzDigraph : FF := ⟨19, [.cell 4 true 2, .tmp 5],
  .seq (.ops [
    ⟨some 4, .alloc [.int .i64 0, .slice none 0 0], none, 0⟩,
    ⟨some 5, .mv (.const (.int .i64 0)), none, 0⟩]) <|
  .seq (.seq (.ops [
    ⟨some 7, .mv (.tmp 0), none, 0⟩,
    ⟨some 8, .mv (.tmp 1), none, 0⟩,
    ⟨some 9, .call k_spec_l08Kautz [(.tmp 7), (.tmp 8)], none, 0⟩,
    ⟨some 6, .mv (.tmp 9), none, 0⟩]) <|
  .seq (.ops [
    ⟨some 10, .mv (.tmp 6), none, 0⟩,
    ⟨some 11, .bin .neq (.tmp 10) (.const (.int .i64 0)), none, 0⟩]) <|
  .cond (.tmp 11)
    (.seq (.ops [
      ⟨some 12, .build [.int .i64 0, .slice none 0 0] [], none, 0⟩,
      ⟨some 13, .mv (.tmp 6), none, 0⟩,
      ⟨none, .store 2 (.tmp 4) (.tmp 12), none, 0⟩,
      ⟨some 5, .mv (.tmp 13), none, 0⟩]) <|
    .keep [4, 5] <|
    .ret)
    (.skip)) <|
  .seq (.ops [
    ⟨some 14, .mv (.tmp 0), none, 0⟩,
    ⟨some 15, .mv (.tmp 1), none, 0⟩,
    ⟨some 16, .buildSl 1 [] [] 0, none, 0⟩,
    ⟨some 17, .call k_spec_l08List [(.tmp 14), (.tmp 15), (.const (.bool true)), (.tmp 16)], none, 0⟩,
    ⟨some 18, .call k_spec_l08Digraph [(.tmp 17), (.const (.bool true))], none, 0⟩,
    ⟨none, .store 2 (.tmp 4) (.tmp 18), none, 0⟩,
    ⟨some 5, .mv (.const (.int .i64 0)), none, 0⟩]) <|
  .keep [4, 5] <|
  .ret⟩

theorem e_spec_KautzDigraph : EntOK Try.prog (compD Try.prog) k_spec_KautzDigraph i_spec_KautzDigraph.vf :=
  ⟨Try.f105, Try.f105.body.getD .skip, Try.func105, by kernel_rfl, by kernel_rfl, by kernel_rfl, by kernel_rfl, by kernel_rfl⟩

/-- loop.example/g01331/impl.kautzWords -/
def i_impl_kautzWords_B1 : FC :=
  .seq (.ops [
    ⟨some 25, .bin .lss (.tmp 24) (.tmp 23), none, 0⟩]) <|
  .seq (.cond (.tmp 25)
    (.skip)
    (.keep [0, 6, 12, 13, 16, 17, 18] <|
    .exit 4)) <|
  .seq (.block 5 <|
  .seq (.ops [
    ⟨some 26, .mv (.tmp 24), none, 0⟩,
    ⟨some 9, .mv (.tmp 26), none, 0⟩]) <|
  .seq (.ops [
    ⟨some 27, .mv (.tmp 8), none, 0⟩,
    ⟨some 28, .len (.tmp 27), none, 0⟩,
    ⟨some 29, .bin .eql (.tmp 28) (.const (.int .i64 0)), none, 0⟩,
    ⟨some 30, .mv (.tmp 29), none, 0⟩,
    ⟨some 31, .mv (.tmp 8), some (30, false), 0⟩,
    ⟨some 32, .mv (.tmp 8), some (30, false), 0⟩,
    ⟨some 33, .len (.tmp 32), some (30, false), 0⟩,
    ⟨some 34, .bin .sub (.tmp 33) (.const (.int .i64 1)), some (30, false), 0⟩,
    ⟨some 35, .idx 1 (.tmp 31) (.tmp 34), some (30, false), 0⟩,
    ⟨some 36, .load false 1 (.tmp 35), some (30, false), 0⟩,
    ⟨some 37, .mv (.tmp 9), some (30, false), 0⟩,
    ⟨some 38, .bin .neq (.tmp 36) (.tmp 37), some (30, false), 0⟩,
    ⟨some 39, .pick (.tmp 30) (.const (.bool true)) (.tmp 38), none, 0⟩]) <|
  .cond (.tmp 39)
    (.ops [
      ⟨some 40, .mv (.tmp 6), none, 0⟩,
      ⟨some 41, .mv (.tmp 8), none, 0⟩,
      ⟨some 42, .call k_slices_Clone_int64_int64 [(.tmp 41)], none, 0⟩,
      ⟨some 43, .mv (.tmp 9), none, 0⟩,
      ⟨some 44, .buildSl 1 [.int .i64 0] [(0, 1, (.tmp 43))] 1, none, 0⟩,
      ⟨some 45, .app 1 8 [.int .i64 0] (.tmp 42) (.tmp 44), none, 0⟩,
      ⟨some 46, .buildSl 1 [.slice none 0 0] [(0, 1, (.tmp 45))] 1, none, 0⟩,
      ⟨some 47, .app 1 24 [.slice none 0 0] (.tmp 40) (.tmp 46), none, 0⟩,
      ⟨some 6, .mv (.tmp 47), none, 0⟩])
    (.skip)) <|
  .ops [
    ⟨some 48, .bin .add (.tmp 24) (.const (.int .i64 1)), none, 0⟩,
    ⟨some 24, .mv (.tmp 48), none, 0⟩]
def i_impl_kautzWords_B2 : FC :=
  .seq (.ops [
    ⟨some 19, .bin .lss (.tmp 18) (.tmp 17), none, 0⟩]) <|
  .seq (.cond (.tmp 19)
    (.skip)
    (.keep [0, 6, 12, 13] <|
    .exit 2)) <|
  .seq (.block 3 <|
  .seq (.ops [
    ⟨some 20, .idx 1 (.tmp 16) (.tmp 18), none, 0⟩,
    ⟨some 21, .load false 1 (.tmp 20), none, 0⟩,
    ⟨some 8, .mv (.tmp 21), none, 0⟩]) <|
  .seq (.ops [
    ⟨some 22, .mv (.tmp 0), none, 0⟩,
    ⟨some 23, .bin .add (.tmp 22) (.const (.int .i64 1)), none, 0⟩,
    ⟨some 24, .mv (.const (.int .i64 0)), none, 0⟩]) <|
  .block 4 <|
  .loop [0, 6, 8, 12, 13, 16, 17, 18, 23, 24] i_impl_kautzWords_B1) <|
  .ops [
    ⟨some 49, .bin .add (.tmp 18) (.const (.int .i64 1)), none, 0⟩,
    ⟨some 18, .mv (.tmp 49), none, 0⟩]
def i_impl_kautzWords_B3 : FC :=
  .seq (.ops [
    ⟨some 14, .bin .lss (.tmp 13) (.tmp 12), none, 0⟩]) <|
  .seq (.cond (.tmp 14)
    (.skip)
    (.keep [5] <|
    .exit 0)) <|
  .seq (.block 1 <|
  .seq (.ops [
    ⟨some 15, .buildSl 1 [] [] 0, none, 0⟩,
    ⟨some 6, .mv (.tmp 15), none, 0⟩]) <|
  .seq (.seq (.ops [
    ⟨some 16, .mv (.tmp 5), none, 0⟩,
    ⟨some 17, .len (.tmp 16), none, 0⟩,
    ⟨some 18, .mv (.const (.int .i64 0)), none, 0⟩]) <|
  .block 2 <|
  .loop [0, 6, 12, 13, 16, 17, 18] i_impl_kautzWords_B2) <|
  .ops [
    ⟨some 50, .mv (.tmp 6), none, 0⟩,
    ⟨some 5, .mv (.tmp 50), none, 0⟩]) <|
  .ops [
    ⟨some 51, .bin .add (.tmp 13) (.const (.int .i64 1)), none, 0⟩,
    ⟨some 13, .mv (.tmp 51), none, 0⟩]
def i_impl_kautzWords : FF := ⟨53, [.tmp 4],
  .seq (.ops [
    ⟨some 4, .mv (.const (.slice none 0 0)), none, 0⟩]) <|
  .seq (.ops [
    ⟨some 10, .buildSl 1 [] [] 0, none, 0⟩,
    ⟨some 11, .buildSl 1 [.slice none 0 0] [(0, 1, (.tmp 10))] 1, none, 0⟩,
    ⟨some 5, .mv (.tmp 11), none, 0⟩]) <|
  .seq (.seq (.ops [
    ⟨some 12, .mv (.tmp 1), none, 0⟩,
    ⟨some 13, .mv (.const (.int .i64 0)), none, 0⟩]) <|
  .block 0 <|
  .loop [0, 5, 12, 13] i_impl_kautzWords_B3) <|
  .seq (.ops [
    ⟨some 52, .mv (.tmp 5), none, 0⟩,
    ⟨some 4, .mv (.tmp 52), none, 0⟩]) <|
  .keep [4] <|
  .ret⟩

theorem e_impl_kautzWords : EntOK Try.prog (compD Try.prog) k_impl_kautzWords i_impl_kautzWords.vf :=
  ⟨Try.f106, Try.f106.body.getD .skip, Try.func106, by kernel_rfl, by kernel_rfl, by kernel_rfl, by kernel_rfl, by kernel_rfl⟩

/-- loop.example/g01331/impl.directed -/
def i_impl_directed_B1 : FC :=
  .seq (.ops [
    ⟨some 18, .bin .lss (.tmp 17) (.tmp 16), none, 0⟩]) <|
  .seq (.cond (.tmp 18)
    (.skip)
    (.keep [0, 1, 4, 5, 12, 13] <|
    .exit 2)) <|
  .seq (.block 3 <|
  .seq (.ops [
    ⟨some 19, .mv (.tmp 17), none, 0⟩,
    ⟨some 7, .mv (.tmp 19), none, 0⟩]) <|
  .seq (.ops [
    ⟨some 20, .mv (.tmp 1), none, 0⟩,
    ⟨some 21, .mv (.tmp 6), none, 0⟩,
    ⟨some 22, .mv (.tmp 7), none, 0⟩,
    ⟨some 23, .callv (.tmp 20) [(.tmp 21), (.tmp 22)], none, 0⟩]) <|
  .cond (.tmp 23)
    (.dops [
      ⟨some 24, .fld 1 (.tmp 5), none, 0⟩,
      ⟨some 25, .load false 1 (.tmp 24), none, 0⟩,
      ⟨some 26, .mv (.tmp 6), none, 0⟩,
      ⟨some 27, .idx 1 (.tmp 25) (.tmp 26), none, 0⟩,
      ⟨some 28, .load false 1 (.tmp 27), none, 0⟩,
      ⟨some 29, .mv (.tmp 7), none, 0⟩,
      ⟨some 30, .bin .shl (.const (.int .i64 1)) (.tmp 29), none, 0⟩,
      ⟨some 31, .bin .or (.tmp 28) (.tmp 30), none, 0⟩,
      ⟨some 32, .idx 1 (.tmp 25) (.tmp 26), none, 0⟩,
      ⟨none, .store 1 (.tmp 32) (.tmp 31), none, 0⟩])
    (.skip)) <|
  .ops [
    ⟨some 33, .bin .add (.tmp 17) (.const (.int .i64 1)), none, 0⟩,
    ⟨some 17, .mv (.tmp 33), none, 0⟩]
def i_impl_directed_B2 : FC :=
  .seq (.ops [
    ⟨some 14, .bin .lss (.tmp 13) (.tmp 12), none, 0⟩]) <|
  .seq (.cond (.tmp 14)
    (.skip)
    (.keep [4, 5] <|
    .exit 0)) <|
  .seq (.block 1 <|
  .seq (.ops [
    ⟨some 15, .mv (.tmp 13), none, 0⟩,
    ⟨some 6, .mv (.tmp 15), none, 0⟩]) <|
  .seq (.ops [
    ⟨some 16, .mv (.tmp 0), none, 0⟩,
    ⟨some 17, .mv (.const (.int .i64 0)), none, 0⟩]) <|
  .block 2 <|
  .loop [0, 1, 4, 5, 6, 12, 13, 16, 17] i_impl_directed_B1) <|
  .ops [
    ⟨some 34, .bin .add (.tmp 13) (.const (.int .i64 1)), none, 0⟩,
    ⟨some 13, .mv (.tmp 34), none, 0⟩]
def i_impl_directed : FF := ⟨36, [.cell 4 true 2],
  .seq (.ops [
    ⟨some 4, .alloc [.int .i64 0, .slice none 0 0], none, 0⟩]) <|
  .seq (.ops [
    ⟨some 8, .mv (.tmp 0), none, 0⟩,
    ⟨some 9, .mv (.tmp 0), none, 0⟩,
    ⟨some 10, .mkSl 1 [.int .i64 0] 8 (.tmp 9) (.tmp 9), none, 0⟩,
    ⟨some 11, .build [.int .i64 0, .slice none 0 0] [(0, 1, (.tmp 8)), (1, 1, (.tmp 10))], none, 0⟩,
    ⟨some 5, .alloc [.int .i64 0, .slice none 0 0], none, 0⟩,
    ⟨none, .store 2 (.tmp 5) (.tmp 11), none, 0⟩]) <|
  .seq (.seq (.ops [
    ⟨some 12, .mv (.tmp 0), none, 0⟩,
    ⟨some 13, .mv (.const (.int .i64 0)), none, 0⟩]) <|
  .block 0 <|
  .loop [0, 1, 4, 5, 12, 13] i_impl_directed_B2) <|
  .seq (.ops [
    ⟨some 35, .load true 2 (.tmp 5), none, 0⟩,
    ⟨none, .store 2 (.tmp 4) (.tmp 35), none, 0⟩]) <|
  .keep [4] <|
  .ret⟩

theorem e_impl_directed : EntOK Try.prog (compD Try.prog) k_impl_directed i_impl_directed.vf :=
  ⟨Try.f107, Try.f107.body.getD .skip, Try.func107, by kernel_rfl, by kernel_rfl, by kernel_rfl, by kernel_rfl, by kernel_rfl⟩

/-- loop.example/g01331/impl.kautz$1 -/
def i_impl_kautz_1 : FF := ⟨39, [.tmp 6],
  .seq (.ops [
    ⟨some 6, .mv (.const (.bool false)), none, 0⟩]) <|
  .seq (.dops [
    ⟨some 7, .load false 1 (.tmp 2), none, 0⟩,
    ⟨some 8, .mv (.tmp 0), none, 0⟩,
    ⟨some 9, .idx 1 (.tmp 7) (.tmp 8), none, 0⟩,
    ⟨some 10, .load false 1 (.tmp 9), none, 0⟩,
    ⟨some 11, .slc 1 (.tmp 10) (some (.const (.int .i64 1))) none, none, 0⟩,
    ⟨some 12, .load false 1 (.tmp 2), none, 0⟩,
    ⟨some 13, .mv (.tmp 1), none, 0⟩,
    ⟨some 14, .idx 1 (.tmp 12) (.tmp 13), none, 0⟩,
    ⟨some 15, .load false 1 (.tmp 14), none, 0⟩,
    ⟨some 16, .load false 1 (.tmp 3), none, 0⟩,
    ⟨some 17, .bin .sub (.tmp 16) (.const (.int .i64 1)), none, 0⟩,
    ⟨some 18, .slc 1 (.tmp 15) none (some (.tmp 17)), none, 0⟩,
    ⟨some 19, .call k_slices_Equal_int64_int64 [(.tmp 11), (.tmp 18)], none, 0⟩,
    ⟨some 20, .mv (.tmp 19), none, 0⟩,
    ⟨some 21, .load false 1 (.tmp 2), some (20, true), 0⟩,
    ⟨some 22, .mv (.tmp 0), some (20, true), 0⟩,
    ⟨some 23, .idx 1 (.tmp 21) (.tmp 22), some (20, true), 0⟩,
    ⟨some 24, .load false 1 (.tmp 23), some (20, true), 0⟩,
    ⟨some 25, .load false 1 (.tmp 3), some (20, true), 0⟩,
    ⟨some 26, .bin .sub (.tmp 25) (.const (.int .i64 1)), some (20, true), 0⟩,
    ⟨some 27, .idx 1 (.tmp 24) (.tmp 26), some (20, true), 0⟩,
    ⟨some 28, .load false 1 (.tmp 27), some (20, true), 0⟩,
    ⟨some 29, .load false 1 (.tmp 2), some (20, true), 0⟩,
    ⟨some 30, .mv (.tmp 1), some (20, true), 0⟩,
    ⟨some 31, .idx 1 (.tmp 29) (.tmp 30), some (20, true), 0⟩,
    ⟨some 32, .load false 1 (.tmp 31), some (20, true), 0⟩,
    ⟨some 33, .load false 1 (.tmp 3), some (20, true), 0⟩,
    ⟨some 34, .bin .sub (.tmp 33) (.const (.int .i64 1)), some (20, true), 0⟩,
    ⟨some 35, .idx 1 (.tmp 32) (.tmp 34), some (20, true), 0⟩,
    ⟨some 36, .load false 1 (.tmp 35), some (20, true), 0⟩,
    ⟨some 37, .bin .neq (.tmp 28) (.tmp 36), some (20, true), 0⟩,
    ⟨some 38, .pick (.tmp 20) (.tmp 37) (.const (.bool false)), none, 0⟩,
    ⟨some 6, .mv (.tmp 38), none, 0⟩]) <|
  .keep [6] <|
  .ret⟩

theorem e_impl_kautz_1 : EntOK Try.prog (compD Try.prog) k_impl_kautz_1 i_impl_kautz_1.vf :=
  ⟨Try.f108, Try.f108.body.getD .skip, Try.func108, by kernel_rfl, by kernel_rfl, by kernel_rfl, by kernel_rfl, by kernel_rfl⟩

/-- slices.Equal[[]int64,int64] -/
def i_slices_Equal_int64_int64_B1 : FC :=
  .seq (.ops [
    ⟨some 14, .bin .lss (.tmp 13) (.tmp 12), none, 0⟩]) <|
  .seq (.cond (.tmp 14)
    (.skip)
    (.keep [] <|
    .exit 0)) <|
  .seq (.block 1 <|
  .seq (.ops [
    ⟨some 15, .mv (.tmp 13), none, 0⟩,
    ⟨some 5, .mv (.tmp 15), none, 0⟩]) <|
  .seq (.dops [
    ⟨some 16, .mv (.tmp 0), none, 0⟩,
    ⟨some 17, .mv (.tmp 5), none, 0⟩,
    ⟨some 18, .idx 1 (.tmp 16) (.tmp 17), none, 0⟩,
    ⟨some 19, .load false 1 (.tmp 18), none, 0⟩,
    ⟨some 20, .mv (.tmp 1), none, 0⟩,
    ⟨some 21, .mv (.tmp 5), none, 0⟩,
    ⟨some 22, .idx 1 (.tmp 20) (.tmp 21), none, 0⟩,
    ⟨some 23, .load false 1 (.tmp 22), none, 0⟩,
    ⟨some 24, .bin .neq (.tmp 19) (.tmp 23), none, 0⟩]) <|
  .cond (.tmp 24)
    (.seq (.ops [
      ⟨some 4, .mv (.const (.bool false)), none, 0⟩]) <|
    .keep [4] <|
    .ret)
    (.skip)) <|
  .ops [
    ⟨some 25, .bin .add (.tmp 13) (.const (.int .i64 1)), none, 0⟩,
    ⟨some 13, .mv (.tmp 25), none, 0⟩]
def i_slices_Equal_int64_int64 : FF := ⟨26, [.tmp 4],
  .seq (.ops [
    ⟨some 4, .mv (.const (.bool false)), none, 0⟩]) <|
  .seq (.seq (.ops [
    ⟨some 6, .mv (.tmp 0), none, 0⟩,
    ⟨some 7, .len (.tmp 6), none, 0⟩,
    ⟨some 8, .mv (.tmp 1), none, 0⟩,
    ⟨some 9, .len (.tmp 8), none, 0⟩,
    ⟨some 10, .bin .neq (.tmp 7) (.tmp 9), none, 0⟩]) <|
  .cond (.tmp 10)
    (.seq (.ops [
      ⟨some 4, .mv (.const (.bool false)), none, 0⟩]) <|
    .keep [4] <|
    .ret)
    (.skip)) <|
  .seq (.seq (.ops [
    ⟨some 11, .mv (.tmp 0), none, 0⟩,
    ⟨some 12, .len (.tmp 11), none, 0⟩,
    ⟨some 13, .mv (.const (.int .i64 0)), none, 0⟩]) <|
  .block 0 <|
  .loop [0, 1, 12, 13] i_slices_Equal_int64_int64_B1) <|
  .seq (.ops [
    ⟨some 4, .mv (.const (.bool true)), none, 0⟩]) <|
  .keep [4] <|
  .ret⟩

theorem e_slices_Equal_int64_int64 : EntOK Try.prog (compD Try.prog) k_slices_Equal_int64_int64 i_slices_Equal_int64_int64.vf :=
  ⟨Try.f109, Try.f109.body.getD .skip, Try.func109, by kernel_rfl, by kernel_rfl, by kernel_rfl, by kernel_rfl, by kernel_rfl⟩

/-- slices.IndexFunc[[]int64,int64] -/
def i_slices_IndexFunc_int64_int64_B1 : FC :=
  .seq (.ops [
    ⟨some 9, .bin .lss (.tmp 8) (.tmp 7), none, 0⟩]) <|
  .seq (.cond (.tmp 9)
    (.skip)
    (.keep [] <|
    .exit 0)) <|
  .seq (.block 1 <|
  .seq (.ops [
    ⟨some 10, .mv (.tmp 8), none, 0⟩,
    ⟨some 5, .mv (.tmp 10), none, 0⟩]) <|
  .seq (.ops [
    ⟨some 11, .mv (.tmp 1), none, 0⟩,
    ⟨some 12, .mv (.tmp 0), none, 0⟩,
    ⟨some 13, .mv (.tmp 5), none, 0⟩,
    ⟨some 14, .idx 1 (.tmp 12) (.tmp 13), none, 0⟩,
    ⟨some 15, .load false 1 (.tmp 14), none, 0⟩,
    ⟨some 16, .callv (.tmp 11) [(.tmp 15)], none, 0⟩]) <|
  .cond (.tmp 16)
    (.seq (.ops [
      ⟨some 17, .mv (.tmp 5), none, 0⟩,
      ⟨some 4, .mv (.tmp 17), none, 0⟩]) <|
    .keep [4] <|
    .ret)
    (.skip)) <|
  .ops [
    ⟨some 18, .bin .add (.tmp 8) (.const (.int .i64 1)), none, 0⟩,
    ⟨some 8, .mv (.tmp 18), none, 0⟩]
def i_slices_IndexFunc_int64_int64 : FF := ⟨19, [.tmp 4],
  .seq (.ops [
    ⟨some 4, .mv (.const (.int .i64 0)), none, 0⟩]) <|
  .seq (.seq (.ops [
    ⟨some 6, .mv (.tmp 0), none, 0⟩,
    ⟨some 7, .len (.tmp 6), none, 0⟩,
    ⟨some 8, .mv (.const (.int .i64 0)), none, 0⟩]) <|
  .block 0 <|
  .loop [0, 1, 7, 8] i_slices_IndexFunc_int64_int64_B1) <|
  .seq (.ops [
    ⟨some 4, .mv (.const (.int .i64 (-1))), none, 0⟩]) <|
  .keep [4] <|
  .ret⟩

theorem e_slices_IndexFunc_int64_int64 : EntOK Try.prog (compD Try.prog) k_slices_IndexFunc_int64_int64 i_slices_IndexFunc_int64_int64.vf :=
  ⟨Try.f110, Try.f110.body.getD .skip, Try.func110, by kernel_rfl, by kernel_rfl, by kernel_rfl, by kernel_rfl, by kernel_rfl⟩

/-- loop.example/g01331/spec.l01Own -/
def i_spec_l01Own : FF := ⟨6, [.tmp 2],
  .seq (.ops [
    ⟨some 2, .mv (.const (.slice none 0 0)), none, 0⟩]) <|
  .seq (.ops [
    ⟨some 3, .buildSl 1 [] [] 0, none, 0⟩,
    ⟨some 4, .mv (.tmp 0), none, 0⟩,
    ⟨some 5, .app 1 8 [.int .i64 0] (.tmp 3) (.tmp 4), none, 0⟩,
    ⟨some 2, .mv (.tmp 5), none, 0⟩]) <|
  .keep [2] <|
  .ret⟩

theorem e_spec_l01Own : EntOK Try.prog (compD Try.prog) k_spec_l01Own i_spec_l01Own.vf :=
  ⟨Try.f111, Try.f111.body.getD .skip, Try.func111, by kernel_rfl, by kernel_rfl, by kernel_rfl, by kernel_rfl, by kernel_rfl⟩

/-- loop.example/g01331/spec.l01Complement -/
def i_spec_l01Complement_B1 : FC :=
  .seq (.seq (.ops [
    ⟨some 8, .mv (.tmp 4), none, 0⟩,
    ⟨some 9, .fld 0 (.tmp 1), none, 0⟩,
    ⟨some 10, .load false 1 (.tmp 9), none, 0⟩,
    ⟨some 11, .bin .lss (.tmp 8) (.tmp 10), none, 0⟩]) <|
  .cond (.tmp 11)
    (.skip)
    (.keep [2, 3] <|
    .exit 0)) <|
  .seq (.block 1 <|
  .dops [
    ⟨some 14, .fld 1 (.tmp 3), none, 0⟩,
    ⟨some 15, .load false 1 (.tmp 14), none, 0⟩,
    ⟨some 16, .mv (.tmp 4), none, 0⟩,
    ⟨some 17, .fld 0 (.tmp 1), none, 0⟩,
    ⟨some 18, .load false 1 (.tmp 17), none, 0⟩,
    ⟨some 19, .conv .u64 (.tmp 18), none, 0⟩,
    ⟨some 20, .bin .shl (.const (.int .i64 1)) (.tmp 19), none, 0⟩,
    ⟨some 21, .bin .sub (.tmp 20) (.const (.int .i64 1)), none, 0⟩,
    ⟨some 22, .fld 1 (.tmp 1), none, 0⟩,
    ⟨some 23, .load false 1 (.tmp 22), none, 0⟩,
    ⟨some 24, .mv (.tmp 4), none, 0⟩,
    ⟨some 25, .idx 1 (.tmp 23) (.tmp 24), none, 0⟩,
    ⟨some 26, .load false 1 (.tmp 25), none, 0⟩,
    ⟨some 27, .bin .sub (.tmp 21) (.tmp 26), none, 0⟩,
    ⟨some 28, .mv (.tmp 4), none, 0⟩,
    ⟨some 29, .conv .u64 (.tmp 28), none, 0⟩,
    ⟨some 30, .bin .shl (.const (.int .i64 1)) (.tmp 29), none, 0⟩,
    ⟨some 31, .bin .sub (.tmp 27) (.tmp 30), none, 0⟩,
    ⟨some 32, .idx 1 (.tmp 15) (.tmp 16), none, 0⟩,
    ⟨none, .store 1 (.tmp 32) (.tmp 31), none, 0⟩]) <|
  .ops [
    ⟨some 12, .mv (.tmp 4), none, 0⟩,
    ⟨some 13, .bin .add (.tmp 12) (.const (.int .i64 1)), none, 0⟩,
    ⟨some 4, .mv (.tmp 13), none, 0⟩]
def i_spec_l01Complement : FF := ⟨34, [.cell 2 true 2],
  .seq (.ops [
    ⟨some 1, .box 2 (.tmp 0), none, 0⟩,
    ⟨some 2, .alloc [.int .i64 0, .slice none 0 0], none, 0⟩]) <|
  .seq (.ops [
    ⟨some 5, .fld 0 (.tmp 1), none, 0⟩,
    ⟨some 6, .load false 1 (.tmp 5), none, 0⟩,
    ⟨some 7, .call k_spec_l01Empty [(.tmp 6)], none, 0⟩,
    ⟨some 3, .alloc [.int .i64 0, .slice none 0 0], none, 0⟩,
    ⟨none, .store 2 (.tmp 3) (.tmp 7), none, 0⟩]) <|
  .seq (.seq (.ops [
    ⟨some 4, .mv (.const (.int .i64 0)), none, 0⟩]) <|
  .block 0 <|
  .loop [1, 2, 3, 4] i_spec_l01Complement_B1) <|
  .seq (.ops [
    ⟨some 33, .load true 2 (.tmp 3), none, 0⟩,
    ⟨none, .store 2 (.tmp 2) (.tmp 33), none, 0⟩]) <|
  .keep [2] <|
  .ret⟩

theorem e_spec_l01Complement : EntOK Try.prog (compD Try.prog) k_spec_l01Complement i_spec_l01Complement.vf :=
  ⟨Try.f112, Try.f112.body.getD .skip, Try.func112, by kernel_rfl, by kernel_rfl, by kernel_rfl, by kernel_rfl, by kernel_rfl⟩

/-- loop.example/g01331/spec.l01Beside -/
def i_spec_l01Beside_B1 : FC :=
  .seq (.seq (.ops [
    ⟨some 16, .mv (.tmp 6), none, 0⟩,
    ⟨some 17, .fld 0 (.tmp 3), none, 0⟩,
    ⟨some 18, .load false 1 (.tmp 17), none, 0⟩,
    ⟨some 19, .bin .lss (.tmp 16) (.tmp 18), none, 0⟩]) <|
  .cond (.tmp 19)
    (.skip)
    (.keep [4, 5] <|
    .exit 0)) <|
  .seq (.block 1 <|
  .dops [
    ⟨some 24, .fld 1 (.tmp 3), none, 0⟩,
    ⟨some 25, .load false 1 (.tmp 24), none, 0⟩,
    ⟨some 26, .mv (.tmp 6), none, 0⟩,
    ⟨some 27, .idx 1 (.tmp 25) (.tmp 26), none, 0⟩,
    ⟨some 28, .load false 1 (.tmp 27), none, 0⟩,
    ⟨some 29, .fld 0 (.tmp 2), none, 0⟩,
    ⟨some 30, .load false 1 (.tmp 29), none, 0⟩,
    ⟨some 31, .conv .u64 (.tmp 30), none, 0⟩,
    ⟨some 32, .bin .shl (.tmp 28) (.tmp 31), none, 0⟩,
    ⟨some 33, .buildSl 1 [.int .i64 0] [(0, 1, (.tmp 32))] 1, none, 0⟩,
    ⟨some 22, .fld 1 (.tmp 5), none, 1⟩,
    ⟨some 23, .load false 1 (.tmp 22), none, 1⟩,
    ⟨some 34, .app 1 8 [.int .i64 0] (.tmp 23) (.tmp 33), none, 0⟩,
    ⟨some 35, .fld 1 (.tmp 5), none, 0⟩,
    ⟨none, .store 1 (.tmp 35) (.tmp 34), none, 0⟩]) <|
  .ops [
    ⟨some 20, .mv (.tmp 6), none, 0⟩,
    ⟨some 21, .bin .add (.tmp 20) (.const (.int .i64 1)), none, 0⟩,
    ⟨some 6, .mv (.tmp 21), none, 0⟩]
def i_spec_l01Beside : FF := ⟨37, [.cell 4 true 2],
  .seq (.ops [
    ⟨some 2, .box 2 (.tmp 0), none, 0⟩,
    ⟨some 3, .box 2 (.tmp 1), none, 0⟩,
    ⟨some 4, .alloc [.int .i64 0, .slice none 0 0], none, 0⟩]) <|
  .seq (.dops [
    ⟨some 12, .fld 1 (.tmp 2), none, 0⟩,
    ⟨some 13, .load false 1 (.tmp 12), none, 0⟩,
    ⟨some 14, .call k_spec_l01Own [(.tmp 13)], none, 0⟩,
    ⟨some 7, .fld 0 (.tmp 2), none, 1⟩,
    ⟨some 8, .load false 1 (.tmp 7), none, 1⟩,
    ⟨some 9, .fld 0 (.tmp 3), none, 1⟩,
    ⟨some 10, .load false 1 (.tmp 9), none, 1⟩,
    ⟨some 11, .bin .add (.tmp 8) (.tmp 10), none, 1⟩,
    ⟨some 15, .build [.int .i64 0, .slice none 0 0] [(0, 1, (.tmp 11)), (1, 1, (.tmp 14))], none, 0⟩,
    ⟨some 5, .alloc [.int .i64 0, .slice none 0 0], none, 1⟩,
    ⟨none, .store 2 (.tmp 5) (.tmp 15), none, 1⟩]) <|
  .seq (.seq (.ops [
    ⟨some 6, .mv (.const (.int .i64 0)), none, 0⟩]) <|
  .block 0 <|
  .loop [2, 3, 4, 5, 6] i_spec_l01Beside_B1) <|
  .seq (.ops [
    ⟨some 36, .load true 2 (.tmp 5), none, 0⟩,
    ⟨none, .store 2 (.tmp 4) (.tmp 36), none, 0⟩]) <|
  .keep [4] <|
  .ret⟩

theorem e_spec_l01Beside : EntOK Try.prog (compD Try.prog) k_spec_l01Beside i_spec_l01Beside.vf :=
  ⟨Try.f113, Try.f113.body.getD .skip, Try.func113, by kernel_rfl, by kernel_rfl, by kernel_rfl, by kernel_rfl, by kernel_rfl⟩

/-- loop.example/g01331/spec.l01Jumps -/
def i_spec_l01Jumps_B1 : FC :=
  .seq (.seq (.ops [
    ⟨some 9, .mv (.tmp 6), none, 0⟩,
    ⟨some 10, .mv (.tmp 0), none, 0⟩,
    ⟨some 11, .bin .lss (.tmp 9) (.tmp 10), none, 0⟩]) <|
  .cond (.tmp 11)
    (.skip)
    (.keep [4, 5] <|
    .exit 0)) <|
  .seq (.block 1 <|
  .seq (.dops [
    ⟨some 14, .load true 2 (.tmp 5), none, 0⟩,
    ⟨some 15, .mv (.tmp 6), none, 0⟩,
    ⟨some 16, .mv (.tmp 6), none, 0⟩,
    ⟨some 17, .bin .add (.tmp 16) (.const (.int .i64 1)), none, 0⟩,
    ⟨some 18, .mv (.tmp 0), none, 0⟩,
    ⟨some 19, .bin .rem (.tmp 17) (.tmp 18), none, 0⟩,
    ⟨some 20, .call k_spec_l01Put [(.tmp 14), (.tmp 15), (.tmp 19)], none, 0⟩]) <|
  .seq (.ops [
    ⟨some 21, .mv (.tmp 1), none, 0⟩,
    ⟨some 22, .len (.tmp 21), none, 0⟩,
    ⟨some 23, .bin .gtr (.tmp 22) (.const (.int .i64 0)), none, 0⟩]) <|
  .cond (.tmp 23)
    (.dops [
      ⟨some 24, .load true 2 (.tmp 5), none, 0⟩,
      ⟨some 25, .mv (.tmp 6), none, 0⟩,
      ⟨some 26, .mv (.tmp 6), none, 0⟩,
      ⟨some 27, .mv (.tmp 1), none, 0⟩,
      ⟨some 28, .mv (.tmp 6), none, 0⟩,
      ⟨some 29, .mv (.tmp 1), none, 0⟩,
      ⟨some 30, .len (.tmp 29), none, 0⟩,
      ⟨some 31, .bin .rem (.tmp 28) (.tmp 30), none, 0⟩,
      ⟨some 32, .idx 1 (.tmp 27) (.tmp 31), none, 0⟩,
      ⟨some 33, .load false 1 (.tmp 32), none, 0⟩,
      ⟨some 34, .bin .add (.tmp 26) (.tmp 33), none, 0⟩,
      ⟨some 35, .mv (.tmp 0), none, 0⟩,
      ⟨some 36, .bin .rem (.tmp 34) (.tmp 35), none, 0⟩,
      ⟨some 37, .call k_spec_l01Put [(.tmp 24), (.tmp 25), (.tmp 36)], none, 0⟩])
    (.skip)) <|
  .ops [
    ⟨some 12, .mv (.tmp 6), none, 0⟩,
    ⟨some 13, .bin .add (.tmp 12) (.const (.int .i64 1)), none, 0⟩,
    ⟨some 6, .mv (.tmp 13), none, 0⟩]
def i_spec_l01Jumps : FF := ⟨39, [.cell 4 true 2],
  .seq (.ops [
    ⟨some 4, .alloc [.int .i64 0, .slice none 0 0], none, 0⟩]) <|
  .seq (.ops [
    ⟨some 7, .mv (.tmp 0), none, 0⟩,
    ⟨some 8, .call k_spec_l01Empty [(.tmp 7)], none, 0⟩,
    ⟨some 5, .alloc [.int .i64 0, .slice none 0 0], none, 0⟩,
    ⟨none, .store 2 (.tmp 5) (.tmp 8), none, 0⟩]) <|
  .seq (.seq (.ops [
    ⟨some 6, .mv (.const (.int .i64 0)), none, 0⟩]) <|
  .block 0 <|
  .loop [0, 1, 4, 5, 6] i_spec_l01Jumps_B1) <|
  .seq (.ops [
    ⟨some 38, .load true 2 (.tmp 5), none, 0⟩,
    ⟨none, .store 2 (.tmp 4) (.tmp 38), none, 0⟩]) <|
  .keep [4] <|
  .ret⟩

theorem e_spec_l01Jumps : EntOK Try.prog (compD Try.prog) k_spec_l01Jumps i_spec_l01Jumps.vf :=
  ⟨Try.f114, Try.f114.body.getD .skip, Try.func114, by kernel_rfl, by kernel_rfl, by kernel_rfl, by kernel_rfl, by kernel_rfl⟩

/-- loop.example/g01331/spec.l08Kautz -/
def i_spec_l08Kautz : FF := ⟨19, [.tmp 4],
  .seq (.ops [
    ⟨some 4, .mv (.const (.int .i64 0)), none, 0⟩]) <|
  .seq (.block 0 <|
  .seq (.ops [
    ⟨some 6, .mv (.tmp 0), none, 0⟩,
    ⟨some 7, .call k_spec_l01In [(.tmp 6), (.const (.int .i64 1)), (.const (.int .i64 61))], none, 0⟩,
    ⟨some 8, .un .not (.tmp 7), none, 0⟩,
    ⟨some 9, .mv (.tmp 8), none, 0⟩,
    ⟨some 10, .mv (.tmp 1), some (9, false), 0⟩,
    ⟨some 11, .call k_spec_l01In [(.tmp 10), (.const (.int .i64 1)), (.const (.int .i64 10))], some (9, false), 0⟩,
    ⟨some 12, .un .not (.tmp 11), some (9, false), 0⟩,
    ⟨some 13, .pick (.tmp 9) (.const (.bool true)) (.tmp 12), none, 0⟩,
    ⟨some 5, .mv (.tmp 13), none, 0⟩]) <|
  .cond (.tmp 5)
    (.seq (.ops [
      ⟨some 4, .mv (.const (.int .i64 2)), none, 0⟩]) <|
    .keep [4] <|
    .ret)
    (.seq (.ops [
      ⟨some 15, .mv (.tmp 0), none, 0⟩,
      ⟨some 16, .mv (.tmp 1), none, 0⟩,
      ⟨some 17, .call k_spec_l08Words [(.tmp 15), (.tmp 16), (.const (.bool true))], none, 0⟩,
      ⟨some 18, .bin .gtr (.tmp 17) (.const (.int .i64 62)), none, 0⟩,
      ⟨some 14, .mv (.tmp 18), none, 0⟩]) <|
    .cond (.tmp 14)
      (.seq (.ops [
        ⟨some 4, .mv (.const (.int .i64 3)), none, 0⟩]) <|
      .keep [4] <|
      .ret)
      (.skip))) <|
  .seq (.ops [
    ⟨some 4, .mv (.const (.int .i64 0)), none, 0⟩]) <|
  .keep [4] <|
  .ret⟩

theorem e_spec_l08Kautz : EntOK Try.prog (compD Try.prog) k_spec_l08Kautz i_spec_l08Kautz.vf :=
  ⟨Try.f115, Try.f115.body.getD .skip, Try.func115, by kernel_rfl, by kernel_rfl, by kernel_rfl, by kernel_rfl, by kernel_rfl⟩

/-- loop.example/g01331/spec.l08Digraph -/
def i_spec_l08Digraph_B1 : FC :=
  .seq (.seq (.ops [
    ⟨some 21, .mv (.tmp 7), none, 0⟩,
    ⟨some 22, .mv (.tmp 0), none, 0⟩,
    ⟨some 23, .len (.tmp 22), none, 0⟩,
    ⟨some 24, .bin .lss (.tmp 21) (.tmp 23), none, 0⟩]) <|
  .cond (.tmp 24)
    (.skip)
    (.keep [0, 1, 4, 5, 6] <|
    .exit 2)) <|
  .seq (.block 3 <|
  .seq (.dops [
    ⟨some 27, .mv (.tmp 0), none, 0⟩,
    ⟨some 28, .mv (.tmp 6), none, 0⟩,
    ⟨some 29, .idx 1 (.tmp 27) (.tmp 28), none, 0⟩,
    ⟨some 30, .load false 1 (.tmp 29), none, 0⟩,
    ⟨some 31, .mv (.tmp 0), none, 0⟩,
    ⟨some 32, .mv (.tmp 6), none, 0⟩,
    ⟨some 33, .idx 1 (.tmp 31) (.tmp 32), none, 0⟩,
    ⟨some 34, .load false 1 (.tmp 33), none, 0⟩,
    ⟨some 35, .len (.tmp 34), none, 0⟩,
    ⟨some 36, .bin .sub (.tmp 35) (.const (.int .i64 1)), none, 0⟩,
    ⟨some 37, .idx 1 (.tmp 30) (.tmp 36), none, 0⟩,
    ⟨some 38, .load false 1 (.tmp 37), none, 0⟩,
    ⟨some 8, .mv (.tmp 38), none, 0⟩]) <|
  .seq (.dops [
    ⟨some 39, .mv (.tmp 0), none, 0⟩,
    ⟨some 40, .mv (.tmp 6), none, 0⟩,
    ⟨some 41, .idx 1 (.tmp 39) (.tmp 40), none, 0⟩,
    ⟨some 42, .load false 1 (.tmp 41), none, 0⟩,
    ⟨some 43, .mv (.tmp 0), none, 0⟩,
    ⟨some 44, .mv (.tmp 7), none, 0⟩,
    ⟨some 45, .idx 1 (.tmp 43) (.tmp 44), none, 0⟩,
    ⟨some 46, .load false 1 (.tmp 45), none, 0⟩,
    ⟨some 47, .call k_spec_l08Follows [(.tmp 42), (.tmp 46)], none, 0⟩,
    ⟨some 48, .mv (.tmp 47), none, 0⟩,
    ⟨some 49, .mv (.tmp 1), some (48, true), 0⟩,
    ⟨some 50, .mv (.tmp 49), some (48, true), 0⟩,
    ⟨some 51, .mv (.tmp 0), some (50, true), 0⟩,
    ⟨some 52, .mv (.tmp 7), some (50, true), 0⟩,
    ⟨some 53, .idx 1 (.tmp 51) (.tmp 52), some (50, true), 0⟩,
    ⟨some 54, .load false 1 (.tmp 53), some (50, true), 0⟩,
    ⟨some 55, .mv (.tmp 0), some (50, true), 0⟩,
    ⟨some 56, .mv (.tmp 7), some (50, true), 0⟩,
    ⟨some 57, .idx 1 (.tmp 55) (.tmp 56), some (50, true), 0⟩,
    ⟨some 58, .load false 1 (.tmp 57), some (50, true), 0⟩,
    ⟨some 59, .len (.tmp 58), some (50, true), 0⟩,
    ⟨some 60, .bin .sub (.tmp 59) (.const (.int .i64 1)), some (50, true), 0⟩,
    ⟨some 61, .idx 1 (.tmp 54) (.tmp 60), some (50, true), 0⟩,
    ⟨some 62, .load false 1 (.tmp 61), some (50, true), 0⟩,
    ⟨some 63, .mv (.tmp 8), some (50, true), 0⟩,
    ⟨some 64, .bin .eql (.tmp 62) (.tmp 63), some (50, true), 0⟩,
    ⟨some 65, .pick (.tmp 50) (.tmp 64) (.const (.bool false)), some (48, true), 0⟩,
    ⟨some 66, .un .not (.tmp 65), some (48, true), 0⟩,
    ⟨some 67, .pick (.tmp 48) (.tmp 66) (.const (.bool false)), none, 0⟩]) <|
  .cond (.tmp 67)
    (.dops [
      ⟨some 68, .fld 1 (.tmp 5), none, 0⟩,
      ⟨some 69, .load false 1 (.tmp 68), none, 0⟩,
      ⟨some 70, .mv (.tmp 6), none, 0⟩,
      ⟨some 71, .fld 1 (.tmp 5), none, 0⟩,
      ⟨some 72, .load false 1 (.tmp 71), none, 0⟩,
      ⟨some 73, .mv (.tmp 6), none, 0⟩,
      ⟨some 74, .idx 1 (.tmp 72) (.tmp 73), none, 0⟩,
      ⟨some 75, .load false 1 (.tmp 74), none, 0⟩,
      ⟨some 76, .mv (.tmp 7), none, 0⟩,
      ⟨some 77, .conv .u64 (.tmp 76), none, 0⟩,
      ⟨some 78, .bin .shl (.const (.int .i64 1)) (.tmp 77), none, 0⟩,
      ⟨some 79, .bin .or (.tmp 75) (.tmp 78), none, 0⟩,
      ⟨some 80, .idx 1 (.tmp 69) (.tmp 70), none, 0⟩,
      ⟨none, .store 1 (.tmp 80) (.tmp 79), none, 0⟩])
    (.skip)) <|
  .ops [
    ⟨some 25, .mv (.tmp 7), none, 0⟩,
    ⟨some 26, .bin .add (.tmp 25) (.const (.int .i64 1)), none, 0⟩,
    ⟨some 7, .mv (.tmp 26), none, 0⟩]
def i_spec_l08Digraph_B2 : FC :=
  .seq (.seq (.ops [
    ⟨some 15, .mv (.tmp 6), none, 0⟩,
    ⟨some 16, .mv (.tmp 0), none, 0⟩,
    ⟨some 17, .len (.tmp 16), none, 0⟩,
    ⟨some 18, .bin .lss (.tmp 15) (.tmp 17), none, 0⟩]) <|
  .cond (.tmp 18)
    (.skip)
    (.keep [4, 5] <|
    .exit 0)) <|
  .seq (.block 1 <|
  .seq (.ops [
    ⟨some 7, .mv (.const (.int .i64 0)), none, 0⟩]) <|
  .block 2 <|
  .loop [0, 1, 4, 5, 6, 7] i_spec_l08Digraph_B1) <|
  .ops [
    ⟨some 19, .mv (.tmp 6), none, 0⟩,
    ⟨some 20, .bin .add (.tmp 19) (.const (.int .i64 1)), none, 0⟩,
    ⟨some 6, .mv (.tmp 20), none, 0⟩]
def i_spec_l08Digraph : FF := ⟨82, [.cell 4 true 2],
  .seq (.ops [
    ⟨some 4, .alloc [.int .i64 0, .slice none 0 0], none, 0⟩]) <|
  .seq (.ops [
    ⟨some 9, .mv (.tmp 0), none, 0⟩,
    ⟨some 10, .len (.tmp 9), none, 0⟩,
    ⟨some 11, .mv (.tmp 0), none, 0⟩,
    ⟨some 12, .len (.tmp 11), none, 0⟩,
    ⟨some 13, .mkSl 1 [.int .i64 0] 8 (.tmp 12) (.tmp 12), none, 0⟩,
    ⟨some 14, .build [.int .i64 0, .slice none 0 0] [(0, 1, (.tmp 10)), (1, 1, (.tmp 13))], none, 0⟩,
    ⟨some 5, .alloc [.int .i64 0, .slice none 0 0], none, 0⟩,
    ⟨none, .store 2 (.tmp 5) (.tmp 14), none, 0⟩]) <|
  .seq (.seq (.ops [
    ⟨some 6, .mv (.const (.int .i64 0)), none, 0⟩]) <|
  .block 0 <|
  .loop [0, 1, 4, 5, 6] i_spec_l08Digraph_B2) <|
  .seq (.ops [
    ⟨some 81, .load true 2 (.tmp 5), none, 0⟩,
    ⟨none, .store 2 (.tmp 4) (.tmp 81), none, 0⟩]) <|
  .keep [4] <|
  .ret⟩

theorem e_spec_l08Digraph : EntOK Try.prog (compD Try.prog) k_spec_l08Digraph i_spec_l08Digraph.vf :=
  ⟨Try.f116, Try.f116.body.getD .skip, Try.func116, by kernel_rfl, by kernel_rfl, by kernel_rfl, by kernel_rfl, by kernel_rfl⟩

/-- loop.example/g01331/spec.l08List -/
def i_spec_l08List_B1 : FC :=
  .seq (.seq (.ops [
    ⟨some 24, .mv (.tmp 11), none, 0⟩,
    ⟨some 25, .mv (.tmp 10), none, 0⟩,
    ⟨some 26, .bin .leq (.tmp 24) (.tmp 25), none, 0⟩]) <|
  .cond (.tmp 26)
    (.skip)
    (.keep [9] <|
    .exit 0)) <|
  .seq (.block 1 <|
  .seq (.ops [
    ⟨some 29, .mv (.tmp 2), none, 0⟩,
    ⟨some 30, .un .not (.tmp 29), none, 0⟩,
    ⟨some 31, .mv (.tmp 30), none, 0⟩,
    ⟨some 32, .mv (.tmp 3), some (31, false), 0⟩,
    ⟨some 33, .len (.tmp 32), some (31, false), 0⟩,
    ⟨some 34, .bin .eql (.tmp 33) (.const (.int .i64 0)), some (31, false), 0⟩,
    ⟨some 35, .pick (.tmp 31) (.const (.bool true)) (.tmp 34), none, 0⟩,
    ⟨some 36, .mv (.tmp 35), none, 0⟩,
    ⟨some 37, .mv (.tmp 3), some (36, false), 0⟩,
    ⟨some 38, .mv (.tmp 3), some (36, false), 0⟩,
    ⟨some 39, .len (.tmp 38), some (36, false), 0⟩,
    ⟨some 40, .bin .sub (.tmp 39) (.const (.int .i64 1)), some (36, false), 0⟩,
    ⟨some 41, .idx 1 (.tmp 37) (.tmp 40), some (36, false), 0⟩,
    ⟨some 42, .load false 1 (.tmp 41), some (36, false), 0⟩,
    ⟨some 43, .mv (.tmp 11), some (36, false), 0⟩,
    ⟨some 44, .bin .neq (.tmp 42) (.tmp 43), some (36, false), 0⟩,
    ⟨some 45, .pick (.tmp 36) (.const (.bool true)) (.tmp 44), none, 0⟩]) <|
  .cond (.tmp 45)
    (.ops [
      ⟨some 46, .mv (.tmp 9), none, 0⟩,
      ⟨some 47, .mv (.tmp 0), none, 0⟩,
      ⟨some 48, .mv (.tmp 1), none, 0⟩,
      ⟨some 49, .mv (.tmp 2), none, 0⟩,
      ⟨some 50, .mv (.tmp 3), none, 0⟩,
      ⟨some 51, .call k_spec_l01Own [(.tmp 50)], none, 0⟩,
      ⟨some 52, .mv (.tmp 11), none, 0⟩,
      ⟨some 53, .buildSl 1 [.int .i64 0] [(0, 1, (.tmp 52))] 1, none, 0⟩,
      ⟨some 54, .app 1 8 [.int .i64 0] (.tmp 51) (.tmp 53), none, 0⟩,
      ⟨some 55, .call k_spec_l08List [(.tmp 47), (.tmp 48), (.tmp 49), (.tmp 54)], none, 0⟩,
      ⟨some 56, .app 1 24 [.slice none 0 0] (.tmp 46) (.tmp 55), none, 0⟩,
      ⟨some 9, .mv (.tmp 56), none, 0⟩])
    (.skip)) <|
  .ops [
    ⟨some 27, .mv (.tmp 11), none, 0⟩,
    ⟨some 28, .bin .add (.tmp 27) (.const (.int .i64 1)), none, 0⟩,
    ⟨some 11, .mv (.tmp 28), none, 0⟩]
def i_spec_l08List : FF := ⟨58, [.tmp 8],
  .seq (.ops [
    ⟨some 8, .mv (.const (.slice none 0 0)), none, 0⟩]) <|
  .seq (.seq (.ops [
    ⟨some 12, .mv (.tmp 3), none, 0⟩,
    ⟨some 13, .len (.tmp 12), none, 0⟩,
    ⟨some 14, .mv (.tmp 1), none, 0⟩,
    ⟨some 15, .bin .eql (.tmp 13) (.tmp 14), none, 0⟩]) <|
  .cond (.tmp 15)
    (.seq (.ops [
      ⟨some 16, .mv (.tmp 3), none, 0⟩,
      ⟨some 17, .call k_spec_l01Own [(.tmp 16)], none, 0⟩,
      ⟨some 18, .buildSl 1 [.slice none 0 0] [(0, 1, (.tmp 17))] 1, none, 0⟩,
      ⟨some 8, .mv (.tmp 18), none, 0⟩]) <|
    .keep [8] <|
    .ret)
    (.skip)) <|
  .seq (.ops [
    ⟨some 19, .buildSl 1 [] [] 0, none, 0⟩,
    ⟨some 20, .mv (.tmp 0), none, 0⟩,
    ⟨some 21, .bin .sub (.tmp 20) (.const (.int .i64 1)), none, 0⟩,
    ⟨some 9, .mv (.tmp 19), none, 0⟩,
    ⟨some 10, .mv (.tmp 21), none, 0⟩]) <|
  .seq (.seq (.ops [
    ⟨some 22, .mv (.tmp 2), none, 0⟩]) <|
  .cond (.tmp 22)
    (.ops [
      ⟨some 23, .mv (.tmp 0), none, 0⟩,
      ⟨some 10, .mv (.tmp 23), none, 0⟩])
    (.skip)) <|
  .seq (.seq (.ops [
    ⟨some 11, .mv (.const (.int .i64 0)), none, 0⟩]) <|
  .block 0 <|
  .loop [0, 1, 2, 3, 9, 10, 11] i_spec_l08List_B1) <|
  .seq (.ops [
    ⟨some 57, .mv (.tmp 9), none, 0⟩,
    ⟨some 8, .mv (.tmp 57), none, 0⟩]) <|
  .keep [8] <|
  .ret⟩

theorem e_spec_l08List : EntOK Try.prog (compD Try.prog) k_spec_l08List i_spec_l08List.vf :=
  ⟨Try.f117, Try.f117.body.getD .skip, Try.func117, by kernel_rfl, by kernel_rfl, by kernel_rfl, by kernel_rfl, by kernel_rfl⟩

/-- loop.example/g01331/spec.l08Words -/
def i_spec_l08Words_B1 : FC :=
  .seq (.seq (.ops [
    ⟨some 12, .mv (.tmp 1), none, 0⟩,
    ⟨some 13, .bin .gtr (.tmp 12) (.const (.int .i64 1)), none, 0⟩]) <|
  .cond (.tmp 13)
    (.skip)
    (.keep [7] <|
    .exit 0)) <|
  .seq (.block 1 <|
  .ops [
    ⟨some 16, .mv (.tmp 7), none, 0⟩,
    ⟨some 17, .mv (.tmp 0), none, 0⟩,
    ⟨some 18, .bin .mul (.tmp 16) (.tmp 17), none, 0⟩,
    ⟨some 19, .minmax false [(.tmp 18), (.const (.int .i64 63))], none, 0⟩,
    ⟨some 7, .mv (.tmp 19), none, 0⟩]) <|
  .ops [
    ⟨some 14, .mv (.tmp 1), none, 0⟩,
    ⟨some 15, .bin .sub (.tmp 14) (.const (.int .i64 1)), none, 0⟩,
    ⟨some 1, .mv (.tmp 15), none, 0⟩]
def i_spec_l08Words : FF := ⟨21, [.tmp 6],
  .seq (.ops [
    ⟨some 6, .mv (.const (.int .i64 0)), none, 0⟩]) <|
  .seq (.ops [
    ⟨some 8, .mv (.tmp 0), none, 0⟩,
    ⟨some 7, .mv (.tmp 8), none, 0⟩]) <|
  .seq (.seq (.ops [
    ⟨some 9, .mv (.tmp 2), none, 0⟩]) <|
  .cond (.tmp 9)
    (.ops [
      ⟨some 10, .mv (.tmp 0), none, 0⟩,
      ⟨some 11, .bin .add (.tmp 10) (.const (.int .i64 1)), none, 0⟩,
      ⟨some 7, .mv (.tmp 11), none, 0⟩])
    (.skip)) <|
  .seq (.block 0 <|
  .loop [0, 1, 7] i_spec_l08Words_B1) <|
  .seq (.ops [
    ⟨some 20, .mv (.tmp 7), none, 0⟩,
    ⟨some 6, .mv (.tmp 20), none, 0⟩]) <|
  .keep [6] <|
  .ret⟩

theorem e_spec_l08Words : EntOK Try.prog (compD Try.prog) k_spec_l08Words i_spec_l08Words.vf :=
  ⟨Try.f118, Try.f118.body.getD .skip, Try.func118, by kernel_rfl, by kernel_rfl, by kernel_rfl, by kernel_rfl, by kernel_rfl⟩

/-- loop.example/g01331/spec.l08Follows -/
def i_spec_l08Follows_B1 : FC :=
  .seq (.seq (.ops [
    ⟨some 6, .mv (.tmp 5), none, 0⟩,
    ⟨some 7, .mv (.tmp 0), none, 0⟩,
    ⟨some 8, .len (.tmp 7), none, 0⟩,
    ⟨some 9, .bin .lss (.tmp 6) (.tmp 8), none, 0⟩]) <|
  .cond (.tmp 9)
    (.skip)
    (.keep [] <|
    .exit 0)) <|
  .seq (.block 1 <|
  .seq (.dops [
    ⟨some 12, .mv (.tmp 0), none, 0⟩,
    ⟨some 13, .mv (.tmp 5), none, 0⟩,
    ⟨some 14, .idx 1 (.tmp 12) (.tmp 13), none, 0⟩,
    ⟨some 15, .load false 1 (.tmp 14), none, 0⟩,
    ⟨some 16, .mv (.tmp 1), none, 0⟩,
    ⟨some 17, .mv (.tmp 5), none, 0⟩,
    ⟨some 18, .bin .sub (.tmp 17) (.const (.int .i64 1)), none, 0⟩,
    ⟨some 19, .idx 1 (.tmp 16) (.tmp 18), none, 0⟩,
    ⟨some 20, .load false 1 (.tmp 19), none, 0⟩,
    ⟨some 21, .bin .neq (.tmp 15) (.tmp 20), none, 0⟩]) <|
  .cond (.tmp 21)
    (.seq (.ops [
      ⟨some 4, .mv (.const (.bool false)), none, 0⟩]) <|
    .keep [4] <|
    .ret)
    (.skip)) <|
  .ops [
    ⟨some 10, .mv (.tmp 5), none, 0⟩,
    ⟨some 11, .bin .add (.tmp 10) (.const (.int .i64 1)), none, 0⟩,
    ⟨some 5, .mv (.tmp 11), none, 0⟩]
def i_spec_l08Follows : FF := ⟨22, [.tmp 4],
  .seq (.ops [
    ⟨some 4, .mv (.const (.bool false)), none, 0⟩]) <|
  .seq (.seq (.ops [
    ⟨some 5, .mv (.const (.int .i64 1)), none, 0⟩]) <|
  .block 0 <|
  .loop [0, 1, 5] i_spec_l08Follows_B1) <|
  .seq (.ops [
    ⟨some 4, .mv (.const (.bool true)), none, 0⟩]) <|
  .keep [4] <|
  .ret⟩

theorem e_spec_l08Follows : EntOK Try.prog (compD Try.prog) k_spec_l08Follows i_spec_l08Follows.vf :=
  ⟨Try.f119, Try.f119.body.getD .skip, Try.func119, by kernel_rfl, by kernel_rfl, by kernel_rfl, by kernel_rfl, by kernel_rfl⟩

def tab : List (Nat × FF) := [(k_laws_FnExactDoubleGraph, i_laws_FnExactDoubleGraph), (k_laws_FnExactIsDesk, i_laws_FnExactIsDesk), (k_laws_FnExactIsCover, i_laws_FnExactIsCover), (k_laws_FnExactPartOn, i_laws_FnExactPartOn), (k_laws_FnExactPutEdge, i_laws_FnExactPutEdge), (k_laws_FnExactTakeEdge, i_laws_FnExactTakeEdge), (k_laws_FnExactDirectProduct, i_laws_FnExactDirectProduct), (k_laws_FnExactProductOf, i_laws_FnExactProductOf), (k_laws_FnExactTakeVertex, i_laws_FnExactTakeVertex), (k_laws_FnExactNewDesk, i_laws_FnExactNewDesk), (k_laws_szGraph, i_laws_szGraph), (k_spec_DoubleGraph, i_spec_DoubleGraph), (k_laws_toGraph, i_laws_toGraph), (k_impl_DoubleGraph, i_impl_DoubleGraph), (k_laws_eqGraph, i_laws_eqGraph), (k_laws_markGraph, i_laws_markGraph), (k_laws_heldGraph, i_laws_heldGraph), (k_laws_szDesk, i_laws_szDesk), (k_spec_IsDesk, i_spec_IsDesk), (k_laws_toDesk, i_laws_toDesk), (k_impl_IsDesk, i_impl_IsDesk), (k_laws_eqDesk, i_laws_eqDesk), (k_spec_IsCover, i_spec_IsCover), (k_laws_toInt64S, i_laws_toInt64S), (k_impl_IsCover, i_impl_IsCover), (k_laws_eqInt64S, i_laws_eqInt64S), (k_spec_PartOn, i_spec_PartOn), (k_impl_PartOn, i_impl_PartOn), (k_laws_markInt64S, i_laws_markInt64S), (k_spec_PutEdge, i_spec_PutEdge), (k_impl_PutEdge, i_impl_PutEdge), (k_spec_TakeEdge, i_spec_TakeEdge), (k_impl_TakeEdge, i_impl_TakeEdge), (k_spec_DirectProduct, i_spec_DirectProduct), (k_impl_DirectProduct, i_impl_DirectProduct), (k_spec_ProductOf, i_spec_ProductOf), (k_impl_ProductOf, i_impl_ProductOf), (k_spec_TakeVertex, i_spec_TakeVertex), (k_impl_TakeVertex, i_impl_TakeVertex), (k_spec_NewDesk, i_spec_NewDesk), (k_impl_NewDesk, i_impl_NewDesk), (k_laws_markDesk, i_laws_markDesk), (k_laws_heldDesk, i_laws_heldDesk), (k_laws_szInt64S, i_laws_szInt64S), (k_spec_l01Is, i_spec_l01Is), (k_spec_l01Empty, i_spec_l01Empty), (k_spec_l04With, i_spec_l04With), (k_impl_IsGraph, i_impl_IsGraph), (k_impl_made, i_impl_made), (k_impl_DoubleGraph_1, i_impl_DoubleGraph_1), (k_impl_Graph_has, i_impl_Graph_has), (k_laws_heldInt64S, i_laws_heldInt64S), (k_laws_szDigraph, i_laws_szDigraph), (k_spec_l08Is, i_spec_l08Is), (k_laws_toDigraph, i_laws_toDigraph), (k_impl_IsDigraph, i_impl_IsDigraph), (k_laws_eqDigraph, i_laws_eqDigraph), (k_spec_l01In, i_spec_l01In), (k_spec_l01Neighbours, i_spec_l01Neighbours), (k_impl_areGraphs, i_impl_areGraphs), (k_impl_graphCode, i_impl_graphCode), (k_impl_size, i_impl_size), (k_impl_Graph_degree, i_impl_Graph_degree), (k_spec_l01Vertices, i_spec_l01Vertices), (k_spec_l01On, i_spec_l01On), (k_impl_Graph_partOn, i_impl_Graph_partOn), (k_spec_l01Two, i_spec_l01Two), (k_spec_l01Has, i_spec_l01Has), (k_spec_l01Join, i_spec_l01Join), (k_impl_pairCode, i_impl_pairCode), (k_impl_own, i_impl_own), (k_impl_Graph_put, i_impl_Graph_put), (k_spec_l01Cut, i_spec_l01Cut), (k_impl_Graph_take, i_impl_Graph_take), (k_spec_l09Code, i_spec_l09Code), (k_spec_l09Told, i_spec_l09Told), (k_spec_l09Direct, i_spec_l09Direct), (k_impl_product, i_impl_product), (k_impl_DirectProduct_1, i_impl_DirectProduct_1), (k_spec_l09Product, i_spec_l09Product), (k_impl_ProductOf_1, i_impl_ProductOf_1), (k_spec_l09Without, i_spec_l09Without), (k_impl_Graph_without, i_impl_Graph_without), (k_spec_l11New, i_spec_l11New), (k_impl_ringGraph, i_impl_ringGraph), (k_impl_kautz, i_impl_kautz), (k_laws_markDigraph, i_laws_markDigraph), (k_laws_heldDigraph, i_laws_heldDigraph), (k_impl_empty, i_impl_empty), (k_slices_ContainsFunc_int64_int64, i_slices_ContainsFunc_int64_int64), (k_impl_IsDigraph_1, i_impl_IsDigraph_1), (k_math_bits_OnesCount64, i_math_bits_OnesCount64), (k_spec_l01Put, i_spec_l01Put), (k_spec_l01Copy, i_spec_l01Copy), (k_slices_Clone_int64_int64, i_slices_Clone_int64_int64), (k_spec_l01Edges, i_spec_l01Edges), (k_impl_limitedCode, i_impl_limitedCode), (k_impl_product_1, i_impl_product_1), (k_slices_DeleteFunc_int64_int64, i_slices_DeleteFunc_int64_int64), (k_impl_counting, i_impl_counting), (k_impl_Graph_without_1, i_impl_Graph_without_1), (k_spec_l01Named, i_spec_l01Named), (k_spec_KautzDigraph, i_spec_KautzDigraph), (k_impl_kautzWords, i_impl_kautzWords), (k_impl_directed, i_impl_directed), (k_impl_kautz_1, i_impl_kautz_1), (k_slices_Equal_int64_int64, i_slices_Equal_int64_int64), (k_slices_IndexFunc_int64_int64, i_slices_IndexFunc_int64_int64), (k_spec_l01Own, i_spec_l01Own), (k_spec_l01Complement, i_spec_l01Complement), (k_spec_l01Beside, i_spec_l01Beside), (k_spec_l01Jumps, i_spec_l01Jumps), (k_spec_l08Kautz, i_spec_l08Kautz), (k_spec_l08Digraph, i_spec_l08Digraph), (k_spec_l08List, i_spec_l08List), (k_spec_l08Words, i_spec_l08Words), (k_spec_l08Follows, i_spec_l08Follows)]
theorem tabOK : ∀ p ∈ tab, EntOK Try.prog (compD Try.prog) p.1 p.2.vf := by
  intro p hp
  simp only [tab, List.mem_cons, List.not_mem_nil, or_false] at hp
  rcases hp with rfl | rfl | rfl | rfl | rfl | rfl | rfl | rfl | rfl | rfl | rfl | rfl | rfl | rfl | rfl | rfl | rfl | rfl | rfl | rfl | rfl | rfl | rfl | rfl | rfl | rfl | rfl | rfl | rfl | rfl | rfl | rfl | rfl | rfl | rfl | rfl | rfl | rfl | rfl | rfl | rfl | rfl | rfl | rfl | rfl | rfl | rfl | rfl | rfl | rfl | rfl | rfl | rfl | rfl | rfl | rfl | rfl | rfl | rfl | rfl | rfl | rfl | rfl | rfl | rfl | rfl | rfl | rfl | rfl | rfl | rfl | rfl | rfl | rfl | rfl | rfl | rfl | rfl | rfl | rfl | rfl | rfl | rfl | rfl | rfl | rfl | rfl | rfl | rfl | rfl | rfl | rfl | rfl | rfl | rfl | rfl | rfl | rfl | rfl | rfl | rfl | rfl | rfl | rfl | rfl | rfl | rfl | rfl | rfl | rfl | rfl | rfl | rfl | rfl | rfl | rfl | rfl
  · exact e_laws_FnExactDoubleGraph
  · exact e_laws_FnExactIsDesk
  · exact e_laws_FnExactIsCover
  · exact e_laws_FnExactPartOn
  · exact e_laws_FnExactPutEdge
  · exact e_laws_FnExactTakeEdge
  · exact e_laws_FnExactDirectProduct
  · exact e_laws_FnExactProductOf
  · exact e_laws_FnExactTakeVertex
  · exact e_laws_FnExactNewDesk
  · exact e_laws_szGraph
  · exact e_spec_DoubleGraph
  · exact e_laws_toGraph
  · exact e_impl_DoubleGraph
  · exact e_laws_eqGraph
  · exact e_laws_markGraph
  · exact e_laws_heldGraph
  · exact e_laws_szDesk
  · exact e_spec_IsDesk
  · exact e_laws_toDesk
  · exact e_impl_IsDesk
  · exact e_laws_eqDesk
  · exact e_spec_IsCover
  · exact e_laws_toInt64S
  · exact e_impl_IsCover
  · exact e_laws_eqInt64S
  · exact e_spec_PartOn
  · exact e_impl_PartOn
  · exact e_laws_markInt64S
  · exact e_spec_PutEdge
  · exact e_impl_PutEdge
  · exact e_spec_TakeEdge
  · exact e_impl_TakeEdge
  · exact e_spec_DirectProduct
  · exact e_impl_DirectProduct
  · exact e_spec_ProductOf
  · exact e_impl_ProductOf
  · exact e_spec_TakeVertex
  · exact e_impl_TakeVertex
  · exact e_spec_NewDesk
  · exact e_impl_NewDesk
  · exact e_laws_markDesk
  · exact e_laws_heldDesk
  · exact e_laws_szInt64S
  · exact e_spec_l01Is
  · exact e_spec_l01Empty
  · exact e_spec_l04With
  · exact e_impl_IsGraph
  · exact e_impl_made
  · exact e_impl_DoubleGraph_1
  · exact e_impl_Graph_has
  · exact e_laws_heldInt64S
  · exact e_laws_szDigraph
  · exact e_spec_l08Is
  · exact e_laws_toDigraph
  · exact e_impl_IsDigraph
  · exact e_laws_eqDigraph
  · exact e_spec_l01In
  · exact e_spec_l01Neighbours
  · exact e_impl_areGraphs
  · exact e_impl_graphCode
  · exact e_impl_size
  · exact e_impl_Graph_degree
  · exact e_spec_l01Vertices
  · exact e_spec_l01On
  · exact e_impl_Graph_partOn
  · exact e_spec_l01Two
  · exact e_spec_l01Has
  · exact e_spec_l01Join
  · exact e_impl_pairCode
  · exact e_impl_own
  · exact e_impl_Graph_put
  · exact e_spec_l01Cut
  · exact e_impl_Graph_take
  · exact e_spec_l09Code
  · exact e_spec_l09Told
  · exact e_spec_l09Direct
  · exact e_impl_product
  · exact e_impl_DirectProduct_1
  · exact e_spec_l09Product
  · exact e_impl_ProductOf_1
  · exact e_spec_l09Without
  · exact e_impl_Graph_without
  · exact e_spec_l11New
  · exact e_impl_ringGraph
  · exact e_impl_kautz
  · exact e_laws_markDigraph
  · exact e_laws_heldDigraph
  · exact e_impl_empty
  · exact e_slices_ContainsFunc_int64_int64
  · exact e_impl_IsDigraph_1
  · exact e_math_bits_OnesCount64
  · exact e_spec_l01Put
  · exact e_spec_l01Copy
  · exact e_slices_Clone_int64_int64
  · exact e_spec_l01Edges
  · exact e_impl_limitedCode
  · exact e_impl_product_1
  · exact e_slices_DeleteFunc_int64_int64
  · exact e_impl_counting
  · exact e_impl_Graph_without_1
  · exact e_spec_l01Named
  · exact e_spec_KautzDigraph
  · exact e_impl_kautzWords
  · exact e_impl_directed
  · exact e_impl_kautz_1
  · exact e_slices_Equal_int64_int64
  · exact e_slices_IndexFunc_int64_int64
  · exact e_spec_l01Own
  · exact e_spec_l01Complement
  · exact e_spec_l01Beside
  · exact e_spec_l01Jumps
  · exact e_spec_l08Kautz
  · exact e_spec_l08Digraph
  · exact e_spec_l08List
  · exact e_spec_l08Words
  · exact e_spec_l08Follows

def F (n : Nat) : Option Ent := (tab.lookup n).map fun f => .ir f.vf
theorem v_laws_FnExactDoubleGraph {nro : Nat} {args : List Value} {h : VH} {r : Value × VH} (ha : args.length ≤ i_laws_FnExactDoubleGraph.ntmps) (hr : fbody (vcall F nro) nro i_laws_FnExactDoubleGraph args h = some r) : vcall F nro k_laws_FnExactDoubleGraph args h = some r := vcall_f (by kernel_rfl) (by kernel_rfl) ha hr
theorem v_laws_FnExactIsDesk {nro : Nat} {args : List Value} {h : VH} {r : Value × VH} (ha : args.length ≤ i_laws_FnExactIsDesk.ntmps) (hr : fbody (vcall F nro) nro i_laws_FnExactIsDesk args h = some r) : vcall F nro k_laws_FnExactIsDesk args h = some r := vcall_f (by kernel_rfl) (by kernel_rfl) ha hr
theorem v_laws_FnExactIsCover {nro : Nat} {args : List Value} {h : VH} {r : Value × VH} (ha : args.length ≤ i_laws_FnExactIsCover.ntmps) (hr : fbody (vcall F nro) nro i_laws_FnExactIsCover args h = some r) : vcall F nro k_laws_FnExactIsCover args h = some r := vcall_f (by kernel_rfl) (by kernel_rfl) ha hr
theorem v_laws_FnExactPartOn {nro : Nat} {args : List Value} {h : VH} {r : Value × VH} (ha : args.length ≤ i_laws_FnExactPartOn.ntmps) (hr : fbody (vcall F nro) nro i_laws_FnExactPartOn args h = some r) : vcall F nro k_laws_FnExactPartOn args h = some r := vcall_f (by kernel_rfl) (by kernel_rfl) ha hr
theorem v_laws_FnExactPutEdge {nro : Nat} {args : List Value} {h : VH} {r : Value × VH} (ha : args.length ≤ i_laws_FnExactPutEdge.ntmps) (hr : fbody (vcall F nro) nro i_laws_FnExactPutEdge args h = some r) : vcall F nro k_laws_FnExactPutEdge args h = some r := vcall_f (by kernel_rfl) (by kernel_rfl) ha hr
theorem v_laws_FnExactTakeEdge {nro : Nat} {args : List Value} {h : VH} {r : Value × VH} (ha : args.length ≤ i_laws_FnExactTakeEdge.ntmps) (hr : fbody (vcall F nro) nro i_laws_FnExactTakeEdge args h = some r) : vcall F nro k_laws_FnExactTakeEdge args h = some r := vcall_f (by kernel_rfl) (by kernel_rfl) ha hr
theorem v_laws_FnExactDirectProduct {nro : Nat} {args : List Value} {h : VH} {r : Value × VH} (ha : args.length ≤ i_laws_FnExactDirectProduct.ntmps) (hr : fbody (vcall F nro) nro i_laws_FnExactDirectProduct args h = some r) : vcall F nro k_laws_FnExactDirectProduct args h = some r := vcall_f (by kernel_rfl) (by kernel_rfl) ha hr
theorem v_laws_FnExactProductOf {nro : Nat} {args : List Value} {h : VH} {r : Value × VH} (ha : args.length ≤ i_laws_FnExactProductOf.ntmps) (hr : fbody (vcall F nro) nro i_laws_FnExactProductOf args h = some r) : vcall F nro k_laws_FnExactProductOf args h = some r := vcall_f (by kernel_rfl) (by kernel_rfl) ha hr
theorem v_laws_FnExactTakeVertex {nro : Nat} {args : List Value} {h : VH} {r : Value × VH} (ha : args.length ≤ i_laws_FnExactTakeVertex.ntmps) (hr : fbody (vcall F nro) nro i_laws_FnExactTakeVertex args h = some r) : vcall F nro k_laws_FnExactTakeVertex args h = some r := vcall_f (by kernel_rfl) (by kernel_rfl) ha hr
theorem v_laws_FnExactNewDesk {nro : Nat} {args : List Value} {h : VH} {r : Value × VH} (ha : args.length ≤ i_laws_FnExactNewDesk.ntmps) (hr : fbody (vcall F nro) nro i_laws_FnExactNewDesk args h = some r) : vcall F nro k_laws_FnExactNewDesk args h = some r := vcall_f (by kernel_rfl) (by kernel_rfl) ha hr
theorem v_laws_szGraph {nro : Nat} {args : List Value} {h : VH} {r : Value × VH} (ha : args.length ≤ i_laws_szGraph.ntmps) (hr : fbody (vcall F nro) nro i_laws_szGraph args h = some r) : vcall F nro k_laws_szGraph args h = some r := vcall_f (by kernel_rfl) (by kernel_rfl) ha hr
theorem v_spec_DoubleGraph {nro : Nat} {args : List Value} {h : VH} {r : Value × VH} (ha : args.length ≤ i_spec_DoubleGraph.ntmps) (hr : fbody (vcall F nro) nro i_spec_DoubleGraph args h = some r) : vcall F nro k_spec_DoubleGraph args h = some r := vcall_f (by kernel_rfl) (by kernel_rfl) ha hr
theorem v_laws_toGraph {nro : Nat} {args : List Value} {h : VH} {r : Value × VH} (ha : args.length ≤ i_laws_toGraph.ntmps) (hr : fbody (vcall F nro) nro i_laws_toGraph args h = some r) : vcall F nro k_laws_toGraph args h = some r := vcall_f (by kernel_rfl) (by kernel_rfl) ha hr
theorem v_impl_DoubleGraph {nro : Nat} {args : List Value} {h : VH} {r : Value × VH} (ha : args.length ≤ i_impl_DoubleGraph.ntmps) (hr : fbody (vcall F nro) nro i_impl_DoubleGraph args h = some r) : vcall F nro k_impl_DoubleGraph args h = some r := vcall_f (by kernel_rfl) (by kernel_rfl) ha hr
theorem v_laws_eqGraph {nro : Nat} {args : List Value} {h : VH} {r : Value × VH} (ha : args.length ≤ i_laws_eqGraph.ntmps) (hr : fbody (vcall F nro) nro i_laws_eqGraph args h = some r) : vcall F nro k_laws_eqGraph args h = some r := vcall_f (by kernel_rfl) (by kernel_rfl) ha hr
theorem v_laws_markGraph {nro : Nat} {args : List Value} {h : VH} {r : Value × VH} (ha : args.length ≤ i_laws_markGraph.ntmps) (hr : fbody (vcall F nro) nro i_laws_markGraph args h = some r) : vcall F nro k_laws_markGraph args h = some r := vcall_f (by kernel_rfl) (by kernel_rfl) ha hr
theorem v_laws_heldGraph {nro : Nat} {args : List Value} {h : VH} {r : Value × VH} (ha : args.length ≤ i_laws_heldGraph.ntmps) (hr : fbody (vcall F nro) nro i_laws_heldGraph args h = some r) : vcall F nro k_laws_heldGraph args h = some r := vcall_f (by kernel_rfl) (by kernel_rfl) ha hr
theorem v_laws_szDesk {nro : Nat} {args : List Value} {h : VH} {r : Value × VH} (ha : args.length ≤ i_laws_szDesk.ntmps) (hr : fbody (vcall F nro) nro i_laws_szDesk args h = some r) : vcall F nro k_laws_szDesk args h = some r := vcall_f (by kernel_rfl) (by kernel_rfl) ha hr
theorem v_spec_IsDesk {nro : Nat} {args : List Value} {h : VH} {r : Value × VH} (ha : args.length ≤ i_spec_IsDesk.ntmps) (hr : fbody (vcall F nro) nro i_spec_IsDesk args h = some r) : vcall F nro k_spec_IsDesk args h = some r := vcall_f (by kernel_rfl) (by kernel_rfl) ha hr
theorem v_laws_toDesk {nro : Nat} {args : List Value} {h : VH} {r : Value × VH} (ha : args.length ≤ i_laws_toDesk.ntmps) (hr : fbody (vcall F nro) nro i_laws_toDesk args h = some r) : vcall F nro k_laws_toDesk args h = some r := vcall_f (by kernel_rfl) (by kernel_rfl) ha hr
theorem v_impl_IsDesk {nro : Nat} {args : List Value} {h : VH} {r : Value × VH} (ha : args.length ≤ i_impl_IsDesk.ntmps) (hr : fbody (vcall F nro) nro i_impl_IsDesk args h = some r) : vcall F nro k_impl_IsDesk args h = some r := vcall_f (by kernel_rfl) (by kernel_rfl) ha hr
theorem v_laws_eqDesk {nro : Nat} {args : List Value} {h : VH} {r : Value × VH} (ha : args.length ≤ i_laws_eqDesk.ntmps) (hr : fbody (vcall F nro) nro i_laws_eqDesk args h = some r) : vcall F nro k_laws_eqDesk args h = some r := vcall_f (by kernel_rfl) (by kernel_rfl) ha hr
theorem v_spec_IsCover {nro : Nat} {args : List Value} {h : VH} {r : Value × VH} (ha : args.length ≤ i_spec_IsCover.ntmps) (hr : fbody (vcall F nro) nro i_spec_IsCover args h = some r) : vcall F nro k_spec_IsCover args h = some r := vcall_f (by kernel_rfl) (by kernel_rfl) ha hr
theorem v_laws_toInt64S {nro : Nat} {args : List Value} {h : VH} {r : Value × VH} (ha : args.length ≤ i_laws_toInt64S.ntmps) (hr : fbody (vcall F nro) nro i_laws_toInt64S args h = some r) : vcall F nro k_laws_toInt64S args h = some r := vcall_f (by kernel_rfl) (by kernel_rfl) ha hr
theorem v_impl_IsCover {nro : Nat} {args : List Value} {h : VH} {r : Value × VH} (ha : args.length ≤ i_impl_IsCover.ntmps) (hr : fbody (vcall F nro) nro i_impl_IsCover args h = some r) : vcall F nro k_impl_IsCover args h = some r := vcall_f (by kernel_rfl) (by kernel_rfl) ha hr
theorem v_laws_eqInt64S {nro : Nat} {args : List Value} {h : VH} {r : Value × VH} (ha : args.length ≤ i_laws_eqInt64S.ntmps) (hr : fbody (vcall F nro) nro i_laws_eqInt64S args h = some r) : vcall F nro k_laws_eqInt64S args h = some r := vcall_f (by kernel_rfl) (by kernel_rfl) ha hr
theorem v_spec_PartOn {nro : Nat} {args : List Value} {h : VH} {r : Value × VH} (ha : args.length ≤ i_spec_PartOn.ntmps) (hr : fbody (vcall F nro) nro i_spec_PartOn args h = some r) : vcall F nro k_spec_PartOn args h = some r := vcall_f (by kernel_rfl) (by kernel_rfl) ha hr
theorem v_impl_PartOn {nro : Nat} {args : List Value} {h : VH} {r : Value × VH} (ha : args.length ≤ i_impl_PartOn.ntmps) (hr : fbody (vcall F nro) nro i_impl_PartOn args h = some r) : vcall F nro k_impl_PartOn args h = some r := vcall_f (by kernel_rfl) (by kernel_rfl) ha hr
theorem v_laws_markInt64S {nro : Nat} {args : List Value} {h : VH} {r : Value × VH} (ha : args.length ≤ i_laws_markInt64S.ntmps) (hr : fbody (vcall F nro) nro i_laws_markInt64S args h = some r) : vcall F nro k_laws_markInt64S args h = some r := vcall_f (by kernel_rfl) (by kernel_rfl) ha hr
theorem v_spec_PutEdge {nro : Nat} {args : List Value} {h : VH} {r : Value × VH} (ha : args.length ≤ i_spec_PutEdge.ntmps) (hr : fbody (vcall F nro) nro i_spec_PutEdge args h = some r) : vcall F nro k_spec_PutEdge args h = some r := vcall_f (by kernel_rfl) (by kernel_rfl) ha hr
theorem v_impl_PutEdge {nro : Nat} {args : List Value} {h : VH} {r : Value × VH} (ha : args.length ≤ i_impl_PutEdge.ntmps) (hr : fbody (vcall F nro) nro i_impl_PutEdge args h = some r) : vcall F nro k_impl_PutEdge args h = some r := vcall_f (by kernel_rfl) (by kernel_rfl) ha hr
theorem v_spec_TakeEdge {nro : Nat} {args : List Value} {h : VH} {r : Value × VH} (ha : args.length ≤ i_spec_TakeEdge.ntmps) (hr : fbody (vcall F nro) nro i_spec_TakeEdge args h = some r) : vcall F nro k_spec_TakeEdge args h = some r := vcall_f (by kernel_rfl) (by kernel_rfl) ha hr
theorem v_impl_TakeEdge {nro : Nat} {args : List Value} {h : VH} {r : Value × VH} (ha : args.length ≤ i_impl_TakeEdge.ntmps) (hr : fbody (vcall F nro) nro i_impl_TakeEdge args h = some r) : vcall F nro k_impl_TakeEdge args h = some r := vcall_f (by kernel_rfl) (by kernel_rfl) ha hr
theorem v_spec_DirectProduct {nro : Nat} {args : List Value} {h : VH} {r : Value × VH} (ha : args.length ≤ i_spec_DirectProduct.ntmps) (hr : fbody (vcall F nro) nro i_spec_DirectProduct args h = some r) : vcall F nro k_spec_DirectProduct args h = some r := vcall_f (by kernel_rfl) (by kernel_rfl) ha hr
theorem v_impl_DirectProduct {nro : Nat} {args : List Value} {h : VH} {r : Value × VH} (ha : args.length ≤ i_impl_DirectProduct.ntmps) (hr : fbody (vcall F nro) nro i_impl_DirectProduct args h = some r) : vcall F nro k_impl_DirectProduct args h = some r := vcall_f (by kernel_rfl) (by kernel_rfl) ha hr
theorem v_spec_ProductOf {nro : Nat} {args : List Value} {h : VH} {r : Value × VH} (ha : args.length ≤ i_spec_ProductOf.ntmps) (hr : fbody (vcall F nro) nro i_spec_ProductOf args h = some r) : vcall F nro k_spec_ProductOf args h = some r := vcall_f (by kernel_rfl) (by kernel_rfl) ha hr
theorem v_impl_ProductOf {nro : Nat} {args : List Value} {h : VH} {r : Value × VH} (ha : args.length ≤ i_impl_ProductOf.ntmps) (hr : fbody (vcall F nro) nro i_impl_ProductOf args h = some r) : vcall F nro k_impl_ProductOf args h = some r := vcall_f (by kernel_rfl) (by kernel_rfl) ha hr
theorem v_spec_TakeVertex {nro : Nat} {args : List Value} {h : VH} {r : Value × VH} (ha : args.length ≤ i_spec_TakeVertex.ntmps) (hr : fbody (vcall F nro) nro i_spec_TakeVertex args h = some r) : vcall F nro k_spec_TakeVertex args h = some r := vcall_f (by kernel_rfl) (by kernel_rfl) ha hr
theorem v_impl_TakeVertex {nro : Nat} {args : List Value} {h : VH} {r : Value × VH} (ha : args.length ≤ i_impl_TakeVertex.ntmps) (hr : fbody (vcall F nro) nro i_impl_TakeVertex args h = some r) : vcall F nro k_impl_TakeVertex args h = some r := vcall_f (by kernel_rfl) (by kernel_rfl) ha hr
theorem v_spec_NewDesk {nro : Nat} {args : List Value} {h : VH} {r : Value × VH} (ha : args.length ≤ i_spec_NewDesk.ntmps) (hr : fbody (vcall F nro) nro i_spec_NewDesk args h = some r) : vcall F nro k_spec_NewDesk args h = some r := vcall_f (by kernel_rfl) (by kernel_rfl) ha hr
theorem v_impl_NewDesk {nro : Nat} {args : List Value} {h : VH} {r : Value × VH} (ha : args.length ≤ i_impl_NewDesk.ntmps) (hr : fbody (vcall F nro) nro i_impl_NewDesk args h = some r) : vcall F nro k_impl_NewDesk args h = some r := vcall_f (by kernel_rfl) (by kernel_rfl) ha hr
theorem v_laws_markDesk {nro : Nat} {args : List Value} {h : VH} {r : Value × VH} (ha : args.length ≤ i_laws_markDesk.ntmps) (hr : fbody (vcall F nro) nro i_laws_markDesk args h = some r) : vcall F nro k_laws_markDesk args h = some r := vcall_f (by kernel_rfl) (by kernel_rfl) ha hr
theorem v_laws_heldDesk {nro : Nat} {args : List Value} {h : VH} {r : Value × VH} (ha : args.length ≤ i_laws_heldDesk.ntmps) (hr : fbody (vcall F nro) nro i_laws_heldDesk args h = some r) : vcall F nro k_laws_heldDesk args h = some r := vcall_f (by kernel_rfl) (by kernel_rfl) ha hr
theorem v_laws_szInt64S {nro : Nat} {args : List Value} {h : VH} {r : Value × VH} (ha : args.length ≤ i_laws_szInt64S.ntmps) (hr : fbody (vcall F nro) nro i_laws_szInt64S args h = some r) : vcall F nro k_laws_szInt64S args h = some r := vcall_f (by kernel_rfl) (by kernel_rfl) ha hr
theorem v_spec_l01Is {nro : Nat} {args : List Value} {h : VH} {r : Value × VH} (ha : args.length ≤ i_spec_l01Is.ntmps) (hr : fbody (vcall F nro) nro i_spec_l01Is args h = some r) : vcall F nro k_spec_l01Is args h = some r := vcall_f (by kernel_rfl) (by kernel_rfl) ha hr
theorem v_spec_l01Empty {nro : Nat} {args : List Value} {h : VH} {r : Value × VH} (ha : args.length ≤ i_spec_l01Empty.ntmps) (hr : fbody (vcall F nro) nro i_spec_l01Empty args h = some r) : vcall F nro k_spec_l01Empty args h = some r := vcall_f (by kernel_rfl) (by kernel_rfl) ha hr
theorem v_spec_l04With {nro : Nat} {args : List Value} {h : VH} {r : Value × VH} (ha : args.length ≤ i_spec_l04With.ntmps) (hr : fbody (vcall F nro) nro i_spec_l04With args h = some r) : vcall F nro k_spec_l04With args h = some r := vcall_f (by kernel_rfl) (by kernel_rfl) ha hr
theorem v_impl_IsGraph {nro : Nat} {args : List Value} {h : VH} {r : Value × VH} (ha : args.length ≤ i_impl_IsGraph.ntmps) (hr : fbody (vcall F nro) nro i_impl_IsGraph args h = some r) : vcall F nro k_impl_IsGraph args h = some r := vcall_f (by kernel_rfl) (by kernel_rfl) ha hr
theorem v_impl_made {nro : Nat} {args : List Value} {h : VH} {r : Value × VH} (ha : args.length ≤ i_impl_made.ntmps) (hr : fbody (vcall F nro) nro i_impl_made args h = some r) : vcall F nro k_impl_made args h = some r := vcall_f (by kernel_rfl) (by kernel_rfl) ha hr
theorem v_impl_DoubleGraph_1 {nro : Nat} {args : List Value} {h : VH} {r : Value × VH} (ha : args.length ≤ i_impl_DoubleGraph_1.ntmps) (hr : fbody (vcall F nro) nro i_impl_DoubleGraph_1 args h = some r) : vcall F nro k_impl_DoubleGraph_1 args h = some r := vcall_f (by kernel_rfl) (by kernel_rfl) ha hr
theorem v_impl_Graph_has {nro : Nat} {args : List Value} {h : VH} {r : Value × VH} (ha : args.length ≤ i_impl_Graph_has.ntmps) (hr : fbody (vcall F nro) nro i_impl_Graph_has args h = some r) : vcall F nro k_impl_Graph_has args h = some r := vcall_f (by kernel_rfl) (by kernel_rfl) ha hr
theorem v_laws_heldInt64S {nro : Nat} {args : List Value} {h : VH} {r : Value × VH} (ha : args.length ≤ i_laws_heldInt64S.ntmps) (hr : fbody (vcall F nro) nro i_laws_heldInt64S args h = some r) : vcall F nro k_laws_heldInt64S args h = some r := vcall_f (by kernel_rfl) (by kernel_rfl) ha hr
theorem v_laws_szDigraph {nro : Nat} {args : List Value} {h : VH} {r : Value × VH} (ha : args.length ≤ i_laws_szDigraph.ntmps) (hr : fbody (vcall F nro) nro i_laws_szDigraph args h = some r) : vcall F nro k_laws_szDigraph args h = some r := vcall_f (by kernel_rfl) (by kernel_rfl) ha hr
theorem v_spec_l08Is {nro : Nat} {args : List Value} {h : VH} {r : Value × VH} (ha : args.length ≤ i_spec_l08Is.ntmps) (hr : fbody (vcall F nro) nro i_spec_l08Is args h = some r) : vcall F nro k_spec_l08Is args h = some r := vcall_f (by kernel_rfl) (by kernel_rfl) ha hr
theorem v_laws_toDigraph {nro : Nat} {args : List Value} {h : VH} {r : Value × VH} (ha : args.length ≤ i_laws_toDigraph.ntmps) (hr : fbody (vcall F nro) nro i_laws_toDigraph args h = some r) : vcall F nro k_laws_toDigraph args h = some r := vcall_f (by kernel_rfl) (by kernel_rfl) ha hr
theorem v_impl_IsDigraph {nro : Nat} {args : List Value} {h : VH} {r : Value × VH} (ha : args.length ≤ i_impl_IsDigraph.ntmps) (hr : fbody (vcall F nro) nro i_impl_IsDigraph args h = some r) : vcall F nro k_impl_IsDigraph args h = some r := vcall_f (by kernel_rfl) (by kernel_rfl) ha hr
theorem v_laws_eqDigraph {nro : Nat} {args : List Value} {h : VH} {r : Value × VH} (ha : args.length ≤ i_laws_eqDigraph.ntmps) (hr : fbody (vcall F nro) nro i_laws_eqDigraph args h = some r) : vcall F nro k_laws_eqDigraph args h = some r := vcall_f (by kernel_rfl) (by kernel_rfl) ha hr
theorem v_spec_l01In {nro : Nat} {args : List Value} {h : VH} {r : Value × VH} (ha : args.length ≤ i_spec_l01In.ntmps) (hr : fbody (vcall F nro) nro i_spec_l01In args h = some r) : vcall F nro k_spec_l01In args h = some r := vcall_f (by kernel_rfl) (by kernel_rfl) ha hr
theorem v_spec_l01Neighbours {nro : Nat} {args : List Value} {h : VH} {r : Value × VH} (ha : args.length ≤ i_spec_l01Neighbours.ntmps) (hr : fbody (vcall F nro) nro i_spec_l01Neighbours args h = some r) : vcall F nro k_spec_l01Neighbours args h = some r := vcall_f (by kernel_rfl) (by kernel_rfl) ha hr
theorem v_impl_areGraphs {nro : Nat} {args : List Value} {h : VH} {r : Value × VH} (ha : args.length ≤ i_impl_areGraphs.ntmps) (hr : fbody (vcall F nro) nro i_impl_areGraphs args h = some r) : vcall F nro k_impl_areGraphs args h = some r := vcall_f (by kernel_rfl) (by kernel_rfl) ha hr
theorem v_impl_graphCode {nro : Nat} {args : List Value} {h : VH} {r : Value × VH} (ha : args.length ≤ i_impl_graphCode.ntmps) (hr : fbody (vcall F nro) nro i_impl_graphCode args h = some r) : vcall F nro k_impl_graphCode args h = some r := vcall_f (by kernel_rfl) (by kernel_rfl) ha hr
theorem v_impl_size {nro : Nat} {args : List Value} {h : VH} {r : Value × VH} (ha : args.length ≤ i_impl_size.ntmps) (hr : fbody (vcall F nro) nro i_impl_size args h = some r) : vcall F nro k_impl_size args h = some r := vcall_f (by kernel_rfl) (by kernel_rfl) ha hr
theorem v_impl_Graph_degree {nro : Nat} {args : List Value} {h : VH} {r : Value × VH} (ha : args.length ≤ i_impl_Graph_degree.ntmps) (hr : fbody (vcall F nro) nro i_impl_Graph_degree args h = some r) : vcall F nro k_impl_Graph_degree args h = some r := vcall_f (by kernel_rfl) (by kernel_rfl) ha hr
theorem v_spec_l01Vertices {nro : Nat} {args : List Value} {h : VH} {r : Value × VH} (ha : args.length ≤ i_spec_l01Vertices.ntmps) (hr : fbody (vcall F nro) nro i_spec_l01Vertices args h = some r) : vcall F nro k_spec_l01Vertices args h = some r := vcall_f (by kernel_rfl) (by kernel_rfl) ha hr
theorem v_spec_l01On {nro : Nat} {args : List Value} {h : VH} {r : Value × VH} (ha : args.length ≤ i_spec_l01On.ntmps) (hr : fbody (vcall F nro) nro i_spec_l01On args h = some r) : vcall F nro k_spec_l01On args h = some r := vcall_f (by kernel_rfl) (by kernel_rfl) ha hr
theorem v_impl_Graph_partOn {nro : Nat} {args : List Value} {h : VH} {r : Value × VH} (ha : args.length ≤ i_impl_Graph_partOn.ntmps) (hr : fbody (vcall F nro) nro i_impl_Graph_partOn args h = some r) : vcall F nro k_impl_Graph_partOn args h = some r := vcall_f (by kernel_rfl) (by kernel_rfl) ha hr
theorem v_spec_l01Two {nro : Nat} {args : List Value} {h : VH} {r : Value × VH} (ha : args.length ≤ i_spec_l01Two.ntmps) (hr : fbody (vcall F nro) nro i_spec_l01Two args h = some r) : vcall F nro k_spec_l01Two args h = some r := vcall_f (by kernel_rfl) (by kernel_rfl) ha hr
theorem v_spec_l01Has {nro : Nat} {args : List Value} {h : VH} {r : Value × VH} (ha : args.length ≤ i_spec_l01Has.ntmps) (hr : fbody (vcall F nro) nro i_spec_l01Has args h = some r) : vcall F nro k_spec_l01Has args h = some r := vcall_f (by kernel_rfl) (by kernel_rfl) ha hr
theorem v_spec_l01Join {nro : Nat} {args : List Value} {h : VH} {r : Value × VH} (ha : args.length ≤ i_spec_l01Join.ntmps) (hr : fbody (vcall F nro) nro i_spec_l01Join args h = some r) : vcall F nro k_spec_l01Join args h = some r := vcall_f (by kernel_rfl) (by kernel_rfl) ha hr
theorem v_impl_pairCode {nro : Nat} {args : List Value} {h : VH} {r : Value × VH} (ha : args.length ≤ i_impl_pairCode.ntmps) (hr : fbody (vcall F nro) nro i_impl_pairCode args h = some r) : vcall F nro k_impl_pairCode args h = some r := vcall_f (by kernel_rfl) (by kernel_rfl) ha hr
theorem v_impl_own {nro : Nat} {args : List Value} {h : VH} {r : Value × VH} (ha : args.length ≤ i_impl_own.ntmps) (hr : fbody (vcall F nro) nro i_impl_own args h = some r) : vcall F nro k_impl_own args h = some r := vcall_f (by kernel_rfl) (by kernel_rfl) ha hr
theorem v_impl_Graph_put {nro : Nat} {args : List Value} {h : VH} {r : Value × VH} (ha : args.length ≤ i_impl_Graph_put.ntmps) (hr : fbody (vcall F nro) nro i_impl_Graph_put args h = some r) : vcall F nro k_impl_Graph_put args h = some r := vcall_f (by kernel_rfl) (by kernel_rfl) ha hr
theorem v_spec_l01Cut {nro : Nat} {args : List Value} {h : VH} {r : Value × VH} (ha : args.length ≤ i_spec_l01Cut.ntmps) (hr : fbody (vcall F nro) nro i_spec_l01Cut args h = some r) : vcall F nro k_spec_l01Cut args h = some r := vcall_f (by kernel_rfl) (by kernel_rfl) ha hr
theorem v_impl_Graph_take {nro : Nat} {args : List Value} {h : VH} {r : Value × VH} (ha : args.length ≤ i_impl_Graph_take.ntmps) (hr : fbody (vcall F nro) nro i_impl_Graph_take args h = some r) : vcall F nro k_impl_Graph_take args h = some r := vcall_f (by kernel_rfl) (by kernel_rfl) ha hr
theorem v_spec_l09Code {nro : Nat} {args : List Value} {h : VH} {r : Value × VH} (ha : args.length ≤ i_spec_l09Code.ntmps) (hr : fbody (vcall F nro) nro i_spec_l09Code args h = some r) : vcall F nro k_spec_l09Code args h = some r := vcall_f (by kernel_rfl) (by kernel_rfl) ha hr
theorem v_spec_l09Told {nro : Nat} {args : List Value} {h : VH} {r : Value × VH} (ha : args.length ≤ i_spec_l09Told.ntmps) (hr : fbody (vcall F nro) nro i_spec_l09Told args h = some r) : vcall F nro k_spec_l09Told args h = some r := vcall_f (by kernel_rfl) (by kernel_rfl) ha hr
theorem v_spec_l09Direct {nro : Nat} {args : List Value} {h : VH} {r : Value × VH} (ha : args.length ≤ i_spec_l09Direct.ntmps) (hr : fbody (vcall F nro) nro i_spec_l09Direct args h = some r) : vcall F nro k_spec_l09Direct args h = some r := vcall_f (by kernel_rfl) (by kernel_rfl) ha hr
theorem v_impl_product {nro : Nat} {args : List Value} {h : VH} {r : Value × VH} (ha : args.length ≤ i_impl_product.ntmps) (hr : fbody (vcall F nro) nro i_impl_product args h = some r) : vcall F nro k_impl_product args h = some r := vcall_f (by kernel_rfl) (by kernel_rfl) ha hr
theorem v_impl_DirectProduct_1 {nro : Nat} {args : List Value} {h : VH} {r : Value × VH} (ha : args.length ≤ i_impl_DirectProduct_1.ntmps) (hr : fbody (vcall F nro) nro i_impl_DirectProduct_1 args h = some r) : vcall F nro k_impl_DirectProduct_1 args h = some r := vcall_f (by kernel_rfl) (by kernel_rfl) ha hr
theorem v_spec_l09Product {nro : Nat} {args : List Value} {h : VH} {r : Value × VH} (ha : args.length ≤ i_spec_l09Product.ntmps) (hr : fbody (vcall F nro) nro i_spec_l09Product args h = some r) : vcall F nro k_spec_l09Product args h = some r := vcall_f (by kernel_rfl) (by kernel_rfl) ha hr
theorem v_impl_ProductOf_1 {nro : Nat} {args : List Value} {h : VH} {r : Value × VH} (ha : args.length ≤ i_impl_ProductOf_1.ntmps) (hr : fbody (vcall F nro) nro i_impl_ProductOf_1 args h = some r) : vcall F nro k_impl_ProductOf_1 args h = some r := vcall_f (by kernel_rfl) (by kernel_rfl) ha hr
theorem v_spec_l09Without {nro : Nat} {args : List Value} {h : VH} {r : Value × VH} (ha : args.length ≤ i_spec_l09Without.ntmps) (hr : fbody (vcall F nro) nro i_spec_l09Without args h = some r) : vcall F nro k_spec_l09Without args h = some r := vcall_f (by kernel_rfl) (by kernel_rfl) ha hr
theorem v_impl_Graph_without {nro : Nat} {args : List Value} {h : VH} {r : Value × VH} (ha : args.length ≤ i_impl_Graph_without.ntmps) (hr : fbody (vcall F nro) nro i_impl_Graph_without args h = some r) : vcall F nro k_impl_Graph_without args h = some r := vcall_f (by kernel_rfl) (by kernel_rfl) ha hr
theorem v_spec_l11New {nro : Nat} {args : List Value} {h : VH} {r : Value × VH} (ha : args.length ≤ i_spec_l11New.ntmps) (hr : fbody (vcall F nro) nro i_spec_l11New args h = some r) : vcall F nro k_spec_l11New args h = some r := vcall_f (by kernel_rfl) (by kernel_rfl) ha hr
theorem v_impl_ringGraph {nro : Nat} {args : List Value} {h : VH} {r : Value × VH} (ha : args.length ≤ i_impl_ringGraph.ntmps) (hr : fbody (vcall F nro) nro i_impl_ringGraph args h = some r) : vcall F nro k_impl_ringGraph args h = some r := vcall_f (by kernel_rfl) (by kernel_rfl) ha hr
theorem v_impl_kautz {nro : Nat} {args : List Value} {h : VH} {r : Value × VH} (ha : args.length ≤ i_impl_kautz.ntmps) (hr : fbody (vcall F nro) nro i_impl_kautz args h = some r) : vcall F nro k_impl_kautz args h = some r := vcall_f (by kernel_rfl) (by kernel_rfl) ha hr
theorem v_laws_markDigraph {nro : Nat} {args : List Value} {h : VH} {r : Value × VH} (ha : args.length ≤ i_laws_markDigraph.ntmps) (hr : fbody (vcall F nro) nro i_laws_markDigraph args h = some r) : vcall F nro k_laws_markDigraph args h = some r := vcall_f (by kernel_rfl) (by kernel_rfl) ha hr
theorem v_laws_heldDigraph {nro : Nat} {args : List Value} {h : VH} {r : Value × VH} (ha : args.length ≤ i_laws_heldDigraph.ntmps) (hr : fbody (vcall F nro) nro i_laws_heldDigraph args h = some r) : vcall F nro k_laws_heldDigraph args h = some r := vcall_f (by kernel_rfl) (by kernel_rfl) ha hr
theorem v_impl_empty {nro : Nat} {args : List Value} {h : VH} {r : Value × VH} (ha : args.length ≤ i_impl_empty.ntmps) (hr : fbody (vcall F nro) nro i_impl_empty args h = some r) : vcall F nro k_impl_empty args h = some r := vcall_f (by kernel_rfl) (by kernel_rfl) ha hr
theorem v_slices_ContainsFunc_int64_int64 {nro : Nat} {args : List Value} {h : VH} {r : Value × VH} (ha : args.length ≤ i_slices_ContainsFunc_int64_int64.ntmps) (hr : fbody (vcall F nro) nro i_slices_ContainsFunc_int64_int64 args h = some r) : vcall F nro k_slices_ContainsFunc_int64_int64 args h = some r := vcall_f (by kernel_rfl) (by kernel_rfl) ha hr
theorem v_impl_IsDigraph_1 {nro : Nat} {args : List Value} {h : VH} {r : Value × VH} (ha : args.length ≤ i_impl_IsDigraph_1.ntmps) (hr : fbody (vcall F nro) nro i_impl_IsDigraph_1 args h = some r) : vcall F nro k_impl_IsDigraph_1 args h = some r := vcall_f (by kernel_rfl) (by kernel_rfl) ha hr
theorem v_math_bits_OnesCount64 {nro : Nat} {args : List Value} {h : VH} {r : Value × VH} (ha : args.length ≤ i_math_bits_OnesCount64.ntmps) (hr : fbody (vcall F nro) nro i_math_bits_OnesCount64 args h = some r) : vcall F nro k_math_bits_OnesCount64 args h = some r := vcall_f (by kernel_rfl) (by kernel_rfl) ha hr
theorem v_spec_l01Put {nro : Nat} {args : List Value} {h : VH} {r : Value × VH} (ha : args.length ≤ i_spec_l01Put.ntmps) (hr : fbody (vcall F nro) nro i_spec_l01Put args h = some r) : vcall F nro k_spec_l01Put args h = some r := vcall_f (by kernel_rfl) (by kernel_rfl) ha hr
theorem v_spec_l01Copy {nro : Nat} {args : List Value} {h : VH} {r : Value × VH} (ha : args.length ≤ i_spec_l01Copy.ntmps) (hr : fbody (vcall F nro) nro i_spec_l01Copy args h = some r) : vcall F nro k_spec_l01Copy args h = some r := vcall_f (by kernel_rfl) (by kernel_rfl) ha hr
theorem v_slices_Clone_int64_int64 {nro : Nat} {args : List Value} {h : VH} {r : Value × VH} (ha : args.length ≤ i_slices_Clone_int64_int64.ntmps) (hr : fbody (vcall F nro) nro i_slices_Clone_int64_int64 args h = some r) : vcall F nro k_slices_Clone_int64_int64 args h = some r := vcall_f (by kernel_rfl) (by kernel_rfl) ha hr
theorem v_spec_l01Edges {nro : Nat} {args : List Value} {h : VH} {r : Value × VH} (ha : args.length ≤ i_spec_l01Edges.ntmps) (hr : fbody (vcall F nro) nro i_spec_l01Edges args h = some r) : vcall F nro k_spec_l01Edges args h = some r := vcall_f (by kernel_rfl) (by kernel_rfl) ha hr
theorem v_impl_limitedCode {nro : Nat} {args : List Value} {h : VH} {r : Value × VH} (ha : args.length ≤ i_impl_limitedCode.ntmps) (hr : fbody (vcall F nro) nro i_impl_limitedCode args h = some r) : vcall F nro k_impl_limitedCode args h = some r := vcall_f (by kernel_rfl) (by kernel_rfl) ha hr
theorem v_impl_product_1 {nro : Nat} {args : List Value} {h : VH} {r : Value × VH} (ha : args.length ≤ i_impl_product_1.ntmps) (hr : fbody (vcall F nro) nro i_impl_product_1 args h = some r) : vcall F nro k_impl_product_1 args h = some r := vcall_f (by kernel_rfl) (by kernel_rfl) ha hr
theorem v_slices_DeleteFunc_int64_int64 {nro : Nat} {args : List Value} {h : VH} {r : Value × VH} (ha : args.length ≤ i_slices_DeleteFunc_int64_int64.ntmps) (hr : fbody (vcall F nro) nro i_slices_DeleteFunc_int64_int64 args h = some r) : vcall F nro k_slices_DeleteFunc_int64_int64 args h = some r := vcall_f (by kernel_rfl) (by kernel_rfl) ha hr
theorem v_impl_counting {nro : Nat} {args : List Value} {h : VH} {r : Value × VH} (ha : args.length ≤ i_impl_counting.ntmps) (hr : fbody (vcall F nro) nro i_impl_counting args h = some r) : vcall F nro k_impl_counting args h = some r := vcall_f (by kernel_rfl) (by kernel_rfl) ha hr
theorem v_impl_Graph_without_1 {nro : Nat} {args : List Value} {h : VH} {r : Value × VH} (ha : args.length ≤ i_impl_Graph_without_1.ntmps) (hr : fbody (vcall F nro) nro i_impl_Graph_without_1 args h = some r) : vcall F nro k_impl_Graph_without_1 args h = some r := vcall_f (by kernel_rfl) (by kernel_rfl) ha hr
theorem v_spec_l01Named {nro : Nat} {args : List Value} {h : VH} {r : Value × VH} (ha : args.length ≤ i_spec_l01Named.ntmps) (hr : fbody (vcall F nro) nro i_spec_l01Named args h = some r) : vcall F nro k_spec_l01Named args h = some r := vcall_f (by kernel_rfl) (by kernel_rfl) ha hr
theorem v_spec_KautzDigraph {nro : Nat} {args : List Value} {h : VH} {r : Value × VH} (ha : args.length ≤ i_spec_KautzDigraph.ntmps) (hr : fbody (vcall F nro) nro i_spec_KautzDigraph args h = some r) : vcall F nro k_spec_KautzDigraph args h = some r := vcall_f (by kernel_rfl) (by kernel_rfl) ha hr
theorem v_impl_kautzWords {nro : Nat} {args : List Value} {h : VH} {r : Value × VH} (ha : args.length ≤ i_impl_kautzWords.ntmps) (hr : fbody (vcall F nro) nro i_impl_kautzWords args h = some r) : vcall F nro k_impl_kautzWords args h = some r := vcall_f (by kernel_rfl) (by kernel_rfl) ha hr
theorem v_impl_directed {nro : Nat} {args : List Value} {h : VH} {r : Value × VH} (ha : args.length ≤ i_impl_directed.ntmps) (hr : fbody (vcall F nro) nro i_impl_directed args h = some r) : vcall F nro k_impl_directed args h = some r := vcall_f (by kernel_rfl) (by kernel_rfl) ha hr
theorem v_impl_kautz_1 {nro : Nat} {args : List Value} {h : VH} {r : Value × VH} (ha : args.length ≤ i_impl_kautz_1.ntmps) (hr : fbody (vcall F nro) nro i_impl_kautz_1 args h = some r) : vcall F nro k_impl_kautz_1 args h = some r := vcall_f (by kernel_rfl) (by kernel_rfl) ha hr
theorem v_slices_Equal_int64_int64 {nro : Nat} {args : List Value} {h : VH} {r : Value × VH} (ha : args.length ≤ i_slices_Equal_int64_int64.ntmps) (hr : fbody (vcall F nro) nro i_slices_Equal_int64_int64 args h = some r) : vcall F nro k_slices_Equal_int64_int64 args h = some r := vcall_f (by kernel_rfl) (by kernel_rfl) ha hr
theorem v_slices_IndexFunc_int64_int64 {nro : Nat} {args : List Value} {h : VH} {r : Value × VH} (ha : args.length ≤ i_slices_IndexFunc_int64_int64.ntmps) (hr : fbody (vcall F nro) nro i_slices_IndexFunc_int64_int64 args h = some r) : vcall F nro k_slices_IndexFunc_int64_int64 args h = some r := vcall_f (by kernel_rfl) (by kernel_rfl) ha hr
theorem v_spec_l01Own {nro : Nat} {args : List Value} {h : VH} {r : Value × VH} (ha : args.length ≤ i_spec_l01Own.ntmps) (hr : fbody (vcall F nro) nro i_spec_l01Own args h = some r) : vcall F nro k_spec_l01Own args h = some r := vcall_f (by kernel_rfl) (by kernel_rfl) ha hr
theorem v_spec_l01Complement {nro : Nat} {args : List Value} {h : VH} {r : Value × VH} (ha : args.length ≤ i_spec_l01Complement.ntmps) (hr : fbody (vcall F nro) nro i_spec_l01Complement args h = some r) : vcall F nro k_spec_l01Complement args h = some r := vcall_f (by kernel_rfl) (by kernel_rfl) ha hr
theorem v_spec_l01Beside {nro : Nat} {args : List Value} {h : VH} {r : Value × VH} (ha : args.length ≤ i_spec_l01Beside.ntmps) (hr : fbody (vcall F nro) nro i_spec_l01Beside args h = some r) : vcall F nro k_spec_l01Beside args h = some r := vcall_f (by kernel_rfl) (by kernel_rfl) ha hr
theorem v_spec_l01Jumps {nro : Nat} {args : List Value} {h : VH} {r : Value × VH} (ha : args.length ≤ i_spec_l01Jumps.ntmps) (hr : fbody (vcall F nro) nro i_spec_l01Jumps args h = some r) : vcall F nro k_spec_l01Jumps args h = some r := vcall_f (by kernel_rfl) (by kernel_rfl) ha hr
theorem v_spec_l08Kautz {nro : Nat} {args : List Value} {h : VH} {r : Value × VH} (ha : args.length ≤ i_spec_l08Kautz.ntmps) (hr : fbody (vcall F nro) nro i_spec_l08Kautz args h = some r) : vcall F nro k_spec_l08Kautz args h = some r := vcall_f (by kernel_rfl) (by kernel_rfl) ha hr
theorem v_spec_l08Digraph {nro : Nat} {args : List Value} {h : VH} {r : Value × VH} (ha : args.length ≤ i_spec_l08Digraph.ntmps) (hr : fbody (vcall F nro) nro i_spec_l08Digraph args h = some r) : vcall F nro k_spec_l08Digraph args h = some r := vcall_f (by kernel_rfl) (by kernel_rfl) ha hr
theorem v_spec_l08List {nro : Nat} {args : List Value} {h : VH} {r : Value × VH} (ha : args.length ≤ i_spec_l08List.ntmps) (hr : fbody (vcall F nro) nro i_spec_l08List args h = some r) : vcall F nro k_spec_l08List args h = some r := vcall_f (by kernel_rfl) (by kernel_rfl) ha hr
theorem v_spec_l08Words {nro : Nat} {args : List Value} {h : VH} {r : Value × VH} (ha : args.length ≤ i_spec_l08Words.ntmps) (hr : fbody (vcall F nro) nro i_spec_l08Words args h = some r) : vcall F nro k_spec_l08Words args h = some r := vcall_f (by kernel_rfl) (by kernel_rfl) ha hr
theorem v_spec_l08Follows {nro : Nat} {args : List Value} {h : VH} {r : Value × VH} (ha : args.length ≤ i_spec_l08Follows.ntmps) (hr : fbody (vcall F nro) nro i_spec_l08Follows args h = some r) : vcall F nro k_spec_l08Follows args h = some r := vcall_f (by kernel_rfl) (by kernel_rfl) ha hr

end Go.Proofs.Ytcpmodengmffjaa.Zv
