/- The law FnExactIsEqualPartition returns true for every argument: the program's function answers as the reference's does, and the arguments read as before. Conditions: none. -/
import Derived.Test.YtcdcmaakcldniaaRows
import Derived.Test.YtcdcmaakcldniaaZpD
import Derived.Test.YtcdcmaakcldniaaZpF
set_option linter.unusedSimpArgs false
set_option linter.unusedVariables false
namespace Go.Proofs.Ytcdcmaakcldniaa.Zv
open Go Go.ChangeShapes Go.WideShapes Go.ChangeAt Go.RowKit
open Go.Proofs.Ytcdcmaakcldniaa

set_option maxRecDepth 100000 in
theorem lifted (os : Os) (started : os.Started) (H : Type) (enc : TypeId × Value → H) :
    ReturnsInHanded {} Try.checked os 3 .any (Rows.fnExactIsEqualPartitionSpec.pre6 enc Try.prog Try.f3 Rows.fnExactIsEqualPartitionRow.domain false) (Rows.fnExactIsEqualPartitionSpec.post enc Try.prog Try.f3 false true false false) := by
  refine returnsInHanded_of_change_sized (C := Try.checked) own started (by kernel_rfl) Try.func3
    (ChangeSpec.witness6 (enc := enc) (C := Try.checked) false ⟨#[], #[.agg #[.int .i64 0, .slice none 0 0], .slice none 0 0], []⟩ 8 (by kernel_rfl) (by kernel_rfl) (by kernel_rfl) (by kernel_rfl)) ?_
  intro W base args ds gs before hval0 hW hcnd hsz0 _
  have hval : ∀ (j : Nat) t v, Try.f3.params[j]? = some t → args[j]? = some v → Value.okWide Try.prog W .any base t v := hval0
  have hW' := hW
  obtain ⟨p, q, hA0, hV, rfl, hfz, hnd⟩ := hW
  have hA : DataW.TrodAll enc Try.prog W 0 (fun _ => true) true Try.f3.params.toList args.toList ds p := hA0
  rw [Try.params3] at hA hval
  obtain ⟨v0, vs0, d0, ds0, p0, q0, hargs, rfl, rfl, h0, r0⟩ := trodAll_cons hA
  obtain ⟨v1, vs1, d1, ds1, p1, q1, rfl, rfl, rfl, h1, r1⟩ := trodAll_cons r0
  obtain ⟨rfl, rfl, rfl⟩ := trodAll_nil r1
  obtain rfl : args = #[v0, v1] := by cases args; simp_all
  obtain ⟨rfl, rfl⟩ := trodVars_none hV
  have k0 := h0
  have lt0 : ∀ x ∈ p0, x.block < W.heap.size := by obtain ⟨m, hm⟩ := k0; exact DataW.trod_lt m _ _ _ hm
  have k1 := h1
  have lt1 : ∀ x ∈ p1, x.block < W.heap.size := by obtain ⟨m, hm⟩ := k1; exact DataW.trod_lt m _ _ _ hm
  obtain ⟨n0, a0, l0, c0, z0, rfl, w0⟩ := in_graph Try.underlying24 (by kernel_rfl) (by kernel_rfl) Try.underlying2 Try.underlying22 Try.underlying2 (by kernel_rfl) (hval 0 24 v0 rfl rfl) h0
  obtain ⟨a1, l1, c1, z1, rfl, w1⟩ := in_list Try.underlying22 Try.underlying2 (by kernel_rfl) (hval 1 22 v1 rfl rfl) h1
  clear hA0 hval0 hsz0
  obtain ⟨φ1, L1, s1, hR1, g1, hs1, hl1⟩ := (RA.nil W (no_glob W)).slice w0
  obtain ⟨φ2, L2, s2, hR2, g2, hs2, hl2⟩ := hR1.slice w1
  have hc := law_IsEqualPartition (nro := ([] ++ L1 ++ L2).length) n0 s1 (z0.take l0) s2 (z1.take l1) ([] ++ L1 ++ L2) (hl1.app L2) hl2 w0.len w1.len  (Nat.le_refl _)
  have hargs2 : All2 (TopR φ2 (VH.ph ([] ++ L1 ++ L2))) [gv n0 s1, s2] [.agg #[.int .i64 n0, .slice a0 l0 c0], .slice a1 l1 c1] := .cons (.val (.agg (.cons (.atom (.int _ _)) (.cons (.atom (hs1.grow g2)) .nil)))) (.cons (.val (.cell (.atom hs2))) .nil)
  refine (law_true (allSound _) hR2 hargs2 hc).mono fun e W' ⟨he, bel⟩ => ?_
  subst he
  exact ⟨_, rfl, _, _, _, [], _, [], hW', trodAll_mk1 (shut_bool Try.underlying4 _), trodAll_cons_mk (Below.trod laidOut (by kernel_rfl) (of_decide_eq_true (by kernel_rfl)) k0 bel lt0) (trodAll_cons_mk (Below.trod laidOut (by kernel_rfl) (of_decide_eq_true (by kernel_rfl)) k1 bel lt1) trodAll_mk0), rfl, bel.frame _, fun h => by cases h⟩

theorem over : Rows.fnExactIsEqualPartitionRow.holds Try.pinned (OpenSpec.ofChange Rows.fnExactIsEqualPartitionSpec) :=
  OpenClaim.holds_of_wide 3 Try.f3 rfl rfl rfl rfl rfl rfl rfl ⟨rfl, rfl, rfl, rfl, rfl⟩ rfl rfl rfl rfl rfl (by kernel_rfl) Try.func3 (by kernel_rfl)
    (of_decide_eq_true (by kernel_rfl)) (by unfold Func.isWrapper; first | (rw [if_pos (by decide +kernel)]; kernel_rfl) | (rw [if_neg (by decide +kernel)]; exact ⟨rfl, rfl⟩))
    (fun os started H enc _ => lifted os started H enc)
end Go.Proofs.Ytcdcmaakcldniaa.Zv
namespace Go.Proofs.Ytcdcmaakcldniaa
/-- The statement. -/
theorem fnExactIsEqualPartition_holds : Rows.FnExactIsEqualPartitionSaid := Zv.over
end Go.Proofs.Ytcdcmaakcldniaa

