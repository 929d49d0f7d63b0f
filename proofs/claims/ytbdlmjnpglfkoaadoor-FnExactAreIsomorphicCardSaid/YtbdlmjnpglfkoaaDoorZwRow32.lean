/- The law FnExactAreIsomorphic returns true for every argument: the program's function answers as the reference's does, and the arguments read as before. Conditions: none. -/
import Derived.SevenTiedAt
import Derived.Test.YtbdlmjnpglfkoaaDoorCards
import Derived.Test.YtbdlmjnpglfkoaaDoorRows
import Derived.Test.YtbdlmjnpglfkoaaDoorTie
import Derived.Test.YtbdlmjnpglfkoaaDoorZpD
import Derived.Test.YtbdlmjnpglfkoaaDoorZpI
set_option linter.unusedSimpArgs false
set_option linter.unusedVariables false
set_option linter.unusedSectionVars false
namespace Go.Proofs.YtbdlmjnpglfkoaaDoor.Zv
open Go Go.ChangeShapes Go.WideShapes Go.ChangeAt Go.RowKit
open Go.Proofs.YtbdlmjnpglfkoaaDoor
set_option maxRecDepth 100000 in
theorem lifted (os : Os) (started : os.Started) (H : Type) (enc : TypeId × Value → H) :
    ReturnsInHanded {} Tryd.checked os 3 .any (fun w args => (Rows.fnExactAreIsomorphicSpec.pre enc Tryd.prog Tryd.f3 Rows.fnExactAreIsomorphicRow.domain false w args ∧ laidMet Tryd.prog [("math/bits.deBruijn64tab", Rows.laid_math_bits_deBruijn64tab)] w) ∧ sizedMet enc Tryd.prog Tryd.f3 (OpenSpec.ofChange Rows.fnExactAreIsomorphicSpec) false w args) (Rows.fnExactAreIsomorphicSpec.post enc Tryd.prog Tryd.f3 false true false false) := by
  refine returnsInHanded_of_change_and (C := Tryd.checked) (X := fun w _ => laidMet Tryd.prog [("math/bits.deBruijn64tab", Rows.laid_math_bits_deBruijn64tab)] w) (fun _ _ _ hh h => h.of_heap hh) own started (by kernel_rfl) Tryd.func3
    (ChangeSpec.witness_at (enc := enc) (C := Tryd.checked) (os := os) (X := fun w _ => laidMet Tryd.prog [("math/bits.deBruijn64tab", Rows.laid_math_bits_deBruijn64tab)] w) false (laidWorld os) #[.agg #[.int .i64 0, .slice none 0 0], .agg #[.int .i64 0, .slice none 0 0]] 8 rfl (by kernel_rfl) (by kernel_rfl) (by kernel_rfl) (by kernel_rfl) (by kernel_rfl) (tz_laid _ (by kernel_rfl))) ?_
  intro W base args ds gs before hval0 hW hcnd hsz0 hLaid _
  have hval : ∀ (j : Nat) t v, Tryd.f3.params[j]? = some t → args[j]? = some v → Value.okWide Tryd.prog W .any base t v := hval0
  have hW' := hW
  obtain ⟨p, q, hA0, hV, rfl, hfz, hnd⟩ := hW
  have hA : DataW.TrodAll enc Tryd.prog W 0 (fun _ => true) true Tryd.f3.params.toList args.toList ds p := hA0
  rw [Tryd.params3] at hA hval
  obtain ⟨v0, vs0, d0, ds0, p0, q0, hargs, rfl, rfl, h0, r0⟩ := trodAll_cons hA
  obtain ⟨v1, vs1, d1, ds1, p1, q1, rfl, rfl, rfl, h1, r1⟩ := trodAll_cons r0
  obtain ⟨rfl, rfl, rfl⟩ := trodAll_nil r1
  obtain rfl : args = #[v0, v1] := by cases args; simp_all
  obtain ⟨rfl, rfl⟩ := trodVars_none hV
  have k0 := h0
  have lt0 : ∀ x ∈ p0, x.block < W.heap.size := by obtain ⟨m, hm⟩ := k0; exact DataW.trod_lt m _ _ _ hm
  have k1 := h1
  have lt1 : ∀ x ∈ p1, x.block < W.heap.size := by obtain ⟨m, hm⟩ := k1; exact DataW.trod_lt m _ _ _ hm
  obtain ⟨n0, a0, l0, c0, z0, rfl, w0⟩ := in_graph Tryd.underlying24 (by kernel_rfl) (by kernel_rfl) Tryd.underlying2 Tryd.underlying22 Tryd.underlying2 (by kernel_rfl) (hval 0 24 v0 rfl rfl) h0
  obtain ⟨n1, a1, l1, c1, z1, rfl, w1⟩ := in_graph Tryd.underlying24 (by kernel_rfl) (by kernel_rfl) Tryd.underlying2 Tryd.underlying22 Tryd.underlying2 (by kernel_rfl) (hval 1 24 v1 rfl rfl) h1
  clear hA0 hval0 hsz0
  obtain ⟨φ1, L1, s1, hR1, g1, hs1, hl1⟩ := (RA.nil W (tz_glob hLaid)).slice w0
  obtain ⟨φ2, L2, s2, hR2, g2, hs2, hl2⟩ := hR1.slice w1
  have hc := law_AreIsomorphic (nro := ([] ++ L1 ++ L2).length) n0 s1 (z0.take l0) n1 s2 (z1.take l1) ([] ++ L1 ++ L2) (hl1.app L2) hl2 w0.len w1.len  (Nat.le_refl _)
  have hargs2 : All2 (TopR φ2 (VH.ph ([] ++ L1 ++ L2))) [gv n0 s1, gv n1 s2] [.agg #[.int .i64 n0, .slice a0 l0 c0], .agg #[.int .i64 n1, .slice a1 l1 c1]] := .cons (.val (.agg (.cons (.atom (.int _ _)) (.cons (.atom (hs1.grow g2)) .nil)))) (.cons (.val (.agg (.cons (.atom (.int _ _)) (.cons (.atom hs2) .nil)))) .nil)
  refine (law_true (allSound _) hR2 hargs2 hc).mono fun e W' ⟨he, bel⟩ => ?_
  subst he
  exact ⟨_, rfl, _, _, _, [], _, [], hW', trodAll_mk1 (shut_bool Tryd.underlying4 _), trodAll_cons_mk (Below.trod laidOut (by kernel_rfl) (of_decide_eq_true (by kernel_rfl)) k0 bel lt0) (trodAll_cons_mk (Below.trod laidOut (by kernel_rfl) (of_decide_eq_true (by kernel_rfl)) k1 bel lt1) trodAll_mk0), rfl, bel.frame _, fun h => by cases h⟩
theorem over : Rows.fnExactAreIsomorphicRow.holds Tryd.pinned (OpenSpec.ofChange Rows.fnExactAreIsomorphicSpec) :=
  OpenClaim.holds_of_wide 3 Tryd.f3 rfl rfl rfl rfl rfl rfl rfl ⟨rfl, rfl, rfl, rfl, rfl⟩ rfl rfl rfl rfl rfl (by kernel_rfl) Tryd.func3 (by kernel_rfl)
    (of_decide_eq_true (by kernel_rfl)) (by unfold Func.isWrapper; first | (rw [if_pos (by decide +kernel)]; kernel_rfl) | (rw [if_neg (by decide +kernel)]; exact ⟨rfl, rfl⟩))
    (fun os started H enc _ => lifted os started H enc)
theorem stand : ∀ (f : FuncId) (fn : Func), Tryd.prog.funcNamed "loop.example/g01331/laws.FnExactAreIsomorphic" = some f → Tryd.prog.funcs[f]? = some fn → f = 3 ∧ fn = Tryd.f3 := fun f fn hf hfn => by
  obtain rfl : f = 3 := (Option.some.inj ((show Tryd.prog.funcNamed "loop.example/g01331/laws.FnExactAreIsomorphic" = some 3 by kernel_rfl).symm.trans hf)).symm
  exact ⟨rfl, (Option.some.inj (Tryd.func3.symm.trans hfn)).symm⟩
theorem params_stand : ([24, 24] : List TypeId).all (fun t => !Tryd.prog.wantsStandIn t) = true := by kernel_rfl
/-- The card: the row, its variable tied to the program's text. -/
theorem card : Claim7.holds Tryd.pinned (.plain (OpenSpec.ofChange Rows.fnExactAreIsomorphicSpec)) Rows.fnExactAreIsomorphicCard :=
  Claim7.holds_tied_plain_at .later [] [.data] true (true, "e52c4db4132773d6f4ccdb13c4c34d60d02268d34cb10197bf1c48f273efba0f") false
    over (fun _ h => by cases h) (by kernel_rfl) (fun _ h => by cases h) fnExactAreIsomorphic_row_tie rfl ⟨rfl, rfl⟩ (by kernel_rfl) rfl
    (fun f fn hf hfn => by
      obtain ⟨rfl, rfl⟩ := stand f fn hf hfn
      exact ⟨by kernel_rfl, fun j t ht => by
        rw [Tryd.params3] at ht
        have hm : t ∈ ([24, 24] : List TypeId) := List.mem_of_getElem? (by simpa using ht)
        show Tryd.prog.wantsStandIn t = false
        simpa using List.all_eq_true.mp params_stand t hm⟩)
    (by kernel_rfl)
end Go.Proofs.YtbdlmjnpglfkoaaDoor.Zv
namespace Go.Proofs.YtbdlmjnpglfkoaaDoor
/-- The statement. -/
theorem fnExactAreIsomorphic_holds : Rows.FnExactAreIsomorphicCardSaid := Zv.card
end Go.Proofs.YtbdlmjnpglfkoaaDoor

