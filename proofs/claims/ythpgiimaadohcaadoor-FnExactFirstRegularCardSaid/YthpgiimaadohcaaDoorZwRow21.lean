/- The law FnExactFirstRegular returns true for every argument: the program's function answers as the reference's does, and the arguments read as before. Conditions: none. -/
import Derived.SevenTiedAt
import Derived.Test.YthpgiimaadohcaaDoorCards
import Derived.Test.YthpgiimaadohcaaDoorRows
import Derived.Test.YthpgiimaadohcaaDoorTie
import Derived.Test.YthpgiimaadohcaaDoorZpD
import Derived.Test.YthpgiimaadohcaaDoorZpE
set_option linter.unusedSimpArgs false
set_option linter.unusedVariables false
namespace Go.Proofs.YthpgiimaadohcaaDoor.Zv
open Go Go.ChangeShapes Go.WideShapes Go.ChangeAt Go.RowKit
open Go.Proofs.YthpgiimaadohcaaDoor

set_option maxRecDepth 100000 in
theorem lifted (os : Os) (started : os.Started) (H : Type) (enc : TypeId × Value → H) :
    ReturnsInHanded {} Tryd.checked os 5 .any (fun w args => (Rows.fnExactFirstRegularSpec.pre enc Tryd.prog Tryd.f5 Rows.fnExactFirstRegularRow.domain false w args ∧ laidMet Tryd.prog [("math/bits.deBruijn64tab", Rows.laid_math_bits_deBruijn64tab)] w) ∧ sizedMet enc Tryd.prog Tryd.f5 (OpenSpec.ofChange Rows.fnExactFirstRegularSpec) false w args) (Rows.fnExactFirstRegularSpec.post enc Tryd.prog Tryd.f5 false true false false) := by
  refine returnsInHanded_of_change_and (C := Tryd.checked) (X := fun w _ => laidMet Tryd.prog [("math/bits.deBruijn64tab", Rows.laid_math_bits_deBruijn64tab)] w) (fun _ _ _ hh h => h.of_heap hh) own started (by kernel_rfl) Tryd.func5
    (ChangeSpec.witness_at (enc := enc) (C := Tryd.checked) (os := os) (X := fun w _ => laidMet Tryd.prog [("math/bits.deBruijn64tab", Rows.laid_math_bits_deBruijn64tab)] w) false (laidWorld os) #[.int .i64 0, .int .i64 0, .int .i64 0] 8 rfl (by kernel_rfl) (by kernel_rfl) (by kernel_rfl) (by kernel_rfl) (by kernel_rfl) (tz_laid _ (by kernel_rfl))) ?_
  intro W base args ds gs before hval0 hW hcnd hsz0 hLaid _
  have hval : ∀ (j : Nat) t v, Tryd.f5.params[j]? = some t → args[j]? = some v → Value.okWide Tryd.prog W .any base t v := hval0
  have hW' := hW
  obtain ⟨p, q, hA0, hV, rfl, hfz, hnd⟩ := hW
  have hA : DataW.TrodAll enc Tryd.prog W 0 (fun _ => true) true Tryd.f5.params.toList args.toList ds p := hA0
  rw [Tryd.params5] at hA hval
  obtain ⟨v0, vs0, d0, ds0, p0, q0, hargs, rfl, rfl, h0, r0⟩ := trodAll_cons hA
  obtain ⟨v1, vs1, d1, ds1, p1, q1, rfl, rfl, rfl, h1, r1⟩ := trodAll_cons r0
  obtain ⟨v2, vs2, d2, ds2, p2, q2, rfl, rfl, rfl, h2, r2⟩ := trodAll_cons r1
  obtain ⟨rfl, rfl, rfl⟩ := trodAll_nil r2
  obtain rfl : args = #[v0, v1, v2] := by cases args; simp_all
  obtain ⟨rfl, rfl⟩ := trodVars_none hV
  have k0 := h0
  have lt0 : ∀ x ∈ p0, x.block < W.heap.size := by obtain ⟨m, hm⟩ := k0; exact DataW.trod_lt m _ _ _ hm
  have k1 := h1
  have lt1 : ∀ x ∈ p1, x.block < W.heap.size := by obtain ⟨m, hm⟩ := k1; exact DataW.trod_lt m _ _ _ hm
  have k2 := h2
  have lt2 : ∀ x ∈ p2, x.block < W.heap.size := by obtain ⟨m, hm⟩ := k2; exact DataW.trod_lt m _ _ _ hm
  obtain ⟨n0, rfl, lo0, hi0⟩ := in_int Tryd.underlying2 (hval 0 2 v0 rfl rfl) h0
  obtain ⟨n1, rfl, lo1, hi1⟩ := in_int Tryd.underlying2 (hval 1 2 v1 rfl rfl) h1
  obtain ⟨n2, rfl, lo2, hi2⟩ := in_int Tryd.underlying2 (hval 2 2 v2 rfl rfl) h2
  clear hA0 hval0 hsz0
  have hc := law_FirstRegular (nro := ([]).length) n0 n1 n2 ([])   lo0 hi0 lo1 hi1 lo2 hi2 (Nat.le_refl _)
  have hargs2 : All2 (TopR (fun _ => ⟨0, 0, 0⟩) (VH.ph ([]))) [.int .i64 n0, .int .i64 n1, .int .i64 n2] [.int .i64 n0, .int .i64 n1, .int .i64 n2] := .cons (.val (.cell (.atom (.int _ _)))) (.cons (.val (.cell (.atom (.int _ _)))) (.cons (.val (.cell (.atom (.int _ _)))) .nil))
  refine (law_true (allSound _) (RA.nil W (tz_glob hLaid)) hargs2 hc).mono fun e W' ⟨he, bel⟩ => ?_
  subst he
  exact ⟨_, rfl, _, _, _, [], _, [], hW', trodAll_mk1 (shut_bool Tryd.underlying4 _), trodAll_cons_mk (Below.trod laidOut (by kernel_rfl) (of_decide_eq_true (by kernel_rfl)) k0 bel lt0) (trodAll_cons_mk (Below.trod laidOut (by kernel_rfl) (of_decide_eq_true (by kernel_rfl)) k1 bel lt1) (trodAll_cons_mk (Below.trod laidOut (by kernel_rfl) (of_decide_eq_true (by kernel_rfl)) k2 bel lt2) trodAll_mk0)), rfl, bel.frame _, fun h => by cases h⟩

theorem over : Rows.fnExactFirstRegularRow.holds Tryd.pinned (OpenSpec.ofChange Rows.fnExactFirstRegularSpec) :=
  OpenClaim.holds_of_wide 5 Tryd.f5 rfl rfl rfl rfl rfl rfl rfl ⟨rfl, rfl, rfl, rfl, rfl⟩ rfl rfl rfl rfl rfl (by kernel_rfl) Tryd.func5 (by kernel_rfl)
    (of_decide_eq_true (by kernel_rfl)) (by unfold Func.isWrapper; first | (rw [if_pos (by decide +kernel)]; kernel_rfl) | (rw [if_neg (by decide +kernel)]; exact ⟨rfl, rfl⟩))
    (fun os started H enc _ => lifted os started H enc)

theorem stand : ∀ (f : FuncId) (fn : Func), Tryd.prog.funcNamed "loop.example/g01331/laws.FnExactFirstRegular" = some f → Tryd.prog.funcs[f]? = some fn → f = 5 ∧ fn = Tryd.f5 := fun f fn hf hfn => by
  obtain rfl : f = 5 := (Option.some.inj ((show Tryd.prog.funcNamed "loop.example/g01331/laws.FnExactFirstRegular" = some 5 by kernel_rfl).symm.trans hf)).symm
  exact ⟨rfl, (Option.some.inj (Tryd.func5.symm.trans hfn)).symm⟩
theorem params_stand : ([2, 2, 2] : List TypeId).all (fun t => !Tryd.prog.wantsStandIn t) = true := by kernel_rfl
/-- The card: the row, its variable tied to the program's text. -/
theorem card : Claim7.holds Tryd.pinned (.plain (OpenSpec.ofChange Rows.fnExactFirstRegularSpec)) Rows.fnExactFirstRegularCard :=
  Claim7.holds_tied_plain_at .later [] [.data] true (true, "a2c9c6ca5ed8cd237ee74c3e411eb6ea273a728be178096bd033faa694205233") false
    over (fun _ h => by cases h) (by kernel_rfl) (fun _ h => by cases h) fnExactFirstRegular_row_tie rfl ⟨rfl, rfl⟩ (by kernel_rfl) rfl
    (fun f fn hf hfn => by
      obtain ⟨rfl, rfl⟩ := stand f fn hf hfn
      exact ⟨by kernel_rfl, fun j t ht => by
        rw [Tryd.params5] at ht
        have hm : t ∈ ([2, 2, 2] : List TypeId) := List.mem_of_getElem? (by simpa using ht)
        show Tryd.prog.wantsStandIn t = false
        simpa using List.all_eq_true.mp params_stand t hm⟩)
    (by kernel_rfl)
end Go.Proofs.YthpgiimaadohcaaDoor.Zv
namespace Go.Proofs.YthpgiimaadohcaaDoor
/-- The statement. -/
theorem fnExactFirstRegular_holds : Rows.FnExactFirstRegularCardSaid := Zv.card
end Go.Proofs.YthpgiimaadohcaaDoor

