/- The law FnTop returns true for every argument: the program's function answers as the reference's does, and the arguments read as before. Conditions: none. -/
import Derived.SevenTiedAt
import Derived.Test.YtbomdghbblakoaaGreatDoorCards
import Derived.Test.YtbomdghbblakoaaGreatDoorRows
import Derived.Test.YtbomdghbblakoaaGreatDoorTie
import Derived.Test.YtbomdghbblakoaaGreatDoorZpE
import Derived.Test.YtbomdghbblakoaaGreatDoorZpJ
set_option linter.unusedSimpArgs false
set_option linter.unusedVariables false
set_option linter.unusedSectionVars false
namespace Go.Proofs.YtbomdghbblakoaaGreatDoor.Zv
open Go Go.ChangeShapes Go.WideShapes Go.ChangeAt Go.RowKit
open Go.Proofs.YtbomdghbblakoaaGreatDoor
set_option maxRecDepth 100000 in
theorem lifted (os : Os) (started : os.Started) (H : Type) (enc : TypeId × Value → H) :
    ReturnsInHanded {} Tryz.checked os 5 .any (fun w args => (Rows.fnTopSpec.pre enc Tryz.prog Tryz.f5 Rows.fnTopRow.domain false w args ∧ laidMet Tryz.prog [("math/bits.deBruijn64tab", Rows.laid_math_bits_deBruijn64tab)] w) ∧ sizedMet enc Tryz.prog Tryz.f5 (OpenSpec.ofChange Rows.fnTopSpec) false w args) (Rows.fnTopSpec.post enc Tryz.prog Tryz.f5 false true false false) := by
  refine returnsInHanded_of_change_and (C := Tryz.checked) (X := fun w _ => laidMet Tryz.prog [("math/bits.deBruijn64tab", Rows.laid_math_bits_deBruijn64tab)] w) (fun _ _ _ hh h => h.of_heap hh) own started (by kernel_rfl) Tryz.func5
    (ChangeSpec.witness_at (enc := enc) (C := Tryz.checked) (os := os) (X := fun w _ => laidMet Tryz.prog [("math/bits.deBruijn64tab", Rows.laid_math_bits_deBruijn64tab)] w) false (laidWorld os) #[.slice none 0 0] 8 rfl (by kernel_rfl) (by kernel_rfl) (by kernel_rfl) (by kernel_rfl) (by kernel_rfl) (tz_laid _ (by kernel_rfl))) ?_
  intro W base args ds gs before hval0 hW hcnd hsz0 hLaid _
  have hval : ∀ (j : Nat) t v, Tryz.f5.params[j]? = some t → args[j]? = some v → Value.okWide Tryz.prog W .any base t v := hval0
  have hW' := hW
  obtain ⟨p, q, hA0, hV, rfl, hfz, hnd⟩ := hW
  have hA : DataW.TrodAll enc Tryz.prog W 0 (fun _ => true) true Tryz.f5.params.toList args.toList ds p := hA0
  rw [Tryz.params5] at hA hval
  obtain ⟨v0, vs0, d0, ds0, p0, q0, hargs, rfl, rfl, h0, r0⟩ := trodAll_cons hA
  obtain ⟨rfl, rfl, rfl⟩ := trodAll_nil r0
  obtain rfl : args = #[v0] := by cases args; simp_all
  obtain ⟨rfl, rfl⟩ := trodVars_none hV
  have k0 := h0
  have lt0 : ∀ x ∈ p0, x.block < W.heap.size := by obtain ⟨m, hm⟩ := k0; exact DataW.trod_lt m _ _ _ hm
  obtain ⟨a0, l0, c0, z0, rfl, w0⟩ := in_bytes Tryz.underlying22 Tryz.underlying5 (by kernel_rfl) (hval 0 22 v0 rfl rfl) h0
  clear hA0 hval0 hsz0
  obtain ⟨φ1, L1, s1, hR1, g1, hs1, hl1⟩ := (RA.nil W (tz_glob hLaid)).slice w0
  have hc := law_FnTop (nro := ([] ++ L1).length) s1 (z0.take l0) ([] ++ L1) hl1 w0.code  (Nat.le_refl _)
  have hargs2 : All2 (TopR φ1 (VH.ph ([] ++ L1))) [s1] [.slice a0 l0 c0] := .cons (.val (.cell (.atom hs1))) .nil
  refine (law_true (allSound _) hR1 hargs2 hc).mono fun e W' ⟨he, bel⟩ => ?_
  subst he
  exact ⟨_, rfl, _, _, _, [], _, [], hW', trodAll_mk1 (shut_bool Tryz.underlying4 _), trodAll_cons_mk (Below.trod laidOut (by kernel_rfl) (of_decide_eq_true (by kernel_rfl)) k0 bel lt0) trodAll_mk0, rfl, bel.frame _, fun h => by cases h⟩
theorem over : Rows.fnTopRow.holds Tryz.pinned (OpenSpec.ofChange Rows.fnTopSpec) :=
  OpenClaim.holds_of_wide 5 Tryz.f5 rfl rfl rfl rfl rfl rfl rfl ⟨rfl, rfl, rfl, rfl, rfl⟩ rfl rfl rfl rfl rfl (by kernel_rfl) Tryz.func5 (by kernel_rfl)
    (of_decide_eq_true (by kernel_rfl)) (by unfold Func.isWrapper; first | (rw [if_pos (by decide +kernel)]; kernel_rfl) | (rw [if_neg (by decide +kernel)]; exact ⟨rfl, rfl⟩))
    (fun os started H enc _ => lifted os started H enc)
theorem stand : ∀ (f : FuncId) (fn : Func), Tryz.prog.funcNamed "loop.example/g01331/laws.FnTop" = some f → Tryz.prog.funcs[f]? = some fn → f = 5 ∧ fn = Tryz.f5 := fun f fn hf hfn => by
  obtain rfl : f = 5 := (Option.some.inj ((show Tryz.prog.funcNamed "loop.example/g01331/laws.FnTop" = some 5 by kernel_rfl).symm.trans hf)).symm
  exact ⟨rfl, (Option.some.inj (Tryz.func5.symm.trans hfn)).symm⟩
theorem params_stand : ([22] : List TypeId).all (fun t => !Tryz.prog.wantsStandIn t) = true := by kernel_rfl
/-- The card: the row, its variable tied to the program's text. -/
theorem card : Claim7.holds Tryz.pinned (.plain (OpenSpec.ofChange Rows.fnTopSpec)) Rows.fnTopCard :=
  Claim7.holds_tied_plain_at .later [] [.data] true (true, "0fc8dd18f2a58b5089d158ebc5140da29b0c9aa73a01faea1da4d0a4b25b288f") false
    over (fun _ h => by cases h) (by kernel_rfl) (fun _ h => by cases h) fnTop_row_tie rfl ⟨rfl, rfl⟩ (by kernel_rfl) rfl
    (fun f fn hf hfn => by
      obtain ⟨rfl, rfl⟩ := stand f fn hf hfn
      exact ⟨by kernel_rfl, fun j t ht => by
        rw [Tryz.params5] at ht
        have hm : t ∈ ([22] : List TypeId) := List.mem_of_getElem? (by simpa using ht)
        show Tryz.prog.wantsStandIn t = false
        simpa using List.all_eq_true.mp params_stand t hm⟩)
    (by kernel_rfl)
end Go.Proofs.YtbomdghbblakoaaGreatDoor.Zv
namespace Go.Proofs.YtbomdghbblakoaaGreatDoor
/-- The statement. -/
theorem fnTop_holds : Rows.FnTopCardSaid := Zv.card
end Go.Proofs.YtbomdghbblakoaaGreatDoor

