/- The law FnExactIsPartition returns true for every graph value and every list: the program's IsPartition answers as the reference's does, and the arguments read as before. Conditions: none. -/
import Derived.Test.YtannjcinoopmnaaRows
import Derived.Test.YtannjcinoopmnaaZwPart
namespace Go.Proofs.Ytannjcinoopmnaa.Zv
open Go Go.ChangeShapes Go.WideShapes Go.ChangeAt Go.RowKit
open Go.Proofs.Ytannjcinoopmnaa

theorem own : ownKnob Try.prog.godebug = none := by kernel_rfl
theorem laidOut : laidOutB Try.prog = true := by kernel_rfl
theorem mixed : Try.prog.follows .mixedOrders = true := by kernel_rfl

theorem F_ir : ∀ f fn, F f = some (.ir fn) → EntOK Try.prog (compD Try.prog) f fn := by
  intro f fn hf
  unfold F at hf
  cases hl : tab.lookup f with
  | none => rw [hl] at hf; cases hf
  | some g =>
    rw [hl] at hf
    simp only [Option.map_some, Option.some.injEq, Ent.ir.injEq] at hf
    subst hf
    have hm : (f, g) ∈ tab := by
      have h2 : ∀ (l : List (Nat × FF)), l.lookup f = some g → (f, g) ∈ l := by
        intro l
        induction l with
        | nil => intro h; cases h
        | cons p l ih =>
          intro h
          obtain ⟨a, b⟩ := p
          simp only [List.lookup] at h
          split at h
          · rename_i e
            have e2 : f = a := by simpa using e
            cases h
            rw [e2]
            exact .head _
          · exact .tail _ (ih h)
      exact h2 tab hl
    exact tabOK (f, g) hm

theorem F_ext : ∀ f g, F f = some (.ext g) → ∀ nro, ExtOK Try.prog nro f g := by
  intro f g hf
  unfold F at hf
  cases hl : tab.lookup f <;> rw [hl] at hf <;> cases hf

theorem allSound (nro : Nat) : CallSound Try.prog nro (vcall F nro) := sound mixed F F_ir fun f g h => F_ext f g h nro

/-- A row is well-formed: its numbers are 64-bit numbers. -/
theorem IsRow.len {k : IntKind} {W : World} {a : Option Addr} {len cap : Nat} {zs : List Int} (h : IsRow k W a len cap zs) : (zs.take len).length ≤ 9223372036854775807 := by
  rcases h with ⟨_, _, _, rfl⟩ | ⟨x, _, hl, hm, hz, _⟩
  · simp
  · have : maxLen = 9223372036854775807 := rfl
    simp; omega

set_option maxRecDepth 100000 in
theorem lifted1 (os : Os) (started : os.Started) (H : Type) (enc : TypeId × Value → H) :
    ReturnsInHanded {} Try.checked os 3 .any (Rows.fnExactIsPartitionSpec.pre6 enc Try.prog Try.f3 Rows.fnExactIsPartitionRow.domain false) (Rows.fnExactIsPartitionSpec.post enc Try.prog Try.f3 false true false false) := by
  refine returnsInHanded_of_change_sized (C := Try.checked) own started (by kernel_rfl) Try.func3
    (ChangeSpec.witness6 (enc := enc) (C := Try.checked) false ⟨#[], #[.agg #[.int .i64 0, .slice none 0 0], .slice none 0 0], []⟩ 8 (by kernel_rfl) (by kernel_rfl) (by kernel_rfl) (by kernel_rfl)) ?_
  intro W base args ds gs before hval0 hW hcnd hsz0 _
  have hval : ∀ (j : Nat) t v, Try.f3.params[j]? = some t → args[j]? = some v → Value.okWide Try.prog W .any base t v := hval0
  have hW' := hW
  obtain ⟨p, q, hA0, hV, rfl, hfz, hnd⟩ := hW
  have hA : DataW.TrodAll enc Try.prog W 0 (fun _ => true) true Try.f3.params.toList args.toList ds p := hA0
  rw [Try.params3] at hA hval
  obtain ⟨v0, vs0, d0, ds0, p0, q0, hargs, rfl, rfl, h0, r0⟩ := trodAll_cons hA
  obtain ⟨v1, vs1, d1, ds1, p1, q1, rfl, rfl, rfl, h1, r1⟩ := trodAll_cons r0
  obtain ⟨rfl, rfl, rfl⟩ := trodAll_nil r1
  obtain rfl : args = #[v0, v1] := by cases args; simp_all
  obtain ⟨rfl, rfl⟩ := trodVars_none hV
  have k0 := h0
  have k1 := h1
  have lt0 : ∀ x ∈ p0, x.block < W.heap.size := by obtain ⟨m, hm⟩ := k0; exact DataW.trod_lt m _ _ _ hm
  have lt1 : ∀ x ∈ p1, x.block < W.heap.size := by obtain ⟨m, hm⟩ := k1; exact DataW.trod_lt m _ _ _ hm
  -- the arguments, opened
  obtain ⟨c00, c01, y00, y01, m0, rfl, rfl, rfl, t00, t01⟩ := Joins.open_agg2 Try.underlying24 (by kernel_rfl) (by kernel_rfl) (hval 0 24 v0 rfl rfl) h0
  obtain ⟨a00, e00, rfl, w00⟩ := DataW.trod_int Try.underlying2 t00
  simp at e00
  subst e00
  obtain ⟨a1, l1, cp1, z1, rfl, w1⟩ := IsRow.of Try.underlying22 Try.underlying2 (by kernel_rfl) t01
  obtain ⟨a2, l2, cp2, rfl⟩ := okWide_slice Try.underlying22 (hval 1 22 v1 rfl rfl)
  obtain ⟨m1, hm1⟩ := h1
  obtain ⟨a2', l2', cp2', z2, e2, w2⟩ := IsRow.of Try.underlying22 Try.underlying2 (by kernel_rfl) (v := .slice a2 l2 cp2) (by simpa [Value.cells] using hm1)
  simp only [Value.slice.injEq] at e2
  obtain ⟨rfl, rfl, rfl⟩ := e2
  clear hA0 hval0 hsz0
  -- to the virtual interpreter
  obtain ⟨φ1, L1, s1, hR1, hk1, hs1, hl1⟩ := (RA.nil W).slice w1
  obtain ⟨φ2, L2, s2, hR2, hk2, hs2, hl2⟩ := hR1.slice w2
  have hc := law_IsPartition (nro := ([] ++ L1 ++ L2).length) a00 s1 s2 (z1.take l1) (z2.take l2) ([] ++ L1 ++ L2) (hl1.app L2) hl2 w1.len w2.len (Nat.le_refl _)
  have hargs2 : All2 (TopR φ2 (VH.ph ([] ++ L1 ++ L2))) [gv a00 s1, s2] [.agg #[.int .i64 a00, .slice a1 l1 cp1], .slice a2 l2 cp2] := by
    refine .cons (hk2 _ _ (.val (.agg (.cons (.atom (.int _ _)) (.cons (.atom hs1) .nil))))) (.cons (.val (.cell (.atom hs2))) .nil)
  refine (law_true (allSound _) hR2 hargs2 hc).mono fun e W' ⟨he, bel⟩ => ?_
  subst he
  exact ⟨_, rfl, _, _, _, [], _, [], hW', trodAll_mk1 (shut_bool Try.underlying4 _), trodAll_cons_mk (Below.trod laidOut (by kernel_rfl) (of_decide_eq_true (by kernel_rfl)) k0 bel lt0) (trodAll_cons_mk (Below.trod laidOut (by kernel_rfl) (of_decide_eq_true (by kernel_rfl)) k1 bel lt1) trodAll_mk0), rfl, bel.frame _, fun h => by cases h⟩

theorem over1 : Rows.fnExactIsPartitionRow.holds Try.pinned (OpenSpec.ofChange Rows.fnExactIsPartitionSpec) :=
  OpenClaim.holds_of_wide 3 Try.f3 rfl rfl rfl rfl rfl rfl rfl ⟨rfl, rfl, rfl, rfl, rfl⟩ rfl rfl rfl rfl rfl (by kernel_rfl) Try.func3 (by kernel_rfl)
    (of_decide_eq_true (by kernel_rfl)) (by unfold Func.isWrapper; first | (rw [if_pos (by decide +kernel)]; kernel_rfl) | (rw [if_neg (by decide +kernel)]; exact ⟨rfl, rfl⟩))
    (fun os started H enc _ => lifted1 os started H enc)
end Go.Proofs.Ytannjcinoopmnaa.Zv
namespace Go.Proofs.Ytannjcinoopmnaa
/-- The statement. -/
theorem fnExactIsPartition_holds : Rows.FnExactIsPartitionSaid := Zv.over1
end Go.Proofs.Ytannjcinoopmnaa
