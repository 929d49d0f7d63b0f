/- What all rows of the seat share. -/
import Derived.Test.YtcpmodengmffjaaRows
import Derived.Test.YtcpmodengmffjaaZwIr
import Derived.Test.YtcpmodengmffjaaZwRowA
namespace Go.Proofs.Ytcpmodengmffjaa.Zv
open Go Go.ChangeShapes Go.WideShapes Go.ChangeAt Go.RowKit
open Go.Proofs.Ytcpmodengmffjaa

theorem own : ownKnob Try.prog.godebug = none := by kernel_rfl
theorem laidOut : laidOutB Try.prog = true := by kernel_rfl
theorem mixed : Try.prog.follows .mixedOrders = true := by kernel_rfl

theorem F_ir : ∀ f fn, F f = some (.ir fn) → EntOK Try.prog (compD Try.prog) f fn := by
  intro f fn hf
  unfold F at hf
  cases hl : tab.lookup f with
  | none => rw [hl] at hf; cases hf
  | some g =>
    rw [hl] at hf
    simp only [Option.map_some, Option.some.injEq, Ent.ir.injEq] at hf
    subst hf
    have hm : (f, g) ∈ tab := by
      have h2 : ∀ (l : List (Nat × FF)), l.lookup f = some g → (f, g) ∈ l := by
        intro l
        induction l with
        | nil => intro h; cases h
        | cons p l ih =>
          intro h
          obtain ⟨a, b⟩ := p
          simp only [List.lookup] at h
          split at h
          · rename_i e
            have e2 : f = a := by simpa using e
            cases h
            rw [e2]
            exact .head _
          · exact .tail _ (ih h)
      exact h2 tab hl
    exact tabOK (f, g) hm

theorem F_ext : ∀ f g, F f = some (.ext g) → ∀ nro, ExtOK Try.prog nro f g := by
  intro f g hf
  unfold F at hf
  cases hl : tab.lookup f <;> rw [hl] at hf <;> cases hf

theorem allSound (nro : Nat) : CallSound Try.prog nro (vcall F nro) := sound mixed F F_ir fun f g h => F_ext f g h nro

/-- No table is read. -/
theorem no_glob (W : World) : ∀ b C, globTab b = some C → ∃ ty fz, W.heap[b]? = some (.cells C ty fz) := fun _ _ h => by cases h
end Go.Proofs.Ytcpmodengmffjaa.Zv
