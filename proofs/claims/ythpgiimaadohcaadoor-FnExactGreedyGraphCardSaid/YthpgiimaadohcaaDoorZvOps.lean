/- Each operation of the model, as the virtual interpreter tells it: those that write and make nothing. -/
import Derived.Test.YthpgiimaadohcaaDoorZvComp
import Derived.Laws.Sem
import Derived.Laws.Cells
import Derived.Laws.CopyRow
import Derived.Laws.Append
import Derived.Laws.AppendOwn
import Derived.WalkKit
namespace Go.Proofs.YthpgiimaadohcaaDoor.Zv
open Go

section
variable {φ : Em} {L : PH} {v' : Value}
theorem TopR.inv_int {k : IntKind} {n : Int} (h : TopR φ L (.int k n) v') : v' = .int k n := by
  cases h with | val h => cases h with | cell h => cases h with | atom h => cases h; rfl
theorem TopR.inv_bool {b : Bool} (h : TopR φ L (.bool b) v') : v' = .bool b := by
  cases h with | val h => cases h with | cell h => cases h with | atom h => cases h; rfl
theorem TopR.inv_str {s : ByteArray} (h : TopR φ L (.string s) v') : v' = .string s := by
  cases h with | val h => cases h with | cell h => cases h with | atom h => cases h; rfl
theorem TopR.inv_ptr {p : Option Addr} (h : TopR φ L (.pointer p) v') : AtomR φ L (.pointer p) v' := by
  cases h with | val h => cases h with | cell h => cases h with | atom h => exact h
theorem TopR.inv_sl {p : Option Addr} {n c : Nat} (h : TopR φ L (.slice p n c) v') : AtomR φ L (.slice p n c) v' := by
  cases h with | val h => cases h with | cell h => cases h with | atom h => exact h
theorem TopR.inv_nilF (h : TopR φ L .nilFunc v') : v' = .nilFunc := by
  cases h with | val h => cases h with | cell h => cases h with | atom h => cases h; rfl
theorem TopR.inv_fn {fn : Fn} {a c : Array Value} (h : TopR φ L (.func fn a c) v') : ∃ f a' c', fn = .func f ∧ v' = .func (.func f) a' c' ∧ All2 (AtomR φ L) a.toList a'.toList ∧ All2 (AtomR φ L) c.toList c'.toList := by
  cases h with | val h => cases h with | cell h => cases h with
    | atom h => cases h
    | func f ha hc => exact ⟨_, _, _, rfl, rfl, ha, hc⟩
theorem TopR.inv_agg {cs : Array Value} (h : TopR φ L (.agg cs) v') : ∃ cs', v' = .agg cs' ∧ All2 (CellR φ L) cs.toList cs'.toList := by
  cases h with | val h => cases h with
    | cell h => cases h with | atom h => cases h
    | agg h => exact ⟨_, rfl, h⟩
theorem TopR.inv_tup {vs : Array Value} (h : TopR φ L (.tuple vs) v') : ∃ vs', v' = .tuple vs' ∧ All2 (ValR φ L) vs.toList vs'.toList := by
  cases h with
  | val h => cases h with | cell h => cases h with | atom h => cases h
  | tup h => exact ⟨_, rfl, h⟩
end

/-- What an operation comes to. -/
def OkRes (nro : Nat) (φ : Em) (L : PH) (w : World) (v : Value) (h' : VH) (r : Result Next) : Prop :=
  ∃ φ' w', RH nro φ' h'.ph w' ∧ X nro φ L w φ' h'.ph w' ∧ ((∃ v', r = .ok (.value v') w' ∧ TopR φ' h'.ph v v') ∨ (r = .ok .skip w' ∧ v = undef))

theorem OkRes.quiet {nro : Nat} {φ : Em} {h : VH} {w : World} {v v' : Value} {r : Result Next} (hR : RH nro φ h.ph w) (hr : r = .ok (.value v') w) (hv : TopR φ h.ph v v') : OkRes nro φ h.ph w v h r :=
  ⟨φ, w, hR, .refl _ _ _ _, .inl ⟨v', hr, hv⟩⟩

theorem AtomR.top {φ : Em} {L : PH} {v v' : Value} (h : AtomR φ L v v') : TopR φ L v v' := .val (.cell (.atom h))

section
variable {P : Program} {nro : Nat} {φ : Em} {h : VH} {w : World} {env : List Value} {a : Act} {dst : Option Tmp} {ty : TypeId} {pos : String} {after : Array Edge} {guard : Option (Nat × Bool)} {v : Value} {h' : VH} {call : VCall} {op : VOp}

theorem run_bin {op : BinOp} {t : TypeId} {x y r : Value} (hv : vbin op x y = some r) : (binOp op t x y).run P w = .ok r w ∧ ((∃ k n, r = .int k n) ∨ (∃ b, r = .bool b) ∨ ∃ s, r = .string s) := by
  unfold vbin at hv
  split at hv
  · rename_i k a k' b
    split at hv
    · split at hv
      · cases hv
      · cases hv
        refine ⟨?_, .inl ⟨_, _, rfl⟩⟩
        simp [binOp, Op.shift, *]
    · split at hv
      · cases hv
      · cases hv
        refine ⟨?_, .inl ⟨_, _, rfl⟩⟩
        simp [binOp, Op.shift, *]
    · split at hv
      · rename_i hk
        subst hk
        split at hv <;> first
          | (cases hv; done)
          | (cases hv; refine ⟨?_, .inl ⟨_, _, rfl⟩⟩; simp [binOp, Op.intArith, Op.intBits]; done)
          | (cases hv; refine ⟨?_, .inr (.inl ⟨_, rfl⟩)⟩; simp [binOp, Op.intCmp]; done)
          | (split at hv <;> first | (cases hv; done) | (cases hv; refine ⟨?_, .inl ⟨_, _, rfl⟩⟩; simp [binOp, Op.intDiv, *]; done))
      · cases hv
  · rename_i a b
    split at hv <;> first
      | (cases hv; done)
      | (cases hv; refine ⟨?_, .inr (.inl ⟨_, rfl⟩)⟩; simp [binOp, Op.stringOp]; done)
      | (split at hv <;> first | (cases hv; done) | (rename_i hs; cases hv; refine ⟨?_, .inr (.inr ⟨_, rfl⟩)⟩; simp only [binOp, Op.stringOp]; rw [if_neg (by simp only [IntKind.max, IntKind.signed, IntKind.bits]; omega)]; rfl))
  · cases hv

theorem run_un {op : UnOp} {x r : Value} (hv : vun op x = some r) : (Op.unary op x).run P w = .ok r w ∧ ((∃ k n, r = .int k n) ∨ (∃ b, r = .bool b)) := by
  unfold vun at hv
  split at hv
  · split at hv
    · cases hv; exact ⟨rfl, .inr ⟨_, rfl⟩⟩
    · cases hv
  · split at hv
    · cases hv; exact ⟨rfl, .inl ⟨_, _, rfl⟩⟩
    · cases hv; exact ⟨rfl, .inl ⟨_, _, rfl⟩⟩
    · cases hv
  · cases hv

theorem run_und {t : TypeId} {d : TypeDesc} (hd : P.underlying t = some d) : (underlying t).run P w = .ok d w := by
  simp [underlying, hd]
theorem run_info {t : TypeId} {i : TypeInfo} (hd : P.info? t = some i) : (typeInfo t).run P w = .ok i w := by
  simp [typeInfo, hd]
theorem run_size {t : TypeId} {n : Nat} (hd : sizeT P t = some n) : (sizeOf t).run P w = .ok n w := by
  unfold sizeT at hd
  cases hi : P.info? t with
  | none => rw [hi] at hd; cases hd
  | some i => rw [hi] at hd; cases hd; simp [sizeOf, run_info hi]

theorem mapS {α β : Type} {f : α → β} {x : Option α} {y : β} (h : x.map f = some y) : ∃ z, x = some z ∧ f z = y := by
  cases x with
  | none => cases h
  | some z => exact ⟨z, rfl, by simpa using h⟩

/-- vop's own equation where a scalar comes out. -/
theorem prodS {x : Option Value} {h h' : VH} {v : Value} (e : x.map (·, h) = some (v, h')) : x = some v ∧ h' = h := by
  obtain ⟨z, hz, e⟩ := mapS e
  cases e
  exact ⟨hz, rfl⟩
end
end Go.Proofs.YthpgiimaadohcaaDoor.Zv
