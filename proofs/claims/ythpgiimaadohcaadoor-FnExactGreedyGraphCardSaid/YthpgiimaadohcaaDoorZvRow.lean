/- A row's arguments: what they are to the virtual interpreter; and a law that it tells true. -/
import Derived.Test.YthpgiimaadohcaaDoorZvEnd
import Derived.ProofKit
import Derived.OpenShut
import Derived.ShutString
import Derived.ChangeOld
import Derived.Below
import Derived.SizedLaws
import Derived.Lib.SmallJoins
namespace Go.Proofs.YthpgiimaadohcaaDoor.Zv
open Go Go.ChangeShapes Go.WideShapes Go.ChangeAt Go.RowKit

/-- What is known of a slice of integers that came in. -/
def IsRow (k : IntKind) (w : World) (a : Option Addr) (len cap : Nat) (zs : List Int) : Prop :=
  (a = none ∧ len = 0 ∧ cap = 0 ∧ zs = []) ∨
  ∃ x, a = some x ∧ len ≤ cap ∧ cap ≤ maxLen ∧ zs.length = cap ∧ (∀ i, i < zs.length → w.cell? (x.add i) = some (.int k (zs.getD i 0))) ∧ ∀ n ∈ zs, (Lit.int k n).wf = true

theorem IsRow.of {H : Type} {enc : TypeId × Value → H} {P : Program} {W : World} {held : Bool} {t e : TypeId} {k : IntKind} {fuel : Nat} {v : Value} {x : DataW H × List MemPlace} (ht : P.underlying t = some (.slice e)) (he : P.underlying e = some (.int k)) (hc : P.cellsOf e = 1)
    (h : DataW.trod enc P W 0 (fun _ => true) held fuel t [v] = some x) : ∃ a len cap zs, v = .slice a len cap ∧ IsRow k W a len cap zs := by
  rcases open_ints ht he hc h with ⟨hcs, _⟩ | ⟨x, l, c, zs, hcs, _, hl, hm, hz, _, hcell, hwz⟩
  · simp at hcs
    exact ⟨none, 0, 0, [], hcs, .inl ⟨rfl, rfl, rfl, rfl⟩⟩
  · simp at hcs
    exact ⟨some x, l, c, zs, hcs, .inr ⟨x, rfl, hl, hm, by simpa using hz, hcell, hwz⟩⟩

/-- Arguments so far: all objects are read alone. -/
def RA (φ : Em) (h : VH) (W : World) : Prop := RH h.length φ (VH.ph h) W
theorem RA.nil (W : World) (hg : ∀ b C, globTab b = some C → ∃ ty fz, W.heap[b]? = some (.cells C ty fz)) : RA (fun _ => ⟨0, 0, 0⟩) [] W :=
  ⟨fun i o h => by simp [VH.ph] at h, fun i j h => by simp [VH.ph] at h, fun b C hb => ⟨hg b C hb, fun i h => by simp [VH.ph] at h⟩⟩

theorem Grow.refl (φ : Em) (L : PH) : Grow φ L φ L := fun _ o h => ⟨o, h, rfl, Nat.le_refl _, fun _ => rfl⟩

theorem RA.slice {k : IntKind} {φ : Em} {h : VH} {W : World} {a : Option Addr} {len cap : Nat} {zs : List Int} (hR : RA φ h W) (hr : IsRow k W a len cap zs) :
    ∃ φ' L v, RA φ' (h ++ L) W ∧ Grow φ (VH.ph h) φ' (VH.ph (h ++ L)) ∧ AtomR φ' (VH.ph (h ++ L)) v (.slice a len cap) ∧ Sl (h ++ L) v ((zs.take len).map (.int k)) := by
  rcases hr with ⟨rfl, rfl, rfl, rfl⟩ | ⟨x, rfl, hl, hm, hz, hcell, hw⟩
  · exact ⟨φ, [], .slice none 0 0, by simpa using hR, by simpa using Grow.refl _ _, .slN, rfl⟩
  · by_cases h0 : len = 0
    · subst h0
      exact ⟨φ, [], .slice none 0 1, by simpa using hR, by simpa using Grow.refl _ _, .slE x cap, by simp [Sl, vsrc]⟩
    · have hlen : len ≤ zs.length := by omega
      have hspot : x.spot = none := by
        have := World.cell?_spot (hcell 0 (by omega))
        simpa [Addr.add] using this
      -- the cells lie in a block
      have hcl : ∀ j, j < zs.length → ∃ C ty fz, W.heap[x.block]? = some (.cells C ty fz) ∧ C[x.off + j]? = some (.int k (zs.getD j 0)) := by
        intro j hj
        have h1 := hcell j hj
        unfold World.cell? at h1
        have hb : (x.add j).block = x.block := by unfold Addr.add; split <;> rfl
        have ho : (x.add j).off = x.off + j := by
          unfold Addr.add
          split
          · rename_i h; subst h; rfl
          · rfl
        rw [hb] at h1
        split at h1
        · rename_i C ty fz hC
          split at h1
          · cases h1
          · rw [ho] at h1
            exact ⟨C, ty, fz, hC, h1⟩
        · cases h1
      let φ' : Em := fun i => if i = h.length then ⟨x.block, x.off, cap⟩ else φ i
      let ob : VO := ⟨1, (zs.take len).map (.int k)⟩
      have hlook : ∀ i o, VH.ph (h ++ [ob]) i = some o → (i < h.length ∧ VH.ph h i = some o) ∨ (i = h.length ∧ o = ob) := by
        intro i o hi
        simp only [VH.ph] at hi ⊢
        rcases Nat.lt_trichotomy i h.length with hlt | e | hgt
        · left
          rw [List.getElem?_append_left hlt] at hi
          exact ⟨hlt, hi⟩
        · right
          subst e
          rw [hget0] at hi
          simp at hi
          exact ⟨rfl, hi.symm⟩
        · rw [List.getElem?_append_right (by omega)] at hi
          rw [List.getElem?_eq_none (by simp; omega)] at hi
          cases hi
      have hg : Grow φ (VH.ph h) φ' (VH.ph (h ++ [ob])) := by
        intro i o hi
        have hlt : i < h.length := (List.getElem?_eq_some_iff.mp hi).1
        refine ⟨o, ?_, rfl, Nat.le_refl _, fun _ => ?_⟩
        · simp only [VH.ph] at hi ⊢
          rw [List.getElem?_append_left hlt]; exact hi
        · simp only [φ']; rw [if_neg (by omega)]
      refine ⟨φ', [ob], .slice (some ⟨h.length, 0, none⟩) len len, ?_, hg, ?_, ?_⟩
      · refine ⟨fun i o hi => ?_, fun i j hi _ hn => ?_, fun b C hb => ⟨(hR.glob b C hb).1, fun i hi hn => ?_⟩⟩
        · rcases hlook i o hi with ⟨hlt, hi'⟩ | ⟨rfl, rfl⟩
          · obtain ⟨C, ty, fz, h1, h2, _⟩ := hR.cells i o hi'
            have e : φ' i = φ i := by simp only [φ']; rw [if_neg (by omega)]
            rw [e]
            refine ⟨C, ty, fz, h1, fun j v hj => ?_, fun hn => by simp at hn; omega⟩
            obtain ⟨v', h3, h4⟩ := h2 j v hj
            exact ⟨v', h3, h4.grow hg⟩
          · obtain ⟨C, ty, fz, h1, _⟩ := hcl 0 (by omega)
            have e : φ' h.length = ⟨x.block, x.off, cap⟩ := by simp [φ']
            rw [e]
            refine ⟨C, ty, fz, h1, fun j v hj => ?_, fun hn => by simp at hn⟩
            simp only [ob, List.getElem?_map] at hj
            have hjl : j < len := by
              rcases Nat.lt_or_ge j len with h' | h'
              · exact h'
              · rw [List.getElem?_eq_none (by simp; omega)] at hj; cases hj
            obtain ⟨C', ty', fz', h1', h2'⟩ := hcl j (by omega)
            rw [h1] at h1'
            simp only [Option.some.injEq, Obj.cells.injEq] at h1'
            obtain ⟨rfl, _, _⟩ := h1'
            refine ⟨_, h2', ?_⟩
            rw [List.getElem?_take, if_pos hjl, List.getElem?_eq_getElem (by omega)] at hj
            simp only [Option.map_some, Option.some.injEq] at hj
            subst hj
            rw [List.getD_eq_getElem?_getD, List.getElem?_eq_getElem (by omega)]
            exact .atom (.int _ _)
        · exfalso
          have : i < (h ++ [ob]).length := by
            simp only [VH.ph] at hi
            rcases Nat.lt_or_ge i (h ++ [ob]).length with h' | h'
            · exact h'
            · rw [List.getElem?_eq_none h'] at hi; cases hi
          omega
        · exfalso
          have : i < (h ++ [ob]).length := by
            simp only [VH.ph] at hi
            rcases Nat.lt_or_ge i (h ++ [ob]).length with h' | h'
            · exact h'
            · rw [List.getElem?_eq_none h'] at hi; cases hi
          omega
      · have hL : VH.ph (h ++ [ob]) h.length = some ob := by simp [VH.ph]
        have e : φ' h.length = ⟨x.block, x.off, cap⟩ := by simp [φ']
        refine .sl (c := cap) hL (by simp [ob]; omega) (by simp [ob]) (by simp [ob]) hl (by rw [e]; simp [ob]) (.inr ?_)
        rw [e]
        obtain ⟨b, off, sp⟩ := x
        simp at hspot ⊢
        exact hspot
      · simp only [Sl, vsrc_ref, hget0, ob]
        have e : (List.map (Value.int k) (List.take len zs)).length = len := by simp; omega
        simp only [List.getElem?_cons_zero, e, Nat.zero_add, Nat.mul_one, List.drop_zero, Nat.le_refl, and_self, if_true]
        rw [List.take_of_length_le (by omega)]

/-- A law that the virtual interpreter tells true is true. -/
theorem law_true {P : Program} {call : VCall} {f : Nat} {φ : Em} {h : VH} {W : World} {vs : List Value} {vs' : List Value} (hS : CallSound P h.length call) (hR : RA φ h W) (ha : All2 (TopR φ (VH.ph h)) vs vs') {h' : VH}
    (hc : call f vs h = some (.bool true, h')) : Calls P f vs'.toArray W fun e W' => e = .returned (.bool true) ∧ Below W.heap.size W W' := by
  obtain ⟨_, hcalls⟩ := hS f vs h _ _ hc φ W vs' (Nat.le_refl _) hR ha
  refine hcalls.mono fun e W' ⟨φ', v', he, _, hX, hv⟩ => ?_
  have hb := hv.inv_bool
  subst hb
  refine ⟨he, hX.rest.1, hX.rest.2.1, hX.rest.2.2, hX.size, fun b hb => hX.frame b hb fun i hi hn => ?_⟩
  exfalso
  simp only [VH.ph] at hi
  rw [List.getElem?_eq_none hn] at hi
  cases hi
end Go.Proofs.YthpgiimaadohcaaDoor.Zv
