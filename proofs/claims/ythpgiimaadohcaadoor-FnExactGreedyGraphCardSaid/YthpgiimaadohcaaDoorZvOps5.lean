/- New objects, and objects written. -/
import Derived.Test.YthpgiimaadohcaaDoorZvOps4
namespace Go.Proofs.YthpgiimaadohcaaDoor.Zv
open Go

def setE (φ : Em) (n : Nat) (b : Blk) : Em := fun i => if i = n then b else φ i

theorem VH.ph_push {h : VH} {o o' : VO} {i : Nat} (hi : VH.ph (h ++ [o]) i = some o') : (i < h.length ∧ VH.ph h i = some o') ∨ (i = h.length ∧ o' = o) := by
  unfold VH.ph at hi ⊢
  rcases Nat.lt_trichotomy i h.length with hl | rfl | hl
  · rw [List.getElem?_append_left hl] at hi; exact .inl ⟨hl, hi⟩
  · simp at hi; exact .inr ⟨rfl, hi.symm⟩
  · rw [List.getElem?_eq_none (by simp; omega)] at hi; cases hi
theorem VH.ph_push_old {h : VH} {o o' : VO} {i : Nat} (hi : VH.ph h i = some o') : VH.ph (h ++ [o]) i = some o' := by
  unfold VH.ph at hi ⊢
  have : i < h.length := (List.getElem?_eq_some_iff.mp hi).1
  rw [List.getElem?_append_left this]; exact hi
theorem VH.ph_lt {h : VH} {o : VO} {i : Nat} (hi : VH.ph h i = some o) : i < h.length := (List.getElem?_eq_some_iff.mp hi).1

theorem RH.block_lt {nro : Nat} {φ : Em} {L : PH} {w : World} (hR : RH nro φ L w) {i : Nat} {o : VO} (ho : L i = some o) : (φ i).b < w.heap.size := by
  obtain ⟨C, ty, fz, hb, _⟩ := hR.cells i o ho
  exact (Array.getElem?_eq_some_iff.mp hb).1

section
variable {nro : Nat} {φ : Em} {h : VH} {w w1 : World}

theorem RH.push (hR : RH nro φ h.ph w) (o : VO) (C : Array Value) (ty : TypeId) (hw : w1.heap = w.heap.push (.cells C ty (0, 0))) (hrest : w1.os = w.os ∧ w1.tape = w.tape ∧ w1.output = w.output)
    (hC : ∀ (j : Nat) v, o.cells[j]? = some v → ∃ v', C[j]? = some v' ∧ CellR φ h.ph v v') :
    RH nro (setE φ h.length ⟨w.heap.size, 0, C.size⟩) (VH.ph (h ++ [o])) w1 ∧ X nro φ h.ph w (setE φ h.length ⟨w.heap.size, 0, C.size⟩) (VH.ph (h ++ [o])) w1 := by
  have hg : Grow φ h.ph (setE φ h.length ⟨w.heap.size, 0, C.size⟩) (VH.ph (h ++ [o])) := fun i o' ho' =>
    ⟨o', VH.ph_push_old ho', rfl, Nat.le_refl _, fun _ => by unfold setE; rw [if_neg (by have := VH.ph_lt ho'; omega)]⟩
  have hold : ∀ b, b < w.heap.size → w1.heap[b]? = w.heap[b]? := fun b hb => by rw [hw, Array.getElem?_push_lt hb]; simp [hb]
  refine RH.mk' ?_ ?_ hR.glob ⟨hg, ?_, ?_, (fun b hb _ => hold b hb), hrest, fun i hi _ => by obtain ⟨o, ho⟩ := Option.isSome_iff_exists.mp hi; unfold setE; rw [if_neg (by have := VH.ph_lt ho; omega)]⟩
  · intro i o' hi
    rcases VH.ph_push hi with ⟨hl, hi⟩ | ⟨rfl, rfl⟩
    · obtain ⟨C', ty', fz, hb, hc, hn⟩ := hR.cells i o' hi
      have e : setE φ h.length ⟨w.heap.size, 0, C.size⟩ i = φ i := by unfold setE; rw [if_neg (by omega)]
      rw [e]
      refine ⟨C', ty', fz, by rw [hold _ (hR.block_lt hi)]; exact hb, fun j v hv => ?_, hn⟩
      obtain ⟨v', h1, h2⟩ := hc j v hv
      exact ⟨v', h1, h2.grow hg⟩
    · have e : setE φ h.length ⟨w.heap.size, 0, C.size⟩ h.length = ⟨w.heap.size, 0, C.size⟩ := by unfold setE; rw [if_pos rfl]
      rw [e]
      refine ⟨C, ty, (0, 0), by rw [hw]; simp, fun j v hv => ?_, fun _ => ⟨rfl, rfl, rfl⟩⟩
      obtain ⟨v', h1, h2⟩ := hC j v hv
      exact ⟨v', by simpa using h1, h2.grow hg⟩
  · intro i j hi hj hni hij
    obtain ⟨oi, hi⟩ := Option.isSome_iff_exists.mp hi
    obtain ⟨oj, hj⟩ := Option.isSome_iff_exists.mp hj
    unfold setE
    rcases VH.ph_push hi with ⟨hl, hi1⟩ | ⟨rfl, _⟩ <;> rcases VH.ph_push hj with ⟨hl', hj1⟩ | ⟨rfl, _⟩
    · rw [if_neg (by omega), if_neg (by omega)]
      exact hR.apart i j (by simp [hi1]) (by simp [hj1]) hni hij
    · rw [if_neg (by omega), if_pos rfl]
      have := hR.block_lt hi1
      simp only
      omega
    · rw [if_pos rfl, if_neg (by omega)]
      have := hR.block_lt hj1
      simp only
      omega
    · exact absurd rfl hij
  · intro i hi hni
    obtain ⟨oi, hi⟩ := Option.isSome_iff_exists.mp hi
    unfold setE
    rcases VH.ph_push hi with ⟨hl, hi⟩ | ⟨rfl, rfl⟩
    · rw [if_neg (by omega)]
      exact .inl ⟨by simp [hi], rfl⟩
    · rw [if_pos rfl]
      exact .inr (Nat.le_refl _)
  · rw [hw]; simp

theorem VH.ph_set {h : VH} {o o' : VO} {i j : Nat} (hj : VH.ph (h.set i o) j = some o') : (j = i ∧ o' = o ∧ i < h.length) ∨ (j ≠ i ∧ VH.ph h j = some o') := by
  unfold VH.ph at hj ⊢
  rw [List.getElem?_set] at hj
  split at hj
  · rename_i e
    split at hj
    · cases hj; exact .inl ⟨e.symm, rfl, by assumption⟩
    · cases hj
  · rename_i e; exact .inr ⟨fun h => e h.symm, hj⟩

/-- An object is written where it lies. -/
theorem RH.write (hR : RH nro φ h.ph w) {i : Nat} {o : VO} (ho : VH.ph h i = some o) (hni : nro ≤ i) (cs : List Value) (hlen : o.cells.length ≤ cs.length) (C C' : Array Value) (ty : TypeId) (fz : Nat × Nat)
    (hb : w.heap[(φ i).b]? = some (.cells C ty fz)) (hsz : C'.size = C.size) (hw : w1.heap = w.heap.setIfInBounds (φ i).b (.cells C' ty (0, 0))) (hrest : w1.os = w.os ∧ w1.tape = w.tape ∧ w1.output = w.output)
    (hC : ∀ (j : Nat) v, cs[j]? = some v → ∃ v', C'[j]? = some v' ∧ CellR φ h.ph v v') :
    RH nro φ (VH.ph (h.set i { o with cells := cs })) w1 ∧ X nro φ h.ph w φ (VH.ph (h.set i { o with cells := cs })) w1 := by
  have hil := VH.ph_lt ho
  have hg : Grow φ h.ph φ (VH.ph (h.set i { o with cells := cs })) := by
    intro j o' ho'
    by_cases e : j = i
    · subst e
      rw [ho] at ho'
      cases ho'
      exact ⟨{ o with cells := cs }, by simp [VH.ph, hil], rfl, hlen, fun _ => rfl⟩
    · exact ⟨o', by unfold VH.ph at ho' ⊢; rw [List.getElem?_set_ne (fun h => e h.symm)]; exact ho', rfl, Nat.le_refl _, fun _ => rfl⟩
  have hbl := hR.block_lt ho
  have hold : ∀ b, b ≠ (φ i).b → w1.heap[b]? = w.heap[b]? := fun b hne => by rw [hw, Array.getElem?_setIfInBounds_ne (fun h => hne h.symm)]
  have hnew : w1.heap[(φ i).b]? = some (.cells C' ty (0, 0)) := by rw [hw]; simp [hbl]
  obtain ⟨C0, ty0, fz0, hb0, _, hn0⟩ := hR.cells i o ho
  rw [hb] at hb0
  cases hb0
  obtain ⟨_, hoff, hcap⟩ := hn0 hni
  refine RH.mk' ?_ ?_ hR.glob ⟨hg, ?_, ?_, ?_, hrest, fun _ _ _ => rfl⟩
  · intro j o' hj
    rcases VH.ph_set hj with ⟨rfl, rfl, _⟩ | ⟨hne, hj⟩
    · refine ⟨C', ty, (0, 0), hnew, fun k v hv => ?_, fun _ => ⟨rfl, hoff, by rw [hsz, hcap]⟩⟩
      obtain ⟨v', h1, h2⟩ := hC k v hv
      exact ⟨v', by rw [hoff, Nat.zero_add]; exact h1, h2.grow hg⟩
    · obtain ⟨Cj, tj, fj, hbj, hcj, hnj⟩ := hR.cells j o' hj
      have hne2 : (φ j).b ≠ (φ i).b := fun e => hR.apart i j (by simp [ho]) (by simp [hj]) hni (fun h => hne h.symm) e.symm
      refine ⟨Cj, tj, fj, by rw [hold _ hne2]; exact hbj, fun k v hv => ?_, hnj⟩
      obtain ⟨v', h1, h2⟩ := hcj k v hv
      exact ⟨v', h1, h2.grow hg⟩
  · intro j k hj hk hnj hjk
    obtain ⟨oj, hj⟩ := Option.isSome_iff_exists.mp hj
    obtain ⟨ok, hk⟩ := Option.isSome_iff_exists.mp hk
    have pj : (h.ph j).isSome := by rcases VH.ph_set hj with ⟨rfl, _, _⟩ | ⟨_, hj⟩ <;> simp [*]
    have pk : (h.ph k).isSome := by rcases VH.ph_set hk with ⟨rfl, _, _⟩ | ⟨_, hk⟩ <;> simp [*]
    exact hR.apart j k pj pk hnj hjk
  · intro j hj hnj
    obtain ⟨oj, hj⟩ := Option.isSome_iff_exists.mp hj
    exact .inl ⟨by rcases VH.ph_set hj with ⟨rfl, _, _⟩ | ⟨_, hj⟩ <;> simp [*], rfl⟩
  · rw [hw]; simp
  · intro b hb2 hne
    exact hold b fun e => hne i (by simp [ho]) hni e.symm

/-- An object is written in a new place. -/
theorem RH.move (hR : RH nro φ h.ph w) {i : Nat} {o : VO} (ho : VH.ph h i = some o) (hni : nro ≤ i) (cs : List Value) (hlen : o.cells.length < cs.length) (C' : Array Value) (ty : TypeId)
    (hw : w1.heap = w.heap.push (.cells C' ty (0, 0))) (hrest : w1.os = w.os ∧ w1.tape = w.tape ∧ w1.output = w.output)
    (hC : ∀ (j : Nat) v, cs[j]? = some v → ∃ v', C'[j]? = some v' ∧ CellR φ h.ph v v') :
    RH nro (setE φ i ⟨w.heap.size, 0, C'.size⟩) (VH.ph (h.set i { o with cells := cs })) w1 ∧ X nro φ h.ph w (setE φ i ⟨w.heap.size, 0, C'.size⟩) (VH.ph (h.set i { o with cells := cs })) w1 := by
  have hil := VH.ph_lt ho
  have hg : Grow φ h.ph (setE φ i ⟨w.heap.size, 0, C'.size⟩) (VH.ph (h.set i { o with cells := cs })) := by
    intro j o' ho'
    by_cases e : j = i
    · subst e
      rw [ho] at ho'
      cases ho'
      exact ⟨{ o with cells := cs }, by simp [VH.ph, hil], rfl, by simp; omega, fun e => by simp at e; omega⟩
    · exact ⟨o', by unfold VH.ph at ho' ⊢; rw [List.getElem?_set_ne (fun h => e h.symm)]; exact ho', rfl, Nat.le_refl _, fun _ => by unfold setE; rw [if_neg e]⟩
  have hold : ∀ b, b < w.heap.size → w1.heap[b]? = w.heap[b]? := fun b hb => by rw [hw, Array.getElem?_push_lt hb]; simp [hb]
  refine RH.mk' ?_ ?_ hR.glob ⟨hg, ?_, ?_, (fun b hb _ => hold b hb), hrest, fun j _ hj => by unfold setE; rw [if_neg (by omega)]⟩
  · intro j o' hj
    rcases VH.ph_set hj with ⟨rfl, rfl, _⟩ | ⟨hne, hj⟩
    · have e : setE φ j ⟨w.heap.size, 0, C'.size⟩ j = ⟨w.heap.size, 0, C'.size⟩ := by unfold setE; rw [if_pos rfl]
      rw [e]
      refine ⟨C', ty, (0, 0), by rw [hw]; simp, fun k v hv => ?_, fun _ => ⟨rfl, rfl, rfl⟩⟩
      obtain ⟨v', h1, h2⟩ := hC k v hv
      exact ⟨v', by simpa using h1, h2.grow hg⟩
    · have e : setE φ i ⟨w.heap.size, 0, C'.size⟩ j = φ j := by unfold setE; rw [if_neg hne]
      rw [e]
      obtain ⟨Cj, tj, fj, hbj, hcj, hnj⟩ := hR.cells j o' hj
      refine ⟨Cj, tj, fj, by rw [hold _ (hR.block_lt hj)]; exact hbj, fun k v hv => ?_, hnj⟩
      obtain ⟨v', h1, h2⟩ := hcj k v hv
      exact ⟨v', h1, h2.grow hg⟩
  · intro j k hj hk hnj hjk
    obtain ⟨oj, hj⟩ := Option.isSome_iff_exists.mp hj
    obtain ⟨ok, hk⟩ := Option.isSome_iff_exists.mp hk
    unfold setE
    rcases VH.ph_set hj with ⟨rfl, _, _⟩ | ⟨hnj2, hj1⟩ <;> rcases VH.ph_set hk with ⟨rfl, _, _⟩ | ⟨hnk, hk1⟩
    · exact absurd rfl hjk
    · rw [if_pos rfl, if_neg hnk]
      have := hR.block_lt hk1
      simp only
      omega
    · rw [if_neg hnj2, if_pos rfl]
      have := hR.block_lt hj1
      simp only
      omega
    · rw [if_neg hnj2, if_neg hnk]
      exact hR.apart j k (by simp [hj1]) (by simp [hk1]) hnj hjk
  · intro j hj hnj
    obtain ⟨oj, hj⟩ := Option.isSome_iff_exists.mp hj
    unfold setE
    rcases VH.ph_set hj with ⟨rfl, _, _⟩ | ⟨hnj2, hj⟩
    · rw [if_pos rfl]; exact .inr (Nat.le_refl _)
    · rw [if_neg hnj2]; exact .inl ⟨by simp [hj], rfl⟩
  · rw [hw]; simp

theorem RH.heap_eq (hR : RH nro φ h.ph w) (e : w1.heap = w.heap) : RH nro φ h.ph w1 := ⟨fun i o ho => by rw [e]; exact hR.cells i o ho, hR.apart, fun b C hb => by rw [e]; exact hR.glob b C hb⟩
end
end Go.Proofs.YthpgiimaadohcaaDoor.Zv
