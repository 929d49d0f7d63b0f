/- Operations that make memory or write it. -/
import Derived.Test.YthpgiimaadohcaaDoorZvOps5
namespace Go.Proofs.YthpgiimaadohcaaDoor.Zv
open Go

section
variable {φ : Em} {L : PH}

theorem CellR.one {v v' : Value} (h : CellR φ L v v') (hj : isJunk v = false) : v'.oneCell' = true := by
  cases h with
  | atom h =>
    cases h with
    | junk => cases hj
    | ptrS _ _ h1 => unfold Zv.one one1 at h1; unfold Value.oneCell'; split at h1 <;> simp_all
    | slS _ _ h1 => unfold Zv.one one1 at h1; unfold Value.oneCell'; split at h1 <;> simp_all
    | _ => rfl
  | func => rfl

theorem cells_one {v : Value} (h : v.oneCell' = true) : v.cells = #[v] := by
  cases v <;> first | rfl | cases h

theorem TopR.cells {v v' : Value} (h : TopR φ L v v') (hj : isJunk v = false) : All2 (CellR φ L) (vcells v) v'.cells.toList := by
  cases h with
  | val h =>
    cases h with
    | cell h =>
      have h1 := h.one hj
      rw [cells_one h1]
      have hv : v.cells = #[v] := by
        cases h with
        | atom h => cases h <;> rfl
        | func => rfl
      unfold vcells
      rw [hv]
      exact .cons h .nil
    | agg h => exact h
  | tup => cases hj

theorem All2.ones : ∀ {xs ys : List Value}, All2 (CellR φ L) xs ys → xs.all (fun v => !isJunk v) = true → ∀ u ∈ ys, u.oneCell' = true
  | _, _, .nil, _ => fun _ h => by cases h
  | _, _, .cons hr t, hx => by
    simp only [List.all_cons, Bool.and_eq_true] at hx
    intro u hu
    rcases List.mem_cons.mp hu with rfl | hu
    · exact hr.one (by simpa using hx.1)
    · exact All2.ones t hx.2 u hu

theorem notJunk_of_cells {v : Value} (h : (vcells v).all (fun v => !isJunk v) = true) : isJunk v = false := by
  unfold vcells at h
  cases v <;> first | rfl | (simp [Value.cells, isJunk] at h)

theorem All2.get_toList {R : Value → Value → Prop} {cs : List Value} {C : Array Value} (h : All2 R cs C.toList) (j : Nat) (v : Value) (hv : cs[j]? = some v) : ∃ v', C[j]? = some v' ∧ R v v' := by
  obtain ⟨y, hy, hr⟩ := h.get' j v hv
  exact ⟨y, by simpa using hy, hr⟩

theorem All2.append {α β : Type} {R : α → β → Prop} : ∀ {as : List α} {bs : List β} {cs : List α} {ds : List β}, All2 R as bs → All2 R cs ds → All2 R (as ++ cs) (bs ++ ds)
  | _, _, _, _, .nil, h => h
  | _, _, _, _, .cons h t, h2 => .cons h (All2.append t h2)
theorem All2.take {α β : Type} {R : α → β → Prop} {as : List α} {bs : List β} (n : Nat) (h : All2 R as bs) : All2 R (as.take n) (bs.take n) := by simpa using h.extract 0 n
theorem All2.drop {α β : Type} {R : α → β → Prop} : ∀ {as : List α} {bs : List β} (n : Nat), All2 R as bs → All2 R (as.drop n) (bs.drop n)
  | _, _, n, .nil => by simp; exact .nil
  | _, _, 0, .cons h t => .cons h t
  | _, _, n + 1, .cons _ t => by simpa using All2.drop n t
theorem All2.splice {k : Nat} {vs vs' cs cs' : List Value} {R : Value → Value → Prop} (hv : All2 R vs vs') (hc : All2 R cs cs') : All2 R (splice k vs cs) (splice k vs' cs') := by
  unfold Zv.splice
  rw [← hv.length']
  exact ((hc.take k).append hv).append (hc.drop _)

/-- The model's way of laying a part over a literal's cells. -/
theorem foldl_splice (off : Nat) : ∀ (vs : List Value) (s : Nat) (cells : Array Value), off + s + vs.length ≤ cells.size →
    ((vs.zipIdx s).foldl (fun (cs : Array Value) (x : Value × Nat) => cs.setIfInBounds (off + x.2) x.1) cells).toList = splice (off + s) vs cells.toList
  | [], s, cells, _ => by simp [Zv.splice]
  | v :: vs, s, cells, h => by
    simp only [List.zipIdx_cons, List.foldl_cons]
    rw [foldl_splice off vs (s + 1) _ (by simp at h ⊢; omega)]
    unfold Zv.splice
    simp only [Array.toList_setIfInBounds]
    apply List.ext_getElem?
    intro j
    simp only [List.length_cons] at h
    have hl : off + s < cells.toList.length := by simp; omega
    simp only [List.getElem?_append, List.length_append, List.length_take, List.length_set, List.length_cons, List.getElem?_take, List.getElem?_set, List.getElem?_drop, Array.length_toList]
    have e1 : min (off + (s + 1)) cells.size = off + s + 1 := by omega
    have e2 : min (off + s) cells.size = off + s := by omega
    rw [e1, e2]
    by_cases c1 : j < off + s
    · have : ¬ off + s = j := by omega
      simp [c1, this, show j < off + s + 1 + vs.length by omega, show j < off + s + 1 by omega, show j < off + (s + 1) by omega, show j < off + s + (vs.length + 1) by omega]
    · by_cases c2 : j = off + s
      · subst c2
        simp [show off + s < off + s + 1 + vs.length by omega, show off + s < off + (s + 1) by omega]
        omega
      · by_cases c3 : j < off + s + 1 + vs.length
        · have : ¬ j < off + s + 1 := by omega
          simp [c1, c3, this, show j < off + s + (vs.length + 1) by omega]
          rw [show j - (off + s) = (j - (off + s + 1)) + 1 by omega]
          simp
        · have : ¬ j < off + s + (vs.length + 1) := by omega
          have h5 : ¬ off + s = off + (s + 1) + vs.length + (j - (off + s + 1 + vs.length)) := by omega
          simp [c3, this, h5]
          congr 1
          omega

theorem fill_rel {h : VH} {env : List Value} {a : Act} (hE : RE φ h.ph env a) (pl : Nat → Option (Nat × Nat)) : ∀ (l : List (Nat × Operand)) (l' : List (Nat × Nat × Operand)) (cs : List Value) (cells : Array Value) (res : List Value),
    partsOf pl l = some l' → All2 (CellR φ h.ph) cs cells.toList → vfill cs (l'.map fun p => (p.1, p.2.1, vev env p.2.2)) = some res →
    ∃ cells', Instr.fill pl cells (l.map fun x => (x.1, a.eval x.2)) = some cells' ∧ All2 (CellR φ h.ph) res cells'.toList
  | [], l', cs, cells, res, hp, hc, hf => by
    cases hp
    cases hf
    exact ⟨cells, rfl, hc⟩
  | (i, x) :: l, l', cs, cells, res, hp, hc, hf => by
    simp only [partsOf] at hp
    split at hp
    · rename_i off n r' hpl hr
      split at hp
      · rename_i hx
        cases hp
        simp only [List.map_cons, vfill] at hf
        split at hf
        · rename_i hcond
          obtain ⟨hn, hoff, hj⟩ := hcond
          have hcr := (hE.ev hx).cells (notJunk_of_cells hj)
          have hlen := hcr.length'
          have hlc := hc.length'
          have hsz : (a.eval x).cells.size = n := by rw [← hn, hlen]; simp
          have hle : off + (a.eval x).cells.size ≤ cells.size := by rw [hsz]; simpa [hlc] using hoff
          obtain ⟨cells', h1, h2⟩ := fill_rel hE pl l r' _ (((a.eval x).cells.toList.zipIdx.foldl (fun (cs : Array Value) (x : Value × Nat) => cs.setIfInBounds (off + x.2) x.1) cells)) res hr
            (by rw [foldl_splice off _ 0 cells (by simpa using hle)]; simpa using hcr.splice (k := off) hc) hf
          refine ⟨cells', ?_, h2⟩
          simp only [List.map_cons, Instr.fill, hpl]
          rw [if_neg (by simp [hsz]; omega)]
          rw [← h1]
          congr 1
          rw [← Array.foldl_toList, Array.toList_zipIdx]
        · cases hf
      · cases hp
    · cases hp
end
end Go.Proofs.YthpgiimaadohcaaDoor.Zv
