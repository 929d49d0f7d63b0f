/- Dropped garbage: what stays stands for the same. -/
import Derived.Test.YthpgiimaadohcaaDoorZvStep
namespace Go.Proofs.YthpgiimaadohcaaDoor.Zv
open Go

section
variable {φ : Em} {L : PH}
theorem AtomR.refs {v v' : Value} (h : AtomR φ L v v') : ∀ r ∈ arefs v, (L r).isSome = true := by
  cases h <;> intro r hr <;> simp [arefs] at hr <;> (subst hr; simp [*])
theorem All2.arefs : ∀ {xs ys : List Value}, All2 (AtomR φ L) xs ys → ∀ r ∈ xs.flatMap Zv.arefs, (L r).isSome = true
  | _, _, .nil => fun r hr => by simp at hr
  | _, _, .cons h t => fun r hr => by
    rw [List.flatMap_cons, List.mem_append] at hr
    rcases hr with hr | hr
    · exact h.refs r hr
    · exact All2.arefs t r hr
theorem CellR.refs {v v' : Value} (h : CellR φ L v v') : ∀ r ∈ crefs v, (L r).isSome = true := by
  cases h with
  | atom h =>
    intro r hr
    have : crefs v = Zv.arefs v := by cases h <;> rfl
    rw [this] at hr
    exact h.refs r hr
  | func f ha hc =>
    intro r hr
    rcases List.mem_append.mp (show r ∈ _ ++ _ from hr) with hr | hr
    · exact All2.arefs ha r hr
    · exact All2.arefs hc r hr
theorem RH.closed {nro : Nat} {h : VH} {w : World} (hR : RH nro φ h.ph w) {i : Nat} {o : VO} (ho : h[i]? = some o) : ∀ r ∈ orefs o, r < h.length := by
  intro r hr
  obtain ⟨C, ty, fz, _, hc, _⟩ := hR.cells i o ho
  obtain ⟨v, hv, hr⟩ := List.mem_flatMap.mp hr
  obtain ⟨j, hj⟩ := List.getElem?_of_mem hv
  obtain ⟨v', _, hcr⟩ := hc j v hj
  obtain ⟨o', ho'⟩ := Option.isSome_iff_exists.mp (hcr.refs r hr)
  exact VH.ph_lt ho'

/-- Renumbering by r, where the new heap holds the same objects under their new numbers. -/
def Ren (φ : Em) (L : PH) (r : Nat → Nat) (φ2 : Em) (L2 : PH) (i : Nat) : Prop := ∀ o, L i = some o → L2 (r i) = some { o with cells := (o.cells.map (cren r)) } ∧ φ2 (r i) = φ i

theorem AtomR.ren {φ2 : Em} {L2 : PH} {r : Nat → Nat} {v v' : Value} (h : AtomR φ L v v') (hr : ∀ i ∈ Zv.arefs v, Ren φ L r φ2 L2 i) : AtomR φ2 L2 (aren r v) v' := by
  cases h with
  | junk q v => exact .junk q _
  | bool b => exact .bool b
  | int k n => exact .int k n
  | str s => exact .str s
  | ptrN => exact .ptrN
  | slN => exact .slN
  | slE a c => exact .slE a c
  | nilF => exact .nilF
  | @ptr i k tot o hL ht =>
    obtain ⟨h2, e⟩ := hr i (by simp [Zv.arefs]) o hL
    rw [← e]
    exact .ptr h2 (by simpa using ht)
  | @ptrS i k tot o _ hL ht h1 =>
    obtain ⟨h2, e⟩ := hr i (by simp [Zv.arefs]) o hL
    exact .ptrS h2 (by simpa using ht) h1
  | @sl i k n tot c o q hL ht hk hs hc hcap ha =>
    obtain ⟨h2, e⟩ := hr i (by simp [Zv.arefs]) o hL
    exact .sl h2 (by simpa using ht) hk hs hc (by rw [e]; exact hcap) (by rw [e]; exact ha)
  | @slS i k n tot o _ hL ht h1 =>
    obtain ⟨h2, e⟩ := hr i (by simp [Zv.arefs]) o hL
    exact .slS h2 (by simpa using ht) h1

theorem All2.aren {φ2 : Em} {L2 : PH} {r : Nat → Nat} : ∀ {xs ys : List Value}, All2 (AtomR φ L) xs ys → (∀ i ∈ xs.flatMap Zv.arefs, Ren φ L r φ2 L2 i) → All2 (AtomR φ2 L2) (xs.map (Zv.aren r)) ys
  | _, _, .nil, _ => .nil
  | _, _, .cons h t, hr => .cons (h.ren fun i hi => hr i (by simp [hi])) (All2.aren t fun i hi => hr i (by simp at hi ⊢; exact .inr hi))

theorem CellR.ren {φ2 : Em} {L2 : PH} {r : Nat → Nat} {v v' : Value} (h : CellR φ L v v') (hr : ∀ i ∈ crefs v, Ren φ L r φ2 L2 i) : CellR φ2 L2 (cren r v) v' := by
  cases h with
  | atom h =>
    have e1 : crefs v = Zv.arefs v := by cases h <;> rfl
    have e2 : cren r v = Zv.aren r v := by cases h <;> rfl
    rw [e2]
    exact .atom (h.ren (by rw [← e1]; exact hr))
  | @func f a c a' c' ha hc =>
    refine .func f ?_ ?_
    · rw [Array.toList_map]; exact All2.aren ha fun i hi => hr i (List.mem_append.mpr (.inl hi))
    · rw [Array.toList_map]; exact All2.aren hc fun i hi => hr i (List.mem_append.mpr (.inr hi))

theorem All2.cren {φ2 : Em} {L2 : PH} {r : Nat → Nat} : ∀ {xs ys : List Value}, All2 (CellR φ L) xs ys → (∀ i ∈ xs.flatMap crefs, Ren φ L r φ2 L2 i) → All2 (CellR φ2 L2) (xs.map (Zv.cren r)) ys
  | _, _, .nil, _ => .nil
  | _, _, .cons h t, hr => .cons (h.ren fun i hi => hr i (by simp [hi])) (All2.cren t fun i hi => hr i (by simp at hi ⊢; exact .inr hi))

theorem ValR.ren {φ2 : Em} {L2 : PH} {r : Nat → Nat} {v v' : Value} (h : ValR φ L v v') (hr : ∀ i ∈ vrefs v, Ren φ L r φ2 L2 i) : ValR φ2 L2 (vren r v) v' := by
  cases h with
  | cell h =>
    have e1 : vrefs v = crefs v := by
      cases h with
      | atom h => cases h <;> rfl
      | func => rfl
    have e2 : vren r v = Zv.cren r v := by
      cases h with
      | atom h => cases h <;> rfl
      | func => rfl
    rw [e2]
    exact .cell (h.ren (by rw [← e1]; exact hr))
  | @agg cs cs' h =>
    refine .agg ?_
    rw [Array.toList_map]
    exact All2.cren h hr

theorem All2.vren {φ2 : Em} {L2 : PH} {r : Nat → Nat} : ∀ {xs ys : List Value}, All2 (ValR φ L) xs ys → (∀ i ∈ xs.flatMap vrefs, Ren φ L r φ2 L2 i) → All2 (ValR φ2 L2) (xs.map (Zv.vren r)) ys
  | _, _, .nil, _ => .nil
  | _, _, .cons h t, hr => .cons (h.ren fun i hi => hr i (by simp [hi])) (All2.vren t fun i hi => hr i (by simp at hi ⊢; exact .inr hi))

theorem TopR.ren {φ2 : Em} {L2 : PH} {r : Nat → Nat} {v v' : Value} (h : TopR φ L v v') (hr : ∀ i ∈ trefs v, Ren φ L r φ2 L2 i) : TopR φ2 L2 (tren r v) v' := by
  cases h with
  | val h =>
    have e : trefs v = vrefs v ∧ tren r v = Zv.vren r v := by
      cases h with
      | cell h => cases h with
        | atom h => cases h <;> exact ⟨rfl, rfl⟩
        | func => exact ⟨rfl, rfl⟩
      | agg => exact ⟨rfl, rfl⟩
    rw [e.2]
    exact .val (h.ren (by rw [← e.1]; exact hr))
  | @tup vs vs' h =>
    refine .tup ?_
    rw [Array.toList_map]
    exact All2.vren h hr

theorem All2.tren {φ2 : Em} {L2 : PH} {r : Nat → Nat} : ∀ {xs ys : List Value}, All2 (TopR φ L) xs ys → (∀ i ∈ xs.flatMap trefs, Ren φ L r φ2 L2 i) → All2 (TopR φ2 L2) (xs.map (Zv.tren r)) ys
  | _, _, .nil, _ => .nil
  | _, _, .cons h t, hr => .cons (h.ren fun i hi => hr i (by simp [hi])) (All2.tren t fun i hi => hr i (by simp at hi ⊢; exact .inr hi))

/-- References of values. -/
theorem CellR.refs_all : ∀ {xs ys : List Value}, All2 (CellR φ L) xs ys → ∀ r ∈ xs.flatMap crefs, (L r).isSome = true
  | _, _, .nil => fun r hr => by simp at hr
  | _, _, .cons h t => fun r hr => by
    rw [List.flatMap_cons, List.mem_append] at hr
    rcases hr with hr | hr
    · exact h.refs r hr
    · exact CellR.refs_all t r hr
theorem ValR.refs {v v' : Value} (h : ValR φ L v v') : ∀ r ∈ vrefs v, (L r).isSome = true := by
  cases h with
  | cell h =>
    have e1 : vrefs v = crefs v := by
      cases h with
      | atom h => cases h <;> rfl
      | func => rfl
    rw [e1]
    exact h.refs
  | agg h => exact CellR.refs_all h
theorem ValR.refs_all : ∀ {xs ys : List Value}, All2 (ValR φ L) xs ys → ∀ r ∈ xs.flatMap vrefs, (L r).isSome = true
  | _, _, .nil => fun r hr => by simp at hr
  | _, _, .cons h t => fun r hr => by
    rw [List.flatMap_cons, List.mem_append] at hr
    rcases hr with hr | hr
    · exact h.refs r hr
    · exact ValR.refs_all t r hr
theorem TopR.refs {v v' : Value} (h : TopR φ L v v') : ∀ r ∈ trefs v, (L r).isSome = true := by
  cases h with
  | val h =>
    have e : trefs v = vrefs v := by
      cases h with
      | cell h => cases h with
        | atom h => cases h <;> rfl
        | func => rfl
      | agg => rfl
    rw [e]
    exact h.refs
  | tup h => exact ValR.refs_all h
theorem TopR.refs_all : ∀ {xs ys : List Value}, All2 (TopR φ L) xs ys → ∀ r ∈ xs.flatMap trefs, (L r).isSome = true
  | _, _, .nil => fun r hr => by simp at hr
  | _, _, .cons h t => fun r hr => by
    rw [List.flatMap_cons, List.mem_append] at hr
    rcases hr with hr | hr
    · exact h.refs r hr
    · exact TopR.refs_all t r hr
end

/-- A renumbering that leaves a value's references alone. -/
theorem aren_id {r : Nat → Nat} {v : Value} (h : ∀ i ∈ arefs v, r i = i) : aren r v = v := by
  unfold aren
  split
  · rename_i p; rw [h p.block (by simp [arefs])]
  · rename_i p n c; rw [h p.block (by simp [arefs])]
  · rfl
theorem amap_id {r : Nat → Nat} {a : Array Value} (h : ∀ i ∈ a.toList.flatMap arefs, r i = i) : a.map (aren r) = a := by
  apply Array.ext'
  rw [Array.toList_map]
  generalize a.toList = l at h
  induction l with
  | nil => rfl
  | cons x l ih => simp only [List.map_cons]; rw [aren_id fun i hi => h i (by simp [hi]), ih fun i hi => h i (by simp at hi ⊢; exact .inr hi)]
theorem cren_cases (v : Value) : (∃ f a c, v = .func f a c) ∨ (crefs v = arefs v ∧ ∀ r, cren r v = aren r v) := by
  cases v with
  | func f a c => exact .inl ⟨f, a, c, rfl⟩
  | _ => exact .inr ⟨rfl, fun _ => rfl⟩
theorem cren_id {r : Nat → Nat} {v : Value} (h : ∀ i ∈ crefs v, r i = i) : cren r v = v := by
  rcases cren_cases v with ⟨f, a, c, rfl⟩ | ⟨e1, e2⟩
  · simp only [cren]
    rw [amap_id fun i hi => h i (List.mem_append.mpr (.inl hi)), amap_id fun i hi => h i (List.mem_append.mpr (.inr hi))]
  · rw [e2]
    exact aren_id (by rw [← e1]; exact h)
theorem omap_id {r : Nat → Nat} {l : List Value} (h : ∀ i ∈ l.flatMap crefs, r i = i) : l.map (cren r) = l := by
  induction l with
  | nil => rfl
  | cons x l ih => simp only [List.map_cons]; rw [cren_id fun i hi => h i (by simp [hi]), ih fun i hi => h i (by simp at hi ⊢; exact .inr hi)]

theorem mem_dedup {l : List Nat} : ∀ {i : Nat}, i ∈ dedup l ↔ i ∈ l := by
  induction l with
  | nil => simp [dedup]
  | cons x l ih =>
    intro i
    simp only [dedup]
    split
    · rename_i hx
      rw [ih, List.mem_cons]
      refine ⟨.inr, fun h => h.elim (fun e => ?_) id⟩
      rw [e]
      exact ih.mp hx
    · rw [List.mem_cons, ih, List.mem_cons]
theorem nodup_dedup {l : List Nat} : (dedup l).Nodup := by
  induction l with
  | nil => simp [dedup]
  | cons x l ih =>
    simp only [dedup]
    split
    · exact ih
    · exact List.nodup_cons.mpr ⟨by assumption, ih⟩
theorem mem_keepL {base : Nat} {vs : List Value} {i : Nat} (h1 : i ∈ vs.flatMap trefs) (h2 : base ≤ i) : i ∈ keepL base vs := by
  unfold keepL
  rw [mem_dedup, List.mem_filter]
  exact ⟨h1, by simpa using h2⟩
theorem keepL_ge {base : Nat} {vs : List Value} {i : Nat} (h : i ∈ keepL base vs) : base ≤ i := by
  unfold keepL at h
  rw [mem_dedup, List.mem_filter] at h
  simpa using h.2
theorem keepL_nodup {base : Nat} {vs : List Value} : (keepL base vs).Nodup := nodup_dedup

theorem nodup_inj {l : List Nat} (h : l.Nodup) : ∀ {i j k : Nat}, l[i]? = some k → l[j]? = some k → i = j := by
  induction l with
  | nil => intro i j k hi; simp at hi
  | cons x l ih =>
    intro i j k hi hj
    obtain ⟨h1, h2⟩ := List.nodup_cons.mp h
    cases i with
    | zero =>
      cases j with
      | zero => rfl
      | succ j =>
        simp at hi hj
        subst hi
        exact absurd (List.mem_of_getElem? hj) h1
    | succ i =>
      cases j with
      | zero =>
        simp at hi hj
        subst hj
        exact absurd (List.mem_of_getElem? hi) h1
      | succ j =>
        simp at hi hj
        rw [ih h2 hi hj]

/-- The kept objects, one after the other. -/
theorem kept_get {h : VH} {L : List Nat} (hf : ∀ i ∈ L, ∃ o, h[i]? = some o) : (L.filterMap fun i => h[i]?).length = L.length ∧ ∀ j : Nat, (L.filterMap fun i => h[i]?)[j]? = (L[j]?).bind fun i => h[i]? := by
  induction L with
  | nil => exact ⟨rfl, fun j => by simp⟩
  | cons i L ih =>
    obtain ⟨o, ho⟩ := hf i (by simp)
    obtain ⟨h1, h2⟩ := ih fun k hk => hf k (by simp [hk])
    have e : ((i :: L).filterMap fun i => h[i]?) = o :: L.filterMap fun i => h[i]? := by simp [ho]
    rw [e]
    refine ⟨by simp [h1], fun j => ?_⟩
    cases j with
    | zero => simp [ho]
    | succ j => simpa using h2 j

/-- What stays behind a cleaning stands for the same: the world is as it was. -/
theorem cleanup_sound {nro : Nat} {φs φ : Em} {hs h : VH} {ws w : World} {vs vs' : List Value} (hRs : RH nro φs hs.ph ws) (hX : X nro φs hs.ph ws φ h.ph w) (hR : RH nro φ h.ph w) (hv : All2 (TopR φ h.ph) vs vs') (hn : nro ≤ hs.length) :
    ∃ φ2, RH nro φ2 (VH.ph (cleanup hs.length hs vs h).2) w ∧ X nro φs hs.ph ws φ2 (VH.ph (cleanup hs.length hs vs h).2) w ∧ All2 (TopR φ2 (VH.ph (cleanup hs.length hs vs h).2)) (cleanup hs.length hs vs h).1 vs' := by
  unfold cleanup
  split
  · rename_i hcond
    obtain ⟨hok, hflat⟩ := hcond
    generalize hLdef : keepL hs.length vs = L at hflat
    have hLge : ∀ i ∈ L, hs.length ≤ i := fun i hi => keepL_ge (hLdef ▸ hi)
    have hLnd : L.Nodup := hLdef ▸ keepL_nodup
    have hlen : hs.length ≤ h.length := by
      rcases Nat.eq_zero_or_pos hs.length with h0 | h0
      · omega
      · obtain ⟨o', ho', _⟩ := hX.grow (hs.length - 1) hs[hs.length - 1] (by simp [VH.ph, show hs.length - 1 < hs.length by omega])
        have := VH.ph_lt ho'
        omega
    have htl : (h.take hs.length).length = hs.length := by simp; omega
    have hfl : ∀ i ∈ L, ∃ o, h[i]? = some o := fun i hi => let ⟨o, ho, _⟩ := hflat i hi; ⟨o, ho⟩
    obtain ⟨hkl, hkg⟩ := kept_get hfl
    -- the new heap, place by place
    have hlow : ∀ i, i < hs.length → VH.ph (h.take hs.length ++ L.filterMap fun i => h[i]?) i = h.ph i := by
      intro i hi
      unfold VH.ph
      rw [List.getElem?_append_left (by omega), List.getElem?_take, if_pos hi]
    have hhigh : ∀ j, VH.ph (h.take hs.length ++ L.filterMap fun i => h[i]?) (hs.length + j) = (L[j]?).bind fun i => h[i]? := by
      intro j
      unfold VH.ph
      rw [List.getElem?_append_right (by omega), htl, Nat.add_sub_cancel_left, hkg]
    -- closed below
    have hclosed : ∀ i o, i < hs.length → h[i]? = some o → ∀ r ∈ orefs o, r < hs.length := by
      intro i o hi ho r hr
      rcases hok i o (by rw [List.getElem?_take, if_pos hi]; exact ho) with h1 | h1
      · exact hRs.closed h1 r hr
      · exact h1 r hr
    let φ2 : Em := fun i => if i < hs.length then φ i else φ (L.getD (i - hs.length) 0)
    have hr1 : ∀ i, i < hs.length → renOf hs.length L i = i := fun i hi => by unfold renOf; rw [if_pos hi]
    have hr2 : ∀ i ∈ L, renOf hs.length L i = hs.length + L.idxOf i := fun i hi => by unfold renOf; rw [if_neg (by have := hLge i hi; omega)]
    have hidx : ∀ i ∈ L, L[L.idxOf i]? = some i := fun i hi => by
      rw [List.getElem?_eq_getElem (List.idxOf_lt_length_of_mem hi)]
      simp
    have hid : ∀ o : VO, (∀ r ∈ orefs o, r < hs.length) → { o with cells := o.cells.map (cren (renOf hs.length L)) } = o := by
      intro o ho
      rw [omap_id fun i hi => hr1 i (ho i hi)]
    have hRen : ∀ i, (i < hs.length ∨ i ∈ L) → Ren φ h.ph (renOf hs.length L) φ2 (VH.ph (h.take hs.length ++ L.filterMap fun i => h[i]?)) i := by
      intro i hi o ho
      rcases hi with hi | hi
      · rw [hr1 i hi, hlow i hi, hid o (hclosed i o hi ho)]
        exact ⟨ho, by simp [φ2, hi]⟩
      · obtain ⟨o', ho', hfo⟩ := hflat i hi
        have : h[i]? = some o := ho
        rw [this] at ho'
        cases ho'
        rw [hr2 i hi, hhigh, hidx i hi, hid o hfo]
        refine ⟨this, ?_⟩
        have : ¬ hs.length + L.idxOf i < hs.length := by omega
        simp only [φ2, this, if_false, Nat.add_sub_cancel_left, List.getD, hidx i hi, Option.getD_some]
    have hcase : ∀ i o, VH.ph (h.take hs.length ++ L.filterMap fun i => h[i]?) i = some o → (i < hs.length ∧ h.ph i = some o ∧ φ2 i = φ i) ∨ ∃ k, L[i - hs.length]? = some k ∧ hs.length ≤ i ∧ k ∈ L ∧ h.ph k = some o ∧ φ2 i = φ k := by
      intro i o hi
      by_cases hlt : i < hs.length
      · rw [hlow i hlt] at hi
        exact .inl ⟨hlt, hi, by simp [φ2, hlt]⟩
      · obtain ⟨j, rfl⟩ : ∃ j, i = hs.length + j := ⟨i - hs.length, by omega⟩
        rw [hhigh] at hi
        obtain ⟨k, hk, hko⟩ := Option.bind_eq_some_iff.mp hi
        refine .inr ⟨k, by rw [Nat.add_sub_cancel_left]; exact hk, by omega, List.mem_of_getElem? hk, hko, ?_⟩
        simp only [φ2, hlt, if_false, Nat.add_sub_cancel_left, List.getD, hk, Option.getD_some]
    have hrefs : ∀ o, (∀ r ∈ orefs o, r < hs.length) → ∀ v ∈ o.cells, ∀ v', CellR φ h.ph v v' → CellR φ2 (VH.ph (h.take hs.length ++ L.filterMap fun i => h[i]?)) v v' := by
      intro o ho v hv v' hr
      have hvr : ∀ i ∈ crefs v, i < hs.length := fun i hi => ho i (List.mem_flatMap.mpr ⟨v, hv, hi⟩)
      have := hr.ren (r := renOf hs.length L) fun i hi => hRen i (.inl (hvr i hi))
      rw [cren_id fun i hi => hr1 i (hvr i hi)] at this
      exact this
    refine ⟨φ2, ?_⟩
    rw [← and_assoc]
    refine ⟨RH.mk' ?_ ?_ hRs.glob ⟨?_, ?_, hX.size, hX.frame, hX.rest, fun i hi hn => by obtain ⟨o, ho⟩ := Option.isSome_iff_exists.mp hi; have hlt := VH.ph_lt ho; rw [← hX.ro i hi hn]; simp [φ2, hlt]⟩, ?_⟩
    · intro i o hi
      rcases hcase i o hi with ⟨hlt, hio, e⟩ | ⟨k, _, hge, hk, hko, e⟩
      · obtain ⟨C, ty, fz, hb, hc, hown⟩ := hR.cells i o hio
        rw [e]
        refine ⟨C, ty, fz, hb, fun j v hj => ?_, hown⟩
        obtain ⟨v', h1, h2⟩ := hc j v hj
        exact ⟨v', h1, hrefs o (hclosed i o hlt hio) v (List.mem_of_getElem? hj) v' h2⟩
      · obtain ⟨C, ty, fz, hb, hc, hown⟩ := hR.cells k o hko
        obtain ⟨o', ho', hfo⟩ := hflat k hk
        have : h[k]? = some o := hko
        rw [this] at ho'
        cases ho'
        rw [e]
        refine ⟨C, ty, fz, hb, fun j v hj => ?_, fun _ => hown (by have := hLge k hk; omega)⟩
        obtain ⟨v', h1, h2⟩ := hc j v hj
        exact ⟨v', h1, hrefs o hfo v (List.mem_of_getElem? hj) v' h2⟩
    · intro i j hi hj hni hij
      obtain ⟨oi, hi⟩ := Option.isSome_iff_exists.mp hi
      obtain ⟨oj, hj⟩ := Option.isSome_iff_exists.mp hj
      rcases hcase i oi hi with ⟨hlt, hio, e⟩ | ⟨k, hk0, hge, hk, hko, e⟩ <;> rcases hcase j oj hj with ⟨hlt', hjo, e'⟩ | ⟨k', hk0', hge', hk', hko', e'⟩ <;> rw [e, e']
      · exact hR.apart i j (by simp [hio]) (by simp [hjo]) hni hij
      · exact hR.apart i k' (by simp [hio]) (by simp [hko']) hni (by have := hLge k' hk'; omega)
      · exact hR.apart k j (by simp [hko]) (by simp [hjo]) (by have := hLge k hk; omega) (by have := hLge k hk; omega)
      · refine hR.apart k k' (by simp [hko]) (by simp [hko']) (by have := hLge k hk; omega) ?_
        rintro rfl
        have h3 : i - hs.length = j - hs.length := nodup_inj hLnd hk0 hk0'
        omega
    · intro i o hi
      obtain ⟨o', ho', h1, h2, h3⟩ := hX.grow i o hi
      have hlt := VH.ph_lt hi
      exact ⟨o', by rw [hlow i hlt]; exact ho', h1, h2, fun he => by rw [← h3 he]; simp [φ2, hlt]⟩
    · intro i hi hni
      obtain ⟨oi, hi⟩ := Option.isSome_iff_exists.mp hi
      rcases hcase i oi hi with ⟨hlt, hio, e⟩ | ⟨k, hk0, hge, hk, hko, e⟩
      · rw [e]; exact hX.fresh i (by simp [hio]) hni
      · rw [e]
        rcases hX.fresh k (by simp [hko]) (by have := hLge k hk; omega) with ⟨h1, _⟩ | h1
        · obtain ⟨o1, h1⟩ := Option.isSome_iff_exists.mp h1
          have := VH.ph_lt h1
          have := hLge k hk
          omega
        · exact .inr h1
    · refine All2.tren hv fun i hi => hRen i ?_
      by_cases hlt : i < hs.length
      · exact .inl hlt
      · exact .inr (hLdef ▸ mem_keepL hi (by omega))
  · exact ⟨φ, hR, hX, hv⟩
end Go.Proofs.YthpgiimaadohcaaDoor.Zv
