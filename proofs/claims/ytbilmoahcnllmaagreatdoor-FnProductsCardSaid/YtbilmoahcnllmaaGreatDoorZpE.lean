/- Part E of the proof: ZvEnd, ZvRow, ZwRowA, ZwRow0, ZwLaws, ZwU, ZwTzl, ZwList, ZwSrc, ZwRowB, ZwGraph, ZwGraph2, ZwAdj, ZwPop, ZwCover, ZwMark, ZwUp, ZwLL, ZwEdges, ZwMade, ZwLawCover, ZwProd. Conditions: none. -/
import Derived.Below
import Derived.ChangeOld
import Derived.ChangeSame
import Derived.ChangeVars
import Derived.JoinedOf
import Derived.Lib.SmallJoins
import Derived.OpenShut
import Derived.ProofKit
import Derived.ShutString
import Derived.SizedLaws
import Derived.Test.YtbilmoahcnllmaaGreatDoorRows
import Derived.Test.YtbilmoahcnllmaaGreatDoorZpB
import Derived.Test.YtbilmoahcnllmaaGreatDoorZpD
set_option linter.unusedSimpArgs false
set_option linter.unusedVariables false
set_option linter.unusedSectionVars false
namespace Go.Proofs.YtbilmoahcnllmaaGreatDoor.Zv
/- At a function's end: one fresh object is handed out. -/
section
open Go
theorem cleanup_one {h L : VH} {v : Value} {k : Nat} {o : VO} (hv : trefs v = [h.length + k]) (hk : L[k]? = some o) (hf : flatO h.length o) :
  kclean h [v] (h ++ L) = ([tren (renOf h.length [h.length + k]) v], h ++ [o]) := by
 have e : keepL h.length [v] = [h.length + k] := by
  unfold keepL
  simp [hv, dedup]
 have hg : (h ++ L)[h.length + k]? = some o := by rw [hgetk]; exact hk
 rw [cleanup_keep e fun i hi => ⟨o, ?_, hf⟩]
 ·simp [hk]
 ·simp only [List.mem_singleton] at hi
  rw [hi]
  exact hg
theorem renOf_one (n k : Nat) : renOf n [n + k] (n + k) = n := by simp [renOf]; omega
theorem renOf_one0 (n : Nat) : renOf n [n] n = n := by simp [renOf]
@[simp] theorem clean_slk (h L : VH) (k : Nat) (off n t : Nat) (hk : k < L.length) (hf : flatO h.length (L.getD k ⟨0, []⟩)) :
  kclean h [.slice (some ⟨h.length + k, off, none⟩) n t] (h ++ L) = ([.slice (some ⟨h.length, off, none⟩) n t], h ++ [L.getD k ⟨0, []⟩]) := by
 rw [cleanup_one (k := k) (o := L.getD k ⟨0, []⟩) (by simp [trefs, vrefs, crefs, arefs]) (by simp [List.getD_eq_getElem?_getD, hk]) hf]
 simp [tren, vren, cren, aren, renOf_one]
@[simp] theorem clean_sl0 (h L : VH) (off n t : Nat) (o : VO) (hf : flatO h.length o) :
  kclean h [.slice (some ⟨h.length, off, none⟩) n t] (h ++ o :: L) = ([.slice (some ⟨h.length, off, none⟩) n t], h ++ [o]) := by
 rw [cleanup_one (k := 0) (o := o) (by simp [trefs, vrefs, crefs, arefs]) (by simp) hf]
 simp [tren, vren, cren, aren, renOf_one0]
@[simp] theorem clean_aggk (h L : VH) (k : Nat) (off n t : Nat) (k1 : IntKind) (x : Int) (hk : k < L.length) (hf : flatO h.length (L.getD k ⟨0, []⟩)) :
  kclean h [.agg #[.int k1 x, .slice (some ⟨h.length + k, off, none⟩) n t]] (h ++ L) = ([.agg #[.int k1 x, .slice (some ⟨h.length, off, none⟩) n t]], h ++ [L.getD k ⟨0, []⟩]) := by
 rw [cleanup_one (k := k) (o := L.getD k ⟨0, []⟩) (by simp [trefs, vrefs, crefs, arefs]) (by simp [List.getD_eq_getElem?_getD, hk]) hf]
 simp [tren, vren, cren, aren, renOf_one]
@[simp] theorem clean_agg0 (h L : VH) (off n t : Nat) (k1 : IntKind) (x : Int) (o : VO) (hf : flatO h.length o) :
  kclean h [.agg #[.int k1 x, .slice (some ⟨h.length, off, none⟩) n t]] (h ++ o :: L) = ([.agg #[.int k1 x, .slice (some ⟨h.length, off, none⟩) n t]], h ++ [o]) := by
 rw [cleanup_one (k := 0) (o := o) (by simp [trefs, vrefs, crefs, arefs]) (by simp) hf]
 simp [tren, vren, cren, aren, renOf_one0]
@[simp] theorem clean_taggk (h L : VH) (k : Nat) (off n t : Nat) (k1 : IntKind) (x : Int) (k2 : IntKind) (y : Int) (hk : k < L.length) (hf : flatO h.length (L.getD k ⟨0, []⟩)) :
  kclean h [.tuple #[.agg #[.int k1 x, .slice (some ⟨h.length + k, off, none⟩) n t], .int k2 y]] (h ++ L) = ([.tuple #[.agg #[.int k1 x, .slice (some ⟨h.length, off, none⟩) n t], .int k2 y]], h ++ [L.getD k ⟨0, []⟩]) := by
 rw [cleanup_one (k := k) (o := L.getD k ⟨0, []⟩) (by simp [trefs, vrefs, crefs, arefs]) (by simp [List.getD_eq_getElem?_getD, hk]) hf]
 simp [tren, vren, cren, aren, renOf_one]
@[simp] theorem clean_tagg0 (h L : VH) (off n t : Nat) (k1 : IntKind) (x : Int) (k2 : IntKind) (y : Int) (o : VO) (hf : flatO h.length o) :
  kclean h [.tuple #[.agg #[.int k1 x, .slice (some ⟨h.length, off, none⟩) n t], .int k2 y]] (h ++ o :: L) = ([.tuple #[.agg #[.int k1 x, .slice (some ⟨h.length, off, none⟩) n t], .int k2 y]], h ++ [o]) := by
 rw [cleanup_one (k := 0) (o := o) (by simp [trefs, vrefs, crefs, arefs]) (by simp) hf]
 simp [tren, vren, cren, aren, renOf_one0]
@[simp] theorem clean_tslk (h L : VH) (k : Nat) (off n t : Nat) (k2 : IntKind) (y : Int) (hk : k < L.length) (hf : flatO h.length (L.getD k ⟨0, []⟩)) :
  kclean h [.tuple #[.slice (some ⟨h.length + k, off, none⟩) n t, .int k2 y]] (h ++ L) = ([.tuple #[.slice (some ⟨h.length, off, none⟩) n t, .int k2 y]], h ++ [L.getD k ⟨0, []⟩]) := by
 rw [cleanup_one (k := k) (o := L.getD k ⟨0, []⟩) (by simp [trefs, vrefs, crefs, arefs]) (by simp [List.getD_eq_getElem?_getD, hk]) hf]
 simp [tren, vren, cren, aren, renOf_one]
@[simp] theorem clean_tsl0 (h L : VH) (off n t : Nat) (k2 : IntKind) (y : Int) (o : VO) (hf : flatO h.length o) :
  kclean h [.tuple #[.slice (some ⟨h.length, off, none⟩) n t, .int k2 y]] (h ++ o :: L) = ([.tuple #[.slice (some ⟨h.length, off, none⟩) n t, .int k2 y]], h ++ [o]) := by
 rw [cleanup_one (k := 0) (o := o) (by simp [trefs, vrefs, crefs, arefs]) (by simp) hf]
 simp [tren, vren, cren, aren, renOf_one0]
@[simp] theorem clean_tslbk (h L : VH) (k : Nat) (off n t : Nat) (y2 : Bool) (hk : k < L.length) (hf : flatO h.length (L.getD k ⟨0, []⟩)) :
  kclean h [.tuple #[.slice (some ⟨h.length + k, off, none⟩) n t, .bool y2]] (h ++ L) = ([.tuple #[.slice (some ⟨h.length, off, none⟩) n t, .bool y2]], h ++ [L.getD k ⟨0, []⟩]) := by
 rw [cleanup_one (k := k) (o := L.getD k ⟨0, []⟩) (by simp [trefs, vrefs, crefs, arefs]) (by simp [List.getD_eq_getElem?_getD, hk]) hf]
 simp [tren, vren, cren, aren, renOf_one]
@[simp] theorem clean_tslb0 (h L : VH) (off n t : Nat) (y2 : Bool) (o : VO) (hf : flatO h.length o) :
  kclean h [.tuple #[.slice (some ⟨h.length, off, none⟩) n t, .bool y2]] (h ++ o :: L) = ([.tuple #[.slice (some ⟨h.length, off, none⟩) n t, .bool y2]], h ++ [o]) := by
 rw [cleanup_one (k := 0) (o := o) (by simp [trefs, vrefs, crefs, arefs]) (by simp) hf]
 simp [tren, vren, cren, aren, renOf_one0]
@[simp] theorem clean_taggbk (h L : VH) (k : Nat) (off n t : Nat) (k1 : IntKind) (x : Int) (y2 : Bool) (hk : k < L.length) (hf : flatO h.length (L.getD k ⟨0, []⟩)) :
  kclean h [.tuple #[.agg #[.int k1 x, .slice (some ⟨h.length + k, off, none⟩) n t], .bool y2]] (h ++ L) = ([.tuple #[.agg #[.int k1 x, .slice (some ⟨h.length, off, none⟩) n t], .bool y2]], h ++ [L.getD k ⟨0, []⟩]) := by
 rw [cleanup_one (k := k) (o := L.getD k ⟨0, []⟩) (by simp [trefs, vrefs, crefs, arefs]) (by simp [List.getD_eq_getElem?_getD, hk]) hf]
 simp [tren, vren, cren, aren, renOf_one]
@[simp] theorem clean_taggb0 (h L : VH) (off n t : Nat) (k1 : IntKind) (x : Int) (y2 : Bool) (o : VO) (hf : flatO h.length o) :
  kclean h [.tuple #[.agg #[.int k1 x, .slice (some ⟨h.length, off, none⟩) n t], .bool y2]] (h ++ o :: L) = ([.tuple #[.agg #[.int k1 x, .slice (some ⟨h.length, off, none⟩) n t], .bool y2]], h ++ [o]) := by
 rw [cleanup_one (k := 0) (o := o) (by simp [trefs, vrefs, crefs, arefs]) (by simp) hf]
 simp [tren, vren, cren, aren, renOf_one0]
@[simp] theorem old_agg2 (n : Nat) (k : IntKind) (x : Int) (s : Value) (hs : isAtom s = true) : Old n (.agg #[.int k x, s]) ↔ Old n s := by
 unfold Old trefs vrefs
 cases s <;> simp_all [crefs, arefs, isAtom]
def Upd (h h' : VH) : Prop := h'.length = h.length ∧ okT h.length h h'
theorem Upd.rfl' (h : VH) : Upd h h := ⟨rfl, fun _ _ ho => .inl ho⟩
theorem Upd.set' {h h' : VH} (hu : Upd h h') {b : Nat} {o : VO} (ho : flatO h.length o) : Upd h (h'.set b o) := by
 refine ⟨by rw [List.length_set]; exact hu.1, fun i p hp => ?_⟩
 rw [List.getElem?_set] at hp
 split at hp
 ·split at hp
  ·cases hp; exact .inr ho
  ·cases hp
 ·exact hu.2 i p hp
@[simp] theorem upd_rfl (h : VH) : Upd h h := Upd.rfl' h
@[simp] theorem upd_set (h : VH) (b k : Nat) (xs : List Int) : Upd h (h.set b ⟨k, ints xs⟩) := (Upd.rfl' h).set' (flatO_ints _ _ _)
theorem cleanup_upd {h h' L : VH} {vs : List Value} (hu : Upd h h') (hv : ∀ v ∈ vs, Old h.length v) : kclean h vs (h' ++ L) = (vs, h') := by
 have htake : (h' ++ L).take h.length = h' := by rw [← hu.1]; simp
 have hc : okT h.length h ((h' ++ L).take h.length) ∧ flatL h.length [] (h' ++ L) := by
  refine ⟨?_, fun i hi => by cases hi⟩
  rw [htake]
  exact hu.2
 unfold kclean cleanup
 rw [keepL_nil hv, if_pos hc, htake]
 simp only [List.filterMap_nil, List.append_nil, Prod.mk.injEq, and_true]
 have : ∀ v ∈ vs, tren (renOf h.length []) v = v := fun v h => tren_old (hv v h) fun i hi => by simp only [renOf, if_pos hi]
 exact (List.map_congr_left this).trans (by simp)
@[simp] theorem cleanup_set {h L : VH} {b k : Nat} {xs : List Int} {vs : List Value} (hv : ∀ v ∈ vs, Old h.length v) : kclean h vs (h.set b ⟨k, ints xs⟩ ++ L) = (vs, h.set b ⟨k, ints xs⟩) := cleanup_upd (upd_set h b k xs) hv
@[simp] theorem cleanup_set0 {h : VH} {b k : Nat} {xs : List Int} {vs : List Value} (hv : ∀ v ∈ vs, Old h.length v) : kclean h vs (h.set b ⟨k, ints xs⟩) = (vs, h.set b ⟨k, ints xs⟩) := by
 have := cleanup_set (h := h) (L := []) (b := b) (k := k) (xs := xs) hv
 simpa using this
theorem hget_old {h : VH} {b : Nat} {o : VO} (hb : h[b]? = some o) (L : VH) : (h ++ L)[b]? = some o := by
 rw [List.getElem?_append_left (List.getElem?_eq_some_iff.mp hb).1]; exact hb
theorem hset_old {h : VH} {b : Nat} {o : VO} (hb : h[b]? = some o) (L : VH) (p : VO) : (h ++ L).set b p = h.set b p ++ L := by
 rw [List.set_append_left _ _ (List.getElem?_eq_some_iff.mp hb).1]
theorem hget_set {h : VH} {b : Nat} {o : VO} (hb : h[b]? = some o) (L : VH) (p : VO) : (h.set b p ++ L)[b]? = some p := by
 have := (List.getElem?_eq_some_iff.mp hb).1
 rw [List.getElem?_append_left (by simpa using this)]
 simp [this]
theorem hset_set {h : VH} {b : Nat} {o : VO} (hb : h[b]? = some o) (L : VH) (p q : VO) : (h.set b p ++ L).set b q = h.set b q ++ L := by
 have := (List.getElem?_eq_some_iff.mp hb).1
 rw [List.set_append_left _ _ (by simpa using this), List.set_set]
theorem hget_set0 {h : VH} {b : Nat} {o : VO} (hb : h[b]? = some o) (p : VO) : (h.set b p)[b]? = some p := by
 have := (List.getElem?_eq_some_iff.mp hb).1
 simp [this]
theorem hset_self {h : VH} {b : Nat} {o : VO} (hb : h[b]? = some o) : h.set b o = h := by
 obtain ⟨h1, h2⟩ := List.getElem?_eq_some_iff.mp hb
 rw [← h2]; exact List.set_getElem_self h1
@[simp] theorem flatO_nil (n k : Nat) : flatO n ⟨k, []⟩ := fun r hr => by simp [orefs] at hr
@[simp] theorem flatO_cons (n k : Nat) (v : Value) (cs : List Value) : flatO n ⟨k, v :: cs⟩ ↔ OldC n v ∧ flatO n ⟨k, cs⟩ := by
 unfold flatO OldC orefs
 simp only [List.flatMap_cons, List.mem_append]
 exact ⟨fun h => ⟨fun r hr => h r (.inl hr), fun r hr => h r (.inr hr)⟩, fun h r hr => hr.elim (h.1 r) (h.2 r)⟩
@[simp] theorem oldC_int (n : Nat) (k : IntKind) (i : Int) : OldC n (.int k i) := fun r hr => by simp [crefs, arefs] at hr
@[simp] theorem oldC_bool (n : Nat) (b : Bool) : OldC n (.bool b) := fun r hr => by simp [crefs, arefs] at hr
@[simp] theorem oldC_str (n : Nat) (b : ByteArray) : OldC n (.string b) := fun r hr => by simp [crefs, arefs] at hr
@[simp] theorem oldC_slN (n a b : Nat) : OldC n (.slice none a b) := fun r hr => by simp [crefs, arefs] at hr
@[simp] theorem oldC_ptrN (n : Nat) : OldC n (.pointer none) := fun r hr => by simp [crefs, arefs] at hr
@[simp] theorem oldC_nilF (n : Nat) : OldC n .nilFunc := fun r hr => by simp [crefs, arefs] at hr
@[simp] theorem oldC_sl (n : Nat) (a : Addr) (k t : Nat) : OldC n (.slice (some a) k t) ↔ a.block < n := by simp [OldC, crefs, arefs]
@[simp] theorem oldC_ptr (n : Nat) (a : Addr) : OldC n (.pointer (some a)) ↔ a.block < n := by simp [OldC, crefs, arefs]
theorem OldC.le {n m : Nat} {v : Value} (h : OldC n v) (hm : n ≤ m) : OldC m v := fun r hr => Nat.lt_of_lt_of_le (h r hr) hm
theorem Sl.oldC {h : VH} {v : Value} {cs : List Value} (hs : Sl h v cs) : OldC h.length v := by
 rcases hs.inv with ⟨rfl, _⟩ | ⟨rfl, _⟩ | ⟨a, n, tot, o, rfl, ho, _⟩
 ·simp
 ·simp
 ·rw [oldC_sl]; exact (List.getElem?_eq_some_iff.mp ho).1
theorem Sli.oldCk {h : VH} {v : Value} {xs : List Int} (hs : Sli h v xs) {k : Nat} : OldC (h.length + k) v := (Sl.oldC hs).le (Nat.le_add_right _ _)
@[simp] theorem old_tagg_nil (n : Nat) (k k2 : IntKind) (x y : Int) (a b : Nat) : Old n (.tuple #[.agg #[.int k x, .slice none a b], .int k2 y]) := by
 intro r hr
 simp [trefs, vrefs, crefs, arefs] at hr
@[simp] theorem old_agg_nil (n : Nat) (k : IntKind) (x : Int) (a b : Nat) : Old n (.agg #[.int k x, .slice none a b]) := by
 intro r hr
 simp [trefs, vrefs, crefs, arefs] at hr
@[simp] theorem old_tsl_nil (n : Nat) (k : IntKind) (x : Int) (a b : Nat) : Old n (.tuple #[.slice none a b, .int k x]) := by
 intro r hr
 simp [trefs, vrefs, crefs, arefs] at hr
@[simp] theorem old_tup2 (k : Nat) (a b : Value) (ha : ∀ vs, a ≠ .tuple vs) (hb : ∀ vs, b ≠ .tuple vs) : Old k (.tuple #[a, b]) ↔ Old k a ∧ Old k b := by
 have e : ∀ v : Value, (∀ vs, v ≠ .tuple vs) → trefs v = vrefs v := by
  intro v hv
  unfold trefs
  split
  ·exact absurd rfl (hv _)
  ·rfl
 unfold Old
 rw [e a ha, e b hb]
 simp only [trefs, List.flatMap_cons, List.flatMap_nil, List.append_nil, List.mem_append]
 exact ⟨fun h => ⟨fun r hr => h r (.inl hr), fun r hr => h r (.inr hr)⟩, fun h r hr => hr.elim (h.1 r) (h.2 r)⟩
end

/- A row's arguments: what they are to the virtual interpreter; and a law that it tells true. -/
section
open Go Go.ChangeShapes Go.WideShapes Go.ChangeAt Go.RowKit
def IsRow (k : IntKind) (w : World) (a : Option Addr) (len cap : Nat) (zs : List Int) : Prop :=
 (a = none ∧ len = 0 ∧ cap = 0 ∧ zs = []) ∨
 ∃ x, a = some x ∧ len ≤ cap ∧ cap ≤ maxLen ∧ zs.length = cap ∧ (∀ i, i < zs.length → w.cell? (x.add i) = some (.int k (zs.getD i 0))) ∧ ∀ n ∈ zs, (Lit.int k n).wf = true
theorem IsRow.of {H : Type} {enc : TypeId × Value → H} {P : Program} {W : World} {held : Bool} {t e : TypeId} {k : IntKind} {fuel : Nat} {v : Value} {x : DataW H × List MemPlace} (ht : P.underlying t = some (.slice e)) (he : P.underlying e = some (.int k)) (hc : P.cellsOf e = 1)
  (h : DataW.trod enc P W 0 (fun _ => true) held fuel t [v] = some x) : ∃ a len cap zs, v = .slice a len cap ∧ IsRow k W a len cap zs := by
 rcases open_ints ht he hc h with ⟨hcs, _⟩ | ⟨x, l, c, zs, hcs, _, hl, hm, hz, _, hcell, hwz⟩
 ·simp at hcs
  exact ⟨none, 0, 0, [], hcs, .inl ⟨rfl, rfl, rfl, rfl⟩⟩
 ·simp at hcs
  exact ⟨some x, l, c, zs, hcs, .inr ⟨x, rfl, hl, hm, by simpa using hz, hcell, hwz⟩⟩
def RA (φ : Em) (h : VH) (W : World) : Prop := RH h.length φ (VH.ph h) W
theorem RA.nil (W : World) (hg : ∀ b C, globTab b = some C → ∃ ty fz, W.heap[b]? = some (.cells C ty fz)) : RA (fun _ => ⟨0, 0, 0⟩) [] W :=
 ⟨fun i o h => by simp [VH.ph] at h, fun i j h => by simp [VH.ph] at h, fun b C hb => ⟨hg b C hb, fun i h => by simp [VH.ph] at h⟩⟩
theorem Grow.refl (φ : Em) (L : PH) : Grow φ L φ L := fun _ o h => ⟨o, h, rfl, Nat.le_refl _, fun _ => rfl⟩
theorem RA.slice {k : IntKind} {φ : Em} {h : VH} {W : World} {a : Option Addr} {len cap : Nat} {zs : List Int} (hR : RA φ h W) (hr : IsRow k W a len cap zs) :
  ∃ φ' L v, RA φ' (h ++ L) W ∧ Grow φ (VH.ph h) φ' (VH.ph (h ++ L)) ∧ AtomR φ' (VH.ph (h ++ L)) v (.slice a len cap) ∧ Sl (h ++ L) v ((zs.take len).map (.int k)) := by
 rcases hr with ⟨rfl, rfl, rfl, rfl⟩ | ⟨x, rfl, hl, hm, hz, hcell, hw⟩
 ·exact ⟨φ, [], .slice none 0 0, by simpa using hR, by simpa using Grow.refl _ _, .slN, rfl⟩
 ·by_cases h0 : len = 0
  ·subst h0
   exact ⟨φ, [], .slice none 0 1, by simpa using hR, by simpa using Grow.refl _ _, .slE x cap, by simp [Sl, vsrc]⟩
  ·have hlen : len ≤ zs.length := by omega
   have hspot : x.spot = none := by
    have := World.cell?_spot (hcell 0 (by omega))
    simpa [Addr.add] using this
   -- the cells lie in a block
   have hcl : ∀ j, j < zs.length → ∃ C ty fz, W.heap[x.block]? = some (.cells C ty fz) ∧ C[x.off + j]? = some (.int k (zs.getD j 0)) := by
    intro j hj
    have h1 := hcell j hj
    unfold World.cell? at h1
    have hb : (x.add j).block = x.block := by unfold Addr.add; split <;> rfl
    have ho : (x.add j).off = x.off + j := by
     unfold Addr.add
     split
     ·rename_i h; subst h; rfl
     ·rfl
    rw [hb] at h1
    split at h1
    ·rename_i C ty fz hC
     split at h1
     ·cases h1
     ·rw [ho] at h1
      exact ⟨C, ty, fz, hC, h1⟩
    ·cases h1
   let φ' : Em := fun i => if i = h.length then ⟨x.block, x.off, cap⟩ else φ i
   let ob : VO := ⟨1, (zs.take len).map (.int k)⟩
   have hlook : ∀ i o, VH.ph (h ++ [ob]) i = some o → (i < h.length ∧ VH.ph h i = some o) ∨ (i = h.length ∧ o = ob) := by
    intro i o hi
    simp only [VH.ph] at hi ⊢
    rcases Nat.lt_trichotomy i h.length with hlt | e | hgt
    ·left
     rw [List.getElem?_append_left hlt] at hi
     exact ⟨hlt, hi⟩
    ·right
     subst e
     rw [hget0] at hi
     simp at hi
     exact ⟨rfl, hi.symm⟩
    ·rw [List.getElem?_append_right (by omega)] at hi
     rw [List.getElem?_eq_none (by simp; omega)] at hi
     cases hi
   have hg : Grow φ (VH.ph h) φ' (VH.ph (h ++ [ob])) := by
    intro i o hi
    have hlt : i < h.length := (List.getElem?_eq_some_iff.mp hi).1
    refine ⟨o, ?_, rfl, Nat.le_refl _, fun _ => ?_⟩
    ·simp only [VH.ph] at hi ⊢
     rw [List.getElem?_append_left hlt]; exact hi
    ·simp only [φ']; rw [if_neg (by omega)]
   refine ⟨φ', [ob], .slice (some ⟨h.length, 0, none⟩) len len, ?_, hg, ?_, ?_⟩
   ·refine ⟨fun i o hi => ?_, fun i j hi _ hn => ?_, fun b C hb => ⟨(hR.glob b C hb).1, fun i hi hn => ?_⟩⟩
    ·rcases hlook i o hi with ⟨hlt, hi'⟩ | ⟨rfl, rfl⟩
     ·obtain ⟨C, ty, fz, h1, h2, _⟩ := hR.cells i o hi'
      have e : φ' i = φ i := by simp only [φ']; rw [if_neg (by omega)]
      rw [e]
      refine ⟨C, ty, fz, h1, fun j v hj => ?_, fun hn => by simp at hn; omega⟩
      obtain ⟨v', h3, h4⟩ := h2 j v hj
      exact ⟨v', h3, h4.grow hg⟩
     ·obtain ⟨C, ty, fz, h1, _⟩ := hcl 0 (by omega)
      have e : φ' h.length = ⟨x.block, x.off, cap⟩ := by simp [φ']
      rw [e]
      refine ⟨C, ty, fz, h1, fun j v hj => ?_, fun hn => by simp at hn⟩
      simp only [ob, List.getElem?_map] at hj
      have hjl : j < len := by
       rcases Nat.lt_or_ge j len with h' | h'
       ·exact h'
       ·rw [List.getElem?_eq_none (by simp; omega)] at hj; cases hj
      obtain ⟨C', ty', fz', h1', h2'⟩ := hcl j (by omega)
      rw [h1] at h1'
      simp only [Option.some.injEq, Obj.cells.injEq] at h1'
      obtain ⟨rfl, _, _⟩ := h1'
      refine ⟨_, h2', ?_⟩
      rw [List.getElem?_take, if_pos hjl, List.getElem?_eq_getElem (by omega)] at hj
      simp only [Option.map_some, Option.some.injEq] at hj
      subst hj
      rw [List.getD_eq_getElem?_getD, List.getElem?_eq_getElem (by omega)]
      exact .atom (.int _ _)
    ·exfalso
     have : i < (h ++ [ob]).length := by
      simp only [VH.ph] at hi
      rcases Nat.lt_or_ge i (h ++ [ob]).length with h' | h'
      ·exact h'
      ·rw [List.getElem?_eq_none h'] at hi; cases hi
     omega
    ·exfalso
     have : i < (h ++ [ob]).length := by
      simp only [VH.ph] at hi
      rcases Nat.lt_or_ge i (h ++ [ob]).length with h' | h'
      ·exact h'
      ·rw [List.getElem?_eq_none h'] at hi; cases hi
     omega
   ·have hL : VH.ph (h ++ [ob]) h.length = some ob := by simp [VH.ph]
    have e : φ' h.length = ⟨x.block, x.off, cap⟩ := by simp [φ']
    refine .sl (c := cap) hL (by simp [ob]; omega) (by simp [ob]) (by simp [ob]) hl (by rw [e]; simp [ob]) (.inr ?_)
    rw [e]
    obtain ⟨b, off, sp⟩ := x
    simp at hspot ⊢
    exact hspot
   ·simp only [Sl, vsrc_ref, hget0, ob]
    have e : (List.map (Value.int k) (List.take len zs)).length = len := by simp; omega
    simp only [List.getElem?_cons_zero, e, Nat.zero_add, Nat.mul_one, List.drop_zero, Nat.le_refl, and_self, if_true]
    rw [List.take_of_length_le (by omega)]
theorem law_true {P : Program} {call : VCall} {f : Nat} {φ : Em} {h : VH} {W : World} {vs : List Value} {vs' : List Value} (hS : CallSound P h.length call) (hR : RA φ h W) (ha : All2 (TopR φ (VH.ph h)) vs vs') {h' : VH}
  (hc : call f vs h = some (.bool true, h')) : Calls P f vs'.toArray W fun e W' => e = .returned (.bool true) ∧ Below W.heap.size W W' := by
 obtain ⟨_, hcalls⟩ := hS f vs h _ _ hc φ W vs' (Nat.le_refl _) hR ha
 refine hcalls.mono fun e W' ⟨φ', v', he, _, hX, hv⟩ => ?_
 have hb := hv.inv_bool
 subst hb
 refine ⟨he, hX.rest.1, hX.rest.2.1, hX.rest.2.2, hX.size, fun b hb => hX.frame b hb fun i hi hn => ?_⟩
 exfalso
 simp only [VH.ph] at hi
 rw [List.getElem?_eq_none hn] at hi
 cases hi
end

/- A row's arguments, opened: graphs, lists, numbers, desks. -/
section
open Go Go.ChangeShapes Go.WideShapes Go.ChangeAt Go.RowKit
theorem IsRow.len {k : IntKind} {W : World} {a : Option Addr} {len cap : Nat} {zs : List Int} (h : IsRow k W a len cap zs) : (zs.take len).length ≤ 9223372036854775807 := by
 rcases h with ⟨_, _, _, rfl⟩ | ⟨x, _, hl, hm, hz, _⟩
 ·simp
 ·have : maxLen = 9223372036854775807 := rfl
  simp; omega
variable {H : Type} {enc : TypeId × Value → H} {P : Program} {W : World} {held : Bool}
end

/- What all rows of the seat share: the functions' table, the library's table of bit numbers. -/
section
open Go Go.ChangeShapes Go.WideShapes Go.ChangeAt Go.RowKit
open Go.Proofs.YtbilmoahcnllmaaGreatDoor
theorem own : ownKnob Tryz.prog.godebug = none := by kernel_rfl
theorem laidOut : laidOutB Tryz.prog = true := by kernel_rfl
theorem mixed : Tryz.prog.follows .mixedOrders = true := by kernel_rfl
theorem F_ir : ∀ f fn, F f = some (.ir fn) → EntOK Tryz.prog (compD Tryz.prog) f fn := by
 intro f fn hf
 unfold F at hf
 split at hf
 ·rename_i g hl
  simp only [Option.some.injEq, Ent.ir.injEq] at hf
  subst hf
  have hm : (f, g) ∈ tab := by
   have h2 : ∀ (l : List (Nat × FF)), l.lookup f = some g → (f, g) ∈ l := by
    intro l
    induction l with
    | nil => intro h; cases h
    | cons p l ih =>
     intro h
     obtain ⟨a, b⟩ := p
     simp only [List.lookup] at h
     split at h
     ·rename_i e
      have e2 : f = a := by simpa using e
      cases h
      rw [e2]
      exact .head _
     ·exact .tail _ (ih h)
   exact h2 tab hl
  exact tabOK (f, g) hm
 ·split at hf <;> cases hf
theorem F_ext : ∀ f g, F f = some (.ext g) → ∀ nro, ExtOK Tryz.prog nro f g := by
 intro f g hf nro
 unfold F at hf
 split at hf
 ·cases hf
 ·split at hf
  ·rename_i e
   cases hf
   subst e
   exact tz_ext nro
  ·cases hf
theorem allSound (nro : Nat) : CallSound Tryz.prog nro (vcall F nro) := sound mixed F F_ir fun f g h => F_ext f g h nro
theorem tz_global : Tryz.prog.globalNamed "math/bits.deBruijn64tab" = some 0 := by kernel_rfl
theorem tz_type : (Tryz.prog.globals[0]?).map (·.type) = some 124 := by kernel_rfl
theorem tz_cellsT : Tryz.prog.cellsOf 124 = 64 := by kernel_rfl
theorem tz_cells1 : Tryz.prog.cellsOf 5 = 1 := by kernel_rfl
theorem int_of_trod {H : Type} {enc : TypeId × Value → H} {P : Program} {w : World} {base : Nat} {sp : Nat → Bool} {held : Bool} {fuel : Nat} {t : TypeId} {k : IntKind} {c : Value} {y : DataW H × List MemPlace}
  (ht : P.underlying t = some (.int k)) (h : DataW.trod enc P w base sp held fuel t [c] = some y) : ∃ n, c = .int k n ∧ y = (.lit (.int k n), []) := by
 cases fuel with
 | zero => simp [DataW.trod] at h
 | succ fuel =>
  cases c <;> simp [DataW.trod, ht] at h
  rename_i k' n
  obtain ⟨⟨rfl, _⟩, rfl⟩ := h
  exact ⟨n, rfl, rfl⟩
theorem tz_datum : Rows.laid_math_bits_deBruijn64tab (H := Unit) = .agg (tzTab.map fun n => .lit (.int .u8 n)) := by kernel_rfl
theorem read_cells (f : Nat → Option (DataW Unit × List MemPlace)) (l : List Value) (hf : ∀ i y, i < l.length → f i = some y → ∃ n, l[i]? = some (.int .u8 n) ∧ y.1 = .lit (.int .u8 n)) :
  ∀ (k s : Nat) xs, (List.range' s k).mapM f = some xs → s + k ≤ l.length → ∃ ns : List Int, (l.drop s).take k = ns.map (Value.int .u8) ∧ xs.map (fun x => x.1) = ns.map fun n => .lit (.int .u8 n)
 | 0, s, xs, h, _ => by
  simp at h
  subst h
  exact ⟨[], by simp, rfl⟩
 | k + 1, s, xs, h, hl => by
  rw [List.range'_succ] at h
  simp only [List.mapM_cons, Option.bind_eq_bind, Option.bind_eq_some_iff, Option.pure_def, Option.some.injEq] at h
  obtain ⟨y, hy, ys, hys, rfl⟩ := h
  obtain ⟨n, h1, h2⟩ := hf s y (by omega) hy
  obtain ⟨ns, h3, h4⟩ := read_cells f l hf k (s + 1) ys hys (by omega)
  refine ⟨n :: ns, ?_, ?_⟩
  ·have hs : s < l.length := by omega
   rw [List.getElem?_eq_getElem hs] at h1
   rw [List.drop_eq_getElem_cons hs, List.take_succ_cons, h3, Option.some.inj h1]
   rfl
  ·simp [h2, h4]
theorem cells_of_laid {W : World} (h : laidMet Tryz.prog [("math/bits.deBruijn64tab", Rows.laid_math_bits_deBruijn64tab)] W) : ∃ ty fz, W.heap[0]? = some (.cells tzCells ty fz) := by
 obtain ⟨ps, ⟨g, t, cs, fuel, p, q, hg, ht, hvar, hd, _, _⟩, _⟩ := h
 obtain rfl := Option.some.inj (tz_global.symm.trans hg)
 obtain rfl := Option.some.inj (tz_type.symm.trans ht)
 obtain ⟨l⟩ := cs
 rw [tz_datum] at hd
 have hl : l = tzTab.map (Value.int .u8) := by
  cases fuel with
  | zero => simp [DataW.trod] at hd
  | succ fuel =>
   simp only [DataW.trod, Tryz.underlying124, tz_cellsT, tz_cells1] at hd
   split at hd
   ·rename_i hlen
    rw [Option.map_eq_some_iff] at hd
    obtain ⟨xs, hm, hx⟩ := hd
    rw [List.range_eq_range'] at hm
    obtain ⟨ns, h1, h2⟩ := read_cells _ l (fun i y hi hy => by
     have e : List.take 1 (List.drop (i * 1) l) = [l[i]] := by rw [Nat.mul_one, List.drop_eq_getElem_cons hi]; rfl
     rw [e] at hy
     obtain ⟨n, h1, h2⟩ := int_of_trod Tryz.underlying5 hy
     exact ⟨n, by rw [List.getElem?_eq_getElem hi, h1], by rw [h2]⟩) 64 0 xs hm (by omega)
    rw [List.drop_zero, List.take_of_length_le (by omega)] at h1
    have h3 : xs.map (fun x => x.1) = tzTab.map fun n => (.lit (.int .u8 n) : DataW Unit) := by
     have := congrArg Prod.fst hx
     simpa using this
    rw [h2] at h3
    have h4 : ns = tzTab := List.map_inj_right (f := fun n => (.lit (.int .u8 n) : DataW Unit)) (fun a b h => by injection h with h; injection h) |>.mp h3
    rw [h1, h4]
   ·cases hd
 subst hl
 simp only [World.var?, tz_global, Option.bind_some] at hvar
 split at hvar
 ·rename_i c ty fz hc
  cases hvar
  exact ⟨_, _, hc⟩
 ·cases hvar
noncomputable def laidWorld (os : Os) : World :=
 { World.holding Tryz.prog os ⟨#[], #[], []⟩ with heap := (World.holding Tryz.prog os ⟨#[], #[], []⟩).heap.modify 0 fun
   | .cells _ t frozen => .cells tzCells t frozen
   | o => o }
theorem tz_read (w : World) : DataW.trod (fun _ => ()) Tryz.prog w 0 (fun _ => true) false 8 124 tzCells.toList = some (Rows.laid_math_bits_deBruijn64tab, []) := by kernel_rfl
theorem tz_nodup : (MemPlace.row ⟨0, 0, none⟩ tzCells.size ++ [] ++ []).Nodup := by decide +kernel
theorem tz_noface (w : World) (off : Nat) (u : TypeId) (v : Value) (h0 : w.heap[0]? = some (.cells tzCells 124 (0, 0))) (hc : w.cell? ⟨0, off, none⟩ = some (.iface u v)) : False := by
 by_cases ho : off < 64
 ·have := (tz_cell w _ _ h0 off ho).symm.trans hc
  injection this with h1
  cases h1
 ·have e : w.cell? ⟨0, off, none⟩ = tzCells[off]? := by
   unfold World.cell?
   rw [h0]
   rfl
  rw [e] at hc
  have hs : tzCells.size = 64 := by decide +kernel
  rw [Array.getElem?_eq_none (by omega)] at hc
  cases hc
set_option maxRecDepth 100000 in
theorem tz_laid (w : World) (h0 : w.heap[0]? = some (.cells tzCells 124 (0, 0))) : laidMet Tryz.prog [("math/bits.deBruijn64tab", Rows.laid_math_bits_deBruijn64tab)] w := by
 refine ⟨_, ⟨0, 124, tzCells, 8, [], [], tz_global, tz_type, ?_, tz_read w, rfl, rfl⟩, tz_nodup, fun b off h => ?_⟩
 ·simp only [World.var?, tz_global, Option.bind_some, h0]
 ·have hb : b = 0 := by
   rw [List.append_nil, List.append_nil] at h
   unfold MemPlace.row at h
   rw [List.mem_map] at h
   obtain ⟨i, _, hi⟩ := h
   injection hi with h1 h2
   exact h1.symm
  clear h
  subst hb
  refine ⟨⟨tzCells, 124, h0⟩, fun u v hc => ?_⟩
  exact (tz_noface w off u v h0 hc).elim
theorem tz_glob {W : World} (h : laidMet Tryz.prog [("math/bits.deBruijn64tab", Rows.laid_math_bits_deBruijn64tab)] W) : ∀ b C, globTab b = some C → ∃ ty fz, W.heap[b]? = some (.cells C ty fz) := by
 intro b C hb
 unfold globTab at hb
 split at hb
 ·cases hb
  exact cells_of_laid h
 ·cases hb
end

/- What the laws' own small functions compute. -/
section
open Go
open Classical in
theorem search {α : Type} (f : Int → α) (bad : Int → Prop) (r d : α) (n lo : Int) (hstep : ∀ i, lo ≤ i → i < n → (bad i → f i = r) ∧ (¬ bad i → f i = f (i + 1))) (hend : ∀ i, lo ≤ i → ¬ i < n → f i = d) (i : Int) (hi : lo ≤ i) :
    f i = if ∃ j, i ≤ j ∧ j < n ∧ bad j then r else d := by
  by_cases hlt : i < n
  · by_cases hb : bad i
    · rw [(hstep i hi hlt).1 hb, if_pos ⟨i, Int.le_refl _, hlt, hb⟩]
    · rw [(hstep i hi hlt).2 hb, search f bad r d n lo hstep hend (i + 1) (by omega)]
      have : (∃ j, i + 1 ≤ j ∧ j < n ∧ bad j) ↔ ∃ j, i ≤ j ∧ j < n ∧ bad j := by
        constructor
        · rintro ⟨j, h1, h2, h3⟩; exact ⟨j, by omega, h2, h3⟩
        · rintro ⟨j, h1, h2, h3⟩
          refine ⟨j, ?_, h2, h3⟩
          have : j ≠ i := fun e => hb (e ▸ h3)
          omega
      simp only [this]
  · rw [hend i hi hlt, if_neg]
    rintro ⟨j, h1, h2, _⟩
    omega
 termination_by (n - i).toNat
theorem getD_at (xs : List Int) {i : Nat} (hi : i < xs.length) : xs.getD i 0 = xs[i] := by
 rw [List.getD_eq_getElem?_getD, List.getElem?_eq_getElem hi]; rfl
variable {nro : Nat}
abbrev gv (n : Int) (s : Value) : Value := .agg #[.int .i64 n, s]
end

/- Words without sign. -/
section
open Go
theorem shr_u64 {a : Nat} {b : Nat} (hb : b ≤ 64) : ishr .u64 (a : Int) (b : Int) = ((a / 2 ^ b : Nat) : Int) := by
 rw [ishr_eq]
 have e : min (b : Int).toNat IntKind.u64.bits = b := by simp [IntKind.bits]; omega
 rw [e, Int.fdiv_eq_ediv_of_nonneg _ (Int.le_of_lt (by exact_mod_cast Nat.two_pow_pos b))]
 simp
theorem and_u64 {a b : Nat} (ha : a < 2 ^ 64) (hb : b < 2 ^ 64) : iand .u64 (a : Int) (b : Int) = ((a &&& b : Nat) : Int) := by
 rw [iand_eq]
 have h1 : (BitVec.ofInt IntKind.u64.bits (a : Int)).toNat = a := ofInt_nat 64 a ha
 have h2 : (BitVec.ofInt IntKind.u64.bits (b : Int)).toNat = b := ofInt_nat 64 b hb
 rw [BitVec.toNat_and, h1, h2]
 have : a &&& b < 2 ^ 64 := Nat.and_lt_two_pow _ hb
 exact wrapu64 (by omega) (by omega)
end

/- The lowest bit of a word; the bits of a word, ascending. -/
section
open Go
theorem low_form : ∀ (x : Nat), x ≠ 0 → ∃ i q, x = 2 ^ i * (2 * q + 1) := by
 intro x
 induction x using Nat.strongRecOn with
 | ind x ih =>
  intro hx
  by_cases h : x % 2 = 1
  ·exact ⟨0, x / 2, by simp; omega⟩
  ·obtain ⟨i, q, e⟩ := ih (x / 2) (by omega) (by omega)
   refine ⟨i + 1, q, ?_⟩
   have e2 : x = 2 * (x / 2) := by omega
   rw [Nat.pow_succ, Nat.mul_comm (2 ^ i) 2, Nat.mul_assoc, ← e]
   exact e2
def LowAt (x i : Nat) : Prop := ∃ q, x = 2 ^ i * (2 * q + 1)
theorem LowAt.bit {x i : Nat} (h : LowAt x i) : x.testBit i = true := by
 obtain ⟨q, rfl⟩ := h
 rw [Nat.testBit_two_pow_mul]
 simp
theorem LowAt.low {x i : Nat} (h : LowAt x i) {j : Nat} (hj : j < i) : x.testBit j = false := by
 obtain ⟨q, rfl⟩ := h
 rw [Nat.testBit_two_pow_mul]
 simp
 omega
theorem LowAt.ne {x i : Nat} (h : LowAt x i) : x ≠ 0 := by
 obtain ⟨q, rfl⟩ := h
 have := Nat.two_pow_pos i
 have := Nat.mul_pos this (show 0 < 2 * q + 1 by omega)
 omega
theorem LowAt.pred {x i : Nat} (h : LowAt x i) (j : Nat) : (x - 1).testBit j = if j < i then true else if j = i then false else x.testBit j := by
 obtain ⟨q, rfl⟩ := h
 have hp := Nat.two_pow_pos i
 have e : 2 ^ i * (2 * q + 1) - 1 = 2 ^ i * (2 * q) + (2 ^ i - 1) := by
  rw [Nat.mul_add, Nat.mul_one]
  omega
 rw [e, Nat.testBit_two_pow_mul_add _ (by omega)]
 by_cases h1 : j < i
 ·rw [if_pos h1, if_pos h1, Nat.testBit_two_pow_sub_one]
  simpa using h1
 ·rw [if_neg h1, if_neg h1]
  by_cases h2 : j = i
  ·subst h2
   simp
  ·rw [if_neg h2, Nat.testBit_two_pow_mul]
   obtain ⟨k, hk⟩ : ∃ k, j - i = k + 1 := ⟨j - i - 1, by omega⟩
   rw [hk, Nat.testBit_succ, Nat.testBit_succ]
   have e1 : 2 * q / 2 = q := by omega
   have e2 : (2 * q + 1) / 2 = q := by omega
   rw [e1, e2]
   have : (decide (j ≥ i)) = true := by simp; omega
   rw [this, Bool.true_and]
theorem LowAt.lt {x i n : Nat} (h : LowAt x i) (hx : x < 2 ^ n) : i < n := by
 rcases Nat.lt_or_ge i n with h1 | h1
 ·exact h1
 ·have h2 := Nat.testBit_lt_two_pow (Nat.lt_of_lt_of_le hx (Nat.pow_le_pow_right (by omega) h1))
  rw [h.bit] at h2
  cases h2
theorem and_pred_bit {x i : Nat} (h : LowAt x i) (j : Nat) : (x &&& (x - 1)).testBit j = (x.testBit j && decide (j ≠ i)) := by
 rw [Nat.testBit_and, h.pred j]
 by_cases h1 : j < i
 ·rw [h.low h1]; simp
 ·rw [if_neg h1]
  by_cases h2 : j = i
  ·subst h2; simp
  ·rw [if_neg h2]; simp [h2]
theorem and_pred_lt {x : Nat} (h : x ≠ 0) : x &&& (x - 1) < x := by
 have := Nat.and_le_right (n := x) (m := x - 1)
 omega
theorem low_word {x i : Nat} (h : LowAt x i) (hx : x < 2 ^ 64) : x &&& (2 ^ 64 - x) = 2 ^ i := by
 apply Nat.eq_of_testBit_eq
 intro j
 have h0 := h.ne
 have hi := h.lt hx
 have e : 2 ^ 64 - x = 2 ^ 64 - ((x - 1) + 1) := by omega
 rw [Nat.testBit_and, e, Nat.testBit_two_pow_sub_succ (by omega), h.pred j, Nat.testBit_two_pow]
 by_cases h1 : j < i
 ·rw [h.low h1]
  simp
  omega
 ·by_cases h2 : j = i
  ·subst h2
   rw [h.bit]
   simp [hi]
  ·rw [if_neg h1, if_neg h2]
   have : decide (i = j) = false := by simp; omega
   rw [this]
   cases x.testBit j <;> simp
theorem tz_table : ∀ i : Nat, i < 64 → tzTab.getD (2 ^ i * 285870213051353865 % 18446744073709551616 / 288230376151711744) 0 = (i : Int) := by decide +kernel
theorem tz_low {x i : Nat} (h : LowAt x i) (hx : x < 2 ^ 64) : tzv (x : Int) = (i : Int) := by
 have h0 := h.ne
 have hi := h.lt hx
 have e0 : ¬ (x : Int) = 0 := by omega
 unfold tzv
 rw [if_neg e0]
 have e1 : IntKind.u64.wrap (-(x : Int)) = ((2 ^ 64 - x : Nat) : Int) := by
  unfold IntKind.wrap
  simp [IntKind.signed, IntKind.bits]
  omega
 have e2 : bits BinOp.and IntKind.u64 (x : Int) ((2 ^ 64 - x : Nat) : Int) = ((2 ^ i : Nat) : Int) := by
  have := and_u64 (a := x) (b := 2 ^ 64 - x) hx (by omega)
  rw [iand_eq, low_word h hx] at this
  exact this
 have hp : 2 ^ i < 2 ^ 64 := Nat.pow_lt_pow_right (by omega) hi
 have e3 : (tzIdx (x : Int)).toNat = 2 ^ i * 285870213051353865 % 18446744073709551616 / 288230376151711744 := by
  unfold tzIdx
  rw [e1, e2]
  unfold IntKind.wrap
  simp only [IntKind.signed, IntKind.bits, Bool.false_and]
  rw [show (285870213051353865 : Int) = ((285870213051353865 : Nat) : Int) from rfl, ← Int.natCast_mul]
  generalize 2 ^ i * 285870213051353865 = y
  simp
  omega
 rw [e3]
 exact tz_table i hi
def bitF (x n w : Nat) : List Int := if h : w < n then (if x.testBit w = true then [(w : Int)] else []) ++ bitF x n (w + 1) else []
 termination_by n - w
theorem bitF_end {x n w : Nat} (h : ¬ w < n) : bitF x n w = [] := by rw [bitF, dif_neg h]
theorem bitF_step {x n w : Nat} (h : w < n) : bitF x n w = (if x.testBit w = true then [(w : Int)] else []) ++ bitF x n (w + 1) := by rw [bitF, dif_pos h]
theorem bitF_congr {x y n w : Nat} (h : ∀ j, w ≤ j → x.testBit j = y.testBit j) : bitF x n w = bitF y n w := by
  by_cases hw : w < n
  · rw [bitF_step hw, bitF_step hw, h w (Nat.le_refl _), bitF_congr fun j hj => h j (by omega)]
  · rw [bitF_end hw, bitF_end hw]
 termination_by n - w
theorem bitF_low {x i n : Nat} (h : LowAt x i) (w : Nat) (hw : w ≤ i) (hi : i < n) : bitF x n w = (i : Int) :: bitF (x &&& (x - 1)) n w := by
  have hwn : w < n := by omega
  rw [bitF_step hwn, bitF_step (x := x &&& (x - 1)) hwn, and_pred_bit h w]
  by_cases h1 : w = i
  · subst h1
    rw [h.bit, bitF_congr (x := x &&& (x - 1)) (y := x)]
    · simp
    · intro j hj
      rw [and_pred_bit h j]
      have : decide (j ≠ w) = true := by simp; omega
      rw [this, Bool.and_true]
  · rw [h.low (by omega), bitF_low h (w + 1) (by omega) hi]
    simp
 termination_by i - w
theorem bitF_zero (n w : Nat) : bitF 0 n w = [] := by
  by_cases h : w < n
  · rw [bitF_step h, bitF_zero n (w + 1)]
    simp
  · exact bitF_end h
 termination_by n - w
theorem bitF_mem (x n w : Nat) (y : Int) : y ∈ bitF x n w ↔ (w : Int) ≤ y ∧ y < n ∧ x.testBit y.toNat = true := by
  by_cases h : w < n
  · rw [bitF_step h, List.mem_append, bitF_mem x n (w + 1) y]
    by_cases hb : x.testBit w = true
    · rw [if_pos hb]
      simp
      constructor
      · rintro (rfl | ⟨h1, h2, h3⟩)
        · exact ⟨by omega, by omega, by simpa using hb⟩
        · exact ⟨by omega, h2, h3⟩
      · rintro ⟨h1, h2, h3⟩
        by_cases e : y = w
        · exact .inl e
        · exact .inr ⟨by omega, h2, h3⟩
    · rw [if_neg hb]
      simp
      intro h2 h3
      constructor
      · intro h1; omega
      · intro h1
        have : y ≠ w := by
          rintro rfl
          exact hb (by simpa using h3)
        omega
  · rw [bitF_end h]
    simp
    intro h1 h2
    omega
 termination_by n - w
theorem bitF_len (x n w : Nat) (hw : w ≤ n) : (bitF x n w).length ≤ n - w := by
  by_cases h : w < n
  · have := bitF_len x n (w + 1) h
    rw [bitF_step h, List.length_append]
    split <;> simp <;> omega
  · rw [bitF_end h]; simp
 termination_by n - w
def bitL (x : Nat) : List Int := bitF x 62 0
theorem bitL_zero : bitL 0 = [] := bitF_zero 62 0
theorem bitL_low {x i : Nat} (h : LowAt x i) (hx : x < 2 ^ 62) : bitL x = (i : Int) :: bitL (x &&& (x - 1)) := bitF_low h 0 (Nat.zero_le _) (h.lt hx)
theorem bitL_len (x : Nat) : (bitL x).length ≤ 62 := bitF_len x 62 0 (by omega)
theorem bitL_mem (x : Nat) (y : Int) : y ∈ bitL x ↔ 0 ≤ y ∧ y < 62 ∧ x.testBit y.toNat = true := bitF_mem x 62 0 y
end

/- The program's list of a set's numbers. -/
section
open Go
variable {nro : Nat}
theorem c_tz {x i : Nat} (hl : LowAt x i) (hx : x < 2 ^ 62) (h : VH) : vcall F nro k_math_bits_TrailingZeros64 [.int .u64 x] h = some (.int .i64 i, h) := by
 rw [vcall, vstep]
 have hF : F k_math_bits_TrailingZeros64 = some (.ext tzX) := by kernel_rfl
 simp only [hF]
 unfold tzX
 simp only
 rw [tz_low hl (by omega)]
theorem ints_snoc' (ys : List Int) (w : Int) : ints ys ++ [Value.int .i64 w] = ints (ys ++ [w]) := by simp [ints]
theorem l_zz96 (h : VH) (hn : nro ≤ h.length) (y0 : List Int) (x : Nat) (hx : x < 2 ^ 62) (ys : List Int) (hy : ys.length + (bitL x).length ≤ 1000) :
    floop (vcall F nro) nro [0, 3] i_zz96_B1 (h ++ [⟨1, ints y0⟩]) [.int .i64 x, .slice (some ⟨h.length, 0, none⟩) ys.length ys.length] (h ++ [⟨1, ints ys⟩]) =
      some (.exit 0, fl [(3, .slice (some ⟨h.length, 0, none⟩) (ys ++ bitL x).length (ys ++ bitL x).length)], h ++ [⟨1, ints (ys ++ bitL x)⟩]) := by
  have hn' := fun k => Nat.le_trans hn (Nat.le_add_right h.length k)
  rw [floop_at i_zz96_B1.eq_1]
  by_cases h0 : x = 0
  · subst h0
    rw [bitL_zero]
    simp (disch := first | assumption | omega | (simp [*] <;> omega) | fail) [hn, hn']
  · obtain ⟨i, q, hq⟩ := low_form x h0
    have hl : LowAt x i := ⟨q, hq⟩
    have hi := hl.lt hx
    clear hq
    have hc := fun L => c_tz (nro := nro) hl hx (h ++ L)
    have hlt := and_pred_lt h0
    have e := bitL_low hl hx
    rw [e] at hy ⊢
    simp at hy
    have ih := l_zz96 h hn y0 (x &&& (x - 1)) (by omega) (ys ++ [(i : Int)]) (by simp; omega)
    have h0' : ¬ (x : Int) = 0 := by omega
    have w1 : IntKind.u64.wrap (x : Int) = x := wrapu64 (by omega) (by omega)
    have w2 : IntKind.i64.wrap ((x : Int) - 1) = ((x - 1 : Nat) : Int) := by rw [wrap64 (by omega) (by omega)]; omega
    have w3 := iand_nat (a := x) (b := x - 1) (by omega) (by omega)
    have b1 : (ys.length + 1) * 8 ≤ 1099511627776 := by omega
    have b2 : ys.length < 1099511627776 := by omega
    obtain ⟨p, hp⟩ : ∃ p, p = x - 1 := ⟨_, rfl⟩
    obtain ⟨z, hz⟩ : ∃ z, z = x &&& p := ⟨_, rfl⟩
    rw [← hp] at w2 w3 ih ⊢
    rw [← hz] at w3 ih ⊢
    simp at ih
    clear hl hlt e hp hz
    simp (disch := first | assumption | omega | (simp [*] <;> omega) | fail) [hc, h0, h0', w1, w2, w3, hn, hn', ih, b1, b2, ints_snoc']
 termination_by x
 decreasing_by exact and_pred_lt h0
theorem c_zz96 (x : Nat) (hx : x < 2 ^ 62) (h : VH) (hn : nro ≤ h.length) :
  vcall F nro k_zz96 [.int .i64 x] h = some (.slice (some ⟨h.length, 0, none⟩) (bitL x).length (bitL x).length, h ++ [⟨1, ints (bitL x)⟩]) := by
 refine v_zz96 (by simp [i_zz96]) ?_
 rw [fbody_eq]
 have hb := bitL_len x
 have hl := l_zz96 (nro := nro) h hn [] x hx [] (by simp; omega)
 simp at hl
 simp (disch := first | assumption | omega | (simp [*] <;> omega) | fail) [i_zz96, hl, hn]
end

/- Numbers that follow from a code. -/
section
open Go
variable {nro : Nat}
def bys (xs : List Int) : List Value := xs.map (.int .u8)
@[simp] theorem bys_length (xs : List Int) : (bys xs).length = xs.length := by simp [bys]
theorem bys_get {xs : List Int} {j : Nat} (h : j < (bys xs).length) : (bys xs)[j] = .int .u8 (xs.getD j 0) := by
 have : j < xs.length := by simpa using h
 simp [bys, List.getD_eq_getElem?_getD, this]
structure SS where
 pos : Nat
 hash : Int
def srcO (cd : Value) (s : SS) : VO := ⟨0, [cd, .int .i64 s.pos, .int .u64 s.hash]⟩
noncomputable def hsN (s : SS) : Int := IntKind.u64.wrap (IntKind.u64.wrap (s.hash * 6364136223846793005) + 1442695040888963407)
noncomputable def hsX (s : SS) : Int := IntKind.i64.wrap (iand .u64 (ishr .u64 (hsN s) 33) 16777215)
noncomputable def srcS (xs : List Int) (s : SS) (n : Int) : SS := if n < 1 then s else ⟨if s.pos < xs.length then s.pos + 1 else s.pos, hsN s⟩
noncomputable def srcN (xs : List Int) (s : SS) (n : Int) : Int := if n < 1 then 0 else (hsX s + if s.pos < xs.length then xs.getD s.pos 0 else 0).tmod n
theorem crefs_sub {v : Value} {r : Nat} (h : r ∈ crefs v) : r ∈ trefs v := by
 cases v <;> simp_all [crefs, arefs, trefs, vrefs]
theorem flatO_src {n : Nat} {cd : Value} (h : Old n cd) (s : SS) : flatO n (srcO cd s) := by
 intro r hr
 simp only [orefs, srcO, List.flatMap_cons, List.flatMap_nil, List.mem_append] at hr
 rcases hr with hr | hr | hr | hr
 ·exact h r (crefs_sub hr)
 ·simp [crefs, arefs] at hr
 ·simp [crefs, arefs] at hr
 ·cases hr
structure Code' (xs : List Int) : Prop where
 len : xs.length ≤ 9223372036854775807
 byte : ∀ x ∈ xs, 0 ≤ x ∧ x ≤ 255
def SOK (xs : List Int) (s : SS) : Prop := s.pos ≤ xs.length
theorem hsX_ok (s : SS) : 0 ≤ hsX s ∧ hsX s ≤ 16777215 := by
 unfold hsX
 rw [iand_eq]
 have h1 : ∀ x : BitVec IntKind.u64.bits, (x &&& BitVec.ofInt IntKind.u64.bits 16777215).toNat ≤ 16777215 := fun x => by
  rw [BitVec.toNat_and]
  exact Nat.le_trans Nat.and_le_right (by decide)
 obtain ⟨y, hy⟩ : ∃ y, y = (BitVec.ofInt IntKind.u64.bits (ishr IntKind.u64 (hsN s) 33) &&& BitVec.ofInt IntKind.u64.bits 16777215).toNat := ⟨_, rfl⟩
 have h2 := h1 (BitVec.ofInt IntKind.u64.bits (ishr IntKind.u64 (hsN s) 33))
 rw [← hy] at h2 ⊢
 rw [wrapu64 (n := (y : Int)) (by omega) (by omega), wrap64 (by omega) (by omega)]
 omega
theorem Code'.at {xs : List Int} (h : Code' xs) (i : Nat) : 0 ≤ xs.getD i 0 ∧ xs.getD i 0 ≤ 255 := by
 rw [List.getD_eq_getElem?_getD]
 by_cases hi : i < xs.length
 ·rw [List.getElem?_eq_getElem hi]; exact h.byte _ (List.getElem_mem hi)
 ·rw [List.getElem?_eq_none (by omega)]; simp
theorem srcN_ok {xs : List Int} (h : Code' xs) (s : SS) (n : Int) : 0 ≤ srcN xs s n ∧ (1 ≤ n → srcN xs s n < n) ∧ (n < 1 → srcN xs s n = 0) := by
 unfold srcN
 by_cases hn : n < 1
 ·rw [if_pos hn]; exact ⟨by omega, fun _ => by omega, fun _ => rfl⟩
 ·rw [if_neg hn]
  have h1 := hsX_ok s
  have h2 := h.at s.pos
  obtain ⟨y, hy⟩ : ∃ y, y = hsX s + if s.pos < xs.length then xs.getD s.pos 0 else 0 := ⟨_, rfl⟩
  have hy0 : 0 ≤ y := by rw [hy]; split <;> omega
  rw [← hy]
  exact ⟨Int.tmod_nonneg n hy0, fun _ => Int.tmod_lt_of_pos y (by omega), fun h => by omega⟩
theorem srcS_ok {xs : List Int} {s : SS} (h : SOK xs s) (n : Int) : SOK xs (srcS xs s n) := by
 unfold srcS SOK at *
 split
 ·exact h
 ·dsimp only; split <;> omega
theorem c_zz81 (H : VH) (b : Nat) (cd : Value) (xs : List Int) (s : SS) (n : Int) (hb : H[b]? = some (srcO cd s)) (hnb : nro ≤ b) (hx : Code' xs) (hs : SOK xs s) (hcd : ∀ o, Sl (H.set b o) cd (bys xs)) (h1 : n ≤ 9223372036854775807) :
  vcall F nro k_zz81 [.pointer (some ⟨b, 0, some 3⟩), .int .i64 n] H = some (.int .i64 (srcN xs s n), H.set b (srcO cd (srcS xs s n))) := by
 refine v_zz81 (by simp [i_zz81]) ?_
 rw [fbody_eq]
 have hself : H.set b (srcO cd s) = H := by
  apply List.ext_getElem?
  intro j
  rw [List.getElem?_set]
  split
  ·rename_i e
   subst e
   split
   ·exact hb.symm
   ·rename_i h; rw [List.getElem?_eq_none (by omega)] at hb; cases hb
  ·rfl
 have hlt : b < H.length := (List.getElem?_eq_some_iff.mp hb).1
 have hg : ∀ o, (H.set b o)[b]? = some o := fun o => by simp [hlt]
 have hss : ∀ o o2, (H.set b o).set b o2 = H.set b o2 := fun o o2 => by simp
 have hcl : ∀ (p : Nat) (a : Int) (x : Int), kclean H [.int .i64 x] (H.set b ⟨0, [cd, .int .i64 p, .int .u64 a]⟩) = ([.int .i64 x], H.set b ⟨0, [cd, .int .i64 p, .int .u64 a]⟩) := fun p a x => by
  have hf : flatO H.length (srcO cd ⟨p, a⟩) := flatO_src (by
   have := (hcd (srcO cd s)).old
   rwa [hself] at this) _
  have := cleanup_upd (L := []) (vs := [.int .i64 x]) ((Upd.rfl' H).set' (b := b) hf) (by simp)
  rwa [List.append_nil] at this
 have hN : IntKind.u64.wrap (IntKind.u64.wrap (s.hash * 6364136223846793005) + 1442695040888963407) = hsN s := rfl
 have hX : IntKind.i64.wrap (iand .u64 (ishr .u64 (hsN s) 33) 16777215) = hsX s := rfl
 unfold srcN srcS
 by_cases hn : n < 1
 ·rw [if_pos hn, if_pos hn, hself]
  simp (disch := first | assumption | omega | (simp [*] <;> omega) | fail) [i_zz81, hn]
 ·rw [if_neg hn, if_neg hn]
  unfold srcO at hb ⊢
  have hx1 := hsX_ok s
  have hx2 := hx.at s.pos
  obtain ⟨A, hA⟩ : ∃ A, A = hsX s := ⟨_, rfl⟩
  obtain ⟨B, hB⟩ : ∃ B, B = hsN s := ⟨_, rfl⟩
  by_cases hp : s.pos < xs.length
  ·have hl := hx.len
   have e1 := fun o => (hcd o).vlen
   have e2 := fun o => (hcd o).vidx (k := .i64) (j := (s.pos : Int)) (by omega) (by rw [bys_length]; omega)
   have e3 := fun o => (hcd o).vload (j := s.pos) (by rw [bys_length]; omega)
   simp only [bys_get] at e3
   rw [if_pos hp, if_pos hp]
   obtain ⟨y, hy⟩ : ∃ y, y = xs.getD s.pos 0 := ⟨_, rfl⟩
   rw [← hy] at e3 hx2 ⊢
   rw [← hA] at hX hx1 ⊢
   rw [← hB] at hN hX ⊢
   have w1 : IntKind.i64.wrap y = y := wrap64 (by omega) (by omega)
   have w2 : IntKind.i64.wrap (A + y) = A + y := wrap64 (by omega) (by omega)
   have w3 : IntKind.i64.wrap ((s.pos : Int) + 1) = ((s.pos + 1 : Nat) : Int) := by rw [wrap64 (by omega) (by omega)]; omega
   have w4 : IntKind.i64.wrap ((A + y).tmod n) = (A + y).tmod n := by
    have h1 := Int.tmod_nonneg n (show 0 ≤ A + y by omega)
    have h2 := Int.tmod_lt_of_pos (A + y) (show 0 < n by omega)
    exact wrap64 (by omega) (by omega)
   obtain ⟨p, hp2⟩ : ∃ p, p = s.pos + 1 := ⟨_, rfl⟩
   have hn0 : ¬ n = 0 := by omega
   have hp3 : (s.pos : Int) < xs.length := by omega
   obtain ⟨u, hu⟩ : ∃ u, u = (A + y).tmod n := ⟨_, rfl⟩
   rw [← hp2] at w3 ⊢
   rw [← hu] at w4 ⊢
   have hu2 := hu.symm
   clear hu hA hB hp2 hy hself
   simp (disch := first | assumption | omega | (simp [*] <;> omega) | fail) [-getElem?_pos, List.getElem?_cons_zero, List.getElem?_cons_succ, i_zz81, hn, hn0, hb, hg, hss, hlt, hnb, e1, e2, e3, hp, hp3, hN, hX, w1, w2, w3, w4, hu2, hcl]
  ·have e1 := fun o => (hcd o).vlen
   have hp3 : ¬ (s.pos : Int) < xs.length := by omega
   rw [if_neg hp, if_neg hp, Int.add_zero]
   have hn0 : ¬ n = 0 := by omega
   rw [← hA] at hX hx1 ⊢
   rw [← hB] at hN hX ⊢
   have w4 : IntKind.i64.wrap (A.tmod n) = A.tmod n := by
    have h1 := Int.tmod_nonneg n (show 0 ≤ A by omega)
    have h2 := Int.tmod_lt_of_pos A (show 0 < n by omega)
    exact wrap64 (by omega) (by omega)
   obtain ⟨u, hu⟩ : ∃ u, u = A.tmod n := ⟨_, rfl⟩
   rw [← hu] at w4 ⊢
   have hu2 := hu.symm
   clear hu hA hB hself
   simp (disch := first | assumption | omega | (simp [*] <;> omega) | fail) [-getElem?_pos, List.getElem?_cons_zero, List.getElem?_cons_succ, i_zz81, hn, hn0, hb, hg, hss, hlt, hnb, e1, hp, hp3, hN, hX, w4, hu2, hcl]
structure Srce (nro : Nat) (H : VH) (b : Nat) (cd : Value) (xs : List Int) (s : SS) : Prop where
 at' : H[b]? = some (srcO cd s)
 nr : nro ≤ b
 code : Code' xs
 ok : SOK xs s
 sl : ∀ o, Sl (H.set b o) cd (bys xs)
section
variable {H : VH} {b : Nat} {cd : Value} {xs : List Int} {s : SS} (S : Srce nro H b cd xs s)
include S
theorem Srce.lt : b < H.length := (List.getElem?_eq_some_iff.mp S.at').1
theorem Srce.set {s' : SS} (h : SOK xs s') (L : VH) : Srce nro (H.set b (srcO cd s') ++ L) b cd xs s' := by
 have hlt := S.lt
 refine ⟨?_, S.nr, S.code, h, fun o => ?_⟩
 ·rw [List.getElem?_append_left (by simpa using hlt)]; simp [hlt]
 ·rw [List.set_append_left _ _ (by simpa using hlt), List.set_set]
  exact (S.sl o).app L
theorem Srce.next (n : Int) (h1 : n ≤ 9223372036854775807) : vcall F nro k_zz81 [.pointer (some ⟨b, 0, some 3⟩), .int .i64 n] H = some (.int .i64 (srcN xs s n), H.set b (srcO cd (srcS xs s n))) :=
 c_zz81 H b cd xs s n S.at' S.nr S.code S.ok S.sl h1
theorem Srce.nextA {s' : SS} (h : SOK xs s') (L : VH) (n : Int) (h1 : n ≤ 9223372036854775807) : vcall F nro k_zz81 [.pointer (some ⟨b, 0, some 3⟩), .int .i64 n] (H.set b (srcO cd s') ++ L) = some (.int .i64 (srcN xs s' n), H.set b (srcO cd (srcS xs s' n)) ++ L) := by
 have := (S.set h L).next n h1
 rw [this, List.set_append_left _ _ (by simpa using S.lt), List.set_set]
theorem Srce.clean {s' : SS} (L : VH) {vs : List Value} (hv : ∀ v ∈ vs, Old H.length v) : kclean H vs (H.set b (srcO cd s') ++ L) = (vs, H.set b (srcO cd s')) := by
 have hself : H.set b (srcO cd s) = H := hset_self S.at'
 have hf : flatO H.length (srcO cd s') := flatO_src (by
  have := (S.sl (srcO cd s)).old
  rwa [hself] at this) _
 exact cleanup_upd ((Upd.rfl' H).set' (b := b) hf) hv
theorem Srce.clean0 {s' : SS} {vs : List Value} (hv : ∀ v ∈ vs, Old H.length v) : kclean H vs (H.set b (srcO cd s')) = (vs, H.set b (srcO cd s')) := by
 have := S.clean (s' := s') [] hv
 rwa [List.append_nil] at this
theorem Srce.pick (q : Value) (ys : List Int) (hq : ∀ o, Sli (H.set b o) q ys) (h0 : 1 ≤ ys.length) (h1 : ys.length ≤ 100) :
  vcall F nro k_zz82 [.pointer (some ⟨b, 0, some 3⟩), q] H = some (.int .i64 (ys.getD (srcN xs s ys.length).toNat 0), H.set b (srcO cd (srcS xs s ys.length))) := by
 have hlt := S.lt
 have hself : H.set b (srcO cd s) = H := hset_self S.at'
 refine v_zz82 (by simp [i_zz82]) ?_
 rw [fbody_eq]
 have e0 := (hq (srcO cd s)).vlen
 rw [hself] at e0
 have hn := S.next ys.length (by omega)
 obtain ⟨a1, a2, _⟩ := srcN_ok S.code s ys.length
 have a3 := a2 (by omega)
 obtain ⟨x, hx⟩ : ∃ x, x = srcN xs s ys.length := ⟨_, rfl⟩
 obtain ⟨s', hs'⟩ : ∃ s', s' = srcS xs s ys.length := ⟨_, rfl⟩
 rw [← hx] at hn a1 a3 ⊢
 rw [← hs'] at hn ⊢
 have e1 := (hq (srcO cd s')).vidx (k := .i64) (j := x) a1 a3
 have e2 := (hq (srcO cd s')).vload (j := x.toNat) (by omega)
 have e3 : ys[x.toNat]'(by omega) = ys.getD x.toNat 0 := by rw [List.getD_eq_getElem?_getD, List.getElem?_eq_getElem (by omega)]; rfl
 rw [e3] at e2
 have hc := fun vs => S.clean0 (s' := s') (vs := vs)
 obtain ⟨y, hy⟩ : ∃ y, y = ys.getD x.toNat 0 := ⟨_, rfl⟩
 rw [← hy] at e2 ⊢
 clear hy e3 hs' hself
 simp (disch := first | assumption | omega | (simp [*] <;> omega) | fail) [-getElem?_pos, List.getElem?_cons_zero, List.getElem?_cons_succ, i_zz82, e0, hn, e1, e2, hc]
end
end

/- A row's arguments, opened: codes. -/
section
open Go Go.ChangeShapes Go.WideShapes Go.ChangeAt Go.RowKit
theorem IsRow.code {W : World} {a : Option Addr} {len cap : Nat} {zs : List Int} (h : IsRow .u8 W a len cap zs) : Code' (zs.take len) := by
 refine ⟨h.len, fun x hx => ?_⟩
 have hx := List.mem_of_mem_take hx
 rcases h with ⟨_, _, _, rfl⟩ | ⟨_, _, _, _, _, _, hw⟩
 ·cases hx
 ·have := hw x hx
  simp [Lit.wf, IntKind.min, IntKind.max, IntKind.signed, IntKind.bits] at this
  omega
theorem in_bytes {H : Type} {enc : TypeId × Value → H} {P : Program} {W : World} {held : Bool} {t e : TypeId} {base : Nat} {v : Value} {d : DataW H} {p : List MemPlace} (ht : P.underlying t = some (.slice e)) (he : P.underlying e = some (.int .u8)) (hc : P.cellsOf e = 1) (hv : Value.okWide P W .any base t v) (h : DataW.Trod enc P W 0 (fun _ => true) held t v d p) :
  ∃ a len cap zs, v = .slice a len cap ∧ IsRow .u8 W a len cap zs := by
 obtain ⟨a2, l2, cp2, rfl⟩ := okWide_slice ht hv
 obtain ⟨m1, hm1⟩ := h
 obtain ⟨a2', l2', cp2', z2, e2, w2⟩ := IsRow.of ht he hc (v := .slice a2 l2 cp2) (by simpa [Value.cells] using hm1)
 exact ⟨_, _, _, z2, e2, w2⟩
end

/- What a graph is, and what the two tests for it compute. -/
section
open Go
variable {nro : Nat}
def rbit (rows : List Int) (v w : Nat) : Bool := (rows.getD v 0).toNat.testBit w
def RowOK (n : Int) (rows : List Int) (v : Nat) : Prop := 0 ≤ rows.getD v 0 ∧ rows.getD v 0 < 2 ^ n.toNat ∧ rbit rows v v = false
structure GV (n : Int) (rows : List Int) : Prop where
 lo : 1 ≤ n
 hi : n ≤ 62
 len : (rows.length : Int) = n
 row : ∀ v, v < rows.length → RowOK n rows v
 sym : ∀ v w, v < rows.length → w < rows.length → rbit rows v w = rbit rows w v
theorem pow_le62 {n : Int} (h : n ≤ 62) : (2 : Int) ^ n.toNat ≤ 4611686018427387904 := by
 have h1 : (2 : Nat) ^ n.toNat ≤ 4611686018427387904 := Nat.le_trans (Nat.pow_le_pow_right (by decide : 0 < 2) (by omega : n.toNat ≤ 62)) (by decide)
 have h2 : ((2 ^ n.toNat : Nat) : Int) = (2 : Int) ^ n.toNat := by simp
 rw [← h2]; omega
theorem pow_pos2 (k : Nat) : (1 : Int) ≤ 2 ^ k := by
 have h1 : 1 ≤ (2 : Nat) ^ k := Nat.one_le_two_pow
 have h2 : ((2 ^ k : Nat) : Int) = (2 : Int) ^ k := by simp
 rw [← h2]; omega
theorem bit_int {a b : Int} (ha : 0 ≤ a) (ha2 : a ≤ 9223372036854775807) (hb : b ≤ 64) : (iand .i64 (ishr .i64 a b) 1 = 1) ↔ a.toNat.testBit b.toNat = true := by
 have := bit_nat (a := a.toNat) (b := b) (by omega) hb
 rw [Int.toNat_of_nonneg ha] at this
 exact this
theorem bit_two {a b : Int} (ha : 0 ≤ a) (ha2 : a ≤ 9223372036854775807) (hb : b ≤ 64) : iand .i64 (ishr .i64 a b) 1 = if a.toNat.testBit b.toNat = true then 1 else 0 := by
 have h1 := bit_int ha ha2 hb
 split
 ·rename_i h; exact h1.mpr h
 ·rename_i h
  have h2 : iand .i64 (ishr .i64 a b) 1 = ((a.toNat >>> b.toNat % 2 : Nat) : Int) := by
   have e : a = (a.toNat : Int) := (Int.toNat_of_nonneg ha).symm
   rw [e, ishr_nat hb, iand_one, Int.toNat_natCast]
   rw [Nat.shiftRight_eq_div_pow]
   exact Nat.lt_of_le_of_lt (Nat.div_le_self _ _) (by omega)
  have h3 : ¬ iand .i64 (ishr .i64 a b) 1 = 1 := fun e => h (h1.mp e)
  omega
theorem c_zz94 (n lo hi : Int) (h : VH) : vcall F nro k_zz94 [.int .i64 n, .int .i64 lo, .int .i64 hi] h = some (.bool (decide (lo ≤ n ∧ n ≤ hi)), h) := by
 refine v_zz94 (by simp [i_zz94]) ?_
 rw [fbody_eq]
 simp [i_zz94]
 split <;> simp <;> omega
theorem c_zz88 (n a b : Int) (s : Value) (rows : List Int) (h : VH) (hs : Sli h s rows) (h1 : 0 ≤ a) (h2 : a < rows.length) (h3 : 0 ≤ b) (h4 : b ≤ 64) :
  vcall F nro k_zz88 [gv n s, .int .i64 a, .int .i64 b] h = some (.bool (decide (iand .i64 (ishr .i64 (rows.getD a.toNat 0) b) 1 = 1)), h) := by
 refine v_zz88 (by simp [i_zz88]) ?_
 rw [fbody_eq, getD_at rows (by omega)]
 simp (disch := first | assumption | omega | (simp [*] <;> omega) | fail) [i_zz88, hs.vidx', hs.vload', wrapu64]
theorem c_zz88' (n a b : Int) (s : Value) (rows : List Int) (h : VH) (hs : Sli h s rows) (h1 : 0 ≤ a) (h2 : a < rows.length) (h3 : 0 ≤ b) (h4 : b ≤ 64) (h5 : 0 ≤ rows.getD a.toNat 0) (h6 : rows.getD a.toNat 0 ≤ 9223372036854775807) :
  vcall F nro k_zz88 [gv n s, .int .i64 a, .int .i64 b] h = some (.bool (rbit rows a.toNat b.toNat), h) := by
 rw [c_zz88 n a b s rows h hs h1 h2 h3 h4]
 have := bit_int h5 h6 h4
 simp only [this, rbit]
 simp
theorem ishl_one' {n : Int} (h0 : 0 ≤ n) (h1 : n ≤ 62) : ishl .i64 1 n = 2 ^ n.toNat := by
 rw [ishl_one h1]; simp
abbrev bx (h : VH) (n : Int) (s : Value) : VH := h ++ [⟨0, [.int .i64 n, s]⟩]
abbrev bp (h : VH) : Value := .pointer (some ⟨h.length, 0, some 2⟩)
theorem rowOK_iff {n i : Int} {rows : List Int} (hn2 : n ≤ 62) (hi : 0 ≤ i) (hin : i < n) (hl : (rows.length : Int) = n) :
  RowOK n rows i.toNat ↔ (0 ≤ rows[i.toNat]'(by omega) ∧ rows[i.toNat]'(by omega) ≤ 2 ^ n.toNat - 1) ∧ ¬ iand .i64 (ishr .i64 (rows[i.toNat]'(by omega)) i) 1 = 1 := by
 have hp := pow_le62 hn2
 unfold RowOK rbit
 rw [getD_at rows (by omega)]
 constructor
 ·rintro ⟨h1, h2, h3⟩
  refine ⟨⟨h1, by omega⟩, fun e => ?_⟩
  rw [(bit_int h1 (by omega) (by omega)).mp e] at h3
  cases h3
 ·rintro ⟨⟨h1, h2⟩, h3⟩
  refine ⟨h1, by omega, ?_⟩
  rw [bit_int h1 (by omega) (by omega)] at h3
  simpa using h3
open Classical in
theorem l_zz95_1 (n : Int) (s : Value) (rows : List Int) (h : VH) (hs : Sli h s rows) (hn1 : 1 ≤ n) (hn2 : n ≤ 62) (hl : (rows.length : Int) = n) :
  floop (vcall F nro) nro [1, 3] i_zz95_B1 (bx h n s) [bp h, .int .i64 0] (bx h n s) =
   if ∃ j : Int, 0 ≤ j ∧ j < n ∧ ¬ RowOK n rows j.toNat then some (.ret, fl [(2, .bool false)], bx h n s) else some (.exit 0, fl [(1, bp h)], bx h n s) := by
 refine search (fun i => floop (vcall F nro) nro [1, 3] i_zz95_B1 (bx h n s) [bp h, .int .i64 i] (bx h n s)) (fun i => ¬ RowOK n rows i.toNat) _ _ n 0 ?_ ?_ 0 (by omega)
 ·intro i hi hlt
  have hc := fun (x a b : Int) => c_zz94 (nro := nro) x a b (bx h n s)
  have hc2 := c_zz88 (nro := nro) n i i s rows (bx h n s) (hs.app _) hi (by omega) hi (by omega)
  have hp := pow_le62 hn2
  have hp1 := pow_pos2 n.toNat
  rw [floop_at i_zz95_B1.eq_1, rowOK_iff hn2 hi hlt hl]
  constructor <;> intro hb
  ·simp (disch := first | assumption | omega | (simp [*] <;> omega) | fail) [hs.vlen', hs.vidx', hs.vload', wrap64, wrapu64, hlt, hc, hc2, ishl_one']
   intro h1 h2 h3
   exact absurd ⟨⟨h1, h2⟩, h3⟩ hb
  ·obtain ⟨⟨g1, g2⟩, g3⟩ := Classical.not_not.mp hb
   simp (disch := first | assumption | omega | (simp [*] <;> omega) | fail) [hs.vlen', hs.vidx', hs.vload', wrap64, wrapu64, hlt, hc, hc2, ishl_one', g1, g2, g3]
 ·intro i hi hlt
  rw [floop_at i_zz95_B1.eq_1]
  simp (disch := first | assumption | omega | (simp [*] <;> omega) | fail) [hlt]
open Classical in
theorem l_zz95_2 (n : Int) (s : Value) (rows : List Int) (h : VH) (hs : Sli h s rows) (hn1 : 1 ≤ n) (hn2 : n ≤ 62) (hl : (rows.length : Int) = n) (hr : ∀ j : Int, 0 ≤ j → j < n → RowOK n rows j.toNat) (v : Int) (hv : 0 ≤ v) (hvn : v < n) :
  floop (vcall F nro) nro [1, 4, 5] i_zz95_B2 (bx h n s) [bp h, .int .i64 v, .int .i64 0] (bx h n s) =
   if ∃ j : Int, 0 ≤ j ∧ j < v ∧ rbit rows v.toNat j.toNat ≠ rbit rows j.toNat v.toNat then some (.ret, fl [(2, .bool false)], bx h n s) else some (.exit 4, fl [(1, bp h), (4, .int .i64 v)], bx h n s) := by
 refine search (fun i => floop (vcall F nro) nro [1, 4, 5] i_zz95_B2 (bx h n s) [bp h, .int .i64 v, .int .i64 i] (bx h n s)) (fun j => rbit rows v.toNat j.toNat ≠ rbit rows j.toNat v.toNat) _ _ v 0 ?_ ?_ 0 (by omega)
 ·intro i hi hlt
  have hp := pow_le62 hn2
  obtain ⟨r1, r2, _⟩ := hr i hi (by omega)
  obtain ⟨q1, q2, _⟩ := hr v hv hvn
  have hc1 := c_zz88' (nro := nro) n v i s rows (bx h n s) (hs.app _) hv (by omega) hi (by omega) q1 (by omega)
  have hc2 := c_zz88' (nro := nro) n i v s rows (bx h n s) (hs.app _) hi (by omega) hv (by omega) r1 (by omega)
  rw [floop_at i_zz95_B2.eq_1]
  constructor <;> intro hb
  ·simp (disch := first | assumption | omega | (simp [*] <;> omega) | fail) [wrap64, hlt, hc1, hc2, hb]
  ·simp (disch := first | assumption | omega | (simp [*] <;> omega) | fail) [wrap64, hlt, hc1, hc2, Classical.not_not.mp hb]
 ·intro i hi hlt
  rw [floop_at i_zz95_B2.eq_1]
  simp (disch := first | assumption | omega | (simp [*] <;> omega) | fail) [hlt]
open Classical in
theorem l_zz95_3 (n : Int) (s : Value) (rows : List Int) (h : VH) (hs : Sli h s rows) (hn1 : 1 ≤ n) (hn2 : n ≤ 62) (hl : (rows.length : Int) = n) (hr : ∀ j : Int, 0 ≤ j → j < n → RowOK n rows j.toNat) :
  floop (vcall F nro) nro [1, 4] i_zz95_B3 (bx h n s) [bp h, .int .i64 0] (bx h n s) =
   if ∃ v : Int, 0 ≤ v ∧ v < n ∧ ∃ j : Int, 0 ≤ j ∧ j < v ∧ rbit rows v.toNat j.toNat ≠ rbit rows j.toNat v.toNat then some (.ret, fl [(2, .bool false)], bx h n s) else some (.exit 2, fl [], bx h n s) := by
 refine search (fun i => floop (vcall F nro) nro [1, 4] i_zz95_B3 (bx h n s) [bp h, .int .i64 i] (bx h n s)) (fun v => ∃ j : Int, 0 ≤ j ∧ j < v ∧ rbit rows v.toNat j.toNat ≠ rbit rows j.toNat v.toNat) _ _ n 0 ?_ ?_ 0 (by omega)
 ·intro i hi hlt
  have hin := l_zz95_2 (nro := nro) n s rows h hs hn1 hn2 hl hr i hi hlt
  rw [floop_at i_zz95_B3.eq_1]
  constructor <;> intro hb
  ·rw [if_pos hb] at hin
   simp (disch := first | assumption | omega | (simp [*] <;> omega) | fail) [wrap64, hlt, hin]
  ·rw [if_neg hb] at hin
   simp (disch := first | assumption | omega | (simp [*] <;> omega) | fail) [wrap64, hlt, hin]
 ·intro i hi hlt
  rw [floop_at i_zz95_B3.eq_1]
  simp (disch := first | assumption | omega | (simp [*] <;> omega) | fail) [hlt]
theorem GV_iff {n : Int} {rows : List Int} : GV n rows ↔ 1 ≤ n ∧ n ≤ 62 ∧ (rows.length : Int) = n ∧ (∀ j : Int, 0 ≤ j → j < n → RowOK n rows j.toNat) ∧ ¬ ∃ v : Int, 0 ≤ v ∧ v < n ∧ ∃ j : Int, 0 ≤ j ∧ j < v ∧ rbit rows v.toNat j.toNat ≠ rbit rows j.toNat v.toNat := by
 constructor
 ·rintro ⟨h1, h2, h3, h4, h5⟩
  refine ⟨h1, h2, h3, fun j h6 h7 => h4 _ (by omega), ?_⟩
  rintro ⟨v, h6, h7, j, h8, h9, h10⟩
  exact h10 (h5 _ _ (by omega) (by omega))
 ·rintro ⟨h1, h2, h3, h4, h5⟩
  have key : ∀ v w : Nat, w < v → v < rows.length → rbit rows v w = rbit rows w v := by
   intro v w h6 h7
   apply Classical.byContradiction
   intro h8
   exact h5 ⟨v, by omega, by omega, w, by omega, by omega, by simpa using h8⟩
  refine ⟨h1, h2, h3, fun v hv => by simpa using h4 v (by omega) (by omega), fun v w hv hw => ?_⟩
  rcases Nat.lt_trichotomy v w with h6 | h6 | h6
  ·exact (key w v h6 hw).symm
  ·rw [h6]
  ·exact key v w h6 hv
open Classical in
theorem c_zz95 (n : Int) (s : Value) (rows : List Int) (h : VH) (hs : Sli h s rows) :
  vcall F nro k_zz95 [gv n s] h = some (.bool (decide (GV n rows)), h) := by
 refine v_zz95 (by simp [i_zz95]) ?_
 rw [fbody_eq]
 have hc := fun (x a b : Int) => c_zz94 (nro := nro) x a b (bx h n s)
 by_cases hn : 1 ≤ n ∧ n ≤ 62
 ·obtain ⟨hn1, hn2⟩ := hn
  by_cases hl : (rows.length : Int) = n
  ·have hl1 := l_zz95_1 (nro := nro) n s rows h hs hn1 hn2 hl
   by_cases hb : ∃ j : Int, 0 ≤ j ∧ j < n ∧ ¬ RowOK n rows j.toNat
   ·rw [if_pos hb] at hl1
    have : ¬ GV n rows := by
     rw [GV_iff]
     rintro ⟨_, _, _, h4, _⟩
     obtain ⟨j, h5, h6, h7⟩ := hb
     exact h7 (h4 j h5 h6)
    simp (disch := first | assumption | omega | (simp [*] <;> omega) | fail) [i_zz95, hc, hn1, hn2, hs.vlen', hl, hl1, this]
   ·rw [if_neg hb] at hl1
    have hr : ∀ j : Int, 0 ≤ j → j < n → RowOK n rows j.toNat := fun j h1 h2 => Classical.byContradiction fun h3 => hb ⟨j, h1, h2, h3⟩
    have hl3 := l_zz95_3 (nro := nro) n s rows h hs hn1 hn2 hl hr
    by_cases hb2 : ∃ v : Int, 0 ≤ v ∧ v < n ∧ ∃ j : Int, 0 ≤ j ∧ j < v ∧ rbit rows v.toNat j.toNat ≠ rbit rows j.toNat v.toNat
    ·rw [if_pos hb2] at hl3
     have : ¬ GV n rows := by
      rw [GV_iff]
      rintro ⟨_, _, _, _, h4⟩
      exact h4 hb2
     simp (disch := first | assumption | omega | (simp [*] <;> omega) | fail) [i_zz95, hc, hn1, hn2, hs.vlen', hl, hl1, hl3, this]
    ·rw [if_neg hb2] at hl3
     have : GV n rows := GV_iff.mpr ⟨hn1, hn2, hl, hr, hb2⟩
     simp (disch := first | assumption | omega | (simp [*] <;> omega) | fail) [i_zz95, hc, hn1, hn2, hs.vlen', hl, hl1, hl3, this]
  ·have : ¬ GV n rows := fun g => hl g.len
   simp (disch := first | assumption | omega | (simp [*] <;> omega) | fail) [i_zz95, hc, hn1, hn2, hs.vlen', hl, this]
 ·have : ¬ GV n rows := fun g => hn ⟨g.lo, g.hi⟩
  simp (disch := first | assumption | omega | (simp [*] <;> omega) | fail) [i_zz95, hc, hn, this]
end

/- The program's own test for a graph. -/
section
open Go
variable {nro : Nat}
open Classical in
theorem l_zz73_1 (n : Int) (s : Value) (rows : List Int) (h : VH) (hs : Sli h s rows) (hn1 : 1 ≤ n) (hn2 : n ≤ 62) (hl : (rows.length : Int) = n) (v x : Int) (hv : 0 ≤ v) (hvn : v < n) :
  floop (vcall F nro) nro [1, 3, 4, 5, 23, 24, 25, 45, 46] i_zz73_B1 (bx h n s) [bp h, .int .i64 n, .int .i64 v, .int .i64 (x), s, .int .i64 n, .int .i64 v, .int .i64 n, .int .i64 0] (bx h n s) =
   if ∃ j : Int, 0 ≤ j ∧ j < n ∧ iand .i64 (ishr .i64 (x) j) 1 ≠ iand .i64 (ishr .i64 (rows.getD j.toNat 0) v) 1 then some (.ret, fl [(2, .bool false)], bx h n s) else some (.exit 2, fl [(1, bp h), (3, .int .i64 n), (23, s), (24, .int .i64 n), (25, .int .i64 v)], bx h n s) := by
 refine search (fun i => floop (vcall F nro) nro [1, 3, 4, 5, 23, 24, 25, 45, 46] i_zz73_B1 (bx h n s) [bp h, .int .i64 n, .int .i64 v, .int .i64 (x), s, .int .i64 n, .int .i64 v, .int .i64 n, .int .i64 i] (bx h n s)) (fun j => iand .i64 (ishr .i64 (x) j) 1 ≠ iand .i64 (ishr .i64 (rows.getD j.toNat 0) v) 1) _ _ n 0 ?_ ?_ 0 (by omega)
 ·intro i hi hlt
  have hso := fun k => hs.oldk (k := k)
  rw [floop_at i_zz73_B1.eq_1, getD_at rows (i := i.toNat) (by omega)]
  constructor <;> intro hb
  ·simp (disch := first | assumption | omega | (simp [*] <;> omega) | fail) [hs.vlen', hs.vidx', hs.vload', wrap64, hlt, hb]
  ·simp (disch := first | assumption | omega | (simp [*] <;> omega) | fail) [hs.vlen', hs.vidx', hs.vload', wrap64, hlt, Classical.not_not.mp hb]
 ·intro i hi hlt
  rw [floop_at i_zz73_B1.eq_1]
  simp (disch := first | assumption | omega | (simp [*] <;> omega) | fail) [hlt]
def RowAll (n : Int) (rows : List Int) (v : Nat) : Prop := RowOK n rows v ∧ ¬ ∃ j : Int, 0 ≤ j ∧ j < n ∧ iand .i64 (ishr .i64 (rows.getD v 0) j) 1 ≠ iand .i64 (ishr .i64 (rows.getD j.toNat 0) (v : Int)) 1
open Classical in
theorem l_zz73_2 (n : Int) (s : Value) (rows : List Int) (h : VH) (hs : Sli h s rows) (hn1 : 1 ≤ n) (hn2 : n ≤ 62) (hl : (rows.length : Int) = n) :
  floop (vcall F nro) nro [1, 3, 23, 24, 25] i_zz73_B2 (bx h n s) [bp h, .int .i64 n, s, .int .i64 n, .int .i64 0] (bx h n s) =
   if ∃ j : Int, 0 ≤ j ∧ j < n ∧ ¬ RowAll n rows j.toNat then some (.ret, fl [(2, .bool false)], bx h n s) else some (.exit 0, fl [], bx h n s) := by
 refine search (fun i => floop (vcall F nro) nro [1, 3, 23, 24, 25] i_zz73_B2 (bx h n s) [bp h, .int .i64 n, s, .int .i64 n, .int .i64 i] (bx h n s)) (fun i => ¬ RowAll n rows i.toNat) _ _ n 0 ?_ ?_ 0 (by omega)
 ·intro i hi hlt
  have hso := fun k => hs.oldk (k := k)
  have hp := pow_le62 hn2
  have hp1 := pow_pos2 n.toNat
  have hok := rowOK_iff hn2 hi hlt hl
  have e : rows.getD i.toNat 0 = rows[i.toNat]'(by omega) := getD_at _ (by omega)
  rw [floop_at i_zz73_B2.eq_1]
  by_cases hr : RowOK n rows i.toNat
  ·obtain ⟨⟨g1, g2⟩, g3⟩ := hok.mp hr
   have g4 : ¬ rows[i.toNat]'(by omega) < 0 := by omega
   have g5 : ¬ 2 ^ n.toNat ≤ rows[i.toNat]'(by omega) := by omega
   have hin := l_zz73_1 (nro := nro) n s rows h hs hn1 hn2 hl i (rows[i.toNat]'(by omega)) hi hlt
   have e2 : ((i.toNat : Nat) : Int) = i := Int.toNat_of_nonneg hi
   unfold RowAll
   rw [e]
   constructor <;> intro hb
   ·have hb' : ∃ j : Int, 0 ≤ j ∧ j < n ∧ iand .i64 (ishr .i64 (rows[i.toNat]'(by omega)) j) 1 ≠ iand .i64 (ishr .i64 (rows.getD j.toNat 0) i) 1 := Classical.byContradiction fun hno => hb ⟨hr, by simpa [e2] using hno⟩
    rw [if_pos hb'] at hin
    simp (disch := first | assumption | omega | (simp [*] <;> omega) | fail) [hs.vlen', hs.vidx', hs.vload', wrap64, hlt, ishl_one', g3, g4, g5, hin]
   ·rw [if_neg (by simpa [e2] using (Classical.not_not.mp hb).2)] at hin
    simp (disch := first | assumption | omega | (simp [*] <;> omega) | fail) [hs.vlen', hs.vidx', hs.vload', wrap64, hlt, ishl_one', g3, g4, g5, hin]
  ·constructor <;> intro hb
   ·simp (disch := first | assumption | omega | (simp [*] <;> omega) | fail) [hs.vlen', hs.vidx', hs.vload', wrap64, hlt, ishl_one']
    intro h1 h2 h3
    exact absurd (hok.mpr ⟨⟨h1, by omega⟩, h3⟩) hr
   ·exact absurd (Classical.not_not.mp hb).1 hr
 ·intro i hi hlt
  rw [floop_at i_zz73_B2.eq_1]
  simp (disch := first | assumption | omega | (simp [*] <;> omega) | fail) [hlt]
theorem rowAll_iff {n : Int} {rows : List Int} (hn1 : 1 ≤ n) (hn2 : n ≤ 62) (hl : (rows.length : Int) = n) : (∀ j : Int, 0 ≤ j → j < n → RowAll n rows j.toNat) ↔ GV n rows := by
 have hp := pow_le62 hn2
 -- what the rows' own bits are
 have hbits : (∀ v, v < rows.length → RowOK n rows v) → ∀ v j : Nat, v < rows.length → j < rows.length → (iand .i64 (ishr .i64 (rows.getD v 0) j) 1 = iand .i64 (ishr .i64 (rows.getD j 0) v) 1 ↔ rbit rows v j = rbit rows j v) := by
  intro hr v j hv hj
  obtain ⟨a1, a2, _⟩ := hr v hv
  obtain ⟨b1, b2, _⟩ := hr j hj
  rw [bit_two a1 (by omega) (by omega), bit_two b1 (by omega) (by omega)]
  simp only [rbit, Int.toNat_natCast]
  by_cases x : (rows.getD v 0).toNat.testBit j = true <;> by_cases y : (rows.getD j 0).toNat.testBit v = true <;> simp only [x, y] <;> simp_all
 constructor
 ·intro h
  have hr : ∀ v, v < rows.length → RowOK n rows v := fun v hv => by simpa using (h v (by omega) (by omega)).1
  refine ⟨hn1, hn2, hl, hr, fun v w hv hw => ?_⟩
  rw [← hbits hr v w hv hw]
  have h2 := (h v (by omega) (by omega)).2
  apply Classical.byContradiction
  intro hno
  exact h2 ⟨w, by omega, by omega, by simpa using hno⟩
 ·intro g j h0 h1
  refine ⟨g.row _ (by omega), ?_⟩
  rintro ⟨k, h2, h3, h4⟩
  have := (hbits g.row j.toNat k.toNat (by omega) (by omega)).mpr (g.sym _ _ (by omega) (by omega))
  rw [Int.toNat_of_nonneg h2] at this
  exact h4 (by simpa [Int.toNat_of_nonneg h2] using this)
open Classical in
theorem c_zz73 (n : Int) (s : Value) (rows : List Int) (h : VH) (hs : Sli h s rows) :
  vcall F nro k_zz73 [gv n s] h = some (.bool (decide (GV n rows)), h) := by
 refine v_zz73 (by simp [i_zz73]) ?_
 rw [fbody_eq]
 by_cases hn : 1 ≤ n ∧ n ≤ 62
 ·obtain ⟨hn1, hn2⟩ := hn
  have hn1' : ¬ n < 1 := by omega
  have hn2' : ¬ 62 < n := by omega
  by_cases hl : (rows.length : Int) = n
  ·have hl1 := l_zz73_2 (nro := nro) n s rows h hs hn1 hn2 hl
   by_cases hb : ∃ j : Int, 0 ≤ j ∧ j < n ∧ ¬ RowAll n rows j.toNat
   ·rw [if_pos hb] at hl1
    have : ¬ GV n rows := by
     rw [← rowAll_iff hn1 hn2 hl]
     intro h4
     obtain ⟨j, h5, h6, h7⟩ := hb
     exact h7 (h4 j h5 h6)
    simp (disch := first | assumption | omega | (simp [*] <;> omega) | fail) [i_zz73, hn1', hn2', hs.vlen', hl, hl1, this]
   ·rw [if_neg hb] at hl1
    have : GV n rows := (rowAll_iff hn1 hn2 hl).mp fun j h1 h2 => Classical.byContradiction fun h3 => hb ⟨j, h1, h2, h3⟩
    simp (disch := first | assumption | omega | (simp [*] <;> omega) | fail) [i_zz73, hn1', hn2', hs.vlen', hl, hl1, this]
  ·have : ¬ GV n rows := fun g => hl g.len
   simp (disch := first | assumption | omega | (simp [*] <;> omega) | fail) [i_zz73, hn1', hn2', hs.vlen', hl, this]
 ·have : ¬ GV n rows := fun g => hn ⟨g.lo, g.hi⟩
  by_cases h1 : n < 1
  ·simp (disch := first | assumption | omega | (simp [*] <;> omega) | fail) [i_zz73, h1, this]
  ·have h2 : 62 < n := by omega
   simp (disch := first | assumption | omega | (simp [*] <;> omega) | fail) [i_zz73, h1, h2, this]
end

/- Rows of bits that are filled in: edges put in. -/
section
open Go
variable {nro : Nat}
noncomputable def set1 (r : List Int) (a b : Int) : List Int := r.set a.toNat (ior .i64 (r.getD a.toNat 0) (ishl .i64 1 b))
noncomputable def put2 (r : List Int) (a b : Int) : List Int := set1 (set1 r a b) b a
@[simp] theorem set1_length (r : List Int) (a b : Int) : (set1 r a b).length = r.length := by simp [set1]
@[simp] theorem put2_length (r : List Int) (a b : Int) : (put2 r a b).length = r.length := by simp [put2]
def IsAdj (N : Nat) (r : List Int) (adj : Nat → Nat → Prop) : Prop :=
 r.length = N ∧ ∀ v, v < N → 0 ≤ r.getD v 0 ∧ r.getD v 0 < 4611686018427387904 ∧ ∀ w, rbit r v w = true ↔ adj v w
theorem setbit {x b : Int} (hx : 0 ≤ x) (hx2 : x < 4611686018427387904) (hb : 0 ≤ b) (hb2 : b < 62) :
  0 ≤ ior .i64 x (ishl .i64 1 b) ∧ ior .i64 x (ishl .i64 1 b) < 4611686018427387904 ∧ ∀ w : Nat, (ior .i64 x (ishl .i64 1 b)).toNat.testBit w = true ↔ x.toNat.testBit w = true ∨ w = b.toNat := by
 have hp : 2 ^ b.toNat < 2 ^ 62 := Nat.pow_lt_pow_right (by omega) (by omega)
 have e : ior .i64 x (ishl .i64 1 b) = ((x.toNat ||| 2 ^ b.toNat : Nat) : Int) := by
  rw [ishl_one (by omega)]
  have e1 : x = (x.toNat : Int) := (Int.toNat_of_nonneg hx).symm
  rw [e1, ior_nat (by omega) (by omega), Int.toNat_natCast]
 have hlt : x.toNat ||| 2 ^ b.toNat < 2 ^ 62 := Nat.or_lt_two_pow (by omega) hp
 rw [e]
 refine ⟨by omega, by omega, fun w => ?_⟩
 rw [Int.toNat_natCast, Nat.testBit_or, Nat.testBit_two_pow, Bool.or_eq_true, decide_eq_true_eq]
 constructor
 ·rintro (h | h)
  ·exact .inl h
  ·exact .inr h.symm
 ·rintro (h | h)
  ·exact .inl h
  ·exact .inr h.symm
theorem IsAdj.set1 {N : Nat} {r : List Int} {adj : Nat → Nat → Prop} (h : IsAdj N r adj) {a b : Int} (ha : 0 ≤ a) (ha2 : a < N) (hb : 0 ≤ b) (hb2 : b < 62) :
  IsAdj N (set1 r a b) (fun v w => adj v w ∨ (v = a.toNat ∧ w = b.toNat)) := by
 obtain ⟨hl, hr⟩ := h
 refine ⟨by simp [hl], fun v hv => ?_⟩
 obtain ⟨h1, h2, h3⟩ := hr v hv
 by_cases e : v = a.toNat
 ·subst e
  have hg : (Zv.set1 r a b).getD a.toNat 0 = ior .i64 (r.getD a.toNat 0) (ishl .i64 1 b) := by
   rw [getD_at _ (by simp; omega)]
   simp [Zv.set1]
  obtain ⟨k1, k2, k3⟩ := setbit h1 h2 hb hb2
  unfold rbit
  rw [hg]
  refine ⟨k1, k2, fun w => ?_⟩
  rw [k3]
  have := h3 w
  unfold rbit at this
  rw [this]
  simp
 ·have hg : (Zv.set1 r a b).getD v 0 = r.getD v 0 := by
   unfold Zv.set1
   simp only [List.getD_eq_getElem?_getD, List.getElem?_set]
   rw [if_neg (fun h => e h.symm)]
  unfold rbit
  rw [hg]
  refine ⟨h1, h2, fun w => ?_⟩
  have := h3 w
  unfold rbit at this
  rw [this]
  simp [e]
theorem IsAdj.put2 {N : Nat} {r : List Int} {adj : Nat → Nat → Prop} (h : IsAdj N r adj) {a b : Int} (ha : 0 ≤ a) (ha2 : a < N) (hb : 0 ≤ b) (hb2 : b < N) (hN : N ≤ 62) :
  IsAdj N (put2 r a b) (fun v w => adj v w ∨ (v = a.toNat ∧ w = b.toNat) ∨ (v = b.toNat ∧ w = a.toNat)) := by
 have h1 := (h.set1 ha ha2 hb (by omega)).set1 hb hb2 ha (by omega)
 refine ⟨h1.1, fun v hv => ?_⟩
 obtain ⟨k1, k2, k3⟩ := h1.2 v hv
 refine ⟨k1, k2, fun w => ?_⟩
 exact (k3 w).trans or_assoc
theorem IsAdj.congr {N : Nat} {r : List Int} {adj adj' : Nat → Nat → Prop} (h : IsAdj N r adj) (e : ∀ v w, v < N → (adj v w ↔ adj' v w)) : IsAdj N r adj' :=
 ⟨h.1, fun v hv => ⟨(h.2 v hv).1, (h.2 v hv).2.1, fun w => ((h.2 v hv).2.2 w).trans (e v w hv)⟩⟩
theorem IsAdj.unique {N : Nat} {r r' : List Int} {adj : Nat → Nat → Prop} (h : IsAdj N r adj) (h' : IsAdj N r' adj) : r = r' := by
 apply List.ext_getElem (h.1.trans h'.1.symm)
 intro v h1 h2
 have hv : v < N := by rw [← h.1]; exact h1
 obtain ⟨a1, a2, a3⟩ := h.2 v hv
 obtain ⟨b1, b2, b3⟩ := h'.2 v hv
 have : (r.getD v 0).toNat = (r'.getD v 0).toNat := by
  apply Nat.eq_of_testBit_eq
  intro w
  have := (a3 w).trans (b3 w).symm
  unfold rbit at this
  cases h1 : (r.getD v 0).toNat.testBit w <;> cases h2 : (r'.getD v 0).toNat.testBit w <;> simp_all
 rw [getD_at r h1, getD_at r' h2] at this
 rw [getD_at r h1] at a1
 rw [getD_at r' h2] at b1
 omega
theorem IsAdj.zero (N : Nat) : IsAdj N (List.replicate N 0) (fun _ _ => False) := by
 refine ⟨by simp, fun v hv => ?_⟩
 have e : (List.replicate N (0 : Int)).getD v 0 = 0 := by simp [List.getD_eq_getElem?_getD, List.getElem?_replicate, hv]
 unfold rbit
 rw [e]
 simp
theorem set1_at {r : List Int} {a b : Int} (h : a.toNat < r.length) : set1 r a b = r.set a.toNat (ior .i64 r[a.toNat] (ishl .i64 1 b)) := by
 unfold set1
 rw [getD_at _ h]
theorem put2_at {r : List Int} {a b : Int} (h : a.toNat < r.length) (h2 : b.toNat < (r.set a.toNat (ior .i64 r[a.toNat] (ishl .i64 1 b))).length) : put2 r a b = (r.set a.toNat (ior .i64 r[a.toNat] (ishl .i64 1 b))).set b.toNat (ior .i64 (r.set a.toNat (ior .i64 r[a.toNat] (ishl .i64 1 b)))[b.toNat] (ishl .i64 1 a)) := by
 unfold put2
 rw [set1_at h, set1_at h2]
@[simp] theorem old_tup0 (n : Nat) : Old n (.tuple #[]) := old_undef n
theorem c_zz90 (n : Int) (b0 N : Nat) (a b : Int) (r : List Int) (h : VH) (hb : h[b0]? = some ⟨1, ints r⟩) (hl : r.length = N) (hn : nro ≤ b0) (ha : 0 ≤ a) (ha2 : a < N) (hb1 : 0 ≤ b) (hb2 : b < N) (hN : N ≤ 62) :
  vcall F nro k_zz90 [gv n (.slice (some ⟨b0, 0, none⟩) N N), .int .i64 a, .int .i64 b] h = some (.tuple #[], h.set b0 ⟨1, ints (put2 r a b)⟩) := by
 refine v_zz90 (by simp [i_zz90]) ?_
 rw [fbody_eq, put2_at (by omega) (by simp; omega)]
 simp (disch := first | assumption | omega | (simp [*] <;> omega) | fail) [i_zz90, hget_old hb, hset_old hb, hget_set hb, hset_set hb, hl, ha2, hb2, wrapu64, take1_ints, splice_ints, hn, ha, hb1]
theorem c_zz53 (n : Int) (b0 N : Nat) (a b : Int) (r : List Int) (h : VH) (hb : h[b0]? = some ⟨1, ints r⟩) (hl : r.length = N) (hn : nro ≤ b0) (ha : 0 ≤ a) (ha2 : a < N) (hb1 : 0 ≤ b) (hb2 : b < N) (hN : N ≤ 62) :
  vcall F nro k_zz53 [gv n (.slice (some ⟨b0, 0, none⟩) N N), .int .i64 a, .int .i64 b] h = some (.tuple #[], if a = b then h else h.set b0 ⟨1, ints (put2 r a b)⟩) := by
 refine v_zz53 (by simp [i_zz53]) ?_
 rw [fbody_eq]
 by_cases hab : a = b
 ·rw [if_pos hab]
  simp (disch := first | assumption | omega | (simp [*] <;> omega) | fail) [i_zz53, hab]
 ·rw [if_neg hab, put2_at (by omega) (by simp; omega)]
  simp (disch := first | assumption | omega | (simp [*] <;> omega) | fail) [i_zz53, hget_old hb, hset_old hb, hget_set hb, hset_set hb, hl, ha2, hb2, take1_ints, splice_ints, hn, ha, hb1, hab]
theorem c_zz52 (n a b : Int) (s : Value) (rows : List Int) (h : VH) (hs : Sli h s rows) (h1 : 0 ≤ a) (h2 : a < rows.length) (h3 : 0 ≤ b) (h4 : b ≤ 64) (h5 : 0 ≤ rows.getD a.toNat 0) (h6 : rows.getD a.toNat 0 ≤ 9223372036854775807) :
  vcall F nro k_zz52 [gv n s, .int .i64 a, .int .i64 b] h = some (.bool (rbit rows a.toNat b.toNat), h) := by
 refine v_zz52 (by simp [i_zz52]) ?_
 have e := bit_int h5 h6 h4
 unfold rbit
 rw [fbody_eq]
 rw [getD_at rows (by omega)] at e ⊢
 simp (disch := first | assumption | omega | (simp [*] <;> omega) | fail) [i_zz52, hs.vidx', hs.vload', e]
theorem c_zz67 (n : Int) (h : VH) (h0 : 0 ≤ n) (h1 : n ≤ 1000) (hn : nro ≤ h.length) :
  vcall F nro k_zz67 [.int .i64 n] h = some (gv n (.slice (some ⟨h.length, 0, none⟩) n.toNat n.toNat), h ++ [⟨1, ints (List.replicate n.toNat 0)⟩]) := by
 refine v_zz67 (by simp [i_zz67]) ?_
 rw [fbody_eq]
 have e : 8 * n ≤ 140737488355328 := by omega
 have e2 : n ≤ 140737488355328 := by omega
 simp (disch := first | assumption | omega | (simp [*] <;> omega) | fail) [i_zz67, fresults, fresL, fres1, h0, e, e2, hn]
theorem c_zz93 (n : Int) (h : VH) (h0 : 0 ≤ n) (h1 : n ≤ 1000) (hn : nro ≤ h.length) :
  vcall F nro k_zz93 [.int .i64 n] h = some (gv n (.slice (some ⟨h.length, 0, none⟩) n.toNat n.toNat), h ++ [⟨1, ints (List.replicate n.toNat 0)⟩]) := by
 refine v_zz93 (by simp [i_zz93]) ?_
 rw [fbody_eq]
 have e : 8 * n ≤ 140737488355328 := by omega
 have e2 : n ≤ 140737488355328 := by omega
 simp (disch := first | assumption | omega | (simp [*] <;> omega) | fail) [i_zz93, fresults, fresL, fres1, h0, e, e2, hn]
noncomputable def adjRows (N : Nat) (adj : Nat → Nat → Prop) : List Int := Classical.epsilon fun r => IsAdj N r adj
theorem IsAdj.eq {N : Nat} {r : List Int} {adj : Nat → Nat → Prop} (h : IsAdj N r adj) : adjRows N adj = r :=
 IsAdj.unique (Classical.epsilon_spec (p := fun r => IsAdj N r adj) ⟨r, h⟩) h
open Classical in
noncomputable def bitsOf (p : Nat → Prop) : Nat → Nat
 | 0 => 0
 | k + 1 => bitsOf p k ||| if p k then 2 ^ k else 0
theorem bitsOf_lt (p : Nat → Prop) (k : Nat) : bitsOf p k < 2 ^ k := by
 induction k with
 | zero => simp [bitsOf]
 | succ k ih =>
  unfold bitsOf
  refine Nat.or_lt_two_pow (Nat.lt_of_lt_of_le ih (Nat.pow_le_pow_right (by omega) (by omega))) ?_
  split
  ·exact Nat.pow_lt_pow_right (by omega) (by omega)
  ·exact Nat.two_pow_pos _
theorem bitsOf_bit (p : Nat → Prop) (k w : Nat) : (bitsOf p k).testBit w = true ↔ w < k ∧ p w := by
 induction k with
 | zero => simp [bitsOf]
 | succ k ih =>
  unfold bitsOf
  rw [Nat.testBit_or, Bool.or_eq_true, ih]
  split
  ·rename_i h
   rw [Nat.testBit_two_pow, decide_eq_true_eq]
   constructor
   ·rintro (⟨h1, h2⟩ | h1)
    ·exact ⟨by omega, h2⟩
    ·subst h1; exact ⟨by omega, h⟩
   ·rintro ⟨h1, h2⟩
    by_cases e : k = w
    ·exact .inr e
    ·exact .inl ⟨by omega, h2⟩
  ·rename_i h
   constructor
   ·rintro (⟨h1, h2⟩ | h1)
    ·exact ⟨by omega, h2⟩
    ·simp at h1
   ·rintro ⟨h1, h2⟩
    have : k ≠ w := fun e => h (e ▸ h2)
    exact .inl ⟨by omega, h2⟩
theorem IsAdj.exist (N : Nat) (adj : Nat → Nat → Prop) (h : ∀ v w, v < N → adj v w → w < 62) : IsAdj N ((List.range N).map fun v => (bitsOf (adj v) 62 : Int)) adj := by
 refine ⟨by simp, fun v hv => ?_⟩
 have e : ((List.range N).map fun v => (bitsOf (adj v) 62 : Int)).getD v 0 = (bitsOf (adj v) 62 : Int) := by
  rw [getD_at _ (by simpa using hv)]
  simp
 have hlt := bitsOf_lt (adj v) 62
 unfold rbit
 rw [e]
 refine ⟨by omega, by omega, fun w => ?_⟩
 rw [Int.toNat_natCast, bitsOf_bit]
 exact ⟨fun h1 => h1.2, fun h1 => ⟨h v w hv h1, h1⟩⟩
theorem adjRows_is {N : Nat} {adj : Nat → Nat → Prop} (h : ∀ v w, v < N → adj v w → w < 62) : IsAdj N (adjRows N adj) adj := by
 rw [(IsAdj.exist N adj h).eq]
 exact IsAdj.exist N adj h
abbrev GAns := (Int × List Int) ⊕ Int
def gres (h : VH) : GAns → Value × VH
 | .inl (m, r) => (.tuple #[gv m (.slice (some ⟨h.length, 0, none⟩) r.length r.length), .int .i64 0], h ++ [⟨1, ints r⟩])
 | .inr c => (.tuple #[gv 0 (.slice none 0 0), .int .i64 c], h)
@[simp] theorem gres_inl (h : VH) (m : Int) (r : List Int) : gres h (.inl (m, r)) = (.tuple #[gv m (.slice (some ⟨h.length, 0, none⟩) r.length r.length), .int .i64 0], h ++ [⟨1, ints r⟩]) := rfl
@[simp] theorem gres_inr (h : VH) (c : Int) : gres h (.inr c) = (.tuple #[gv 0 (.slice none 0 0), .int .i64 c], h) := rfl
end

/- How many bits are set: the library's way with masks tells it. -/
section
open Go
def pc (x : Nat) : Nat := if h : x = 0 then 0 else x % 2 + pc (x / 2)
 termination_by x
 decreasing_by omega
theorem pc_zero : pc 0 = 0 := by rw [pc]; simp
theorem pc_step (x : Nat) : pc x = x % 2 + pc (x / 2) := by
 by_cases h : x = 0
 ·subst h; simp [pc_zero]
 ·conv => lhs; rw [pc]
  simp [h]
def dig (b : Nat) : List Nat → Nat
 | [] => 0
 | d :: r => d + b * dig b r
def bitsL (x : Nat) : Nat → List Nat
 | 0 => []
 | m + 1 => x % 2 :: bitsL (x / 2) m
theorem bitsL_length (x m : Nat) : (bitsL x m).length = m := by
 induction m generalizing x with
 | zero => rfl
 | succ m ih => simp [bitsL, ih]
theorem bitsL_dig (x m : Nat) (h : x < 2 ^ m) : dig 2 (bitsL x m) = x := by
 induction m generalizing x with
 | zero => simp at h; simp [bitsL, dig, h]
 | succ m ih =>
  simp only [bitsL, dig]
  rw [ih (x / 2) (by rw [Nat.pow_succ] at h; omega)]
  omega
theorem bitsL_sum (x m : Nat) (h : x < 2 ^ m) : (bitsL x m).sum = pc x := by
 induction m generalizing x with
 | zero => simp at h; simp [bitsL, h, pc_zero]
 | succ m ih =>
  simp only [bitsL, List.sum_cons]
  rw [ih (x / 2) (by rw [Nat.pow_succ] at h; omega), ← pc_step]
theorem bitsL_le (x m : Nat) : ∀ d ∈ bitsL x m, d ≤ 1 := by
 induction m generalizing x with
 | zero => simp [bitsL]
 | succ m ih =>
  simp only [bitsL, List.mem_cons]
  rintro d (rfl | h)
  ·omega
  ·exact ih _ _ h
theorem and_split {a l r l' r' : Nat} (h : l < 2 ^ a) (h' : l' < 2 ^ a) : (l + 2 ^ a * r) &&& (l' + 2 ^ a * r') = (l &&& l') + 2 ^ a * (r &&& r') := by
 have hl : l &&& l' < 2 ^ a := Nat.and_lt_two_pow _ h'
 rw [Nat.add_comm l, Nat.add_comm l', Nat.add_comm (l &&& l')]
 apply Nat.eq_of_testBit_eq
 intro i
 rw [Nat.testBit_and, Nat.testBit_two_pow_mul_add _ h, Nat.testBit_two_pow_mul_add _ h', Nat.testBit_two_pow_mul_add _ hl]
 split <;> simp [Nat.testBit_and]
def msk (w : Nat) : Nat → Nat
 | 0 => 0
 | m + 1 => (2 ^ w - 1) + 2 ^ (2 * w) * msk w m
def pairs : List Nat → List Nat
 | a :: b :: r => (a + b) :: pairs r
 | _ => []
def evens : List Nat → List Nat
 | a :: _ :: r => a :: evens r
 | _ => []
def odds : List Nat → List Nat
 | _ :: b :: r => b :: odds r
 | _ => []
theorem two_w (w : Nat) : 2 ^ (2 * w) = 2 ^ w * 2 ^ w := by rw [Nat.two_mul, Nat.pow_add]
theorem mask_low {w d e : Nat} (h : d < 2 ^ w) : (d + 2 ^ w * e) &&& (2 ^ w - 1) = d := by
 rw [Nat.and_two_pow_sub_one_eq_mod, Nat.add_mul_mod_self_left, Nat.mod_eq_of_lt h]
theorem and_even (w : Nat) : ∀ (m : Nat) (ds : List Nat), ds.length = 2 * m → (∀ d ∈ ds, d < 2 ^ w) → dig (2 ^ w) ds &&& msk w m = dig (2 ^ (2 * w)) (evens ds)
 | 0, ds, hl, _ => by
  have : ds = [] := List.length_eq_zero_iff.mp (by omega)
  subst this; simp [dig, evens, msk]
 | m + 1, a :: b :: r, hl, hd => by
  have ha := hd a (by simp)
  have hb := hd b (by simp)
  have ih := and_even w m r (by simp at hl; omega) fun d h => hd d (by simp [h])
  have hp : 0 < 2 ^ w := Nat.two_pow_pos w
  have e : dig (2 ^ w) (a :: b :: r) = (a + 2 ^ w * b) + 2 ^ (2 * w) * dig (2 ^ w) r := by
   simp only [dig]
   rw [two_w, Nat.mul_add, Nat.mul_assoc, Nat.add_assoc]
  have hlt : a + 2 ^ w * b < 2 ^ (2 * w) := by
   rw [two_w]
   have : 2 ^ w * b + 2 ^ w ≤ 2 ^ w * 2 ^ w := by
    rw [← Nat.mul_succ]; exact Nat.mul_le_mul_left _ hb
   omega
  have hm : 2 ^ w - 1 < 2 ^ (2 * w) := by
   have : 2 ^ w ≤ 2 ^ (2 * w) := Nat.pow_le_pow_right (by omega) (by omega)
   omega
  rw [e, msk, and_split hlt hm, ih, mask_low ha]
  simp [evens, dig]
 | m + 1, [], hl, _ => by simp at hl
 | m + 1, [a], hl, _ => by simp at hl; omega
theorem dig_div (b : Nat) (hb : 0 < b) (d : Nat) (r : List Nat) (hd : d < b) : dig b (d :: r) / b = dig b r := by
 simp only [dig]
 rw [Nat.add_mul_div_left _ _ hb, Nat.div_eq_of_lt hd, Nat.zero_add]
theorem dig_append0 (b : Nat) (r : List Nat) : dig b (r ++ [0]) = dig b r := by
 induction r with
 | nil => simp [dig]
 | cons a r ih => simp [dig, ih]
theorem evens_tail : ∀ (ds : List Nat), ds.length % 2 = 0 → evens (ds.tail ++ [0]) = odds ds
 | [], _ => by simp [evens, odds]
 | [a], h => by simp at h
 | [a, b], _ => by simp [evens, odds]
 | a :: b :: c :: r, h => by
  have := evens_tail (c :: r) (by simp at h ⊢; omega)
  simp only [List.tail_cons, List.cons_append, evens, odds] at this ⊢
  rw [this]
theorem and_odd (w : Nat) (m : Nat) (ds : List Nat) (hl : ds.length = 2 * m) (hd : ∀ d ∈ ds, d < 2 ^ w) : (dig (2 ^ w) ds / 2 ^ w) &&& msk w m = dig (2 ^ (2 * w)) (odds ds) := by
 have hp : 0 < 2 ^ w := Nat.two_pow_pos w
 cases ds with
 | nil =>
  have : m = 0 := by simp at hl; omega
  subst this; simp [dig, odds, msk]
 | cons a r =>
  rw [dig_div _ hp _ _ (hd a (by simp)), ← dig_append0, and_even w m (r ++ [0]) (by simp at hl ⊢; omega) (by
   intro d h
   simp only [List.mem_append, List.mem_singleton] at h
   rcases h with h | rfl
   ·exact hd d (by simp [h])
   ·exact hp)]
  have := evens_tail (a :: r) (by omega)
  simp only [List.tail_cons] at this
  rw [this]
theorem eo_pairs (b : Nat) : ∀ (ds : List Nat), dig b (odds ds) + dig b (evens ds) = dig b (pairs ds)
 | [] => by simp [odds, evens, pairs, dig]
 | [a] => by simp [odds, evens, pairs, dig]
 | a :: c :: r => by
  have := eo_pairs b r
  simp only [odds, evens, pairs, dig]
  rw [← this, Nat.mul_add]
  omega
theorem pairs_sum : ∀ (ds : List Nat), ds.length % 2 = 0 → (pairs ds).sum = ds.sum
 | [], _ => rfl
 | [a], h => by simp at h
 | a :: b :: r, h => by
  have := pairs_sum r (by simp at h; omega)
  simp only [pairs, List.sum_cons, this]
  omega
theorem pairs_length : ∀ (ds : List Nat), (pairs ds).length = ds.length / 2
 | [] => rfl
 | [a] => by simp [pairs]
 | a :: b :: r => by
  have := pairs_length r
  simp only [pairs, List.length_cons, this]
  omega
theorem pairs_le (k : Nat) : ∀ (ds : List Nat), (∀ d ∈ ds, d ≤ k) → ∀ d ∈ pairs ds, d ≤ 2 * k
 | [], _ => by simp [pairs]
 | [a], _ => by simp [pairs]
 | a :: b :: r, h => by
  have h1 := h a (by simp)
  have h2 := h b (by simp)
  have ih := pairs_le k r fun d hd => h d (by simp [hd])
  simp only [pairs, List.mem_cons]
  rintro d (rfl | hd)
  ·omega
  ·exact ih d hd
theorem mask_step (w m : Nat) (ds : List Nat) (hl : ds.length = 2 * m) (hd : ∀ d ∈ ds, d < 2 ^ w) : ((dig (2 ^ w) ds / 2 ^ w) &&& msk w m) + (dig (2 ^ w) ds &&& msk w m) = dig (2 ^ (2 * w)) (pairs ds) := by
 rw [and_odd w m ds hl hd, and_even w m ds hl hd, eo_pairs]
def neigh : List Nat → List Nat
 | a :: b :: r => (a + b) :: neigh (b :: r)
 | l => l
theorem neigh_length : ∀ (ds : List Nat), (neigh ds).length = ds.length
 | [] => rfl
 | [a] => rfl
 | a :: b :: r => by simp [neigh, neigh_length (b :: r)]
theorem neigh_le (k : Nat) : ∀ (ds : List Nat), (∀ d ∈ ds, d ≤ k) → ∀ d ∈ neigh ds, d ≤ 2 * k
 | [], _ => by simp [neigh]
 | [a], h => by simp only [neigh, List.mem_singleton]; rintro d rfl; have := h d (by simp); omega
 | a :: b :: r, h => by
  have h1 := h a (by simp)
  have h2 := h b (by simp)
  have ih := neigh_le k (b :: r) fun d hd => h d (List.mem_cons_of_mem _ hd)
  simp only [neigh, List.mem_cons]
  rintro d (rfl | hd)
  ·omega
  ·exact ih d hd
theorem neigh_dig (b : Nat) (hb : 0 < b) : ∀ (ds : List Nat), (∀ d ∈ ds, d < b) → dig b ds / b + dig b ds = dig b (neigh ds)
 | [], _ => by simp [dig, neigh]
 | [a], h => by
  rw [dig_div b hb a [] (h a (by simp))]
  simp [dig, neigh]
 | a :: c :: r, h => by
  have ih := neigh_dig b hb (c :: r) fun d hd => h d (List.mem_cons_of_mem _ hd)
  rw [dig_div b hb c r (h c (by simp))] at ih
  rw [dig_div b hb a (c :: r) (h a (by simp))]
  have e1 : dig b (a :: c :: r) = a + b * dig b (c :: r) := rfl
  have e2 : dig b (neigh (a :: c :: r)) = (a + c) + b * dig b (neigh (c :: r)) := rfl
  rw [e1, e2, ← ih, Nat.mul_add]
  have e3 : dig b (c :: r) = c + b * dig b r := rfl
  omega
theorem neigh_evens : ∀ (ds : List Nat), ds.length % 2 = 0 → evens (neigh ds) = pairs ds
 | [], _ => rfl
 | [a], h => by simp at h
 | [a, b], _ => rfl
 | a :: b :: c :: r, h => by
  have := neigh_evens (c :: r) (by simp at h ⊢; omega)
  have e : neigh (a :: b :: c :: r) = (a + b) :: (b + c) :: neigh (c :: r) := rfl
  rw [e]
  simp only [evens, pairs, this]
def addL : List Nat → List Nat → List Nat
 | a :: r, b :: s => (a + b) :: addL r s
 | [], s => s
 | r, [] => r
theorem addL_dig (b : Nat) : ∀ (r s : List Nat), dig b (addL r s) = dig b r + dig b s
 | [], s => by simp [addL, dig]
 | a :: r, [] => by simp [addL, dig]
 | a :: r, c :: s => by
  simp only [addL, dig]
  rw [addL_dig b r s, Nat.mul_add]
  omega
theorem dig_drop (b : Nat) (hb : 0 < b) : ∀ (k : Nat) (ds : List Nat), (∀ d ∈ ds, d < b) → dig b ds / b ^ k = dig b (ds.drop k)
 | 0, ds, _ => by simp
 | k + 1, [], _ => by simp [dig]
 | k + 1, d :: r, h => by
  rw [Nat.pow_succ, Nat.mul_comm, ← Nat.div_div_eq_div_mul, dig_div b hb d r (h d (by simp)), dig_drop b hb k r fun d hd => h d (List.mem_cons_of_mem _ hd)]
  rfl
theorem dig_lt (b : Nat) : ∀ (ds : List Nat), (∀ d ∈ ds, d + 1 ≤ b) → dig b ds + 1 ≤ b ^ ds.length
 | [], _ => by simp [dig]
 | d :: r, h => by
  have h1 := dig_lt b r fun d hd => h d (List.mem_cons_of_mem _ hd)
  have h2 := h d (by simp)
  simp only [dig, List.length_cons]
  have h3 : b * (dig b r + 1) ≤ b * b ^ r.length := Nat.mul_le_mul_left _ h1
  rw [Nat.mul_add] at h3
  rw [Nat.pow_succ, Nat.mul_comm (b ^ r.length)]
  omega
theorem dig_snoc (b : Nat) (t : Nat) : ∀ (r : List Nat), dig b (r ++ [t]) = dig b r + b ^ r.length * t
 | [] => by simp [dig]
 | a :: r => by
  simp only [List.cons_append, dig, List.length_cons]
  rw [dig_snoc b t r, Nat.mul_add, Nat.pow_succ, Nat.mul_comm (b ^ r.length) b, Nat.mul_assoc]
  omega
theorem last_step (ds : List Nat) (hl : ds.length = 8) (hd : ∀ d ∈ ds, d ≤ 8) (x y z u : Nat) (hx : x = dig 256 ds) (hy : y = x + x / 2 ^ 8) (hz : z = y + y / 2 ^ 16) (hu : u = z + z / 2 ^ 32) : u % 128 = ds.sum ∧ u < 2 ^ 63 ∧ z < 2 ^ 64 ∧ y < 2 ^ 64 := by
 match ds, hl with
 | [a, b, c, d, e, f, g, h], _ =>
  have h1 := hd a (by simp)
  have h2 := hd b (by simp)
  have h3 := hd c (by simp)
  have h4 := hd d (by simp)
  have h5 := hd e (by simp)
  have h6 := hd f (by simp)
  have h7 := hd g (by simp)
  have h8 := hd h (by simp)
  clear hd
  have y0 : y = dig 256 [a + b, b + c, c + d, d + e, e + f, f + g, g + h, h] := by
   rw [hy, hx, show (2 : Nat) ^ 8 = 256 ^ 1 from rfl, dig_drop 256 (by omega) 1 _ (by simp; omega), ← addL_dig]
   rfl
  have z0 : z = dig 256 [a + b + (c + d), b + c + (d + e), c + d + (e + f), d + e + (f + g), e + f + (g + h), f + g + h, g + h, h] := by
   rw [hz, y0, show (2 : Nat) ^ 16 = 256 ^ 2 from rfl, dig_drop 256 (by omega) 2 _ (by simp; omega), ← addL_dig]
   rfl
  have u0 : u = dig 256 [a + b + (c + d) + (e + f + (g + h)), b + c + (d + e) + (f + g + h), c + d + (e + f) + (g + h), d + e + (f + g) + h, e + f + (g + h), f + g + h, g + h, h] := by
   rw [hu, z0, show (2 : Nat) ^ 32 = 256 ^ 4 from rfl, dig_drop 256 (by omega) 4 _ (by simp; omega), ← addL_dig]
   rfl
  refine ⟨?_, ?_, ?_, ?_⟩
  ·rw [u0, dig]
   generalize dig 256 _ = R
   simp only [List.sum_cons, List.sum_nil]
   clear hx hy hz hu y0 z0 u0
   omega
  ·have es := dig_snoc 256 h [a + b + (c + d) + (e + f + (g + h)), b + c + (d + e) + (f + g + h), c + d + (e + f) + (g + h), d + e + (f + g) + h, e + f + (g + h), f + g + h, g + h]
   have l := dig_lt 256 [a + b + (c + d) + (e + f + (g + h)), b + c + (d + e) + (f + g + h), c + d + (e + f) + (g + h), d + e + (f + g) + h, e + f + (g + h), f + g + h, g + h] (by simp; omega)
   simp only [List.cons_append, List.nil_append] at es
   rw [u0, es]
   generalize dig 256 _ = R at l ⊢
   simp only [List.length_cons, List.length_nil] at l ⊢
   clear hx hy hz hu y0 z0 u0 es
   omega
  ·rw [z0]
   exact Nat.lt_of_lt_of_le (Nat.lt_of_succ_le (dig_lt 256 _ (by simp; omega))) (by simp)
  ·rw [y0]
   exact Nat.lt_of_lt_of_le (Nat.lt_of_succ_le (dig_lt 256 _ (by simp; omega))) (by simp)
theorem msk1 : msk 1 32 = 6148914691236517205 := by decide +kernel
theorem msk2 : msk 2 16 = 3689348814741910323 := by decide +kernel
theorem msk4 : msk 4 8 = 1085102592571150095 := by decide +kernel
theorem pop_all (x : Nat) (hx : x < 2 ^ 64) (a b c d e f : Nat) (ha : a = ((x / 2 ^ 1) &&& 6148914691236517205) + (x &&& 6148914691236517205)) (hb : b = ((a / 2 ^ 2) &&& 3689348814741910323) + (a &&& 3689348814741910323)) (hc : c = (b / 2 ^ 4 + b) &&& 1085102592571150095) (hd : d = c + c / 2 ^ 8) (he : e = d + d / 2 ^ 16) (hf : f = e + e / 2 ^ 32) :
  f % 128 = pc x ∧ a < 2 ^ 64 ∧ b < 2 ^ 64 ∧ b / 2 ^ 4 + b < 2 ^ 64 ∧ c < 2 ^ 64 ∧ d < 2 ^ 64 ∧ e < 2 ^ 64 ∧ f < 2 ^ 63 := by
 have q0 := bitsL_length x 64
 have q1 := bitsL_le x 64
 have e0 := bitsL_dig x 64 hx
 have s0 := bitsL_sum x 64 hx
 generalize bitsL x 64 = l0 at q0 q1 e0 s0
 have a1 : a = dig (2 ^ 2) (pairs l0) := by
  rw [ha, ← msk1, ← e0]
  exact mask_step 1 32 l0 q0 fun d h => by have := q1 d h; omega
 have q2 := pairs_length l0
 have q3 := pairs_le 1 l0 q1
 have s1 := pairs_sum l0 (by omega)
 generalize pairs l0 = l1 at a1 q2 q3 s1
 have b1 : b = dig (2 ^ 4) (pairs l1) := by
  rw [hb, ← msk2, a1]
  exact mask_step 2 16 l1 (by omega) fun d h => by have := q3 d h; omega
 have q4 := pairs_length l1
 have q5 := pairs_le 2 l1 q3
 have s2 := pairs_sum l1 (by omega)
 have a2 : a < 2 ^ 64 := by
  have := dig_lt (2 ^ 2) l1 fun d h => by have := q3 d h; omega
  rw [q2, q0] at this
  rw [a1]
  omega
 generalize pairs l1 = l2 at b1 q4 q5 s2
 have b2 : b < 2 ^ 64 := by
  have := dig_lt (2 ^ 4) l2 fun d h => by have := q5 d h; omega
  rw [q4, q2, q0] at this
  rw [b1]
  omega
 have n1 : b / 2 ^ 4 + b = dig (2 ^ 4) (neigh l2) := by
  rw [b1]
  exact neigh_dig (2 ^ 4) (by omega) l2 fun d h => by have := q5 d h; omega
 have n2 := neigh_length l2
 have n3 := neigh_le 4 l2 q5
 have n4 := neigh_evens l2 (by omega)
 have b3 : b / 2 ^ 4 + b < 2 ^ 64 := by
  have := dig_lt (2 ^ 4) (neigh l2) fun d h => by have := n3 d h; omega
  rw [n2, q4, q2, q0] at this
  rw [n1]
  omega
 have c1 : c = dig (2 ^ 8) (pairs l2) := by
  rw [hc, ← msk4, n1, and_even 4 8 (neigh l2) (by omega) (fun d h => by have := n3 d h; omega), n4]
 have q6 := pairs_length l2
 have q7 := pairs_le 4 l2 q5
 have s3 := pairs_sum l2 (by omega)
 generalize pairs l2 = l3 at c1 q6 q7 s3
 have c2 : c < 2 ^ 64 := by
  have := dig_lt (2 ^ 8) l3 fun d h => by have := q7 d h; omega
  rw [q6, q4, q2, q0] at this
  rw [c1]
  omega
 obtain ⟨r1, r2, r3, r4⟩ := last_step l3 (by omega) q7 c d e f c1 hd he hf
 exact ⟨by omega, a2, b2, b3, c2, r4, r3, r2⟩
end

/- Neighbours, vertices that are in range, covers. -/
section
open Go
variable {nro : Nat}
theorem and_127 {a : Nat} (ha : a < 2 ^ 63) : iand .i64 (a : Int) 127 = ((a % 128 : Nat) : Int) := by
 have := iand_nat (a := a) (b := 127) ha (by omega)
 rw [show (127 : Nat) = 2 ^ 7 - 1 from rfl, Nat.and_two_pow_sub_one_eq_mod] at this
 exact this
theorem c_zz19 (x : Nat) (h : VH) (hx : x < 2 ^ 63) : vcall F nro k_zz19 [.int .u64 x] h = some (.int .i64 (pc x), h) := by
 refine v_zz19 (by simp [i_zz19]) ?_
 rw [fbody_eq]
 obtain ⟨a, ha⟩ : ∃ a, a = ((x / 2 ^ 1) &&& 6148914691236517205) + (x &&& 6148914691236517205) := ⟨_, rfl⟩
 obtain ⟨b, hb⟩ : ∃ b, b = ((a / 2 ^ 2) &&& 3689348814741910323) + (a &&& 3689348814741910323) := ⟨_, rfl⟩
 obtain ⟨c, hc⟩ : ∃ c, c = (b / 2 ^ 4 + b) &&& 1085102592571150095 := ⟨_, rfl⟩
 obtain ⟨d, hd⟩ : ∃ d, d = c + c / 2 ^ 8 := ⟨_, rfl⟩
 obtain ⟨e, he⟩ : ∃ e, e = d + d / 2 ^ 16 := ⟨_, rfl⟩
 obtain ⟨f, hf⟩ : ∃ f, f = e + e / 2 ^ 32 := ⟨_, rfl⟩
 obtain ⟨r1, r2, r3, r4, r5, r6, r7, r8⟩ := pop_all x (by omega) a b c d e f ha hb hc hd he hf
 have q1 : ∀ y : Nat, ishr .u64 (y : Int) 1 = ((y / 2 ^ 1 : Nat) : Int) := fun y => shr_u64 (a := y) (b := 1) (by omega)
 have q2 : ∀ y : Nat, ishr .u64 (y : Int) 2 = ((y / 2 ^ 2 : Nat) : Int) := fun y => shr_u64 (a := y) (b := 2) (by omega)
 have q4 : ∀ y : Nat, ishr .u64 (y : Int) 4 = ((y / 2 ^ 4 : Nat) : Int) := fun y => shr_u64 (a := y) (b := 4) (by omega)
 have q8 : ∀ y : Nat, ishr .u64 (y : Int) 8 = ((y / 2 ^ 8 : Nat) : Int) := fun y => shr_u64 (a := y) (b := 8) (by omega)
 have q16 : ∀ y : Nat, ishr .u64 (y : Int) 16 = ((y / 2 ^ 16 : Nat) : Int) := fun y => shr_u64 (a := y) (b := 16) (by omega)
 have q32 : ∀ y : Nat, ishr .u64 (y : Int) 32 = ((y / 2 ^ 32 : Nat) : Int) := fun y => shr_u64 (a := y) (b := 32) (by omega)
 have w : ∀ y : Nat, y < 2 ^ 64 → IntKind.u64.wrap (y : Int) = (y : Int) := fun y hy => wrapu64 (by omega) (by omega)
 have s1 : IntKind.u64.wrap (iand .u64 (ishr .u64 (x : Int) 1) 6148914691236517205 + iand .u64 (x : Int) 6148914691236517205) = (a : Int) := by
  rw [q1, show (6148914691236517205 : Int) = ((6148914691236517205 : Nat) : Int) from rfl, and_u64 (by omega) (by omega), and_u64 (by omega) (by omega), ← Int.natCast_add, ← ha]
  exact w a r2
 have s2 : IntKind.u64.wrap (iand .u64 (ishr .u64 (a : Int) 2) 3689348814741910323 + iand .u64 (a : Int) 3689348814741910323) = (b : Int) := by
  rw [q2, show (3689348814741910323 : Int) = ((3689348814741910323 : Nat) : Int) from rfl, and_u64 (by omega) (by omega), and_u64 (by omega) (by omega), ← Int.natCast_add, ← hb]
  exact w b r3
 have s3 : iand .u64 (IntKind.u64.wrap (ishr .u64 (b : Int) 4 + (b : Int))) 1085102592571150095 = (c : Int) := by
  rw [q4, ← Int.natCast_add, w _ r4, show (1085102592571150095 : Int) = ((1085102592571150095 : Nat) : Int) from rfl, and_u64 r4 (by omega), ← hc]
 have s4 : IntKind.u64.wrap ((c : Int) + ishr .u64 (c : Int) 8) = (d : Int) := by
  rw [q8, ← Int.natCast_add, ← hd, w _ r6]
 have s5 : IntKind.u64.wrap ((d : Int) + ishr .u64 (d : Int) 16) = (e : Int) := by
  rw [q16, ← Int.natCast_add, ← he, w _ r7]
 have s6 : IntKind.u64.wrap ((e : Int) + ishr .u64 (e : Int) 32) = (f : Int) := by
  rw [q32, ← Int.natCast_add, ← hf, w _ (by omega)]
 have s7 : iand .i64 (IntKind.i64.wrap (f : Int)) 127 = (pc x : Int) := by
  rw [wrap64 (by omega) (by omega), and_127 r8, r1]
 clear r1 r2 r3 r4 r5 r6 r7 r8 ha hb hc hd he hf q1 q2 q4 q8 q16 q32 w
 simp (disch := first | assumption | omega | (simp [*] <;> omega) | fail) [i_zz19, s1, s2, s3, s4, s5, s6, s7]
theorem c_zz98 (x : Int) (h : VH) (h0 : 0 ≤ x) (hx : x < 4611686018427387904) : vcall F nro k_zz98 [.int .i64 x] h = some (.int .i64 (pc x.toNat), h) := by
 refine v_zz98 (by simp [i_zz98]) ?_
 rw [fbody_eq]
 have hc := c_zz19 (nro := nro) x.toNat h (by omega)
 rw [Int.toNat_of_nonneg h0] at hc
 simp (disch := first | assumption | omega | (simp [*] <;> omega) | fail) [i_zz98, wrapu64, hc]
theorem c_zz33 (n v : Int) (s : Value) (rows : List Int) (h : VH) (hs : Sli h s rows) (h1 : 0 ≤ v) (h2 : v < rows.length) (h5 : 0 ≤ rows.getD v.toNat 0) (h6 : rows.getD v.toNat 0 < 4611686018427387904) :
  vcall F nro k_zz33 [gv n s, .int .i64 v] h = some (.int .i64 (pc (rows.getD v.toNat 0).toNat), h) := by
 refine v_zz33 (by simp [i_zz33]) ?_
 rw [fbody_eq]
 have hc := c_zz98 (nro := nro) (rows.getD v.toNat 0) (bx h n s) h5 h6
 rw [getD_at rows (by omega)] at hc ⊢
 simp (disch := first | assumption | omega | (simp [*] <;> omega) | fail) [i_zz33, hs.vidx', hs.vload', hc]
theorem sli_at {h : VH} {b : Nat} {xs : List Int} (hb : h[b]? = some ⟨1, ints xs⟩) : Sli h (.slice (some ⟨b, 0, none⟩) xs.length xs.length) xs := by simp [Sli, Sl, hb]
abbrev cp (h : VH) : Value := .pointer (some ⟨h.length + 1, 0, some 2⟩)
def badV (n : Int) (xs : List Int) : Prop := ∃ j : Int, 0 ≤ j ∧ j < xs.length ∧ ¬ (0 ≤ xs.getD j.toNat 0 ∧ xs.getD j.toNat 0 < n)
open Classical in
noncomputable def vtxCode (n : Int) (rows xs : List Int) : Int := if GV n rows then if badV n xs then 2 else 0 else 1
open Classical in
theorem l_zz56 (n : Int) (s t : Value) (xs : List Int) (h : VH) (ht : Sli h t xs) (hl : xs.length ≤ 9223372036854775806) :
  floop (vcall F nro) nro [2, 10, 11, 12] i_zz56_B1 (bx h n s) [bp h, t, .int .i64 xs.length, .int .i64 0] (bx h n s) =
   if badV n xs then some (.ret, fl [(4, .int .i64 2)], bx h n s) else some (.exit 0, fl [], bx h n s) := by
 have hto := fun k => ht.oldk (k := k)
 refine search (fun i => floop (vcall F nro) nro [2, 10, 11, 12] i_zz56_B1 (bx h n s) [bp h, t, .int .i64 xs.length, .int .i64 i] (bx h n s)) (fun i => ¬ (0 ≤ xs.getD i.toNat 0 ∧ xs.getD i.toNat 0 < n)) _ _ xs.length 0 ?_ ?_ 0 (by omega)
 ·intro i hi hlt
  have e1 : xs.getD i.toNat 0 = xs[i.toNat]'(by omega) := getD_at _ (by omega)
  rw [floop_at i_zz56_B1.eq_1, e1]
  constructor <;> intro hb
  ·by_cases h0 : xs[i.toNat]'(by omega) < 0
   ·simp (disch := first | assumption | omega | (simp [*] <;> omega) | fail) [ht.vlen', ht.vidx', ht.vload', wrap64, hlt, h0]
   ·have h1 : n ≤ xs[i.toNat]'(by omega) := by omega
    simp (disch := first | assumption | omega | (simp [*] <;> omega) | fail) [ht.vlen', ht.vidx', ht.vload', wrap64, hlt, h0, h1]
  ·have hb := Classical.not_not.mp hb
   have h0 : ¬ xs[i.toNat]'(by omega) < 0 := by omega
   have h1 : ¬ n ≤ xs[i.toNat]'(by omega) := by omega
   simp (disch := first | assumption | omega | (simp [*] <;> omega) | fail) [ht.vlen', ht.vidx', ht.vload', wrap64, hlt, h0, h1]
 ·intro i hi hlt
  rw [floop_at i_zz56_B1.eq_1]
  simp (disch := first | assumption | omega | (simp [*] <;> omega) | fail) [hlt]
theorem c_zz56 (n : Int) (s t : Value) (rows xs : List Int) (h : VH) (hs : Sli h s rows) (ht : Sli h t xs) (hl : xs.length ≤ 9223372036854775806) :
  vcall F nro k_zz56 [gv n s, t] h = some (.int .i64 (vtxCode n rows xs), h) := by
 refine v_zz56 (by simp [i_zz56]) ?_
 rw [fbody_eq]
 have hc := c_zz73 (nro := nro) n s rows (bx h n s) (hs.app _)
 have hl := l_zz56 (nro := nro) n s t xs h ht hl
 unfold vtxCode
 by_cases g : GV n rows
 ·by_cases b : badV n xs
  ·rw [if_pos b] at hl
   simp (disch := first | assumption | omega | (simp [*] <;> omega) | fail) [i_zz56, hc, g, ht.vlen', hl, b]
  ·rw [if_neg b] at hl
   simp (disch := first | assumption | omega | (simp [*] <;> omega) | fail) [i_zz56, hc, g, ht.vlen', hl, b]
 ·simp (disch := first | assumption | omega | (simp [*] <;> omega) | fail) [i_zz56, hc, g]
theorem ints_snoc (ys : List Int) (w : Int) : ints ys ++ [Value.int .i64 w] = ints (ys ++ [w]) := by simp [ints]
end

/- Marks: what is written into a graph's rows, and what is held there. -/
section
open Go
variable {nro : Nat}
def cnt (k : Int) (n : Nat) : List Int := (List.range n).map fun (i : Nat) => k + (i : Int)
@[simp] theorem cnt_length (k : Int) (n : Nat) : (cnt k n).length = n := by simp [cnt]
@[simp] theorem take_cnt (k : Int) (n : Nat) : List.take n (ints (cnt k n)) = ints (cnt k n) := List.take_of_length_le (by simp)
@[simp] theorem cnt_zero (k : Int) : cnt k 0 = [] := rfl
end

/- Loops that count up, told once. -/
section
open Go
def upF {α : Type} (f : Nat → α → α) (n i : Nat) (a : α) : α := if i < n then upF f n (i + 1) (f i a) else a
 termination_by n - i
theorem upF_end {α : Type} {f : Nat → α → α} {n i : Nat} {a : α} (h : ¬ i < n) : upF f n i a = a := by rw [upF, if_neg h]
theorem upF_step {α : Type} {f : Nat → α → α} {n i : Nat} {a : α} (h : i < n) : upF f n i a = upF f n (i + 1) (f i a) := by conv => lhs; rw [upF, if_pos h]
section
variable {call : VCall} {nro : Nat} {live : List Nat} {c : FC} {h0 : VH} {n : Nat}
theorem for_up {α : Type} (V : Nat → α → List Value) (H : Nat → α → VH) (f : Nat → α → α) (I : Nat → α → Prop) (R : α → Option (VX × FE × VH))
    (step : ∀ i a, i < n → (i : Int) < n → I i a → I (i + 1) (f i a) ∧ floop call nro live c h0 (V i a) (H i a) = floop call nro live c h0 (V (i + 1) (f i a)) (H (i + 1) (f i a)))
    (stop : ∀ a, I n a → floop call nro live c h0 (V n a) (H n a) = R a) (i : Nat) (a : α) (hi : i ≤ n) (h : I i a) :
    floop call nro live c h0 (V i a) (H i a) = R (upF f n i a) ∧ I n (upF f n i a) := by
  by_cases hlt : i < n
  · obtain ⟨h1, h2⟩ := step i a hlt (by omega) h
    rw [h2, upF_step hlt]
    exact for_up V H f I R step stop (i + 1) (f i a) hlt h1
  · have : i = n := by omega
    subst this
    rw [upF_end hlt]
    exact ⟨stop a h, h⟩
 termination_by n - i
open Classical in
theorem for_find (V : Nat → List Value) (h : VH) (bad : Nat → Prop) (r d : Option (VX × FE × VH))
    (step : ∀ i, i < n → (i : Int) < n → (bad i → floop call nro live c h0 (V i) h = r) ∧ (¬ bad i → floop call nro live c h0 (V i) h = floop call nro live c h0 (V (i + 1)) h))
    (stop : floop call nro live c h0 (V n) h = d) (i : Nat) (hi : i ≤ n) :
    floop call nro live c h0 (V i) h = if ∃ j, i ≤ j ∧ j < n ∧ bad j then r else d := by
  by_cases hlt : i < n
  · obtain ⟨h1, h2⟩ := step i hlt (by omega)
    by_cases hb : bad i
    · rw [h1 hb, if_pos ⟨i, Nat.le_refl _, hlt, hb⟩]
    · rw [h2 hb, for_find V h bad r d step stop (i + 1) hlt]
      have : (∃ j, i + 1 ≤ j ∧ j < n ∧ bad j) ↔ ∃ j, i ≤ j ∧ j < n ∧ bad j := by
        constructor
        · rintro ⟨j, h1, h2, h3⟩; exact ⟨j, by omega, h2, h3⟩
        · rintro ⟨j, h1, h2, h3⟩
          refine ⟨j, ?_, h2, h3⟩
          have : j ≠ i := fun e => hb (e ▸ h3)
          omega
      simp only [this]
  · have : i = n := by omega
    subst this
    rw [stop, if_neg]
    rintro ⟨j, h1, h2, _⟩
    omega
 termination_by n - i
theorem for_upR {α : Type} (V : Nat → α → List Value) (H : Nat → α → VH) (I : Nat → α → Prop) (R : α → Option (VX × FE × VH))
    (step : ∀ i a, i < n → (i : Int) < n → I i a → ∃ a', I (i + 1) a' ∧ floop call nro live c h0 (V i a) (H i a) = floop call nro live c h0 (V (i + 1) a') (H (i + 1) a'))
    (stop : ∀ a, I n a → floop call nro live c h0 (V n a) (H n a) = R a) (i : Nat) (a : α) (hi : i ≤ n) (h : I i a) :
    ∃ a', I n a' ∧ floop call nro live c h0 (V i a) (H i a) = R a' := by
  by_cases hlt : i < n
  · obtain ⟨a', h1, h2⟩ := step i a hlt (by omega) h
    rw [h2]
    exact for_upR V H I R step stop (i + 1) a' hlt h1
  · have : i = n := by omega
    subst this
    exact ⟨a, h, stop a h⟩
 termination_by n - i
end
end

/- Lists of lists in new memory. -/
section
open Go
variable {nro : Nat}
theorem cleanup_old {h0 h : VH} {vs : List Value} (hv : ∀ v ∈ vs, Old h0.length v) : kclean h0 vs h = (vs, h) ∨ (okT h0.length h0 (h.take h0.length) ∧ kclean h0 vs h = (vs, h.take h0.length)) := by
 unfold kclean cleanup
 rw [keepL_nil hv]
 by_cases hc : okT h0.length h0 (h.take h0.length) ∧ flatL h0.length [] h
 ·rw [if_pos hc]
  refine .inr ⟨hc.1, ?_⟩
  simp only [List.filterMap_nil, List.append_nil, Prod.mk.injEq, and_true]
  have : ∀ v ∈ vs, tren (renOf h0.length []) v = v := fun v h => tren_old (hv v h) fun i hi => by simp only [renOf, if_pos hi]
  exact (List.map_congr_left this).trans (by simp)
 ·rw [if_neg hc]
  exact .inl rfl
structure EI (n : Nat) (vs : List Value) (G : VH) (ess : List (List Int)) : Prop where
 len : vs.length = ess.length
 at_ : ∀ i : Nat, i < ess.length → ∃ k, vs[i]? = some (.slice (some ⟨n + k, 0, none⟩) (ess.getD i []).length (ess.getD i []).length) ∧ G[k]? = some ⟨1, ints (ess.getD i [])⟩
 nd : (vs.flatMap arefs).Nodup
theorem EI.nil (n : Nat) (G : VH) : EI n [] G [] := ⟨rfl, fun i hi => by simp at hi, by simp⟩
theorem EI.more {n : Nat} {vs : List Value} {G : VH} {ess : List (List Int)} (e : EI n vs G ess) (L : VH) : EI n vs (G ++ L) ess := by
 refine ⟨e.len, fun i hi => ?_, e.nd⟩
 obtain ⟨k, h1, h2⟩ := e.at_ i hi
 exact ⟨k, h1, by rw [List.getElem?_append_left (List.getElem?_eq_some_iff.mp h2).1]; exact h2⟩
theorem EI.lt {n : Nat} {vs : List Value} {G : VH} {ess : List (List Int)} (e : EI n vs G ess) {r : Nat} (hr : r ∈ vs.flatMap arefs) : n ≤ r ∧ r < n + G.length := by
 obtain ⟨v, hv, hr⟩ := List.mem_flatMap.mp hr
 obtain ⟨i, hi, rfl⟩ := List.mem_iff_getElem.mp hv
 have hl := e.len
 obtain ⟨k, h1, h2⟩ := e.at_ i (by omega)
 have h3 := (List.getElem?_eq_some_iff.mp h1).2
 have h4 := (List.getElem?_eq_some_iff.mp h2).1
 rw [h3] at hr
 simp [arefs] at hr
 omega
theorem EI.push {n : Nat} {vs : List Value} {G : VH} {ess : List (List Int)} (e : EI n vs G ess) (xs : List Int) (L : VH) : EI n (vs ++ [.slice (some ⟨n + G.length, 0, none⟩) xs.length xs.length]) (G ++ ⟨1, ints xs⟩ :: L) (ess ++ [xs]) := by
 have hl := e.len
 have e2 := e.more (⟨1, ints xs⟩ :: L)
 refine ⟨by simp [hl], fun i hi => ?_, ?_⟩
 ·by_cases h : i < ess.length
  ·obtain ⟨k', h1, h2⟩ := e2.at_ i h
   have e1 : (ess ++ [xs]).getD i [] = ess.getD i [] := by simp only [List.getD_eq_getElem?_getD]; rw [List.getElem?_append_left h]
   rw [e1]
   exact ⟨k', by rw [List.getElem?_append_left (by omega)]; exact h1, h2⟩
  ·have hi2 : i = ess.length := by simp at hi; omega
   subst hi2
   have e1 : (ess ++ [xs]).getD ess.length [] = xs := by simp [List.getD_eq_getElem?_getD]
   rw [e1]
   exact ⟨G.length, by rw [← hl]; simp, by simp⟩
 ·rw [List.flatMap_append]
  refine List.nodup_append.mpr ⟨e.nd, by simp [arefs], fun a ha b hb => ?_⟩
  have := (e.lt ha).2
  simp [arefs] at hb
  omega
def SL2 (n : Nat) (M : VH) (v : Value) (ess : List (List Int)) : Prop := ∃ b vs, v = .slice (some ⟨n + b, 0, none⟩) ess.length ess.length ∧ M[b]? = some ⟨1, vs⟩ ∧ EI n vs M ess
theorem EI.cleanP {P0 P : VH} {vs0 vs vals : List Value} {G0 G : VH} {ess0 ess : List (List Int)} (e0 : EI (P.length + 1) vs0 G0 ess0) (e : EI (P.length + 1) vs G ess) (hP : P0.length = P.length) (hG : G0.length ≤ G.length) (hv : ∀ v ∈ vals, Old (P.length + 1 + G0.length) v) :
  ∃ G1, kclean (P0 ++ ⟨1, vs0⟩ :: G0) vals (P ++ ⟨1, vs⟩ :: G) = (vals, P ++ ⟨1, vs⟩ :: G1) ∧ EI (P.length + 1) vs G1 ess ∧ G0.length ≤ G1.length := by
 have hlen : (P0 ++ (⟨1, vs0⟩ : VO) :: G0).length = P.length + 1 + G0.length := by simp; omega
 rcases cleanup_old (h0 := P0 ++ ⟨1, vs0⟩ :: G0) (h := P ++ ⟨1, vs⟩ :: G) (vs := vals) (by rw [hlen]; exact hv) with hk | ⟨hok, hk⟩
 ·exact ⟨G, hk, e, hG⟩
 ·have e1 : (P ++ (⟨1, vs⟩ : VO) :: G).take (P0 ++ (⟨1, vs0⟩ : VO) :: G0).length = P ++ ⟨1, vs⟩ :: G.take G0.length := by
   rw [hlen, List.take_append, List.take_of_length_le (by omega)]
   rw [show P.length + 1 + G0.length - P.length = G0.length + 1 by omega]
   rfl
  rw [e1] at hk hok
  refine ⟨G.take G0.length, hk, ⟨e.len, fun i hi => ?_, e.nd⟩, by simp; omega⟩
  obtain ⟨k, h1, h2⟩ := e.at_ i hi
  have hk : k < G0.length := by
   have h3 := hok P.length ⟨1, vs⟩ (by rw [hget0]; rfl)
   have hmem : P.length + 1 + k ∈ orefs ⟨1, vs⟩ := by
    unfold orefs
    refine List.mem_flatMap.mpr ⟨_, List.mem_of_getElem? h1, ?_⟩
    simp [crefs, arefs]
   rcases h3 with h3 | h3
   ·rw [← hP, hget0] at h3
    simp at h3
    subst h3
    have hi0 : i < ess0.length := by
     have := (List.getElem?_eq_some_iff.mp h1).1
     rw [← e0.len]; exact this
    obtain ⟨k', h4, h5⟩ := e0.at_ i hi0
    rw [h1] at h4
    simp at h4
    have : k = k' := h4.1
    subst this
    exact (List.getElem?_eq_some_iff.mp h5).1
   ·have := h3 _ hmem
    rw [hlen] at this
    omega
  exact ⟨k, h1, by rw [List.getElem?_take, if_pos hk]; exact h2⟩
theorem EI.cleanP' {P0 P : VH} {vs0 vs vals : List Value} {G0 G : VH} {ess0 ess : List (List Int)} (e0 : EI (P.length + 1) vs0 G0 ess0) (e : EI (P.length + 1) vs G ess) (hP : P0.length = P.length) (hG : G0.length ≤ G.length) (hv : ∀ v ∈ vals, Old (P.length + 1 + G0.length) v) :
  ∃ G1, kclean (P0 ++ ⟨1, vs0⟩ :: G0) vals (P ++ ⟨1, vs⟩ :: G) = (vals, P ++ ⟨1, vs⟩ :: G1) ∧ EI (P.length + 1) vs G1 ess ∧ G0.length ≤ G1.length ∧ ∀ k, k < G0.length → G1[k]? = G[k]? := by
 obtain ⟨G1, h1, h2, h3⟩ := EI.cleanP e0 e hP hG hv
 refine ⟨G1, h1, h2, h3, ?_⟩
 have hlen : (P0 ++ (⟨1, vs0⟩ : VO) :: G0).length = P.length + 1 + G0.length := by simp; omega
 rcases cleanup_old (h0 := P0 ++ ⟨1, vs0⟩ :: G0) (h := P ++ ⟨1, vs⟩ :: G) (vs := vals) (by rw [hlen]; exact hv) with hk | ⟨_, hk⟩
 ·rw [h1] at hk
  simp at hk
  rw [hk]
  intro k _; rfl
 ·have e1 : (P ++ (⟨1, vs⟩ : VO) :: G).take (P0 ++ (⟨1, vs0⟩ : VO) :: G0).length = P ++ ⟨1, vs⟩ :: G.take G0.length := by
   rw [hlen, List.take_append, List.take_of_length_le (by omega)]
   rw [show P.length + 1 + G0.length - P.length = G0.length + 1 by omega]
   rfl
  rw [h1, e1] at hk
  simp at hk
  rw [hk]
  intro k hk2
  rw [List.getElem?_take, if_pos hk2]
theorem EI.fin {h pre : VH} {vs : List Value} {G : VH} {ess : List (List Int)} (e : EI (h.length + pre.length + 1) vs G ess) (w : Value → Value) (hw1 : ∀ a n t, trefs (w (.slice (some a) n t)) = [a.block]) (hw2 : ∀ r a n t, tren r (w (.slice (some a) n t)) = w (.slice (some { a with block := r a.block }) n t)) :
  ∃ v M, kclean h [w (.slice (some ⟨h.length + pre.length, 0, none⟩) vs.length vs.length)] (h ++ (pre ++ ⟨1, vs⟩ :: G)) = ([w v], h ++ M) ∧ SL2 h.length M v ess := by
 have hl2 := e.len
 have hk : keepL h.length [w (.slice (some ⟨h.length + pre.length, 0, none⟩) vs.length vs.length)] = [h.length + pre.length] := by
  unfold keepL
  simp [hw1, dedup]
 have hget : (h ++ (pre ++ ⟨1, vs⟩ :: G))[h.length + pre.length]? = some ⟨1, vs⟩ := by rw [hgetk]; simp
 by_cases hf : flatL h.length [h.length + pre.length] (h ++ (pre ++ ⟨1, vs⟩ :: G))
 ·have hvs : vs = [] := by
   obtain ⟨o, ho, hr⟩ := hf (h.length + pre.length) (by simp)
   have : o = ⟨1, vs⟩ := by rw [hget] at ho; simpa using ho.symm
   subst this
   cases hv : ess with
   | nil => rw [hv] at hl2; exact List.length_eq_zero_iff.mp hl2
   | cons x r =>
    exfalso
    obtain ⟨j, h1, _⟩ := e.at_ 0 (by rw [hv]; simp)
    have := hr (h.length + pre.length + 1 + j) (by
     unfold orefs
     refine List.mem_flatMap.mpr ⟨_, List.mem_of_getElem? h1, ?_⟩
     simp [crefs, arefs])
    omega
  subst hvs
  have hes : ess = [] := List.length_eq_zero_iff.mp hl2.symm
  rw [hes]
  refine ⟨.slice (some ⟨h.length + 0, 0, none⟩) 0 0, [⟨1, []⟩], ?_, 0, [], by simp, rfl, EI.nil _ _⟩
  rw [cleanup_keep hk hf]
  simp [hw2, renOf_one, hget]
 ·refine ⟨.slice (some ⟨h.length + pre.length, 0, none⟩) vs.length vs.length, pre ++ ⟨1, vs⟩ :: G, ?_, pre.length, vs, by rw [hl2], by simp, hl2, fun i hi => ?_, e.nd⟩
  ·unfold kclean cleanup
   rw [hk, if_neg (fun h => hf h.2)]
  ·obtain ⟨j, h1, h2⟩ := e.at_ i hi
   exact ⟨pre.length + 1 + j, by rw [h1]; congr 4; omega, by
    rw [List.getElem?_append_right (by omega), show pre.length + 1 + j - pre.length = j + 1 by omega]
    exact h2⟩
theorem EI.fin1 {h pre : VH} {vs : List Value} {G : VH} {ess : List (List Int)} (e : EI (h.length + pre.length + 1) vs G ess) :
  ∃ v M, kclean h [.slice (some ⟨h.length + pre.length, 0, none⟩) vs.length vs.length] (h ++ (pre ++ ⟨1, vs⟩ :: G)) = ([v], h ++ M) ∧ SL2 h.length M v ess :=
 e.fin (fun v => v) (fun a n t => by simp [trefs, vrefs, crefs, arefs]) (fun r a n t => by simp [tren, vren, cren, aren])
theorem SL2.shape {n : Nat} {M : VH} {v : Value} {ess : List (List Int)} (h : SL2 n M v ess) : ∃ a m, v = .slice (some a) m m := by
 obtain ⟨b, vs, rfl, _⟩ := h
 exact ⟨_, _, rfl⟩
theorem SL2.read {h M L : VH} {q : Value} {es : List (List Int)} (hs : SL2 h.length M q es) : ∃ vs, vs.length = es.length ∧ Sl (h ++ M ++ L) q vs ∧ ∀ (i : Nat) (hi : i < vs.length), Sli (h ++ M ++ L) vs[i] (es.getD i []) := by
 obtain ⟨b, vs, rfl, h1, h2⟩ := hs
 have hget : ∀ k, (h ++ M ++ L)[h.length + k]? = (M ++ L)[k]? := fun k => by
  rw [List.append_assoc, List.getElem?_append_right (by simp), Nat.add_sub_cancel_left]
 refine ⟨vs, h2.len, ?_, fun i hi => ?_⟩
 ·have h3 : (M ++ L)[b]? = some ⟨1, vs⟩ := by rw [List.getElem?_append_left (List.getElem?_eq_some_iff.mp h1).1]; exact h1
  unfold Sl
  rw [vsrc_ref]
  simp only [hget, h3, h2.len]
  simp [h2.len]
  rw [List.take_of_length_le (by rw [h2.len]; exact Nat.le_refl _)]
 ·have hi' : i < es.length := by rw [← h2.len]; exact hi
  obtain ⟨k, k1, k2⟩ := h2.at_ i hi'
  have e : vs[i] = .slice (some ⟨h.length + k, 0, none⟩) (es.getD i []).length (es.getD i []).length := (List.getElem?_eq_some_iff.mp k1).2
  rw [e]
  refine sli_at ?_
  rw [hget, List.getElem?_append_left (List.getElem?_eq_some_iff.mp k2).1]
  exact k2
def tot : List (List Int) → Nat
 | [] => 0
 | e :: es => e.length + tot es
theorem EI.set {n : Nat} {vs : List Value} {G : VH} {A : List (List Int)} {e : List Int} {B : List (List Int)} (h : EI n vs G (A ++ e :: B)) (xs : List Int) (hx : xs.length = e.length) : ∃ k, vs[A.length]? = some (.slice (some ⟨n + k, 0, none⟩) e.length e.length) ∧ G[k]? = some ⟨1, ints e⟩ ∧ EI n vs (G.set k ⟨1, ints xs⟩) (A ++ xs :: B) := by
 have hlt : A.length < (A ++ e :: B).length := by simp
 have eA : (A ++ e :: B).getD A.length [] = e := by simp [List.getD_eq_getElem?_getD]
 obtain ⟨k, h1, h2⟩ := h.at_ A.length hlt
 rw [eA] at h1 h2
 have hk := (List.getElem?_eq_some_iff.mp h2).1
 refine ⟨k, h1, h2, by rw [h.len]; simp, fun i hi => ?_, h.nd⟩
 by_cases e1 : i = A.length
 ·subst e1
  have e2 : (A ++ xs :: B).getD A.length [] = xs := by simp [List.getD_eq_getElem?_getD]
  rw [e2, hx]
  exact ⟨k, h1, by simp [hk]⟩
 ·have e3 : (A ++ xs :: B).getD i [] = (A ++ e :: B).getD i [] := by
   simp only [List.getD_eq_getElem?_getD, List.getElem?_append]
   split
   ·rfl
   ·have : i - A.length = (i - A.length - 1) + 1 := by omega
    rw [this]
    rfl
  have hi' : i < (A ++ e :: B).length := by simpa using hi
  obtain ⟨k', h3, h4⟩ := h.at_ i hi'
  rw [e3]
  refine ⟨k', h3, ?_⟩
  rw [List.getElem?_set, if_neg]
  ·exact h4
  ·intro e4
   subst e4
   -- two places with one object
   have hnd := h.nd
   have l1 := (List.getElem?_eq_some_iff.mp h1)
   have l3 := (List.getElem?_eq_some_iff.mp h3)
   obtain ⟨p1, q1⟩ := l1
   obtain ⟨p3, q3⟩ := l3
   have key : ∀ (us : List Value), (us.flatMap arefs).Nodup → ∀ i j (hi : i < us.length) (hj : j < us.length), i < j → ∀ r, r ∈ arefs us[i] → r ∉ arefs us[j] := by
    intro us
    induction us with
    | nil => intro _ i j hi; simp at hi
    | cons u us ih =>
     intro hn i j hi hj hij r hr hr2
     rw [List.flatMap_cons] at hn
     obtain ⟨_, n2, n3⟩ := List.nodup_append.mp hn
     cases j with
     | zero => omega
     | succ j =>
      cases i with
      | zero =>
       refine n3 r (by simpa using hr) r (List.mem_flatMap.mpr ⟨_, List.getElem_mem (by simpa using hj), by simpa using hr2⟩) rfl
      | succ i => exact ih n2 i j (by simpa using hi) (by simpa using hj) (by omega) r (by simpa using hr) (by simpa using hr2)
   rcases Nat.lt_or_gt_of_ne e1 with hlt2 | hgt
   ·exact key vs hnd i A.length p3 p1 hlt2 (n + k) (by rw [q3]; simp [arefs]) (by rw [q1]; simp [arefs])
   ·exact key vs hnd A.length i p1 p3 hgt (n + k) (by rw [q1]; simp [arefs]) (by rw [q3]; simp [arefs])
theorem kclean_take {h H : VH} {vs : List Value} (ht : H.take h.length = h) (hv : ∀ v ∈ vs, Old h.length v) : kclean h vs H = (vs, h) := by
 have e : H = h ++ H.drop h.length := by
  conv => lhs; rw [← List.take_append_drop h.length H, ht]
 rw [e]
 exact cleanup_drop hv
end

/- Lists of lists: all edges. -/
section
open Go
variable {nro : Nat}
def edgF (rows : List Int) (v n w : Nat) : List (List Int) := if h : w < n then (if rbit rows v w = true then [[(v : Int), (w : Int)]] else []) ++ edgF rows v n (w + 1) else []
 termination_by n - w
theorem edgF_end {rows : List Int} {v n w : Nat} (h : ¬ w < n) : edgF rows v n w = [] := by rw [edgF, dif_neg h]
theorem edgF_step {rows : List Int} {v n w : Nat} (h : w < n) : edgF rows v n w = (if rbit rows v w = true then [[(v : Int), (w : Int)]] else []) ++ edgF rows v n (w + 1) := by rw [edgF, dif_pos h]
def edgesF (rows : List Int) (n v : Nat) : List (List Int) := if h : v < n then edgF rows v n (v + 1) ++ edgesF rows n (v + 1) else []
 termination_by n - v
theorem edgesF_end {rows : List Int} {n v : Nat} (h : ¬ v < n) : edgesF rows n v = [] := by rw [edgesF, dif_neg h]
theorem edgesF_step {rows : List Int} {n v : Nat} (h : v < n) : edgesF rows n v = edgF rows v n (v + 1) ++ edgesF rows n (v + 1) := by rw [edgesF, dif_pos h]
theorem edgF_mem (rows : List Int) (v n w : Nat) (e : List Int) : e ∈ edgF rows v n w ↔ ∃ k : Nat, w ≤ k ∧ k < n ∧ rbit rows v k = true ∧ e = [(v : Int), (k : Int)] := by
  by_cases h : w < n
  · rw [edgF_step h, List.mem_append, edgF_mem rows v n (w + 1) e]
    split
    · rename_i hb
      simp only [List.mem_singleton]
      constructor
      · rintro (rfl | ⟨k, h1, h2, h3, h4⟩)
        · exact ⟨w, Nat.le_refl _, h, hb, rfl⟩
        · exact ⟨k, by omega, h2, h3, h4⟩
      · rintro ⟨k, h1, h2, h3, h4⟩
        by_cases e : k = w
        · subst e; exact .inl h4
        · exact .inr ⟨k, by omega, h2, h3, h4⟩
    · rename_i hb
      simp only [List.not_mem_nil, false_or]
      constructor
      · rintro ⟨k, h1, h2, h3, h4⟩
        exact ⟨k, by omega, h2, h3, h4⟩
      · rintro ⟨k, h1, h2, h3, h4⟩
        by_cases e : k = w
        · subst e; exact absurd h3 hb
        · exact ⟨k, by omega, h2, h3, h4⟩
  · rw [edgF_end h]
    simp only [List.not_mem_nil, false_iff]
    rintro ⟨k, h1, h2, _⟩
    omega
 termination_by n - w
theorem edgesF_mem (rows : List Int) (n v : Nat) (e : List Int) : e ∈ edgesF rows n v ↔ ∃ u k : Nat, v ≤ u ∧ u < k ∧ k < n ∧ rbit rows u k = true ∧ e = [(u : Int), (k : Int)] := by
  by_cases h : v < n
  · rw [edgesF_step h, List.mem_append, edgF_mem, edgesF_mem rows n (v + 1) e]
    constructor
    · rintro (⟨k, h1, h2, h3, h4⟩ | ⟨u, k, h1, h2, h3, h4, h5⟩)
      · exact ⟨v, k, Nat.le_refl _, by omega, h2, h3, h4⟩
      · exact ⟨u, k, by omega, h2, h3, h4, h5⟩
    · rintro ⟨u, k, h1, h2, h3, h4, h5⟩
      by_cases e : u = v
      · subst e; exact .inl ⟨k, by omega, h3, h4, h5⟩
      · exact .inr ⟨u, k, by omega, h2, h3, h4, h5⟩
  · rw [edgesF_end h]
    simp only [List.not_mem_nil, false_iff]
    rintro ⟨u, k, h1, h2, h3, _⟩
    omega
 termination_by n - v
theorem edgF_len (rows : List Int) (v n w : Nat) (hw : w ≤ n) : (edgF rows v n w).length ≤ n - w := by
  by_cases h : w < n
  · rw [edgF_step h, List.length_append]
    have := edgF_len rows v n (w + 1) h
    split <;> simp <;> omega
  · rw [edgF_end h]; simp
 termination_by n - w
abbrev eH (h : VH) (n : Int) (s : Value) (vs : List Value) (G : VH) : VH := h ++ ⟨0, [.int .i64 n, s]⟩ :: ⟨1, vs⟩ :: G
abbrev eq1 (h : VH) (m : Nat) : Value := .slice (some ⟨h.length + 1, 0, none⟩) m m
theorem eH_clean {h : VH} {n : Int} {s : Value} {vs0 vs vals : List Value} {G0 G : VH} {ess0 ess : List (List Int)} (e0 : EI (h.length + 2) vs0 G0 ess0) (e : EI (h.length + 2) vs G ess) (hG : G0.length ≤ G.length) (hv : ∀ v ∈ vals, Old (h.length + 2 + G0.length) v) :
  ∃ G1, kclean (eH h n s vs0 G0) vals (eH h n s vs G) = (vals, eH h n s vs G1) ∧ EI (h.length + 2) vs G1 ess ∧ G0.length ≤ G1.length := by
 have := EI.cleanP (P0 := h ++ [⟨0, [.int .i64 n, s]⟩]) (P := h ++ [⟨0, [.int .i64 n, s]⟩]) (by simpa using e0) (by simpa using e) rfl hG (by simpa using hv)
 simpa using this
theorem eH_clean' {h : VH} {n : Int} {s : Value} {vs0 vs vals : List Value} {G0 G : VH} {ess0 ess : List (List Int)} (e0 : EI (h.length + 2) vs0 G0 ess0) (e : EI (h.length + 2) vs G ess) (hG : G0.length ≤ G.length) (hv : ∀ v ∈ vals, Old (h.length + 2 + G0.length) v) :
  ∃ G1, kclean (eH h n s vs0 G0) vals (eH h n s vs G) = (vals, eH h n s vs G1) ∧ EI (h.length + 2) vs G1 ess ∧ G0.length ≤ G1.length ∧ ∀ k, k < G0.length → G1[k]? = G[k]? := by
 have := EI.cleanP' (P0 := h ++ [⟨0, [.int .i64 n, s]⟩]) (P := h ++ [⟨0, [.int .i64 n, s]⟩]) (by simpa using e0) (by simpa using e) rfl hG (by simpa using hv)
 simpa using this
theorem l_zz66_1 (n : Int) (s : Value) (rows : List Int) (h : VH) (hs : Sli h s rows) (hn : nro ≤ h.length) (g : GV n rows) (v : Nat) (hv : v < n.toNat) (vs0 : List Value) (G0 : VH) (ess0 : List (List Int)) (e0 : EI (h.length + 2) vs0 G0 ess0) (hm : vs0.length ≤ v * 62) :
  ∃ a : List Value × VH, (EI (h.length + 2) a.1 a.2 (ess0 ++ edgF rows v n.toNat (v + 1)) ∧ G0.length ≤ a.2.length) ∧ floop (vcall F nro) nro [1, 3, 4, 5] i_zz66_B1 (eH h n s vs0 G0) [bp h, eq1 h vs0.length, .int .i64 v, .int .i64 ((v + 1 : Nat) : Int)] (eH h n s vs0 G0) =
   some (.exit 2, fl [(1, bp h), (3, eq1 h a.1.length), (4, .int .i64 v)], eH h n s a.1 a.2) := by
 have hlen := g.len
 have g0 := g.hi
 have hp := pow_le62 g.hi
 obtain ⟨g1, g2, _⟩ := g.row v (by omega)
 refine Exists.elim (for_upR (call := vcall F nro) (nro := nro) (live := [1, 3, 4, 5]) (c := i_zz66_B1) (h0 := eH h n s vs0 G0) (n := n.toNat) (fun i (a : List Value × VH) => [bp h, eq1 h a.1.length, .int .i64 v, .int .i64 i]) (fun i a => eH h n s a.1 a.2)
  (fun i a => (∃ ess, EI (h.length + 2) a.1 a.2 ess ∧ ess ++ edgF rows v n.toNat i = ess0 ++ edgF rows v n.toNat (v + 1)) ∧ G0.length ≤ a.2.length ∧ a.1.length ≤ v * 62 + i) (fun a => some (.exit 2, fl [(1, bp h), (3, eq1 h a.1.length), (4, .int .i64 v)], eH h n s a.1 a.2)) ?_ ?_ (v + 1) (vs0, G0) (by omega) ⟨⟨ess0, e0, rfl⟩, Nat.le_refl _, by simp; omega⟩) ?_
 ·rintro w ⟨vs, G⟩ hlt hlt0 ⟨⟨ess, e, hess⟩, hG, hm⟩
  dsimp only at e hG hm ⊢
  have hlt' : (w : Int) < n := by omega
  rw [floop_at i_zz66_B1.eq_1]
  rw [edgF_step hlt, ← List.append_assoc] at hess
  obtain ⟨H, hH⟩ : ∃ H, H = eH h n s vs G := ⟨_, rfl⟩
  have hc := c_zz88' (nro := nro) n v w s rows H (by rw [hH]; exact hs.app _) (by omega) (by omega) (by omega) (by omega) (by rw [Int.toNat_natCast]; exact g1) (by rw [Int.toNat_natCast]; omega)
  rw [Int.toNat_natCast, Int.toNat_natCast] at hc
  have hq : H[h.length + 1]? = some ⟨1, vs⟩ := by rw [hH]; simp
  have hbx : H[h.length]? = some ⟨0, [.int .i64 n, s]⟩ := by rw [hH]; simp
  have hHl : H.length = h.length + 2 + G.length := by rw [hH]; simp; omega
  have hnH : nro ≤ H.length := by omega
  have hn2 := fun k => Nat.le_trans hnH (Nat.le_add_right H.length k)
  have hn1 := fun k => Nat.le_trans hn (Nat.le_add_right h.length k)
  obtain ⟨K, hK⟩ : ∃ K, K = eH h n s vs0 G0 := ⟨_, rfl⟩
  have hold : ∀ m, ∀ x ∈ [bp h, eq1 h m, Value.int .i64 v, Value.int .i64 ((w : Int) + 1)], Old (h.length + 2 + G0.length) x := by
   intro m x hx
   simp at hx
   rcases hx with rfl | rfl | rfl | rfl <;> intro r hr <;> simp [trefs, vrefs, crefs, arefs] at hr ⊢ <;> omega
  by_cases hb : rbit rows v w = true
  ·rw [if_pos hb] at hess
   have b1 : (vs.length + 1) * 24 ≤ 1099511627776 := by omega
   have b2 : vs.length < 1099511627776 := by omega
   have hnew : H.set (h.length + 1) ⟨1, vs ++ [.slice (some ⟨H.length, 0, none⟩) 2 2]⟩ ++ [⟨1, [.int .i64 v, .int .i64 w]⟩, ⟨1, [.slice (some ⟨H.length, 0, none⟩) 2 2]⟩] = eH h n s (vs ++ [.slice (some ⟨h.length + 2 + G.length, 0, none⟩) 2 2]) (G ++ ⟨1, [.int .i64 v, .int .i64 w]⟩ :: [⟨1, [.slice (some ⟨h.length + 2 + G.length, 0, none⟩) 2 2]⟩]) := by
    rw [hHl, hH]; simp
   have e1 := e.push [(v : Int), (w : Int)] [⟨1, [.slice (some ⟨h.length + 2 + G.length, 0, none⟩) 2 2]⟩]
   obtain ⟨G1, hk, e2, e3⟩ := eH_clean (n := n) (s := s) e0 e1 (by simp; omega) (hold (vs.length + 1))
   refine ⟨(_, G1), ⟨⟨_, e2, hess⟩, e3, by simp; omega⟩, ?_⟩
   rw [← hK] at hk ⊢
   rw [← hH]
   simp at hk
   simp only [List.length_append, List.length_singleton, List.length_cons, List.length_nil]
   clear hold hHl hH hK e1 e e0 e2 hess
   simp (disch := first | assumption | omega | (simp [*] <;> omega) | fail) [hbx, hq, hget_old hq, hset_old hq, hc, hb, wrap64, hlt', hn1, hnH, hn2, b1, b2, hnew, hk]
  ·rw [if_neg hb, List.append_nil] at hess
   obtain ⟨G1, hk, e2, e3⟩ := eH_clean (n := n) (s := s) e0 e hG (hold vs.length)
   refine ⟨(vs, G1), ⟨⟨_, e2, hess⟩, e3, by simp; omega⟩, ?_⟩
   rw [← hK, ← hH] at hk
   rw [← hK, ← hH]
   clear hold hHl hH hK e e0 e2 hess
   simp (disch := first | assumption | omega | (simp [*] <;> omega) | fail) [hbx, hq, hc, hb, wrap64, hlt', hnH, hn2, hk]
 ·rintro ⟨vs, G⟩ _
  have e : ((n.toNat : Nat) : Int) = n := by omega
  rw [floop_at i_zz66_B1.eq_1]
  simp (disch := first | assumption | omega | (simp [*] <;> omega) | fail) [e]
 ·rintro a ⟨⟨⟨ess, k1, k2⟩, k3, k4⟩, h2⟩
  rw [edgF_end (by omega), List.append_nil] at k2
  rw [k2] at k1
  exact ⟨a, ⟨k1, k3⟩, h2⟩
theorem l_zz66_2 (n : Int) (s : Value) (rows : List Int) (h : VH) (hs : Sli h s rows) (hn : nro ≤ h.length) (g : GV n rows) :
  ∃ a : List Value × VH, EI (h.length + 2) a.1 a.2 (edgesF rows n.toNat 0) ∧ floop (vcall F nro) nro [1, 3, 4] i_zz66_B2 (eH h n s [] []) [bp h, eq1 h 0, .int .i64 0] (eH h n s [] []) =
   some (.exit 0, fl [(3, eq1 h a.1.length)], eH h n s a.1 a.2) := by
 have hlen := g.len
 have g0 := g.hi
 refine Exists.elim (for_upR (call := vcall F nro) (nro := nro) (live := [1, 3, 4]) (c := i_zz66_B2) (h0 := eH h n s [] []) (n := n.toNat) (fun i (a : List Value × VH) => [bp h, eq1 h a.1.length, .int .i64 i]) (fun i a => eH h n s a.1 a.2)
  (fun i a => (∃ ess, EI (h.length + 2) a.1 a.2 ess ∧ ess ++ edgesF rows n.toNat i = edgesF rows n.toNat 0) ∧ a.1.length ≤ i * 62) (fun a => some (.exit 0, fl [(3, eq1 h a.1.length)], eH h n s a.1 a.2)) ?_ ?_ 0 ([], []) (by omega) ⟨⟨[], EI.nil _ _, rfl⟩, by simp⟩) ?_
 ·rintro v ⟨vs, G⟩ hlt hlt0 ⟨⟨ess, e, hess⟩, hm⟩
  dsimp only at e hm ⊢
  have hlt' : (v : Int) < n := by omega
  obtain ⟨⟨vs1, G1⟩, ⟨i2, i3⟩, i1⟩ := l_zz66_1 (nro := nro) n s rows h hs hn g v hlt vs G ess e hm
  dsimp only at i1 i2 i3
  have i4 : vs1.length ≤ (v + 1) * 62 := by
   have := i2.len
   have := e.len
   have := edgF_len rows v n.toNat (v + 1) (by omega)
   simp at *
   omega
  have hold : ∀ x ∈ [bp h, eq1 h vs1.length, Value.int .i64 ((v : Int) + 1)], Old (h.length + 2 + ([] : VH).length) x := by
   intro x hx
   simp at hx
   rcases hx with rfl | rfl | rfl <;> intro r hr <;> simp [trefs, vrefs, crefs, arefs] at hr ⊢ <;> omega
  obtain ⟨G2, hk, e2, e3⟩ := eH_clean (n := n) (s := s) (EI.nil (h.length + 2) []) i2 (by simp) hold
  rw [edgesF_step hlt, ← List.append_assoc] at hess
  refine ⟨(vs1, G2), ⟨⟨_, e2, hess⟩, i4⟩, ?_⟩
  rw [floop_at i_zz66_B2.eq_1]
  obtain ⟨K, hK⟩ : ∃ K, K = eH h n s [] [] := ⟨_, rfl⟩
  obtain ⟨H, hH⟩ : ∃ H, H = eH h n s vs G := ⟨_, rfl⟩
  obtain ⟨H1, hH1⟩ : ∃ H1, H1 = eH h n s vs1 G1 := ⟨_, rfl⟩
  have hbx : H[h.length]? = some ⟨0, [.int .i64 n, s]⟩ := by rw [hH]; simp
  rw [← hK, ← hH1] at hk
  rw [← hH, ← hH1] at i1
  rw [← hK, ← hH]
  clear hold hH hH1 hK e e2 i2 hess
  simp at i1
  simp (disch := first | assumption | omega | (simp [*] <;> omega) | fail) [hbx, wrap64, hlt', i1, hk]
 ·rintro ⟨vs, G⟩ _
  have e : ((n.toNat : Nat) : Int) = n := by omega
  rw [floop_at i_zz66_B2.eq_1]
  simp (disch := first | assumption | omega | (simp [*] <;> omega) | fail) [e]
 ·rintro a ⟨⟨⟨ess, k1, k2⟩, _⟩, h2⟩
  rw [edgesF_end (by omega), List.append_nil] at k2
  rw [k2] at k1
  exact ⟨a, k1, h2⟩
theorem c_zz66 (n : Int) (s : Value) (rows : List Int) (h : VH) (hs : Sli h s rows) (hn : nro ≤ h.length) (g : GV n rows) :
  ∃ v M, vcall F nro k_zz66 [gv n s] h = some (v, h ++ M) ∧ SL2 h.length M v (edgesF rows n.toNat 0) := by
 have hn' := fun k => Nat.le_trans hn (Nat.le_add_right h.length k)
 obtain ⟨⟨vs', G'⟩, l2, l1⟩ := l_zz66_2 (nro := nro) n s rows h hs hn g
 obtain ⟨v, M, k1, k2⟩ := EI.fin1 (h := h) (pre := [⟨0, [.int .i64 n, s]⟩]) l2
 refine ⟨v, M, ?_, k2⟩
 refine v_zz66 (by simp [i_zz66]) ?_
 rw [fbody_eq]
 simp at l1 k1
 simp (disch := first | assumption | omega | (simp [*] <;> omega) | fail) [i_zz66, l1, hn', k1]
end

/- The program's maker of graphs; DoubleGraph. -/
section
open Go
variable {nro : Nat}
abbrev mH (h : VH) (N : Nat) (r : List Int) : VH := h ++ [⟨0, [.int .i64 0, .slice none 0 0]⟩, ⟨1, ints r⟩, ⟨0, [.int .i64 N, .slice (some ⟨h.length + 1, 0, none⟩) N N]⟩]
abbrev fnv (kf : Nat) (caps : List Value) : Value := .func (.func kf) #[] caps.toArray
theorem l_zz97_1 (N kf : Nat) (caps : List Value) (P : Nat → Nat → Prop) [DecidableRel P] (h : VH) (hn : nro ≤ h.length) (hN : N ≤ 62) (hf : ∀ L (a b : Nat), a < b → b < N → vcall F nro kf ([.int .i64 a, .int .i64 b] ++ caps) (h ++ L) = some (.bool (decide (P a b)), h ++ L)) (hfo : ∀ k, Old (h.length + k) (fnv kf caps))
    (r0 : List Int) (j : Int) (v : Nat) (hv : v < N) (w : Nat) (hvw : v < w) (hw : w ≤ N) (r : List Int) (adj : Nat → Nat → Prop) (ha : IsAdj N r adj) :
    ∃ r', floop (vcall F nro) nro [0, 1, 4, 5, 6, 7, 10, 11] i_zz97_B1 (mH h N r0) [.int .i64 N, fnv kf caps, .pointer (some ⟨h.length, 0, some 2⟩), .pointer (some ⟨h.length + 2, 0, some 2⟩), .int .i64 v, .int .i64 w, .int .i64 N, .int .i64 j] (mH h N r) =
      some (.exit 2, fl [(0, .int .i64 N), (1, fnv kf caps), (4, .pointer (some ⟨h.length, 0, some 2⟩)), (5, .pointer (some ⟨h.length + 2, 0, some 2⟩)), (10, .int .i64 N), (11, .int .i64 j)], mH h N r') ∧
      IsAdj N r' (fun x y => adj x y ∨ ∃ k : Nat, w ≤ k ∧ k < N ∧ P v k ∧ ((x = v ∧ y = k) ∨ (x = k ∧ y = v))) := by
  have hn' := fun k => Nat.le_trans hn (Nat.le_add_right h.length k)
  rw [floop_at i_zz97_B1.eq_1]
  by_cases hlt : w < N
  · have hff := fun L => hf L v w hvw hlt
    simp only [List.cons_append, List.nil_append] at hff
    by_cases hb : P v w
    · have hc := c_zz53 (nro := nro) N (h.length + 1) N v w r (mH h N r) (by simp) ha.1 (by omega) (by omega) (by omega) (by omega) (by omega) hN
      rw [if_neg (by omega)] at hc
      simp at hc
      obtain ⟨r', ih1, ih2⟩ := l_zz97_1 N kf caps P h hn hN hf hfo r0 j v hv (w + 1) (by omega) (by omega) (put2 r v w) _ (ha.put2 (by omega) (by omega) (by omega) (by omega) hN)
      rw [show ((w + 1 : Nat) : Int) = (w : Int) + 1 by omega] at ih1
      refine ⟨r', ?_, ih2.congr fun x y _ => ?_⟩
      · simp (disch := first | assumption | omega | (simp [*] <;> omega) | fail) [wrap64, hlt, hb, hc, hff, hn', ih1]
      · constructor
        · rintro ((h1 | h1 | h1) | ⟨k, h1, h2, h3, h4⟩)
          · exact .inl h1
          · exact .inr ⟨w, Nat.le_refl _, hlt, hb, .inl (by simpa using h1)⟩
          · exact .inr ⟨w, Nat.le_refl _, hlt, hb, .inr (by simpa using h1)⟩
          · exact .inr ⟨k, by omega, h2, h3, h4⟩
        · rintro (h1 | ⟨k, h1, h2, h3, h4⟩)
          · exact .inl (.inl h1)
          · by_cases e : k = w
            · subst e; exact .inl (.inr (by simpa using h4))
            · exact .inr ⟨k, by omega, h2, h3, h4⟩
    · obtain ⟨r', ih1, ih2⟩ := l_zz97_1 N kf caps P h hn hN hf hfo r0 j v hv (w + 1) (by omega) (by omega) r _ ha
      rw [show ((w + 1 : Nat) : Int) = (w : Int) + 1 by omega] at ih1
      refine ⟨r', ?_, ih2.congr fun x y _ => ?_⟩
      · simp (disch := first | assumption | omega | (simp [*] <;> omega) | fail) [wrap64, hlt, hb, hff, hn', ih1]
      · constructor
        · rintro (h1 | ⟨k, h1, h2, h3, h4⟩)
          · exact .inl h1
          · exact .inr ⟨k, by omega, h2, h3, h4⟩
        · rintro (h1 | ⟨k, h1, h2, h3, h4⟩)
          · exact .inl h1
          · by_cases e : k = w
            · subst e; exact absurd h3 hb
            · exact .inr ⟨k, by omega, h2, h3, h4⟩
  · refine ⟨r, ?_, ha.congr fun x y _ => ?_⟩
    · simp (disch := first | assumption | omega | (simp [*] <;> omega) | fail) [hlt]
    · constructor
      · exact .inl
      · rintro (h | ⟨k, h1, h2, _⟩)
        · exact h
        · omega
 termination_by N - w
theorem l_zz97_2 (N kf : Nat) (caps : List Value) (P : Nat → Nat → Prop) [DecidableRel P] (h : VH) (hn : nro ≤ h.length) (hN : N ≤ 62) (hf : ∀ L (a b : Nat), a < b → b < N → vcall F nro kf ([.int .i64 a, .int .i64 b] ++ caps) (h ++ L) = some (.bool (decide (P a b)), h ++ L)) (hfo : ∀ k, Old (h.length + k) (fnv kf caps))
    (r0 : List Int) (v : Nat) (hv : v ≤ N) (r : List Int) (adj : Nat → Nat → Prop) (ha : IsAdj N r adj) :
    ∃ r', floop (vcall F nro) nro [0, 1, 4, 5, 10, 11] i_zz97_B2 (mH h N r0) [.int .i64 N, fnv kf caps, .pointer (some ⟨h.length, 0, some 2⟩), .pointer (some ⟨h.length + 2, 0, some 2⟩), .int .i64 N, .int .i64 v] (mH h N r) =
      some (.exit 0, fl [(4, .pointer (some ⟨h.length, 0, some 2⟩)), (5, .pointer (some ⟨h.length + 2, 0, some 2⟩))], mH h N r') ∧
      IsAdj N r' (fun x y => adj x y ∨ ∃ u : Nat, v ≤ u ∧ ∃ k : Nat, u < k ∧ k < N ∧ P u k ∧ ((x = u ∧ y = k) ∨ (x = k ∧ y = u))) := by
  rw [floop_at i_zz97_B2.eq_1]
  by_cases hlt : v < N
  · obtain ⟨r1, e1, a1⟩ := l_zz97_1 (nro := nro) N kf caps P h hn hN hf hfo r v v hlt (v + 1) (by omega) (by omega) r adj ha
    obtain ⟨r', ih1, ih2⟩ := l_zz97_2 N kf caps P h hn hN hf hfo r0 (v + 1) (by omega) r1 _ a1
    rw [show ((v + 1 : Nat) : Int) = (v : Int) + 1 by omega] at ih1 e1
    refine ⟨r', ?_, ih2.congr fun x y _ => ?_⟩
    · simp (disch := first | assumption | omega | (simp [*] <;> omega) | fail) [wrap64, hlt, e1, ih1]
    · constructor
      · rintro ((h1 | ⟨k, h0, h2, h3, h4⟩) | ⟨u, h1, h2⟩)
        · exact .inl h1
        · exact .inr ⟨v, Nat.le_refl _, k, by omega, h2, h3, h4⟩
        · exact .inr ⟨u, by omega, h2⟩
      · rintro (h1 | ⟨u, h1, k, h3, h4, h5, h6⟩)
        · exact .inl (.inl h1)
        · by_cases e : u = v
          · subst e; exact .inl (.inr ⟨k, by omega, h4, h5, h6⟩)
          · exact .inr ⟨u, by omega, k, h3, h4, h5, h6⟩
  · refine ⟨r, ?_, ha.congr fun x y _ => ?_⟩
    · simp (disch := first | assumption | omega | (simp [*] <;> omega) | fail) [hlt]
    · constructor
      · exact .inl
      · rintro (h | ⟨u, h1, k, h2, h3, _⟩)
        · exact h
        · omega
 termination_by N - v
def madeAdj (N : Nat) (P : Nat → Nat → Prop) (x y : Nat) : Prop := ∃ u : Nat, ∃ k : Nat, u < k ∧ k < N ∧ P u k ∧ ((x = u ∧ y = k) ∨ (x = k ∧ y = u))
theorem c_zz97 (N kf : Nat) (caps : List Value) (P : Nat → Nat → Prop) [DecidableRel P] (h : VH) (hn : nro ≤ h.length) (hN : N ≤ 62) (hf : ∀ L (a b : Nat), a < b → b < N → vcall F nro kf ([.int .i64 a, .int .i64 b] ++ caps) (h ++ L) = some (.bool (decide (P a b)), h ++ L)) (hfo : ∀ k, Old (h.length + k) (fnv kf caps)) :
  vcall F nro k_zz97 [.int .i64 N, fnv kf caps] h = some (gv N (.slice (some ⟨h.length, 0, none⟩) N N), h ++ [⟨1, ints (adjRows N (madeAdj N P))⟩]) ∧ IsAdj N (adjRows N (madeAdj N P)) (madeAdj N P) := by
 have hn' := fun k => Nat.le_trans hn (Nat.le_add_right h.length k)
 have hE := c_zz93 (nro := nro) N (h ++ [⟨0, [.int .i64 0, .slice none 0 0]⟩]) (by omega) (by omega) (by simp; omega)
 simp at hE
 obtain ⟨r', e1, a1⟩ := l_zz97_2 (nro := nro) N kf caps P h hn hN hf hfo (List.replicate N 0) 0 (by omega) (List.replicate N 0) _ (IsAdj.zero _)
 rw [show ((0 : Nat) : Int) = 0 from rfl] at e1
 have a2 : IsAdj N r' (madeAdj N P) := a1.congr fun x y _ => by simp [madeAdj]
 rw [a2.eq]
 refine ⟨v_zz97 (by simp [i_zz97]) ?_, a2⟩
 rw [fbody_eq]
 simp (disch := first | assumption | omega | (simp [*] <;> omega) | fail) [i_zz97, hE, e1, hn', hn, fresults, fresL, fres1]
end

/- Covers; the law of IsCover. -/
section
open Go
variable {nro : Nat}
theorem Sli.nj {h : VH} {v : Value} {xs : List Int} (hs : Sli h v xs) : isJunk v = false := by
 cases v <;> first | rfl | (simp [Sli, Sl, vsrc] at hs)
theorem c_impl_areGraphs2 (n m : Int) (s t : Value) (rows hrows : List Int) (b : Nat) (h : VH) (hs : Sli h s rows) (ht : Sli h t hrows) (hb : h[b]? = some ⟨2, [.int .i64 n, s, .int .i64 m, t]⟩) (hn : nro ≤ h.length) :
  vcall F nro k_zz55 [.slice (some ⟨b, 0, none⟩) 2 4] h = some (.bool (open Classical in decide (GV n rows ∧ GV m hrows)), h) := by
 refine v_zz55 (by simp [i_zz55]) ?_
 rw [fbody_eq]
 have hbl := (List.getElem?_eq_some_iff.mp hb).1
 have ho : ∀ k, Old (h.length + k) (.slice (some ⟨b, 0, none⟩) 2 4) := fun k r hr => by simp [trefs, vrefs, crefs, arefs] at hr; omega
 have ho0 : Old h.length (.slice (some ⟨b, 0, none⟩) 2 4) := ho 0
 have hn' := fun k => Nat.le_trans hn (Nat.le_add_right h.length k)
 clear hbl
 have js := hs.nj
 have jt := ht.nj
 unfold isJunk at js jt
 have hc1 := fun L => c_zz73 (nro := nro) n s rows (h ++ L) (hs.app _)
 have hc2 := fun L => c_zz73 (nro := nro) m t hrows (h ++ L) (ht.app _)
 have l2 : floop (vcall F nro) nro [5, 6, 7] i_zz55_B1 h [.slice (some ⟨b, 0, none⟩) 2 4, .int .i64 2, .int .i64 2] h = some (.exit 0, fl [], h) := by
  rw [floop_at i_zz55_B1.eq_1]
  simp (disch := first | assumption | omega | (simp [*] <;> omega) | fail) []
 by_cases g : GV n rows
 ·by_cases gm : GV m hrows
  ·have l1 : floop (vcall F nro) nro [5, 6, 7] i_zz55_B1 h [.slice (some ⟨b, 0, none⟩) 2 4, .int .i64 2, .int .i64 1] h = some (.exit 0, fl [], h) := by
    rw [floop_at i_zz55_B1.eq_1]
    simp (disch := first | assumption | omega | (simp [*] <;> omega) | fail) [hget_old hb, hb, hc2, gm, wrap64, l2, hn', hn, js, jt]
   have l0 : floop (vcall F nro) nro [5, 6, 7] i_zz55_B1 h [.slice (some ⟨b, 0, none⟩) 2 4, .int .i64 2, .int .i64 0] h = some (.exit 0, fl [], h) := by
    rw [floop_at i_zz55_B1.eq_1]
    simp (disch := first | assumption | omega | (simp [*] <;> omega) | fail) [hget_old hb, hb, hc1, g, wrap64, l1, hn', hn, js, jt]
   simp (disch := first | assumption | omega | (simp [*] <;> omega) | fail) [i_zz55, hb, l0, g, gm]
  ·have l1 : ∃ M, floop (vcall F nro) nro [5, 6, 7] i_zz55_B1 h [.slice (some ⟨b, 0, none⟩) 2 4, .int .i64 2, .int .i64 1] h = some (.ret, fl [(2, .bool false)], h ++ M) := by
    refine ⟨[⟨0, [.int .i64 m, t]⟩], ?_⟩
    rw [floop_at i_zz55_B1.eq_1]
    simp (disch := first | assumption | omega | (simp [*] <;> omega) | fail) [hget_old hb, hb, hc2, gm, wrap64, hn', hn, js, jt]
   obtain ⟨M, l1⟩ := l1
   have l0 : floop (vcall F nro) nro [5, 6, 7] i_zz55_B1 h [.slice (some ⟨b, 0, none⟩) 2 4, .int .i64 2, .int .i64 0] h = some (.ret, fl [(2, .bool false)], h ++ M) := by
    rw [floop_at i_zz55_B1.eq_1]
    simp (disch := first | assumption | omega | (simp [*] <;> omega) | fail) [hget_old hb, hb, hc1, g, wrap64, l1, hn', hn, js, jt]
   simp (disch := first | assumption | omega | (simp [*] <;> omega) | fail) [i_zz55, hb, l0, g, gm]
 ·have l0 : ∃ M, floop (vcall F nro) nro [5, 6, 7] i_zz55_B1 h [.slice (some ⟨b, 0, none⟩) 2 4, .int .i64 2, .int .i64 0] h = some (.ret, fl [(2, .bool false)], h ++ M) := by
   refine ⟨[⟨0, [.int .i64 n, s]⟩], ?_⟩
   rw [floop_at i_zz55_B1.eq_1]
   simp (disch := first | assumption | omega | (simp [*] <;> omega) | fail) [hget_old hb, hb, hc1, g, wrap64, hn', hn, js, jt]
  obtain ⟨M, l0⟩ := l0
  simp (disch := first | assumption | omega | (simp [*] <;> omega) | fail) [i_zz55, hb, l0, g]
end

/- Products of graphs: what the reference makes. -/
section
open Go
variable {nro : Nat}
structure LLq (H : VH) (b0 : Nat) (q : Value) (es : List (List Int)) (vs : List Value) : Prop where
 len : vs.length = es.length
 out : ∀ r, Sl (H.set b0 ⟨1, ints r⟩) q vs
 inn : ∀ (i : Nat) (hi : i < vs.length) r, Sli (H.set b0 ⟨1, ints r⟩) vs[i] (es.getD i [])
theorem LLq.set {H : VH} {b0 : Nat} {q : Value} {es : List (List Int)} {vs : List Value} (h : LLq H b0 q es vs) (r : List Int) : LLq (H.set b0 ⟨1, ints r⟩) b0 q es vs :=
 ⟨h.len, fun r' => by rw [List.set_set]; exact h.out r', fun i hi r' => by rw [List.set_set]; exact h.inn i hi r'⟩
theorem LLq.of {h M L : VH} {q : Value} {es : List (List Int)} (hs : SL2 h.length M q es) {b0 : Nat} (hb : b0 < h.length) : ∃ vs, LLq (h ++ M ++ L) b0 q es vs := by
 obtain ⟨b, vs, rfl, h1, h2⟩ := hs
 have hset : ∀ o, (h ++ M ++ L).set b0 o = h.set b0 o ++ M ++ L := fun o => by
  rw [List.append_assoc, List.append_assoc, List.set_append_left _ _ hb]
 have hget : ∀ o k, (h.set b0 o ++ M ++ L)[h.length + k]? = (M ++ L)[k]? := fun o k => by
  rw [List.append_assoc, List.getElem?_append_right (by simp), List.length_set, Nat.add_sub_cancel_left]
 refine ⟨vs, h2.len, fun r => ?_, fun i hi r => ?_⟩
 ·rw [hset]
  have h3 : (M ++ L)[b]? = some ⟨1, vs⟩ := by rw [List.getElem?_append_left (List.getElem?_eq_some_iff.mp h1).1]; exact h1
  unfold Sl
  rw [vsrc_ref]
  simp only [hget, h3, h2.len]
  simp [h2.len]
  rw [List.take_of_length_le (by rw [h2.len]; exact Nat.le_refl _)]
 ·have hi' : i < es.length := by rw [← h2.len]; exact hi
  obtain ⟨k, k1, k2⟩ := h2.at_ i hi'
  have e : vs[i] = .slice (some ⟨h.length + k, 0, none⟩) (es.getD i []).length (es.getD i []).length := (List.getElem?_eq_some_iff.mp k1).2
  rw [e, hset]
  refine sli_at ?_
  rw [hget, List.getElem?_append_left (List.getElem?_eq_some_iff.mp k2).1]
  exact k2
def Pairs (n : Nat) (es : List (List Int)) : Prop := ∀ e ∈ es, ∃ u v : Nat, u < n ∧ v < n ∧ e = [(u : Int), (v : Int)]
theorem Pairs.at {n : Nat} {es : List (List Int)} (h : Pairs n es) {i : Nat} (hi : i < es.length) : ∃ u v : Nat, u < n ∧ v < n ∧ es.getD i [] = [(u : Int), (v : Int)] := by
 have : es.getD i [] = es[i] := by rw [List.getD_eq_getElem?_getD, List.getElem?_eq_getElem hi]; rfl
 rw [this]
 exact h _ (List.getElem_mem hi)
theorem edges_pairs (rows : List Int) (n : Nat) : Pairs n (edgesF rows n 0) := by
 intro e he
 obtain ⟨u, k, _, h2, h3, _, rfl⟩ := (edgesF_mem rows n 0 e).mp he
 exact ⟨u, k, by omega, h3, rfl⟩
structure PF (H : VH) (b0 N i3 i5 : Nat) (Nn m : Int) (t : Value) : Prop where
 b : ∃ q0, H[b0]? = some ⟨1, ints q0⟩
 h3 : H[i3]? = some ⟨0, [.int .i64 m, t]⟩
 h5 : H[i5]? = some ⟨0, [.int .i64 Nn, .slice (some ⟨b0, 0, none⟩) N N]⟩
 n3 : i3 ≠ b0
 n5 : i5 ≠ b0
theorem PF.set {H : VH} {b0 N i3 i5 : Nat} {Nn m : Int} {t : Value} (h : PF H b0 N i3 i5 Nn m t) (r : List Int) : PF (H.set b0 ⟨1, ints r⟩) b0 N i3 i5 Nn m t := by
 obtain ⟨q0, hb⟩ := h.b
 refine ⟨⟨r, hget_set0 hb _⟩, ?_, ?_, h.n3, h.n5⟩
 ·rw [List.getElem?_set_ne (fun e => h.n3 e.symm)]; exact h.h3
 ·rw [List.getElem?_set_ne (fun e => h.n5 e.symm)]; exact h.h5
def dirE (m : Nat) (e1 e2 : List Int) (X Y : Nat) : Prop := ∃ u v x y : Nat, e1 = [(u : Int), (v : Int)] ∧ e2 = [(x : Int), (y : Int)] ∧
 (((X = u * m + x ∧ Y = v * m + y) ∨ (X = v * m + y ∧ Y = u * m + x)) ∨ ((X = u * m + y ∧ Y = v * m + x) ∨ (X = v * m + x ∧ Y = u * m + y)))
theorem l_zz61_1 (H : VH) (b0 N i3 i5 n m : Nat) (t p4 q6 q7 : Value) (es1 es2 : List (List Int)) (vs1 vs2 : List Value) (hP : PF H b0 N i3 i5 N m t) (l1 : LLq H b0 q6 es1 vs1) (l2 : LLq H b0 q7 es2 vs2) (hp1 : Pairs n es1) (hp2 : Pairs m es2) (h4 : Old H.length p4) (hn : nro ≤ b0) (hN : N = n * m) (hN2 : N ≤ 62) (hl1 : es1.length ≤ 100000) (hl2 : es2.length ≤ 100000)
    (i : Nat) (hi : i < es1.length) (k : Nat) (hk : k ≤ es2.length) (r : List Int) (adj : Nat → Nat → Prop) (ha : IsAdj N r adj) :
    ∃ r', floop (vcall F nro) nro [3, 4, 5, 6, 7, 8, 9] i_zz61_B1 H [.pointer (some ⟨i3, 0, some 2⟩), p4, .pointer (some ⟨i5, 0, some 2⟩), q6, q7, .int .i64 i, .int .i64 k] (H.set b0 ⟨1, ints r⟩) =
      some (.exit 2, fl [(3, .pointer (some ⟨i3, 0, some 2⟩)), (4, p4), (5, .pointer (some ⟨i5, 0, some 2⟩)), (6, q6), (7, q7), (8, .int .i64 i)], H.set b0 ⟨1, ints r'⟩) ∧
      IsAdj N r' (fun X Y => adj X Y ∨ ∃ e2 ∈ es2.drop k, dirE m (es1.getD i []) e2 X Y) := by
  obtain ⟨q0, hb⟩ := hP.b
  have hbl := (List.getElem?_eq_some_iff.mp hb).1
  have h3 := (hP.set r).h3
  have h5 := (hP.set r).h5
  have hb2 : (H.set b0 ⟨1, ints r⟩)[b0]? = some ⟨1, ints r⟩ := hget_set0 hb _
  have o3 : i3 < H.length := (List.getElem?_eq_some_iff.mp hP.h3).1
  have o5 : i5 < H.length := (List.getElem?_eq_some_iff.mp hP.h5).1
  have po3 : Old H.length (.pointer (some ⟨i3, 0, some 2⟩)) := fun r hr => by simp [trefs, vrefs, crefs, arefs] at hr; omega
  have po5 : Old H.length (.pointer (some ⟨i5, 0, some 2⟩)) := fun r hr => by simp [trefs, vrefs, crefs, arefs] at hr; omega
  clear o3 o5
  have e1 := l1.len
  have e2 := l2.len
  rw [floop_at i_zz61_B1.eq_1]
  by_cases hlt : k < es2.length
  · obtain ⟨u, v, hu, hv, hE1⟩ := hp1.at hi
    obtain ⟨x, y, hx, hy, hE2⟩ := hp2.at hlt
    have s6 := l1.out r
    have s7 := l2.out r
    have f6 := l1.inn i (by omega) r
    have f7 := l2.inn k (by omega) r
    rw [hE1] at f6
    rw [hE2] at f7
    have o6 : Old H.length q6 := by have := s6.old; simpa using this
    have o7 : Old H.length q7 := by have := s7.old; simpa using this
    have bu : u * m + m ≤ N := by rw [hN, ← Nat.succ_mul]; exact Nat.mul_le_mul_right _ hu
    have bv : v * m + m ≤ N := by rw [hN, ← Nat.succ_mul]; exact Nat.mul_le_mul_right _ hv
    have hlt' : (k : Int) < vs2.length := by omega
    have hi' : (i : Int) < vs1.length := by omega
    have w1 : IntKind.i64.wrap ((u : Int) * m) = ((u * m : Nat) : Int) := by rw [← Int.natCast_mul]; exact wrap64 (by omega) (by omega)
    have w2 : IntKind.i64.wrap ((v : Int) * m) = ((v * m : Nat) : Int) := by rw [← Int.natCast_mul]; exact wrap64 (by omega) (by omega)
    obtain ⟨U, hU⟩ : ∃ U, U = u * m := ⟨_, rfl⟩
    obtain ⟨V, hV⟩ : ∃ V, V = v * m := ⟨_, rfl⟩
    rw [← hU] at w1 bu
    rw [← hV] at w2 bv
    have w3 : IntKind.i64.wrap ((U : Int) + x) = ((U + x : Nat) : Int) := by rw [← Int.natCast_add]; exact wrap64 (by omega) (by omega)
    have w4 : IntKind.i64.wrap ((V : Int) + y) = ((V + y : Nat) : Int) := by rw [← Int.natCast_add]; exact wrap64 (by omega) (by omega)
    have w5 : IntKind.i64.wrap ((U : Int) + y) = ((U + y : Nat) : Int) := by rw [← Int.natCast_add]; exact wrap64 (by omega) (by omega)
    have w6 : IntKind.i64.wrap ((V : Int) + x) = ((V + x : Nat) : Int) := by rw [← Int.natCast_add]; exact wrap64 (by omega) (by omega)
    have c1 := c_zz90 (nro := nro) N b0 N ((U + x : Nat) : Int) ((V + y : Nat) : Int) r (H.set b0 ⟨1, ints r⟩) hb2 ha.1 hn (by omega) (by omega) (by omega) (by omega) hN2
    rw [List.set_set] at c1
    have a1 := ha.put2 (a := ((U + x : Nat) : Int)) (b := ((V + y : Nat) : Int)) (by omega) (by omega) (by omega) (by omega) hN2
    obtain ⟨r1, hr1⟩ : ∃ r1, r1 = put2 r ((U + x : Nat) : Int) ((V + y : Nat) : Int) := ⟨_, rfl⟩
    rw [← hr1] at c1 a1
    have c2 := c_zz90 (nro := nro) N b0 N ((U + y : Nat) : Int) ((V + x : Nat) : Int) r1 (H.set b0 ⟨1, ints r1⟩) (hget_set0 hb _) a1.1 hn (by omega) (by omega) (by omega) (by omega) hN2
    rw [List.set_set] at c2
    have a2 := a1.put2 (a := ((U + y : Nat) : Int)) (b := ((V + x : Nat) : Int)) (by omega) (by omega) (by omega) (by omega) hN2
    have s6' := l1.out r1
    have s7' := l2.out r1
    have f6' := l1.inn i (by omega) r1
    have f7' := l2.inn k (by omega) r1
    rw [hE1] at f6'
    rw [hE2] at f7'
    have h3' := (hP.set r1).h3
    have h5' := (hP.set r1).h5
    obtain ⟨r', ih1, ih2⟩ := l_zz61_1 H b0 N i3 i5 n m t p4 q6 q7 es1 es2 vs1 vs2 hP l1 l2 hp1 hp2 h4 hn hN hN2 hl1 hl2 i hi (k + 1) hlt _ _ a2
    rw [show ((k + 1 : Nat) : Int) = (k : Int) + 1 by omega] at ih1
    refine ⟨r', ?_, ih2.congr fun X Y _ => ?_⟩
    · simp only [Int.natCast_add] at c1 c2 ih1
      clear ih2 a1 a2 hr1 hp1 hp2 l1 l2 hE1 hE2 hP hb hU hV hbl
      simp (disch := first | assumption | omega | (simp [*] <;> omega) | fail) [s7.vlen, s6.vlen, s6.vidx, s6.vload, s7.vidx, s7.vload, f6.vidx, f6.vload, f7.vidx, f7.vload, s6'.vidx, s6'.vload, s7'.vidx, s7'.vload, f6'.vidx, f6'.vload, f7'.vidx, f7'.vload, h3, h5, h3', h5', wrap64, w1, w2, w3, w4, w5, w6, hlt', hi', c1, c2, ih1]
    · rw [List.drop_eq_getElem_cons hlt]
      have hE2' : es2[k] = [(x : Int), (y : Int)] := by rw [← hE2, List.getD_eq_getElem?_getD, List.getElem?_eq_getElem hlt]; rfl
      rw [hU, hV]
      simp only [Int.toNat_natCast, List.mem_cons]
      constructor
      · rintro (((h1 | h1) | h1) | ⟨e, h1, h2⟩)
        · exact .inl h1
        · exact .inr ⟨_, .inl rfl, u, v, x, y, hE1, hE2', .inl h1⟩
        · exact .inr ⟨_, .inl rfl, u, v, x, y, hE1, hE2', .inr h1⟩
        · exact .inr ⟨e, .inr h1, h2⟩
      · rintro (h1 | ⟨e, rfl | h1, h2⟩)
        · exact .inl (.inl (.inl h1))
        · obtain ⟨u', v', x', y', g1, g2, g3⟩ := h2
          rw [hE1] at g1
          rw [hE2'] at g2
          simp at g1 g2
          have q1 : u' = u := by omega
          have q2 : v' = v := by omega
          have q3 : x' = x := by omega
          have q4 : y' = y := by omega
          subst q1 q2 q3 q4
          rcases g3 with g3 | g3
          · exact .inl (.inl (.inr g3))
          · exact .inl (.inr g3)
        · exact .inr ⟨e, h1, h2⟩
  · have hlt' : ¬ (k : Int) < vs2.length := by omega
    have s7 := l2.out r
    refine ⟨r, ?_, ha.congr fun X Y _ => ?_⟩
    · simp (disch := first | assumption | omega | (simp [*] <;> omega) | fail) [s7.vlen, hlt']
    · rw [List.drop_eq_nil_of_le (by omega)]
      simp
 termination_by es2.length - k
theorem l_zz61_2 (H : VH) (b0 N i3 i5 n m : Nat) (t p4 q6 q7 : Value) (es1 es2 : List (List Int)) (vs1 vs2 : List Value) (hP : PF H b0 N i3 i5 N m t) (l1 : LLq H b0 q6 es1 vs1) (l2 : LLq H b0 q7 es2 vs2) (hp1 : Pairs n es1) (hp2 : Pairs m es2) (h4 : Old H.length p4) (hn : nro ≤ b0) (hN : N = n * m) (hN2 : N ≤ 62) (hl1 : es1.length ≤ 100000) (hl2 : es2.length ≤ 100000)
    (i : Nat) (hi : i ≤ es1.length) (r : List Int) (adj : Nat → Nat → Prop) (ha : IsAdj N r adj) :
    ∃ r', floop (vcall F nro) nro [3, 4, 5, 6, 7, 8] i_zz61_B2 H [.pointer (some ⟨i3, 0, some 2⟩), p4, .pointer (some ⟨i5, 0, some 2⟩), q6, q7, .int .i64 i] (H.set b0 ⟨1, ints r⟩) =
      some (.exit 0, fl [(4, p4), (5, .pointer (some ⟨i5, 0, some 2⟩))], H.set b0 ⟨1, ints r'⟩) ∧
      IsAdj N r' (fun X Y => adj X Y ∨ ∃ e1 ∈ es1.drop i, ∃ e2 ∈ es2, dirE m e1 e2 X Y) := by
  obtain ⟨q0, hb⟩ := hP.b
  have hbl := (List.getElem?_eq_some_iff.mp hb).1
  have o3 : i3 < H.length := (List.getElem?_eq_some_iff.mp hP.h3).1
  have o5 : i5 < H.length := (List.getElem?_eq_some_iff.mp hP.h5).1
  have po3 : Old H.length (.pointer (some ⟨i3, 0, some 2⟩)) := fun r hr => by simp [trefs, vrefs, crefs, arefs] at hr; omega
  have po5 : Old H.length (.pointer (some ⟨i5, 0, some 2⟩)) := fun r hr => by simp [trefs, vrefs, crefs, arefs] at hr; omega
  clear o3 o5
  have e1 := l1.len
  have s6 := l1.out r
  rw [floop_at i_zz61_B2.eq_1]
  by_cases hlt : i < es1.length
  · have s6' := l1.out r
    have s7 := l2.out r
    have o6 : Old H.length q6 := by have := s6'.old; simpa using this
    have o7 : Old H.length q7 := by have := s7.old; simpa using this
    obtain ⟨r1, i1, i2⟩ := l_zz61_1 (nro := nro) (H.set b0 ⟨1, ints r⟩) b0 N i3 i5 n m t p4 q6 q7 es1 es2 vs1 vs2 (hP.set r) (l1.set r) (l2.set r) hp1 hp2 (by simpa using h4) hn hN hN2 hl1 hl2 i hlt 0 (by omega) r adj ha
    rw [List.set_set, List.set_set, show ((0 : Nat) : Int) = 0 from rfl] at i1
    obtain ⟨r', ih1, ih2⟩ := l_zz61_2 H b0 N i3 i5 n m t p4 q6 q7 es1 es2 vs1 vs2 hP l1 l2 hp1 hp2 h4 hn hN hN2 hl1 hl2 (i + 1) hlt r1 _ i2
    rw [show ((i + 1 : Nat) : Int) = (i : Int) + 1 by omega] at ih1
    have hlt' : (i : Int) < vs1.length := by omega
    refine ⟨r', ?_, ih2.congr fun X Y _ => ?_⟩
    · clear ih2 i2 hp1 hp2 l1 l2 hP hb hbl
      simp (disch := first | assumption | omega | (simp [*] <;> omega) | fail) [s6.vlen, wrap64, hlt', i1, ih1]
    · rw [List.drop_eq_getElem_cons hlt, List.drop_zero]
      have hE : es1.getD i [] = es1[i] := by rw [List.getD_eq_getElem?_getD, List.getElem?_eq_getElem hlt]; rfl
      rw [hE]
      simp only [List.mem_cons]
      constructor
      · rintro ((h1 | ⟨e, h1, h2⟩) | ⟨e, h1, h2⟩)
        · exact .inl h1
        · exact .inr ⟨_, .inl rfl, e, h1, h2⟩
        · exact .inr ⟨e, .inr h1, h2⟩
      · rintro (h1 | ⟨e, rfl | h1, h2⟩)
        · exact .inl (.inl h1)
        · exact .inl (.inr h2)
        · exact .inr ⟨e, h1, h2⟩
  · have hlt' : ¬ (i : Int) < vs1.length := by omega
    refine ⟨r, ?_, ha.congr fun X Y _ => ?_⟩
    · simp (disch := first | assumption | omega | (simp [*] <;> omega) | fail) [s6.vlen, hlt']
    · rw [List.drop_eq_nil_of_le (by omega)]
      simp
 termination_by es1.length - i
def dirAdj (n m : Nat) (rows hrows : List Int) (X Y : Nat) : Prop := ∃ e1 ∈ edgesF rows n 0, ∃ e2 ∈ edgesF hrows m 0, dirE m e1 e2 X Y
theorem edges_len (rows : List Int) (n v : Nat) (hn : n ≤ 62) : (edgesF rows n v).length ≤ (n - v) * 62 := by
  by_cases h : v < n
  · rw [edgesF_step h, List.length_append]
    have h1 := edges_len rows n (v + 1) hn
    have h2 := edgF_len rows v n (v + 1) h
    have e : n - v = (n - (v + 1)) + 1 := by omega
    rw [e, Nat.add_mul]
    omega
  · rw [edgesF_end h]; simp
 termination_by n - v
theorem c_zz61 (n m : Nat) (s t : Value) (rows hrows : List Int) (h : VH) (hs : Sli h s rows) (ht : Sli h t hrows) (hn : nro ≤ h.length) (g : GV n rows) (gm : GV m hrows) (hN : n * m ≤ 62) :
  vcall F nro k_zz61 [gv n s, gv m t] h = some (gv ((n * m : Nat) : Int) (.slice (some ⟨h.length, 0, none⟩) (n * m) (n * m)), h ++ [⟨1, ints (adjRows (n * m) (dirAdj n m rows hrows))⟩]) ∧ IsAdj (n * m) (adjRows (n * m) (dirAdj n m rows hrows)) (dirAdj n m rows hrows) := by
 have hn' := fun k => Nat.le_trans hn (Nat.le_add_right h.length k)
 have g0 := g.hi
 have gm0 := gm.hi
 have g1 := g.lo
 have gm1 := gm.lo
 obtain ⟨N, hNe⟩ : ∃ N, N = n * m := ⟨_, rfl⟩
 rw [← hNe] at hN ⊢
 have hmul : IntKind.i64.wrap ((n : Int) * m) = (N : Int) := by rw [hNe, Int.natCast_mul]; exact wrap64 (by rw [← Int.natCast_mul]; omega) (by rw [← Int.natCast_mul]; omega)
 let b1 : VO := ⟨0, [.int .i64 n, s]⟩
 let b2 : VO := ⟨0, [.int .i64 m, t]⟩
 let z : VO := ⟨0, [.int .i64 0, .slice none 0 0]⟩
 let zs : VO := ⟨1, ints (List.replicate N 0)⟩
 have hE := c_zz67 (nro := nro) N (h ++ [b1, b2, z]) (by omega) (by omega) (by simp; omega)
 rw [Int.toNat_natCast] at hE
 obtain ⟨q6, M1, he1, hS1⟩ := c_zz66 (nro := nro) n s rows (h ++ [b1, b2, z, zs]) (hs.app _) (by simp; omega) g
 obtain ⟨q7, M2, he2, hS2⟩ := c_zz66 (nro := nro) m t hrows (h ++ [b1, b2, z, zs] ++ M1) ((ht.app _).app _) (by simp; omega) gm
 rw [Int.toNat_natCast] at hS1 hS2
 obtain ⟨Hm, hHm⟩ : ∃ Hm, Hm = h ++ [b1, b2, z, zs] ++ M1 ++ M2 := ⟨_, rfl⟩
 let gb : VO := ⟨0, [.int .i64 N, .slice (some ⟨h.length + 3, 0, none⟩) N N]⟩
 obtain ⟨vs1, L1⟩ := LLq.of (L := M2 ++ [gb]) hS1 (b0 := h.length + 3) (by simp)
 obtain ⟨vs2, L2⟩ := LLq.of (L := [gb]) hS2 (b0 := h.length + 3) (by simp)
 rw [← List.append_assoc, ← hHm] at L1
 rw [← hHm] at L2
 have hml : h.length + 4 ≤ Hm.length := by rw [hHm]; simp
 have hP : PF (Hm ++ [gb]) (h.length + 3) N (h.length + 1) Hm.length N m t := by
  refine ⟨⟨List.replicate N 0, ?_⟩, ?_, by simp [gb], by omega, by omega⟩
  ·rw [hHm]; simp [b1, b2, z, zs]
  ·rw [hHm]; simp [b1, b2, z, zs]
 obtain ⟨r', lp, la⟩ := l_zz61_2 (nro := nro) (Hm ++ [gb]) (h.length + 3) N (h.length + 1) Hm.length n m t (.pointer (some ⟨h.length + 2, 0, some 2⟩)) q6 q7 _ _ vs1 vs2 hP L1 L2 (edges_pairs rows n) (edges_pairs hrows m) (by intro r hr; simp [trefs, vrefs, crefs, arefs] at hr ⊢; omega) (by omega) hNe hN
  (by have := edges_len rows n 0 (by omega); omega) (by have := edges_len hrows m 0 (by omega); omega) 0 (by omega) (List.replicate N 0) _ (IsAdj.zero _)
 have la2 : IsAdj N r' (dirAdj n m rows hrows) := la.congr fun X Y _ => by simp [dirAdj]
 rw [la2.eq]
 refine ⟨?_, la2⟩
 have hb0 : (Hm ++ [gb])[h.length + 3]? = some zs := by rw [hHm]; simp
 have hset0 : (Hm ++ [gb]).set (h.length + 3) ⟨1, ints (List.replicate N 0)⟩ = Hm ++ [gb] := hset_self hb0
 rw [hset0, show ((0 : Nat) : Int) = 0 from rfl] at lp
 -- what lies where, at the end
 obtain ⟨Hf, hHf⟩ : ∃ Hf, Hf = (Hm ++ [gb]).set (h.length + 3) ⟨1, ints r'⟩ := ⟨_, rfl⟩
 rw [← hHf] at lp
 have f1 : Hf[Hm.length]? = some gb := by rw [hHf]; exact (hP.set r').h5
 have f2 : Hf[h.length + 2]? = some z := by rw [hHf, List.getElem?_set_ne (by omega), hHm]; simp
 have f3 : Hf.set (h.length + 2) ⟨0, [.int .i64 N, .slice (some ⟨h.length + 3, 0, none⟩) N N]⟩ = h ++ b1 :: b2 :: ⟨0, [.int .i64 N, .slice (some ⟨h.length + 3, 0, none⟩) N N]⟩ :: ⟨1, ints r'⟩ :: (M1 ++ M2 ++ [gb]) := by
  rw [hHf, hHm]
  simp [List.append_assoc]
 have hml2 : ∀ k, nro ≤ Hm.length + k := fun k => by omega
 have hml0 : nro ≤ Hm.length := by omega
 have hm1 : Hm[h.length + 1]? = some b2 := by rw [hHm]; simp
 have hm0 : Hm[h.length]? = some b1 := by rw [hHm]; simp
 have he1' : vcall F nro k_zz66 [gv n s] (h ++ [b1, b2, z, zs]) = some (q6, h ++ [b1, b2, z, zs] ++ M1) := he1
 obtain ⟨Hk, hHk⟩ : ∃ Hk, Hk = h ++ [b1, b2, z, zs] ++ M1 := ⟨_, rfl⟩
 rw [← hHk] at he1 he2
 rw [show Hk ++ M2 = Hm by rw [hHk, hHm]] at he2
 have hk1 : Hk[h.length + 1]? = some b2 := by rw [hHk]; simp
 have hk0 : Hk[h.length]? = some b1 := by rw [hHk]; simp
 refine v_zz61 (by simp [i_zz61]) ?_
 rw [fbody_eq]
 clear he1' hHk hHm hHf hP L1 L2 hS1 hS2 la la2 hset0 hb0 hml
 simp only [b1, b2, z, zs, gb] at *
 simp at hE
 simp (disch := first | assumption | omega | (simp [*] <;> omega) | fail) [i_zz61, hE, he1, he2, hmul, hm1, hm0, hk1, hk0, lp, f1, f2, f3, hn', hml2, hml0, fresults, fresL, fres1]
open Classical in
theorem c_spec_l09Code2 (n m : Int) (s t : Value) (rows hrows : List Int) (b : Nat) (h : VH) (hs : Sli h s rows) (ht : Sli h t hrows) (hb : h[b]? = some ⟨2, [.int .i64 n, s, .int .i64 m, t]⟩) (hn : nro ≤ h.length) :
  vcall F nro k_zz83 [.slice (some ⟨b, 0, none⟩) 2 4] h = some (.int .i64 (if GV n rows ∧ GV m hrows then 0 else 1), h) := by
 refine v_zz83 (by simp [i_zz83]) ?_
 rw [fbody_eq]
 have hbl := (List.getElem?_eq_some_iff.mp hb).1
 have ho : Old h.length (.slice (some ⟨b, 0, none⟩) 2 4) := fun r hr => by simp [trefs, vrefs, crefs, arefs] at hr; omega
 clear hbl
 have hc1 := c_zz95 (nro := nro) n s rows h hs
 have hc2 := c_zz95 (nro := nro) m t hrows h ht
 have l2 : floop (vcall F nro) nro [0, 3] i_zz83_B1 h [.slice (some ⟨b, 0, none⟩) 2 4, .int .i64 2] h = some (.exit 0, fl [], h) := by
  rw [floop_at i_zz83_B1.eq_1]
  simp (disch := first | assumption | omega | (simp [*] <;> omega) | fail) [hb]
 by_cases g : GV n rows
 ·by_cases gm : GV m hrows
  ·have l1 : floop (vcall F nro) nro [0, 3] i_zz83_B1 h [.slice (some ⟨b, 0, none⟩) 2 4, .int .i64 1] h = some (.exit 0, fl [], h) := by
    rw [floop_at i_zz83_B1.eq_1]
    simp (disch := first | assumption | omega | (simp [*] <;> omega) | fail) [hb, hc2, gm, wrap64, l2]
   have l0 : floop (vcall F nro) nro [0, 3] i_zz83_B1 h [.slice (some ⟨b, 0, none⟩) 2 4, .int .i64 0] h = some (.exit 0, fl [], h) := by
    rw [floop_at i_zz83_B1.eq_1]
    simp (disch := first | assumption | omega | (simp [*] <;> omega) | fail) [hb, hc1, g, wrap64, l1]
   rw [if_pos ⟨g, gm⟩]
   simp (disch := first | assumption | omega | (simp [*] <;> omega) | fail) [i_zz83, hb, l0]
  ·have l1 : floop (vcall F nro) nro [0, 3] i_zz83_B1 h [.slice (some ⟨b, 0, none⟩) 2 4, .int .i64 1] h = some (.ret, fl [(2, .int .i64 1)], h) := by
    rw [floop_at i_zz83_B1.eq_1]
    simp (disch := first | assumption | omega | (simp [*] <;> omega) | fail) [hb, hc2, gm, wrap64]
   have l0 : floop (vcall F nro) nro [0, 3] i_zz83_B1 h [.slice (some ⟨b, 0, none⟩) 2 4, .int .i64 0] h = some (.ret, fl [(2, .int .i64 1)], h) := by
    rw [floop_at i_zz83_B1.eq_1]
    simp (disch := first | assumption | omega | (simp [*] <;> omega) | fail) [hb, hc1, g, wrap64, l1]
   rw [if_neg (fun h => gm h.2)]
   simp (disch := first | assumption | omega | (simp [*] <;> omega) | fail) [i_zz83, hb, l0]
 ·have l0 : floop (vcall F nro) nro [0, 3] i_zz83_B1 h [.slice (some ⟨b, 0, none⟩) 2 4, .int .i64 0] h = some (.ret, fl [(2, .int .i64 1)], h) := by
   rw [floop_at i_zz83_B1.eq_1]
   simp (disch := first | assumption | omega | (simp [*] <;> omega) | fail) [hb, hc1, g, wrap64]
  rw [if_neg (fun h => g h.1)]
  simp (disch := first | assumption | omega | (simp [*] <;> omega) | fail) [i_zz83, hb, l0]
theorem c_spec_l09ToldP (n : Int) (h : VH) : vcall F nro k_zz84 [.int .i64 n] h = some (.int .i64 (if 1 ≤ n ∧ n ≤ 62 then 0 else 3), h) := by
 refine v_zz84 (by simp [i_zz84]) ?_
 rw [fbody_eq]
 have hc := c_zz94 (nro := nro) n 1 62 h
 by_cases g : 1 ≤ n ∧ n ≤ 62
 ·rw [decide_eq_true g] at hc
  rw [if_pos g]
  simp (disch := first | assumption | omega | (simp [*] <;> omega) | fail) [i_zz84, hc]
 ·rw [decide_eq_false g] at hc
  rw [if_neg g]
  simp (disch := first | assumption | omega | (simp [*] <;> omega) | fail) [i_zz84, hc]
theorem c_zz38 (n : Int) (h : VH) : vcall F nro k_zz38 [.int .i64 n] h = some (.int .i64 (if 1 ≤ n ∧ n ≤ 62 then 0 else 3), h) := by
 refine v_zz38 (by simp [i_zz38]) ?_
 rw [fbody_eq]
 by_cases h1 : n < 1
 ·rw [if_neg (by omega)]
  simp (disch := first | assumption | omega | (simp [*] <;> omega) | fail) [i_zz38, h1]
 ·by_cases h2 : 62 < n
  ·rw [if_neg (by omega)]
   simp (disch := first | assumption | omega | (simp [*] <;> omega) | fail) [i_zz38, h1, h2]
  ·rw [if_pos (by omega)]
   simp (disch := first | assumption | omega | (simp [*] <;> omega) | fail) [i_zz38, h1, h2]
open Classical in
noncomputable def prodAns (adj : Nat → Nat → List Int → List Int → Nat → Nat → Prop) (n : Int) (rows : List Int) (m : Int) (hrows : List Int) : GAns :=
 if ¬ (GV n rows ∧ GV m hrows) then .inr 1 else if 62 < n * m then .inr 3 else .inl (n * m, adjRows (n.toNat * m.toNat) (adj n.toNat m.toNat rows hrows))
theorem c_zz30 (n m : Int) (s t : Value) (rows hrows : List Int) (h : VH) (hs : Sli h s rows) (ht : Sli h t hrows) (hn : nro ≤ h.length) :
  vcall F nro k_zz30 [gv n s, gv m t] h = some (gres h (prodAns dirAdj n rows m hrows)) := by
 have hn' := fun k => Nat.le_trans hn (Nat.le_add_right h.length k)
 let H : VH := h ++ [⟨0, [.int .i64 n, s]⟩, ⟨0, [.int .i64 m, t]⟩, ⟨0, [.int .i64 0, .slice none 0 0]⟩, ⟨2, [.int .i64 n, s, .int .i64 m, t]⟩]
 have hc := c_spec_l09Code2 (nro := nro) n m s t rows hrows (h.length + 3) H (hs.app _) (ht.app _) (by simp [H]) (by simp [H]; omega)
 have js := hs.nj
 have jt := ht.nj
 unfold isJunk at js jt
 refine v_zz30 (by simp [i_zz30]) ?_
 rw [fbody_eq]
 by_cases gg : GV n rows ∧ GV m hrows
 ·rw [if_pos gg] at hc
  obtain ⟨g, gm⟩ := gg
  have g1 := g.lo
  have gm1 := gm.lo
  have g0 := g.hi
  have gm0 := gm.hi
  have hmul : n * m ≤ 62 * 62 := Int.mul_le_mul g0 gm0 (by omega) (by omega)
  have hmul0 : 1 * 1 ≤ n * m := Int.mul_le_mul g1 gm1 (by omega) (by omega)
  have ht9 := fun L => c_spec_l09ToldP (nro := nro) (n * m) (h ++ L)
  have hw : IntKind.i64.wrap (n * m) = n * m := wrap64 (by omega) (by omega)
  by_cases h2 : 62 < n * m
  ·have e : prodAns dirAdj n rows m hrows = .inr 3 := by unfold prodAns; rw [if_neg (fun h => h ⟨g, gm⟩), if_pos h2]
   rw [if_neg (by omega)] at ht9
   simp only [H] at hc
   simp (disch := first | assumption | omega | (simp [*] <;> omega) | fail) [i_zz30, hc, ht9, hw, e, js, jt, fresults, fresL, fres1, hn', hn]
  ·have e : prodAns dirAdj n rows m hrows = .inl (n * m, adjRows (n.toNat * m.toNat) (dirAdj n.toNat m.toNat rows hrows)) := by unfold prodAns; rw [if_neg (fun h => h ⟨g, gm⟩), if_neg h2]
   rw [if_pos (by omega)] at ht9
   obtain ⟨N, rfl⟩ : ∃ N : Nat, n = N := ⟨n.toNat, by omega⟩
   obtain ⟨M, rfl⟩ : ∃ M : Nat, m = M := ⟨m.toNat, by omega⟩
   rw [Int.toNat_natCast, Int.toNat_natCast] at e
   obtain ⟨hd, ha⟩ := c_zz61 (nro := nro) N M s t rows hrows H (hs.app _) (ht.app _) (by simp [H]; omega) g gm (by omega)
   have hal := ha.1
   rw [Int.natCast_mul] at hd
   obtain ⟨R, hR⟩ : ∃ R, R = adjRows (N * M) (dirAdj N M rows hrows) := ⟨_, rfl⟩
   rw [← hR] at e hd hal
   simp only [H] at hc hd
   simp at hd
   obtain ⟨Q, hQ⟩ : ∃ Q, Q = N * M := ⟨_, rfl⟩
   rw [← hQ] at hal hd
   have hQ' : (N : Int) * M = (Q : Int) := by rw [hQ, Int.natCast_mul]
   rw [hQ'] at hd hw e ht9
   clear hR ha g gm hQ hmul hmul0 h2
   simp (disch := first | assumption | omega | (simp [*] <;> omega) | fail) [i_zz30, hc, ht9, hw, hQ', hd, e, hal, js, jt, fresults, fresL, fres1, hn', hn]
 ·have e : prodAns dirAdj n rows m hrows = .inr 1 := by unfold prodAns; rw [if_pos gg]
  rw [if_neg gg] at hc
  simp only [H] at hc
  simp (disch := first | assumption | omega | (simp [*] <;> omega) | fail) [i_zz30, hc, e, js, jt, fresults, fresL, fres1, hn', hn]
end

end Go.Proofs.YtbilmoahcnllmaaGreatDoor.Zv

