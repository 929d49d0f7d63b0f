/- At a function's end: one fresh object is handed out. -/
import Derived.Test.YtannjcinoopmnaaZvSl
namespace Go.Proofs.Ytannjcinoopmnaa.Zv
open Go

theorem cleanup_one {h L : VH} {v : Value} {k : Nat} {o : VO} (hv : trefs v = [h.length + k]) (hk : L[k]? = some o) (hf : flatO h.length o) :
    kclean h [v] (h ++ L) = ([tren (renOf h.length [h.length + k]) v], h ++ [o]) := by
  have e : keepL h.length [v] = [h.length + k] := by
    unfold keepL
    simp [hv, dedup]
  have hg : (h ++ L)[h.length + k]? = some o := by rw [hgetk]; exact hk
  rw [cleanup_keep e fun i hi => ⟨o, ?_, hf⟩]
  · simp [hk]
  · simp only [List.mem_singleton] at hi
    rw [hi]
    exact hg
theorem renOf_one (n k : Nat) : renOf n [n + k] (n + k) = n := by simp [renOf]; omega
theorem renOf_one0 (n : Nat) : renOf n [n] n = n := by simp [renOf]
@[simp] theorem clean_slk (h L : VH) (k : Nat) (off n t : Nat) (hk : k < L.length) (hf : flatO h.length (L.getD k ⟨0, []⟩)) :
    kclean h [.slice (some ⟨h.length + k, off, none⟩) n t] (h ++ L) = ([.slice (some ⟨h.length, off, none⟩) n t], h ++ [L.getD k ⟨0, []⟩]) := by
  rw [cleanup_one (k := k) (o := L.getD k ⟨0, []⟩) (by simp [trefs, vrefs, crefs, arefs]) (by simp [List.getD_eq_getElem?_getD, hk]) hf]
  simp [tren, vren, cren, aren, renOf_one]
@[simp] theorem clean_sl0 (h L : VH) (off n t : Nat) (o : VO) (hf : flatO h.length o) :
    kclean h [.slice (some ⟨h.length, off, none⟩) n t] (h ++ o :: L) = ([.slice (some ⟨h.length, off, none⟩) n t], h ++ [o]) := by
  rw [cleanup_one (k := 0) (o := o) (by simp [trefs, vrefs, crefs, arefs]) (by simp) hf]
  simp [tren, vren, cren, aren, renOf_one0]
@[simp] theorem clean_aggk (h L : VH) (k : Nat) (off n t : Nat) (k1 : IntKind) (x : Int) (hk : k < L.length) (hf : flatO h.length (L.getD k ⟨0, []⟩)) :
    kclean h [.agg #[.int k1 x, .slice (some ⟨h.length + k, off, none⟩) n t]] (h ++ L) = ([.agg #[.int k1 x, .slice (some ⟨h.length, off, none⟩) n t]], h ++ [L.getD k ⟨0, []⟩]) := by
  rw [cleanup_one (k := k) (o := L.getD k ⟨0, []⟩) (by simp [trefs, vrefs, crefs, arefs]) (by simp [List.getD_eq_getElem?_getD, hk]) hf]
  simp [tren, vren, cren, aren, renOf_one]
@[simp] theorem clean_agg0 (h L : VH) (off n t : Nat) (k1 : IntKind) (x : Int) (o : VO) (hf : flatO h.length o) :
    kclean h [.agg #[.int k1 x, .slice (some ⟨h.length, off, none⟩) n t]] (h ++ o :: L) = ([.agg #[.int k1 x, .slice (some ⟨h.length, off, none⟩) n t]], h ++ [o]) := by
  rw [cleanup_one (k := 0) (o := o) (by simp [trefs, vrefs, crefs, arefs]) (by simp) hf]
  simp [tren, vren, cren, aren, renOf_one0]
@[simp] theorem clean_taggk (h L : VH) (k : Nat) (off n t : Nat) (k1 : IntKind) (x : Int) (k2 : IntKind) (y : Int) (hk : k < L.length) (hf : flatO h.length (L.getD k ⟨0, []⟩)) :
    kclean h [.tuple #[.agg #[.int k1 x, .slice (some ⟨h.length + k, off, none⟩) n t], .int k2 y]] (h ++ L) = ([.tuple #[.agg #[.int k1 x, .slice (some ⟨h.length, off, none⟩) n t], .int k2 y]], h ++ [L.getD k ⟨0, []⟩]) := by
  rw [cleanup_one (k := k) (o := L.getD k ⟨0, []⟩) (by simp [trefs, vrefs, crefs, arefs]) (by simp [List.getD_eq_getElem?_getD, hk]) hf]
  simp [tren, vren, cren, aren, renOf_one]
@[simp] theorem clean_tagg0 (h L : VH) (off n t : Nat) (k1 : IntKind) (x : Int) (k2 : IntKind) (y : Int) (o : VO) (hf : flatO h.length o) :
    kclean h [.tuple #[.agg #[.int k1 x, .slice (some ⟨h.length, off, none⟩) n t], .int k2 y]] (h ++ o :: L) = ([.tuple #[.agg #[.int k1 x, .slice (some ⟨h.length, off, none⟩) n t], .int k2 y]], h ++ [o]) := by
  rw [cleanup_one (k := 0) (o := o) (by simp [trefs, vrefs, crefs, arefs]) (by simp) hf]
  simp [tren, vren, cren, aren, renOf_one0]
@[simp] theorem clean_tslk (h L : VH) (k : Nat) (off n t : Nat) (k2 : IntKind) (y : Int) (hk : k < L.length) (hf : flatO h.length (L.getD k ⟨0, []⟩)) :
    kclean h [.tuple #[.slice (some ⟨h.length + k, off, none⟩) n t, .int k2 y]] (h ++ L) = ([.tuple #[.slice (some ⟨h.length, off, none⟩) n t, .int k2 y]], h ++ [L.getD k ⟨0, []⟩]) := by
  rw [cleanup_one (k := k) (o := L.getD k ⟨0, []⟩) (by simp [trefs, vrefs, crefs, arefs]) (by simp [List.getD_eq_getElem?_getD, hk]) hf]
  simp [tren, vren, cren, aren, renOf_one]
@[simp] theorem clean_tsl0 (h L : VH) (off n t : Nat) (k2 : IntKind) (y : Int) (o : VO) (hf : flatO h.length o) :
    kclean h [.tuple #[.slice (some ⟨h.length, off, none⟩) n t, .int k2 y]] (h ++ o :: L) = ([.tuple #[.slice (some ⟨h.length, off, none⟩) n t, .int k2 y]], h ++ [o]) := by
  rw [cleanup_one (k := 0) (o := o) (by simp [trefs, vrefs, crefs, arefs]) (by simp) hf]
  simp [tren, vren, cren, aren, renOf_one0]
@[simp] theorem clean_tslbk (h L : VH) (k : Nat) (off n t : Nat) (y2 : Bool) (hk : k < L.length) (hf : flatO h.length (L.getD k ⟨0, []⟩)) :
    kclean h [.tuple #[.slice (some ⟨h.length + k, off, none⟩) n t, .bool y2]] (h ++ L) = ([.tuple #[.slice (some ⟨h.length, off, none⟩) n t, .bool y2]], h ++ [L.getD k ⟨0, []⟩]) := by
  rw [cleanup_one (k := k) (o := L.getD k ⟨0, []⟩) (by simp [trefs, vrefs, crefs, arefs]) (by simp [List.getD_eq_getElem?_getD, hk]) hf]
  simp [tren, vren, cren, aren, renOf_one]
@[simp] theorem clean_tslb0 (h L : VH) (off n t : Nat) (y2 : Bool) (o : VO) (hf : flatO h.length o) :
    kclean h [.tuple #[.slice (some ⟨h.length, off, none⟩) n t, .bool y2]] (h ++ o :: L) = ([.tuple #[.slice (some ⟨h.length, off, none⟩) n t, .bool y2]], h ++ [o]) := by
  rw [cleanup_one (k := 0) (o := o) (by simp [trefs, vrefs, crefs, arefs]) (by simp) hf]
  simp [tren, vren, cren, aren, renOf_one0]
@[simp] theorem clean_taggbk (h L : VH) (k : Nat) (off n t : Nat) (k1 : IntKind) (x : Int) (y2 : Bool) (hk : k < L.length) (hf : flatO h.length (L.getD k ⟨0, []⟩)) :
    kclean h [.tuple #[.agg #[.int k1 x, .slice (some ⟨h.length + k, off, none⟩) n t], .bool y2]] (h ++ L) = ([.tuple #[.agg #[.int k1 x, .slice (some ⟨h.length, off, none⟩) n t], .bool y2]], h ++ [L.getD k ⟨0, []⟩]) := by
  rw [cleanup_one (k := k) (o := L.getD k ⟨0, []⟩) (by simp [trefs, vrefs, crefs, arefs]) (by simp [List.getD_eq_getElem?_getD, hk]) hf]
  simp [tren, vren, cren, aren, renOf_one]
@[simp] theorem clean_taggb0 (h L : VH) (off n t : Nat) (k1 : IntKind) (x : Int) (y2 : Bool) (o : VO) (hf : flatO h.length o) :
    kclean h [.tuple #[.agg #[.int k1 x, .slice (some ⟨h.length, off, none⟩) n t], .bool y2]] (h ++ o :: L) = ([.tuple #[.agg #[.int k1 x, .slice (some ⟨h.length, off, none⟩) n t], .bool y2]], h ++ [o]) := by
  rw [cleanup_one (k := 0) (o := o) (by simp [trefs, vrefs, crefs, arefs]) (by simp) hf]
  simp [tren, vren, cren, aren, renOf_one0]
@[simp] theorem old_agg2 (n : Nat) (k : IntKind) (x : Int) (s : Value) (hs : isAtom s = true) : Old n (.agg #[.int k x, s]) ↔ Old n s := by
  unfold Old trefs vrefs
  cases s <;> simp_all [crefs, arefs, isAtom]
end Go.Proofs.Ytannjcinoopmnaa.Zv
