/- Slices that are read: what a slice's value tells of a list. -/
import Derived.Test.YthpgiimaadohcaaDoorZvNum
namespace Go.Proofs.YthpgiimaadohcaaDoor.Zv
open Go

/-- A slice of elements of one cell each reads as a list. -/
def Sl (h : VH) (v : Value) (cs : List Value) : Prop := vsrc 1 h v = some (cs, cs.length)

/-- The place of an element. -/
def vptr (s : Value) (j : Nat) : Value := match s with
  | .slice (some a) _ tot => .pointer (some ⟨a.block, a.off + j, some tot⟩)
  | _ => junk

def ints (xs : List Int) : List Value := xs.map (Value.int .i64)
@[simp] theorem ints_length (xs : List Int) : (ints xs).length = xs.length := by simp [ints]
@[simp] theorem ints_nil : ints [] = [] := rfl
@[simp] theorem ints_cons (x : Int) (xs : List Int) : ints (x :: xs) = .int .i64 x :: ints xs := rfl
theorem ints_get (xs : List Int) (j : Nat) : (ints xs)[j]? = xs[j]?.map (Value.int .i64) := by simp [ints]
theorem ints_append (xs ys : List Int) : ints xs ++ ints ys = ints (xs ++ ys) := by simp [ints]
theorem ints_set (xs : List Int) (j : Nat) (x : Int) : (ints xs).set j (.int .i64 x) = ints (xs.set j x) := by simp [ints, List.map_set]

theorem Sl.inv {h : VH} {v : Value} {cs : List Value} (hs : Sl h v cs) :
    (v = .slice none 0 0 ∧ cs = []) ∨ (v = .slice none 0 1 ∧ cs = []) ∨
    ∃ a n tot o, v = .slice (some a) n tot ∧ h[a.block]? = some o ∧ o.sz = 1 ∧ tot = o.cells.length ∧ a.off + n ≤ tot ∧ n = cs.length ∧ ∀ j, j < n → o.cells[a.off + j]? = cs[j]? := by
  unfold Sl vsrc at hs
  split at hs
  · left; simp at hs; exact ⟨rfl, hs.1⟩
  · right; left; simp at hs; exact ⟨rfl, hs.1⟩
  · rename_i a n tot
    split at hs
    · rename_i o ho
      split at hs
      · rename_i hc
        simp only [Nat.mul_one, Option.some.injEq, Prod.mk.injEq] at hs
        refine .inr (.inr ⟨a, n, tot, o, rfl, ho, hc.1, hc.2.1, by simpa using hc.2.2, hs.2, fun j hj => ?_⟩)
        rw [← hs.1, List.getElem?_take, if_pos hj, List.getElem?_drop]
      · cases hs
    · cases hs
  · cases hs

@[simp] theorem flatO_ints (n k : Nat) (xs : List Int) : flatO n ⟨k, ints xs⟩ := by
  intro r hr
  simp only [orefs, ints, List.flatMap_map, List.mem_flatMap] at hr
  obtain ⟨x, _, hx⟩ := hr
  simp [crefs, arefs] at hx
@[simp] theorem ints_all (xs : List Int) : (ints xs).all (fun v => !isJunk v) = true := by simp [ints]
theorem splice_ints {xs : List Int} {j : Nat} {v : Int} (hj : j < xs.length) : splice j [.int .i64 v] (ints xs) = ints (xs.set j v) := by
  rw [← ints_set]
  unfold splice
  rw [List.set_eq_take_append_cons_drop, if_pos (by simpa using hj)]
  simp
theorem take1_ints {xs : List Int} {j : Nat} (hj : j < xs.length) : List.take 1 (List.drop j (ints xs)) = [.int .i64 xs[j]] := by
  rw [List.drop_eq_getElem_cons (by simpa using hj)]
  simp [ints]
@[simp] theorem ints_rep (n : Nat) (x : Int) : List.replicate n (Value.int .i64 x) = ints (List.replicate n x) := by simp [ints]
@[simp] theorem ints_rep' (n : Nat) (x : Int) : (List.replicate n [Value.int .i64 x]).flatten = ints (List.replicate n x) := by
  induction n with
  | zero => rfl
  | succ n ih => simp only [List.replicate_succ, List.flatten_cons, ih, ints_cons]; rfl

attribute [simp] Nat.add_one_le_iff

section
variable {h : VH} {v : Value} {cs : List Value}

theorem Sl.app (hs : Sl h v cs) (L : VH) : Sl (h ++ L) v cs := by
  unfold Sl at hs ⊢
  unfold vsrc at hs ⊢
  split at hs
  · exact hs
  · exact hs
  · rename_i a n tot
    split at hs
    · rename_i o ho
      have : (h ++ L)[a.block]? = some o := by rw [List.getElem?_append_left (List.getElem?_eq_some_iff.mp ho).1]; exact ho
      simp only [this]
      exact hs
    · cases hs
  · cases hs

theorem Sl.old (hs : Sl h v cs) : Old h.length v := by
  rcases hs.inv with ⟨rfl, _⟩ | ⟨rfl, _⟩ | ⟨a, n, tot, o, rfl, ho, _⟩
  · simp
  · simp
  · rw [old_sl]; exact (List.getElem?_eq_some_iff.mp ho).1

theorem Sl.vlen (hs : Sl h v cs) : vlen h v = some (.int .i64 cs.length, h) := by
  rcases hs.inv with ⟨rfl, rfl⟩ | ⟨rfl, rfl⟩ | ⟨a, n, tot, o, rfl, ho, _, ht, _, hn, _⟩
  · rfl
  · rfl
  · simp [ho, ht, hn]

theorem Sl.vidx (hs : Sl h v cs) {k : IntKind} {j : Int} (h0 : 0 ≤ j) (hj : j < cs.length) : vidx 1 h v (.int k j) = some (vptr v j.toNat, h) := by
  rcases hs.inv with ⟨rfl, rfl⟩ | ⟨rfl, rfl⟩ | ⟨a, n, tot, o, rfl, ho, hz, ht, _, hn, _⟩
  · simp at hj; omega
  · simp at hj; omega
  · simp only [vidx_ref, ho, hz, ht, vptr, Nat.mul_one]
    rw [if_pos ⟨trivial, trivial, h0, by omega⟩]

theorem Sl.vload (hs : Sl h v cs) {j : Nat} (hj : j < cs.length) : vload false 1 h (vptr v j) = some cs[j] := by
  rcases hs.inv with ⟨rfl, rfl⟩ | ⟨rfl, rfl⟩ | ⟨a, n, tot, o, rfl, ho, hz, ht, hle, hn, hg⟩
  · simp at hj
  · simp at hj
  · have h1 := hg j (by omega)
    rw [List.getElem?_eq_getElem hj] at h1
    have h2 : a.off + j < o.cells.length := by omega
    have h3 : (o.cells.drop (a.off + j)).take 1 = [cs[j]] := by
      rw [List.getElem?_eq_getElem h2, Option.some.injEq] at h1
      rw [List.drop_eq_getElem_cons h2, h1]
      rfl
    simp only [vptr, Zv.vload, vget, ho]
    rw [if_pos ⟨by simp [ht], by omega⟩, h3]
    rfl

theorem Sl.vlive (hs : Sl h v cs) {j : Nat} (hj : j < cs.length) : ∃ a, vptr v j = .pointer (some a) ∧ vlive h a = true := by
  rcases hs.inv with ⟨rfl, rfl⟩ | ⟨rfl, rfl⟩ | ⟨a, n, tot, o, rfl, ho, hz, ht, hle, hn, hg⟩
  · simp at hj
  · simp at hj
  · exact ⟨_, rfl, by simp [ho, ht]⟩

/-! with more above the heap, as simp needs them -/
variable {L : VH}
theorem Sl.vlen' (hs : Sl h v cs) : Zv.vlen (h ++ L) v = some (.int .i64 cs.length, h ++ L) := (hs.app _).vlen
theorem Sl.vidx' (hs : Sl h v cs) {k : IntKind} {j : Int} (h0 : 0 ≤ j) (hj : j < cs.length) : Zv.vidx 1 (h ++ L) v (.int k j) = some (vptr v j.toNat, h ++ L) := (hs.app _).vidx h0 hj
theorem Sl.vload' (hs : Sl h v cs) {j : Nat} (hj : j < cs.length) : Zv.vload false 1 (h ++ L) (vptr v j) = some cs[j] := (hs.app _).vload hj
end

/-! ### slices of integers -/
def Sli (h : VH) (v : Value) (xs : List Int) : Prop := Sl h v (ints xs)
section
variable {h : VH} {v : Value} {xs : List Int}
theorem Sli.app (hs : Sli h v xs) (L : VH) : Sli (h ++ L) v xs := Sl.app hs L
theorem Sli.old (hs : Sli h v xs) : Old h.length v := Sl.old hs
theorem Sli.oldk (hs : Sli h v xs) {k : Nat} : Old (h.length + k) v := hs.old.le (Nat.le_add_right _ _)
theorem Sli.vlen (hs : Sli h v xs) : Zv.vlen h v = some (.int .i64 xs.length, h) := by rw [Sl.vlen hs, ints_length]
theorem Sli.vidx (hs : Sli h v xs) {k : IntKind} {j : Int} (h0 : 0 ≤ j) (hj : j < xs.length) : Zv.vidx 1 h v (.int k j) = some (vptr v j.toNat, h) := Sl.vidx hs h0 (by rw [ints_length]; exact hj)
theorem Sli.vload (hs : Sli h v xs) {j : Nat} (hj : j < xs.length) : Zv.vload false 1 h (vptr v j) = some (.int .i64 xs[j]) := by
  rw [Sl.vload hs (by rw [ints_length]; exact hj)]
  simp [ints]
variable {L : VH}
theorem Sli.vlen' (hs : Sli h v xs) : Zv.vlen (h ++ L) v = some (.int .i64 xs.length, h ++ L) := (hs.app _).vlen
theorem Sli.vidx' (hs : Sli h v xs) {k : IntKind} {j : Int} (h0 : 0 ≤ j) (hj : j < xs.length) : Zv.vidx 1 (h ++ L) v (.int k j) = some (vptr v j.toNat, h ++ L) := (hs.app _).vidx h0 hj
theorem Sli.vload' (hs : Sli h v xs) {j : Nat} (hj : j < xs.length) : Zv.vload false 1 (h ++ L) (vptr v j) = some (.int .i64 xs[j]) := (hs.app _).vload hj
end

/-! ### the same, as a function: for simp -/
def unint : Value → Int
  | .int _ n => n
  | _ => 0
def unints (cs : List Value) : List Int := cs.map unint
def isI64 : Value → Bool
  | .int .i64 _ => true
  | _ => false
@[simp] theorem unints_ints (xs : List Int) : unints (ints xs) = xs := by simp [unints, ints, unint, Function.comp_def]
@[simp] theorem all_ints (xs : List Int) : (ints xs).all isI64 = true := by simp [ints, isI64]
@[simp] theorem take_ints (xs : List Int) : List.take xs.length (ints xs) = ints xs := List.take_of_length_le (by simp)
theorem ints_unints {cs : List Value} (h : cs.all isI64 = true) : ints (unints cs) = cs := by
  unfold ints unints
  rw [List.map_map]
  have : ∀ v ∈ cs, (Value.int .i64 ∘ unint) v = v := by
    intro v hv
    have := List.all_eq_true.mp h v hv
    unfold isI64 at this
    split at this
    · rfl
    · cases this
  exact (List.map_congr_left this).trans (by simp)

/-- What a slice of integers reads as. -/
def rd (h : VH) (v : Value) : List Int := match vsrc 1 h v with
  | some (cs, _) => unints cs
  | none => []
def isSli (h : VH) (v : Value) : Prop := match vsrc 1 h v with
  | some (cs, n) => cs.length = n ∧ cs.all isI64 = true
  | none => False
theorem isSli.sli {h : VH} {v : Value} (hs : isSli h v) : Sli h v (rd h v) := by
  unfold isSli at hs
  unfold Sli Sl rd
  split at hs
  · rename_i cs n hv
    rw [hv]
    simp only [ints_unints hs.2, hs.1]
  · exact hs.elim
theorem Sli.rd {h : VH} {v : Value} {xs : List Int} (hs : Sli h v xs) : rd h v = xs := by
  unfold Sli Sl at hs
  unfold Zv.rd
  rw [hs]
  exact unints_ints xs
theorem Sli.is {h : VH} {v : Value} {xs : List Int} (hs : Sli h v xs) : isSli h v := by
  unfold Sli Sl at hs
  unfold isSli
  rw [hs]
  simp
theorem Sli.rd' {h L : VH} {v : Value} {xs : List Int} (hs : Sli h v xs) : Zv.rd (h ++ L) v = xs := (hs.app L).rd
theorem Sli.is' {h L : VH} {v : Value} {xs : List Int} (hs : Sli h v xs) : isSli (h ++ L) v := (hs.app L).is
@[simp] theorem rd_nil (h : VH) : rd h (.slice none 0 0) = [] := by simp [rd, unints]
@[simp] theorem isSli_nil (h : VH) : isSli h (.slice none 0 0) := ⟨rfl, rfl⟩
@[simp] theorem rd_ref (h : VH) (a : Addr) (n tot : Nat) : rd h (.slice (some a) n tot) = match h[a.block]? with
    | some o => if o.sz = 1 ∧ tot = o.cells.length ∧ a.off + n ≤ tot then unints ((o.cells.drop a.off).take n) else []
    | none => [] := by
  unfold rd
  rw [vsrc_ref]
  cases h[a.block]? with
  | none => rfl
  | some o =>
    simp only [Nat.mul_one]
    by_cases hc : o.sz = 1 ∧ tot = o.cells.length ∧ a.off + n ≤ tot
    · rw [if_pos hc, if_pos hc]
    · rw [if_neg hc, if_neg hc]
@[simp] theorem isSli_ref (h : VH) (a : Addr) (n tot : Nat) : isSli h (.slice (some a) n tot) ↔ match h[a.block]? with
    | some o => o.sz = 1 ∧ tot = o.cells.length ∧ a.off + n ≤ tot ∧ ((o.cells.drop a.off).take n).all isI64 = true
    | none => False := by
  unfold isSli
  rw [vsrc_ref]
  cases h[a.block]? with
  | none => exact Iff.rfl
  | some o =>
    simp only [Nat.mul_one]
    by_cases hc : o.sz = 1 ∧ tot = o.cells.length ∧ a.off + n ≤ tot
    · have : ((o.cells.drop a.off).take n).length = n := by simp; omega
      rw [if_pos hc]
      simp [hc, this]
      intro _
      omega
    · rw [if_neg hc]
      constructor
      · exact False.elim
      · rintro ⟨h1, h2, h3, _⟩; exact hc ⟨h1, h2, h3⟩
end Go.Proofs.YthpgiimaadohcaaDoor.Zv
