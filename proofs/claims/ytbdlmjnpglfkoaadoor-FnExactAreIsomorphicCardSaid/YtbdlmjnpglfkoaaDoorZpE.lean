/- Part E of the proof: ZwLaws, ZwGraph, ZwGraph2, ZwCmp, ZwU, ZwTzl, ZwList, ZwBfs, ZwAdj, ZwPop, ZwCover, ZwMark, ZwEdge, ZwDist, ZwFill, ZwGirth, ZwLL, ZwEdges, ZwFits, ZwRef1, ZwRef2, ZwRef3, ZwRef4, ZwRef5, ZwTab, ZwFrom, ZwWays, ZwBound, ZwMoore, ZwRefA, ZwSeqs, ZwSort, ZwCompact, ZwSort2, ZwPdq1, ZwPdq2. Conditions: none. -/
import Derived.Sort.Defs
import Derived.Sort.Statements
import Derived.Test.YtbdlmjnpglfkoaaDoorZpB
import Derived.Test.YtbdlmjnpglfkoaaDoorZpD
set_option linter.unusedSimpArgs false
set_option linter.unusedVariables false
set_option linter.unusedSectionVars false
namespace Go.Proofs.YtbdlmjnpglfkoaaDoor.Zv
/- What the laws' own small functions compute. -/
section
open Go
open Classical in
theorem search {α : Type} (f : Int → α) (bad : Int → Prop) (r d : α) (n lo : Int) (hstep : ∀ i, lo ≤ i → i < n → (bad i → f i = r) ∧ (¬ bad i → f i = f (i + 1))) (hend : ∀ i, lo ≤ i → ¬ i < n → f i = d) (i : Int) (hi : lo ≤ i) :
    f i = if ∃ j, i ≤ j ∧ j < n ∧ bad j then r else d := by
  by_cases hlt : i < n
  · by_cases hb : bad i
    · rw [(hstep i hi hlt).1 hb, if_pos ⟨i, Int.le_refl _, hlt, hb⟩]
    · rw [(hstep i hi hlt).2 hb, search f bad r d n lo hstep hend (i + 1) (by omega)]
      have : (∃ j, i + 1 ≤ j ∧ j < n ∧ bad j) ↔ ∃ j, i ≤ j ∧ j < n ∧ bad j := by
        constructor
        · rintro ⟨j, h1, h2, h3⟩; exact ⟨j, by omega, h2, h3⟩
        · rintro ⟨j, h1, h2, h3⟩
          refine ⟨j, ?_, h2, h3⟩
          have : j ≠ i := fun e => hb (e ▸ h3)
          omega
      simp only [this]
  · rw [hend i hi hlt, if_neg]
    rintro ⟨j, h1, h2, _⟩
    omega
 termination_by (n - i).toNat
theorem getD_at (xs : List Int) {i : Nat} (hi : i < xs.length) : xs.getD i 0 = xs[i] := by
 rw [List.getD_eq_getElem?_getD, List.getElem?_eq_getElem hi]; rfl
variable {nro : Nat}
abbrev gv (n : Int) (s : Value) : Value := .agg #[.int .i64 n, s]
theorem c_zz58 (s : Value) (xs : List Int) (left : Int) (h : VH) (hs : Sli h s xs) (h1 : 0 ≤ left) (h2 : left ≤ 1048576) (h3 : xs.length ≤ 9223372036854775807) :
  vcall F nro k_zz58 [s, .int .i64 left] h = some (.int .i64 (if left < xs.length then -1 else left - xs.length), h) := by
 refine v_zz58 (by simp [i_zz58]) ?_
 rw [fbody_eq]
 simp (disch := first | assumption | omega | (simp [*] <;> omega) | fail) [i_zz58, hs.vlen, wrap64]
 split <;> split <;> first | rfl | omega
theorem c_zz65 (n : Int) (s : Value) (xs : List Int) (left : Int) (h : VH) (hs : Sli h s xs) (h1 : 0 ≤ left) (h2 : left ≤ 1048576) (h3 : xs.length ≤ 9223372036854775807) :
  vcall F nro k_zz65 [gv n s, .int .i64 left] h = some (.int .i64 (if left < xs.length then -1 else left - xs.length), h) := by
 refine v_zz65 (by simp [i_zz65]) ?_
 rw [fbody_eq]
 have hc := c_zz58 (nro := nro) s xs left (h ++ [⟨0, [.int .i64 n, s]⟩]) (hs.app _) h1 h2 h3
 simp (disch := first | assumption | omega | (simp [*] <;> omega) | fail) [i_zz65, hc]
 by_cases hx : left < xs.length
 ·simp [hx]; omega
 ·have : ¬ (left - (xs.length : Int) < 0) := by omega
  simp [hx, this]
theorem l_zz59 (s : Value) (xs : List Int) (h : VH) (hs : Sli h s xs) (h3 : xs.length ≤ 1099511627776) (hn : nro ≤ h.length) (y0 : List Int) (i : Int) (ys : List Int) (h0 : 0 ≤ i) (hi : i ≤ xs.length) (hl : ys.length = xs.length) (hp : ys.take i.toNat = xs.take i.toNat) :
    floop (vcall F nro) nro [0, 3, 4] i_zz59_B1 (h ++ [⟨1, ints y0⟩]) [s, .slice (some ⟨h.length, 0, none⟩) xs.length xs.length, .int .i64 i] (h ++ [⟨1, ints ys⟩]) =
      some (.exit 0, fl [(3, .slice (some ⟨h.length, 0, none⟩) xs.length xs.length)], h ++ [⟨1, ints xs⟩]) := by
  have hso := fun k => hs.oldk (k := k)
  rw [floop_at i_zz59_B1.eq_1]
  by_cases hlt : i < xs.length
  · simp (disch := first | assumption | omega | (simp [*] <;> omega) | fail) [hs.vlen', hs.vidx', hs.vload', wrap64, hlt, splice_ints, hn, hl, h0]
    refine l_zz59 s xs h hs h3 hn y0 (i + 1) (ys.set i.toNat xs[i.toNat]) (by omega) (by omega) (by simpa using hl) ?_
    rw [show (i + 1).toNat = i.toNat + 1 by omega]
    apply List.ext_getElem?
    intro k
    have := congrArg (·[k]?) hp
    grind
  · have : i = xs.length := by omega
    subst this
    have : ys = xs := by simpa [← hl, List.take_of_length_le] using hp
    simp (disch := first | assumption | omega | (simp [*] <;> omega) | fail) [hs.vlen', hs.vidx', hs.vload', wrap64, this]
 termination_by (xs.length - i).toNat
theorem c_zz59 (s : Value) (xs : List Int) (h : VH) (hs : Sli h s xs) (h3 : xs.length ≤ 1099511627776) (hn : nro ≤ h.length) :
  vcall F nro k_zz59 [s] h = some (.slice (some ⟨h.length, 0, none⟩) xs.length xs.length, h ++ [⟨1, ints xs⟩]) := by
 refine v_zz59 (by simp [i_zz59]) ?_
 rw [fbody_eq]
 have hl := l_zz59 s xs h hs h3 hn (List.replicate xs.length 0) 0 (List.replicate xs.length 0) (by omega) (by omega) (by simp) (by simp)
 simp (disch := first | assumption | omega | (simp [*] <;> omega) | fail) [i_zz59, hs.vlen, hl]
 omega
theorem c_zz66 (n : Int) (s : Value) (xs : List Int) (h : VH) (hs : Sli h s xs) (h3 : xs.length ≤ 1099511627776) (hn : nro ≤ h.length) :
  vcall F nro k_zz66 [gv n s] h = some (gv n (.slice (some ⟨h.length, 0, none⟩) xs.length xs.length), h ++ [⟨1, ints xs⟩]) := by
 refine v_zz66 (by simp [i_zz66]) ?_
 rw [fbody_eq]
 have hc := c_zz59 (nro := nro) s xs (h ++ [⟨0, [.int .i64 n, s]⟩, ⟨0, [.int .i64 0, .slice none 0 0]⟩, ⟨0, [.int .i64 n, .slice none 0 0]⟩]) (hs.app _) h3 (by simp; omega)
 simp at hc
 have hn' := fun k => Nat.le_trans hn (Nat.le_add_right h.length k)
 simp (disch := first | assumption | omega | (simp [*] <;> omega) | fail) [i_zz66, hc, splice, fresults, fresL, fres1, hn']
theorem l_zz57 (s t : Value) (xs ys : List Int) (h : VH) (hs : Sli h s xs) (ht : Sli h t ys) (h3 : xs.length ≤ 9223372036854775806) (hl : xs.length = ys.length) :
  floop (vcall F nro) nro [0, 1, 5] i_zz57_B1 h [s, t, .int .i64 0] h = if xs = ys then some (.exit 0, fl [], h) else some (.ret, fl [(4, .bool false)], h) := by
 have key := search (fun i => floop (vcall F nro) nro [0, 1, 5] i_zz57_B1 h [s, t, .int .i64 i] h) (fun i => xs.getD i.toNat 0 ≠ ys.getD i.toNat 0) (some (.ret, fl [(4, .bool false)], h)) (some (.exit 0, fl [], h)) xs.length 0 ?_ ?_ 0 (by omega)
 ·rw [key]
  by_cases e : xs = ys
  ·rw [if_pos e, if_neg]
   rintro ⟨j, _, _, hj⟩
   exact hj (by rw [e])
  ·rw [if_neg e, if_pos]
   apply Classical.byContradiction
   intro hno
   apply e
   apply List.ext_getElem hl
   intro k h1 h2
   apply Classical.byContradiction
   intro hne
   exact hno ⟨k, by omega, by omega, by simpa [h1, h2] using hne⟩
 ·intro i h0 hi
  have hso := hs.old
  have hto := ht.old
  have e1 : xs.getD i.toNat 0 = xs[i.toNat]'(by omega) := getD_at _ (by omega)
  have e2 : ys.getD i.toNat 0 = ys[i.toNat]'(by omega) := getD_at _ (by omega)
  rw [e1, e2, floop_at i_zz57_B1.eq_1]
  constructor <;> intro hb <;> simp (disch := first | assumption | omega | (simp [*] <;> omega) | fail) [hs.vlen, hs.vidx, hs.vload, ht.vlen, ht.vidx, ht.vload, wrap64, hi, hb]
 ·intro i h0 hi
  rw [floop_at i_zz57_B1.eq_1]
  simp (disch := first | assumption | omega | (simp [*] <;> omega) | fail) [hs.vlen, hi]
theorem c_zz57 (s t : Value) (xs ys : List Int) (h : VH) (hs : Sli h s xs) (ht : Sli h t ys) (h3 : xs.length ≤ 9223372036854775806) :
  vcall F nro k_zz57 [s, t] h = some (.bool (decide (xs = ys)), h) := by
 refine v_zz57 (by simp [i_zz57]) ?_
 rw [fbody_eq]
 by_cases hl : xs.length = ys.length
 ·simp (disch := first | assumption | omega | (simp [*] <;> omega) | fail) [i_zz57, hs.vlen, ht.vlen, hl, l_zz57 s t xs ys h hs ht h3 hl]
  by_cases e : xs = ys <;> simp [e]
 ·have hl' : ¬ (xs.length : Int) = ys.length := by omega
  have : xs ≠ ys := fun e => hl (by rw [e])
  simp (disch := first | assumption | omega | (simp [*] <;> omega) | fail) [i_zz57, hs.vlen, ht.vlen, hl', this]
theorem c_zz64 (n m : Int) (s t : Value) (xs ys : List Int) (h : VH) (hs : Sli h s xs) (ht : Sli h t ys) (h3 : xs.length ≤ 9223372036854775806) :
  vcall F nro k_zz64 [gv n s, gv m t] h = some (.bool (decide (n = m ∧ xs = ys)), h) := by
 refine v_zz64 (by simp [i_zz64]) ?_
 rw [fbody_eq]
 have hc := c_zz57 (nro := nro) s t xs ys (h ++ [⟨0, [.int .i64 n, s]⟩, ⟨0, [.int .i64 m, t]⟩]) (hs.app _) (ht.app _) h3
 simp (disch := first | assumption | omega | (simp [*] <;> omega) | fail) [i_zz64, hc]
 by_cases e1 : n = m <;> by_cases e2 : xs = ys <;> simp [e1, e2]
theorem r_zz66 (n : Int) (s : Value) (h : VH) (hs : isSli h s) (h3 : (rd h s).length ≤ 1099511627776) (hn : nro ≤ h.length) :
  vcall F nro k_zz66 [gv n s] h = some (gv n (.slice (some ⟨h.length, 0, none⟩) (rd h s).length (rd h s).length), h ++ [⟨1, ints (rd h s)⟩]) := c_zz66 n s _ h hs.sli h3 hn
theorem r_zz64 (n m : Int) (s t : Value) (h : VH) (hs : isSli h s) (ht : isSli h t) (h3 : (rd h s).length ≤ 9223372036854775806) :
  vcall F nro k_zz64 [gv n s, gv m t] h = some (.bool (decide (n = m ∧ rd h s = rd h t)), h) := c_zz64 n m s t _ _ h hs.sli ht.sli h3
end

/- What a graph is, and what the two tests for it compute. -/
section
open Go
variable {nro : Nat}
def rbit (rows : List Int) (v w : Nat) : Bool := (rows.getD v 0).toNat.testBit w
def RowOK (n : Int) (rows : List Int) (v : Nat) : Prop := 0 ≤ rows.getD v 0 ∧ rows.getD v 0 < 2 ^ n.toNat ∧ rbit rows v v = false
structure GV (n : Int) (rows : List Int) : Prop where
 lo : 1 ≤ n
 hi : n ≤ 62
 len : (rows.length : Int) = n
 row : ∀ v, v < rows.length → RowOK n rows v
 sym : ∀ v w, v < rows.length → w < rows.length → rbit rows v w = rbit rows w v
theorem pow_le62 {n : Int} (h : n ≤ 62) : (2 : Int) ^ n.toNat ≤ 4611686018427387904 := by
 have h1 : (2 : Nat) ^ n.toNat ≤ 4611686018427387904 := Nat.le_trans (Nat.pow_le_pow_right (by decide : 0 < 2) (by omega : n.toNat ≤ 62)) (by decide)
 have h2 : ((2 ^ n.toNat : Nat) : Int) = (2 : Int) ^ n.toNat := by simp
 rw [← h2]; omega
theorem pow_pos2 (k : Nat) : (1 : Int) ≤ 2 ^ k := by
 have h1 : 1 ≤ (2 : Nat) ^ k := Nat.one_le_two_pow
 have h2 : ((2 ^ k : Nat) : Int) = (2 : Int) ^ k := by simp
 rw [← h2]; omega
theorem bit_int {a b : Int} (ha : 0 ≤ a) (ha2 : a ≤ 9223372036854775807) (hb : b ≤ 64) : (iand .i64 (ishr .i64 a b) 1 = 1) ↔ a.toNat.testBit b.toNat = true := by
 have := bit_nat (a := a.toNat) (b := b) (by omega) hb
 rw [Int.toNat_of_nonneg ha] at this
 exact this
theorem bit_two {a b : Int} (ha : 0 ≤ a) (ha2 : a ≤ 9223372036854775807) (hb : b ≤ 64) : iand .i64 (ishr .i64 a b) 1 = if a.toNat.testBit b.toNat = true then 1 else 0 := by
 have h1 := bit_int ha ha2 hb
 split
 ·rename_i h; exact h1.mpr h
 ·rename_i h
  have h2 : iand .i64 (ishr .i64 a b) 1 = ((a.toNat >>> b.toNat % 2 : Nat) : Int) := by
   have e : a = (a.toNat : Int) := (Int.toNat_of_nonneg ha).symm
   rw [e, ishr_nat hb, iand_one, Int.toNat_natCast]
   rw [Nat.shiftRight_eq_div_pow]
   exact Nat.lt_of_le_of_lt (Nat.div_le_self _ _) (by omega)
  have h3 : ¬ iand .i64 (ishr .i64 a b) 1 = 1 := fun e => h (h1.mp e)
  omega
theorem c_zz71 (n lo hi : Int) (h : VH) : vcall F nro k_zz71 [.int .i64 n, .int .i64 lo, .int .i64 hi] h = some (.bool (decide (lo ≤ n ∧ n ≤ hi)), h) := by
 refine v_zz71 (by simp [i_zz71]) ?_
 rw [fbody_eq]
 simp [i_zz71]
 split <;> simp <;> omega
theorem c_zz69 (n a b : Int) (s : Value) (rows : List Int) (h : VH) (hs : Sli h s rows) (h1 : 0 ≤ a) (h2 : a < rows.length) (h3 : 0 ≤ b) (h4 : b ≤ 64) :
  vcall F nro k_zz69 [gv n s, .int .i64 a, .int .i64 b] h = some (.bool (decide (iand .i64 (ishr .i64 (rows.getD a.toNat 0) b) 1 = 1)), h) := by
 refine v_zz69 (by simp [i_zz69]) ?_
 rw [fbody_eq, getD_at rows (by omega)]
 simp (disch := first | assumption | omega | (simp [*] <;> omega) | fail) [i_zz69, hs.vidx', hs.vload', wrapu64]
theorem c_zz69' (n a b : Int) (s : Value) (rows : List Int) (h : VH) (hs : Sli h s rows) (h1 : 0 ≤ a) (h2 : a < rows.length) (h3 : 0 ≤ b) (h4 : b ≤ 64) (h5 : 0 ≤ rows.getD a.toNat 0) (h6 : rows.getD a.toNat 0 ≤ 9223372036854775807) :
  vcall F nro k_zz69 [gv n s, .int .i64 a, .int .i64 b] h = some (.bool (rbit rows a.toNat b.toNat), h) := by
 rw [c_zz69 n a b s rows h hs h1 h2 h3 h4]
 have := bit_int h5 h6 h4
 simp only [this, rbit]
 simp
theorem ishl_one' {n : Int} (h0 : 0 ≤ n) (h1 : n ≤ 62) : ishl .i64 1 n = 2 ^ n.toNat := by
 rw [ishl_one h1]; simp
abbrev bx (h : VH) (n : Int) (s : Value) : VH := h ++ [⟨0, [.int .i64 n, s]⟩]
abbrev bp (h : VH) : Value := .pointer (some ⟨h.length, 0, some 2⟩)
theorem rowOK_iff {n i : Int} {rows : List Int} (hn2 : n ≤ 62) (hi : 0 ≤ i) (hin : i < n) (hl : (rows.length : Int) = n) :
  RowOK n rows i.toNat ↔ (0 ≤ rows[i.toNat]'(by omega) ∧ rows[i.toNat]'(by omega) ≤ 2 ^ n.toNat - 1) ∧ ¬ iand .i64 (ishr .i64 (rows[i.toNat]'(by omega)) i) 1 = 1 := by
 have hp := pow_le62 hn2
 unfold RowOK rbit
 rw [getD_at rows (by omega)]
 constructor
 ·rintro ⟨h1, h2, h3⟩
  refine ⟨⟨h1, by omega⟩, fun e => ?_⟩
  rw [(bit_int h1 (by omega) (by omega)).mp e] at h3
  cases h3
 ·rintro ⟨⟨h1, h2⟩, h3⟩
  refine ⟨h1, by omega, ?_⟩
  rw [bit_int h1 (by omega) (by omega)] at h3
  simpa using h3
open Classical in
theorem l_zz72_1 (n : Int) (s : Value) (rows : List Int) (h : VH) (hs : Sli h s rows) (hn1 : 1 ≤ n) (hn2 : n ≤ 62) (hl : (rows.length : Int) = n) :
  floop (vcall F nro) nro [1, 3] i_zz72_B1 (bx h n s) [bp h, .int .i64 0] (bx h n s) =
   if ∃ j : Int, 0 ≤ j ∧ j < n ∧ ¬ RowOK n rows j.toNat then some (.ret, fl [(2, .bool false)], bx h n s) else some (.exit 0, fl [(1, bp h)], bx h n s) := by
 refine search (fun i => floop (vcall F nro) nro [1, 3] i_zz72_B1 (bx h n s) [bp h, .int .i64 i] (bx h n s)) (fun i => ¬ RowOK n rows i.toNat) _ _ n 0 ?_ ?_ 0 (by omega)
 ·intro i hi hlt
  have hc := fun (x a b : Int) => c_zz71 (nro := nro) x a b (bx h n s)
  have hc2 := c_zz69 (nro := nro) n i i s rows (bx h n s) (hs.app _) hi (by omega) hi (by omega)
  have hp := pow_le62 hn2
  have hp1 := pow_pos2 n.toNat
  rw [floop_at i_zz72_B1.eq_1, rowOK_iff hn2 hi hlt hl]
  constructor <;> intro hb
  ·simp (disch := first | assumption | omega | (simp [*] <;> omega) | fail) [hs.vlen', hs.vidx', hs.vload', wrap64, wrapu64, hlt, hc, hc2, ishl_one']
   intro h1 h2 h3
   exact absurd ⟨⟨h1, h2⟩, h3⟩ hb
  ·obtain ⟨⟨g1, g2⟩, g3⟩ := Classical.not_not.mp hb
   simp (disch := first | assumption | omega | (simp [*] <;> omega) | fail) [hs.vlen', hs.vidx', hs.vload', wrap64, wrapu64, hlt, hc, hc2, ishl_one', g1, g2, g3]
 ·intro i hi hlt
  rw [floop_at i_zz72_B1.eq_1]
  simp (disch := first | assumption | omega | (simp [*] <;> omega) | fail) [hlt]
open Classical in
theorem l_zz72_2 (n : Int) (s : Value) (rows : List Int) (h : VH) (hs : Sli h s rows) (hn1 : 1 ≤ n) (hn2 : n ≤ 62) (hl : (rows.length : Int) = n) (hr : ∀ j : Int, 0 ≤ j → j < n → RowOK n rows j.toNat) (v : Int) (hv : 0 ≤ v) (hvn : v < n) :
  floop (vcall F nro) nro [1, 4, 5] i_zz72_B2 (bx h n s) [bp h, .int .i64 v, .int .i64 0] (bx h n s) =
   if ∃ j : Int, 0 ≤ j ∧ j < v ∧ rbit rows v.toNat j.toNat ≠ rbit rows j.toNat v.toNat then some (.ret, fl [(2, .bool false)], bx h n s) else some (.exit 4, fl [(1, bp h), (4, .int .i64 v)], bx h n s) := by
 refine search (fun i => floop (vcall F nro) nro [1, 4, 5] i_zz72_B2 (bx h n s) [bp h, .int .i64 v, .int .i64 i] (bx h n s)) (fun j => rbit rows v.toNat j.toNat ≠ rbit rows j.toNat v.toNat) _ _ v 0 ?_ ?_ 0 (by omega)
 ·intro i hi hlt
  have hp := pow_le62 hn2
  obtain ⟨r1, r2, _⟩ := hr i hi (by omega)
  obtain ⟨q1, q2, _⟩ := hr v hv hvn
  have hc1 := c_zz69' (nro := nro) n v i s rows (bx h n s) (hs.app _) hv (by omega) hi (by omega) q1 (by omega)
  have hc2 := c_zz69' (nro := nro) n i v s rows (bx h n s) (hs.app _) hi (by omega) hv (by omega) r1 (by omega)
  rw [floop_at i_zz72_B2.eq_1]
  constructor <;> intro hb
  ·simp (disch := first | assumption | omega | (simp [*] <;> omega) | fail) [wrap64, hlt, hc1, hc2, hb]
  ·simp (disch := first | assumption | omega | (simp [*] <;> omega) | fail) [wrap64, hlt, hc1, hc2, Classical.not_not.mp hb]
 ·intro i hi hlt
  rw [floop_at i_zz72_B2.eq_1]
  simp (disch := first | assumption | omega | (simp [*] <;> omega) | fail) [hlt]
open Classical in
theorem l_zz72_3 (n : Int) (s : Value) (rows : List Int) (h : VH) (hs : Sli h s rows) (hn1 : 1 ≤ n) (hn2 : n ≤ 62) (hl : (rows.length : Int) = n) (hr : ∀ j : Int, 0 ≤ j → j < n → RowOK n rows j.toNat) :
  floop (vcall F nro) nro [1, 4] i_zz72_B3 (bx h n s) [bp h, .int .i64 0] (bx h n s) =
   if ∃ v : Int, 0 ≤ v ∧ v < n ∧ ∃ j : Int, 0 ≤ j ∧ j < v ∧ rbit rows v.toNat j.toNat ≠ rbit rows j.toNat v.toNat then some (.ret, fl [(2, .bool false)], bx h n s) else some (.exit 2, fl [], bx h n s) := by
 refine search (fun i => floop (vcall F nro) nro [1, 4] i_zz72_B3 (bx h n s) [bp h, .int .i64 i] (bx h n s)) (fun v => ∃ j : Int, 0 ≤ j ∧ j < v ∧ rbit rows v.toNat j.toNat ≠ rbit rows j.toNat v.toNat) _ _ n 0 ?_ ?_ 0 (by omega)
 ·intro i hi hlt
  have hin := l_zz72_2 (nro := nro) n s rows h hs hn1 hn2 hl hr i hi hlt
  rw [floop_at i_zz72_B3.eq_1]
  constructor <;> intro hb
  ·rw [if_pos hb] at hin
   simp (disch := first | assumption | omega | (simp [*] <;> omega) | fail) [wrap64, hlt, hin]
  ·rw [if_neg hb] at hin
   simp (disch := first | assumption | omega | (simp [*] <;> omega) | fail) [wrap64, hlt, hin]
 ·intro i hi hlt
  rw [floop_at i_zz72_B3.eq_1]
  simp (disch := first | assumption | omega | (simp [*] <;> omega) | fail) [hlt]
theorem GV_iff {n : Int} {rows : List Int} : GV n rows ↔ 1 ≤ n ∧ n ≤ 62 ∧ (rows.length : Int) = n ∧ (∀ j : Int, 0 ≤ j → j < n → RowOK n rows j.toNat) ∧ ¬ ∃ v : Int, 0 ≤ v ∧ v < n ∧ ∃ j : Int, 0 ≤ j ∧ j < v ∧ rbit rows v.toNat j.toNat ≠ rbit rows j.toNat v.toNat := by
 constructor
 ·rintro ⟨h1, h2, h3, h4, h5⟩
  refine ⟨h1, h2, h3, fun j h6 h7 => h4 _ (by omega), ?_⟩
  rintro ⟨v, h6, h7, j, h8, h9, h10⟩
  exact h10 (h5 _ _ (by omega) (by omega))
 ·rintro ⟨h1, h2, h3, h4, h5⟩
  have key : ∀ v w : Nat, w < v → v < rows.length → rbit rows v w = rbit rows w v := by
   intro v w h6 h7
   apply Classical.byContradiction
   intro h8
   exact h5 ⟨v, by omega, by omega, w, by omega, by omega, by simpa using h8⟩
  refine ⟨h1, h2, h3, fun v hv => by simpa using h4 v (by omega) (by omega), fun v w hv hw => ?_⟩
  rcases Nat.lt_trichotomy v w with h6 | h6 | h6
  ·exact (key w v h6 hw).symm
  ·rw [h6]
  ·exact key v w h6 hv
open Classical in
theorem c_zz72 (n : Int) (s : Value) (rows : List Int) (h : VH) (hs : Sli h s rows) :
  vcall F nro k_zz72 [gv n s] h = some (.bool (decide (GV n rows)), h) := by
 refine v_zz72 (by simp [i_zz72]) ?_
 rw [fbody_eq]
 have hc := fun (x a b : Int) => c_zz71 (nro := nro) x a b (bx h n s)
 by_cases hn : 1 ≤ n ∧ n ≤ 62
 ·obtain ⟨hn1, hn2⟩ := hn
  by_cases hl : (rows.length : Int) = n
  ·have hl1 := l_zz72_1 (nro := nro) n s rows h hs hn1 hn2 hl
   by_cases hb : ∃ j : Int, 0 ≤ j ∧ j < n ∧ ¬ RowOK n rows j.toNat
   ·rw [if_pos hb] at hl1
    have : ¬ GV n rows := by
     rw [GV_iff]
     rintro ⟨_, _, _, h4, _⟩
     obtain ⟨j, h5, h6, h7⟩ := hb
     exact h7 (h4 j h5 h6)
    simp (disch := first | assumption | omega | (simp [*] <;> omega) | fail) [i_zz72, hc, hn1, hn2, hs.vlen', hl, hl1, this]
   ·rw [if_neg hb] at hl1
    have hr : ∀ j : Int, 0 ≤ j → j < n → RowOK n rows j.toNat := fun j h1 h2 => Classical.byContradiction fun h3 => hb ⟨j, h1, h2, h3⟩
    have hl3 := l_zz72_3 (nro := nro) n s rows h hs hn1 hn2 hl hr
    by_cases hb2 : ∃ v : Int, 0 ≤ v ∧ v < n ∧ ∃ j : Int, 0 ≤ j ∧ j < v ∧ rbit rows v.toNat j.toNat ≠ rbit rows j.toNat v.toNat
    ·rw [if_pos hb2] at hl3
     have : ¬ GV n rows := by
      rw [GV_iff]
      rintro ⟨_, _, _, _, h4⟩
      exact h4 hb2
     simp (disch := first | assumption | omega | (simp [*] <;> omega) | fail) [i_zz72, hc, hn1, hn2, hs.vlen', hl, hl1, hl3, this]
    ·rw [if_neg hb2] at hl3
     have : GV n rows := GV_iff.mpr ⟨hn1, hn2, hl, hr, hb2⟩
     simp (disch := first | assumption | omega | (simp [*] <;> omega) | fail) [i_zz72, hc, hn1, hn2, hs.vlen', hl, hl1, hl3, this]
  ·have : ¬ GV n rows := fun g => hl g.len
   simp (disch := first | assumption | omega | (simp [*] <;> omega) | fail) [i_zz72, hc, hn1, hn2, hs.vlen', hl, this]
 ·have : ¬ GV n rows := fun g => hn ⟨g.lo, g.hi⟩
  simp (disch := first | assumption | omega | (simp [*] <;> omega) | fail) [i_zz72, hc, hn, this]
end

/- The program's own test for a graph. -/
section
open Go
variable {nro : Nat}
open Classical in
theorem l_zz62_1 (n : Int) (s : Value) (rows : List Int) (h : VH) (hs : Sli h s rows) (hn1 : 1 ≤ n) (hn2 : n ≤ 62) (hl : (rows.length : Int) = n) (v x : Int) (hv : 0 ≤ v) (hvn : v < n) :
  floop (vcall F nro) nro [1, 3, 4, 5, 23, 24, 25, 45, 46] i_zz62_B1 (bx h n s) [bp h, .int .i64 n, .int .i64 v, .int .i64 (x), s, .int .i64 n, .int .i64 v, .int .i64 n, .int .i64 0] (bx h n s) =
   if ∃ j : Int, 0 ≤ j ∧ j < n ∧ iand .i64 (ishr .i64 (x) j) 1 ≠ iand .i64 (ishr .i64 (rows.getD j.toNat 0) v) 1 then some (.ret, fl [(2, .bool false)], bx h n s) else some (.exit 2, fl [(1, bp h), (3, .int .i64 n), (23, s), (24, .int .i64 n), (25, .int .i64 v)], bx h n s) := by
 refine search (fun i => floop (vcall F nro) nro [1, 3, 4, 5, 23, 24, 25, 45, 46] i_zz62_B1 (bx h n s) [bp h, .int .i64 n, .int .i64 v, .int .i64 (x), s, .int .i64 n, .int .i64 v, .int .i64 n, .int .i64 i] (bx h n s)) (fun j => iand .i64 (ishr .i64 (x) j) 1 ≠ iand .i64 (ishr .i64 (rows.getD j.toNat 0) v) 1) _ _ n 0 ?_ ?_ 0 (by omega)
 ·intro i hi hlt
  have hso := fun k => hs.oldk (k := k)
  rw [floop_at i_zz62_B1.eq_1, getD_at rows (i := i.toNat) (by omega)]
  constructor <;> intro hb
  ·simp (disch := first | assumption | omega | (simp [*] <;> omega) | fail) [hs.vlen', hs.vidx', hs.vload', wrap64, hlt, hb]
  ·simp (disch := first | assumption | omega | (simp [*] <;> omega) | fail) [hs.vlen', hs.vidx', hs.vload', wrap64, hlt, Classical.not_not.mp hb]
 ·intro i hi hlt
  rw [floop_at i_zz62_B1.eq_1]
  simp (disch := first | assumption | omega | (simp [*] <;> omega) | fail) [hlt]
def RowAll (n : Int) (rows : List Int) (v : Nat) : Prop := RowOK n rows v ∧ ¬ ∃ j : Int, 0 ≤ j ∧ j < n ∧ iand .i64 (ishr .i64 (rows.getD v 0) j) 1 ≠ iand .i64 (ishr .i64 (rows.getD j.toNat 0) (v : Int)) 1
open Classical in
theorem l_zz62_2 (n : Int) (s : Value) (rows : List Int) (h : VH) (hs : Sli h s rows) (hn1 : 1 ≤ n) (hn2 : n ≤ 62) (hl : (rows.length : Int) = n) :
  floop (vcall F nro) nro [1, 3, 23, 24, 25] i_zz62_B2 (bx h n s) [bp h, .int .i64 n, s, .int .i64 n, .int .i64 0] (bx h n s) =
   if ∃ j : Int, 0 ≤ j ∧ j < n ∧ ¬ RowAll n rows j.toNat then some (.ret, fl [(2, .bool false)], bx h n s) else some (.exit 0, fl [], bx h n s) := by
 refine search (fun i => floop (vcall F nro) nro [1, 3, 23, 24, 25] i_zz62_B2 (bx h n s) [bp h, .int .i64 n, s, .int .i64 n, .int .i64 i] (bx h n s)) (fun i => ¬ RowAll n rows i.toNat) _ _ n 0 ?_ ?_ 0 (by omega)
 ·intro i hi hlt
  have hso := fun k => hs.oldk (k := k)
  have hp := pow_le62 hn2
  have hp1 := pow_pos2 n.toNat
  have hok := rowOK_iff hn2 hi hlt hl
  have e : rows.getD i.toNat 0 = rows[i.toNat]'(by omega) := getD_at _ (by omega)
  rw [floop_at i_zz62_B2.eq_1]
  by_cases hr : RowOK n rows i.toNat
  ·obtain ⟨⟨g1, g2⟩, g3⟩ := hok.mp hr
   have g4 : ¬ rows[i.toNat]'(by omega) < 0 := by omega
   have g5 : ¬ 2 ^ n.toNat ≤ rows[i.toNat]'(by omega) := by omega
   have hin := l_zz62_1 (nro := nro) n s rows h hs hn1 hn2 hl i (rows[i.toNat]'(by omega)) hi hlt
   have e2 : ((i.toNat : Nat) : Int) = i := Int.toNat_of_nonneg hi
   unfold RowAll
   rw [e]
   constructor <;> intro hb
   ·have hb' : ∃ j : Int, 0 ≤ j ∧ j < n ∧ iand .i64 (ishr .i64 (rows[i.toNat]'(by omega)) j) 1 ≠ iand .i64 (ishr .i64 (rows.getD j.toNat 0) i) 1 := Classical.byContradiction fun hno => hb ⟨hr, by simpa [e2] using hno⟩
    rw [if_pos hb'] at hin
    simp (disch := first | assumption | omega | (simp [*] <;> omega) | fail) [hs.vlen', hs.vidx', hs.vload', wrap64, hlt, ishl_one', g3, g4, g5, hin]
   ·rw [if_neg (by simpa [e2] using (Classical.not_not.mp hb).2)] at hin
    simp (disch := first | assumption | omega | (simp [*] <;> omega) | fail) [hs.vlen', hs.vidx', hs.vload', wrap64, hlt, ishl_one', g3, g4, g5, hin]
  ·constructor <;> intro hb
   ·simp (disch := first | assumption | omega | (simp [*] <;> omega) | fail) [hs.vlen', hs.vidx', hs.vload', wrap64, hlt, ishl_one']
    intro h1 h2 h3
    exact absurd (hok.mpr ⟨⟨h1, by omega⟩, h3⟩) hr
   ·exact absurd (Classical.not_not.mp hb).1 hr
 ·intro i hi hlt
  rw [floop_at i_zz62_B2.eq_1]
  simp (disch := first | assumption | omega | (simp [*] <;> omega) | fail) [hlt]
theorem rowAll_iff {n : Int} {rows : List Int} (hn1 : 1 ≤ n) (hn2 : n ≤ 62) (hl : (rows.length : Int) = n) : (∀ j : Int, 0 ≤ j → j < n → RowAll n rows j.toNat) ↔ GV n rows := by
 have hp := pow_le62 hn2
 -- what the rows' own bits are
 have hbits : (∀ v, v < rows.length → RowOK n rows v) → ∀ v j : Nat, v < rows.length → j < rows.length → (iand .i64 (ishr .i64 (rows.getD v 0) j) 1 = iand .i64 (ishr .i64 (rows.getD j 0) v) 1 ↔ rbit rows v j = rbit rows j v) := by
  intro hr v j hv hj
  obtain ⟨a1, a2, _⟩ := hr v hv
  obtain ⟨b1, b2, _⟩ := hr j hj
  rw [bit_two a1 (by omega) (by omega), bit_two b1 (by omega) (by omega)]
  simp only [rbit, Int.toNat_natCast]
  by_cases x : (rows.getD v 0).toNat.testBit j = true <;> by_cases y : (rows.getD j 0).toNat.testBit v = true <;> simp only [x, y] <;> simp_all
 constructor
 ·intro h
  have hr : ∀ v, v < rows.length → RowOK n rows v := fun v hv => by simpa using (h v (by omega) (by omega)).1
  refine ⟨hn1, hn2, hl, hr, fun v w hv hw => ?_⟩
  rw [← hbits hr v w hv hw]
  have h2 := (h v (by omega) (by omega)).2
  apply Classical.byContradiction
  intro hno
  exact h2 ⟨w, by omega, by omega, by simpa using hno⟩
 ·intro g j h0 h1
  refine ⟨g.row _ (by omega), ?_⟩
  rintro ⟨k, h2, h3, h4⟩
  have := (hbits g.row j.toNat k.toNat (by omega) (by omega)).mpr (g.sym _ _ (by omega) (by omega))
  rw [Int.toNat_of_nonneg h2] at this
  exact h4 (by simpa [Int.toNat_of_nonneg h2] using this)
open Classical in
theorem c_zz62 (n : Int) (s : Value) (rows : List Int) (h : VH) (hs : Sli h s rows) :
  vcall F nro k_zz62 [gv n s] h = some (.bool (decide (GV n rows)), h) := by
 refine v_zz62 (by simp [i_zz62]) ?_
 rw [fbody_eq]
 by_cases hn : 1 ≤ n ∧ n ≤ 62
 ·obtain ⟨hn1, hn2⟩ := hn
  have hn1' : ¬ n < 1 := by omega
  have hn2' : ¬ 62 < n := by omega
  by_cases hl : (rows.length : Int) = n
  ·have hl1 := l_zz62_2 (nro := nro) n s rows h hs hn1 hn2 hl
   by_cases hb : ∃ j : Int, 0 ≤ j ∧ j < n ∧ ¬ RowAll n rows j.toNat
   ·rw [if_pos hb] at hl1
    have : ¬ GV n rows := by
     rw [← rowAll_iff hn1 hn2 hl]
     intro h4
     obtain ⟨j, h5, h6, h7⟩ := hb
     exact h7 (h4 j h5 h6)
    simp (disch := first | assumption | omega | (simp [*] <;> omega) | fail) [i_zz62, hn1', hn2', hs.vlen', hl, hl1, this]
   ·rw [if_neg hb] at hl1
    have : GV n rows := (rowAll_iff hn1 hn2 hl).mp fun j h1 h2 => Classical.byContradiction fun h3 => hb ⟨j, h1, h2, h3⟩
    simp (disch := first | assumption | omega | (simp [*] <;> omega) | fail) [i_zz62, hn1', hn2', hs.vlen', hl, hl1, this]
  ·have : ¬ GV n rows := fun g => hl g.len
   simp (disch := first | assumption | omega | (simp [*] <;> omega) | fail) [i_zz62, hn1', hn2', hs.vlen', hl, this]
 ·have : ¬ GV n rows := fun g => hn ⟨g.lo, g.hi⟩
  by_cases h1 : n < 1
  ·simp (disch := first | assumption | omega | (simp [*] <;> omega) | fail) [i_zz62, h1, this]
  ·have h2 : 62 < n := by omega
   simp (disch := first | assumption | omega | (simp [*] <;> omega) | fail) [i_zz62, h1, h2, this]
end

/- cmp.Compare, slices.Compare: lists in the order of dictionaries. -/
section
open Go Go.Sort
variable {nro : Nat}
def cmpI (a b : Int) : Int := if a < b then -1 else if b < a then 1 else 0
def cmpL : List Int → List Int → Int
 | [], [] => 0
 | [], _ :: _ => -1
 | _ :: _, [] => 1
 | a :: l, b :: m => if a < b then -1 else if b < a then 1 else cmpL l m
theorem c_zz50 (a : Int) (h : VH) : vcall F nro k_zz50 [.int .i64 a] h = some (.bool false, h) := by
 refine v_zz50 (by simp [i_zz50]) ?_
 rw [fbody_eq]
 simp (disch := first | assumption | omega | (simp [*] <;> omega) | fail) [i_zz50]
theorem c_zz49 (a b : Int) (h : VH) : vcall F nro k_zz49 [.int .i64 a, .int .i64 b] h = some (.int .i64 (cmpI a b), h) := by
 refine v_zz49 (by simp [i_zz49]) ?_
 rw [fbody_eq]
 have e1 := c_zz50 (nro := nro) a h
 have e2 := c_zz50 (nro := nro) b h
 unfold cmpI
 by_cases h1 : a < b
 ·rw [if_pos h1]
  simp (disch := first | assumption | omega | (simp [*] <;> omega) | fail) [i_zz49, e1, e2, h1]
 ·rw [if_neg h1]
  by_cases h2 : b < a
  ·rw [if_pos h2]
   simp (disch := first | assumption | omega | (simp [*] <;> omega) | fail) [i_zz49, e1, e2, h1, h2]
  ·rw [if_neg h2]
   simp (disch := first | assumption | omega | (simp [*] <;> omega) | fail) [i_zz49, e1, e2, h1, h2]
theorem l_slices_Compare (h : VH) (s t : Value) (xs ys : List Int) (hs : Sli h s xs) (ht : Sli h t ys) (hl : xs.length ≤ 1000) (hl2 : ys.length ≤ 1000) (k j : Nat) (hk : k = xs.length - j) (hj : j ≤ xs.length) (hj2 : j ≤ ys.length) :
    (∃ e, floop (vcall F nro) nro [0, 1, 9, 10, 11] i_zz27_B1 h [s, t, s, .int .i64 xs.length, .int .i64 j] h = some (.ret, e, h) ∧ e 4 = .int .i64 (cmpL (xs.drop j) (ys.drop j))) ∨
    (floop (vcall F nro) nro [0, 1, 9, 10, 11] i_zz27_B1 h [s, t, s, .int .i64 xs.length, .int .i64 j] h = some (.exit 0, fl [(0, s), (1, t)], h) ∧ cmpL (xs.drop j) (ys.drop j) = if xs.length < ys.length then -1 else 0) := by
  have hso := hs.old
  have hto := ht.old
  rw [floop_at i_zz27_B1.eq_1]
  have vl2 := ht.vlen
  by_cases hlt : j < xs.length
  · have hlt' : (j : Int) < xs.length := by omega
    have vl := hs.vlen
    have vx := hs.vidx (k := .i64) (j := (j : Int)) (by omega) hlt'
    have vd := hs.vload hlt
    rw [List.drop_eq_getElem_cons hlt]
    by_cases hlt2 : j < ys.length
    · have hlt2' : ¬ (ys.length : Int) ≤ j := by omega
      have vx2 := ht.vidx (k := .i64) (j := (j : Int)) (by omega) (by omega)
      have vd2 := ht.vload hlt2
      rw [List.drop_eq_getElem_cons hlt2]
      obtain ⟨x, hx⟩ : ∃ x, x = xs[j] := ⟨_, rfl⟩
      obtain ⟨y, hy⟩ : ∃ y, y = ys[j] := ⟨_, rfl⟩
      rw [← hx] at vd ⊢
      rw [← hy] at vd2 ⊢
      have e1 := c_zz49 (nro := nro) x y h
      rw [cmpL]
      by_cases h1 : x < y
      · left
        rw [if_pos h1]
        rw [cmpI, if_pos h1] at e1
        simp (disch := first | assumption | omega | (simp [*] <;> omega) | fail) [hlt', vl, vx, vd, vl2, vx2, vd2, hlt2', e1]
      · rw [if_neg h1]
        rw [cmpI, if_neg h1] at e1
        by_cases h2 : y < x
        · left
          rw [if_pos h2]
          rw [if_pos h2] at e1
          simp (disch := first | assumption | omega | (simp [*] <;> omega) | fail) [hlt', vl, vx, vd, vl2, vx2, vd2, hlt2', e1]
        · rw [if_neg h2]
          rw [if_neg h2] at e1
          have ih := l_slices_Compare h s t xs ys hs ht hl hl2 (k - 1) (j + 1) (by omega) hlt hlt2
          rw [show ((j + 1 : Nat) : Int) = (j : Int) + 1 by omega] at ih
          obtain ⟨q, hq⟩ : ∃ q, q = cmpL (xs.drop (j + 1)) (ys.drop (j + 1)) := ⟨_, rfl⟩
          rw [← hq] at ih ⊢
          clear hq
          rcases ih with ⟨e, i1, i2⟩ | ⟨i1, i2⟩
          · left
            simp (disch := first | assumption | omega | (simp [*] <;> omega) | fail) [wrap64, hlt', vl, vx, vd, vl2, vx2, vd2, hlt2', e1, i1, i2]
          · right
            simp (disch := first | assumption | omega | (simp [*] <;> omega) | fail) [wrap64, hlt', vl, vx, vd, vl2, vx2, vd2, hlt2', e1, i1, i2]
    · have hlt2' : (ys.length : Int) ≤ j := by omega
      left
      rw [List.drop_eq_nil_of_le (by omega : ys.length ≤ j), cmpL]
      simp (disch := first | assumption | omega | (simp [*] <;> omega) | fail) [hlt', vl, vx, vd, vl2, hlt2']
  · right
    have hlt' : ¬ (j : Int) < xs.length := by omega
    have vl := hs.vlen
    have e1 : xs.drop j = [] := List.drop_eq_nil_of_le (by omega)
    refine ⟨?_, ?_⟩
    · simp (disch := first | assumption | omega | (simp [*] <;> omega) | fail) [hlt', vl]
    · rw [e1]
      by_cases hlt2 : j < ys.length
      · rw [if_pos (by omega), List.drop_eq_getElem_cons hlt2, cmpL]
      · rw [if_neg (by omega), List.drop_eq_nil_of_le (by omega), cmpL]
 termination_by k
theorem c_slices_Compare (h : VH) (s t : Value) (xs ys : List Int) (hs : Sli h s xs) (ht : Sli h t ys) (hl : xs.length ≤ 1000) (hl2 : ys.length ≤ 1000) :
  vcall F nro k_zz27 [s, t] h = some (.int .i64 (cmpL xs ys), h) := by
 refine v_zz27 (by simp [i_zz27]) ?_
 rw [fbody_eq]
 have vl := hs.vlen
 have vl2 := ht.vlen
 rcases l_slices_Compare (nro := nro) h s t xs ys hs ht hl hl2 xs.length 0 (by omega) (by omega) (by omega) with ⟨e, i1, i2⟩ | ⟨i1, i2⟩
 ·simp only [List.drop_zero, Int.natCast_zero] at i1 i2
  simp (disch := first | assumption | omega | (simp [*] <;> omega) | fail) [i_zz27, vl, i1, i2]
 ·simp only [List.drop_zero, Int.natCast_zero] at i1 i2
  rw [i2]
  by_cases c : xs.length < ys.length
  ·rw [if_pos c]
   have c' : (xs.length : Int) < ys.length := by omega
   simp (disch := first | assumption | omega | (simp [*] <;> omega) | fail) [i_zz27, vl, vl2, i1, c']
  ·rw [if_neg c]
   have c' : ¬ (xs.length : Int) < ys.length := by omega
   simp (disch := first | assumption | omega | (simp [*] <;> omega) | fail) [i_zz27, vl, vl2, i1, c']
theorem cmpL_refl : ∀ l, cmpL l l = 0
 | [] => rfl
 | a :: l => by rw [cmpL, if_neg (by omega), if_neg (by omega), cmpL_refl l]
theorem cmpL_eq : ∀ {l m}, cmpL l m = 0 → l = m
 | [], [], _ => rfl
 | [], _ :: _, h => by simp [cmpL] at h
 | _ :: _, [], h => by simp [cmpL] at h
 | a :: l, b :: m, h => by
  rw [cmpL] at h
  by_cases h1 : a < b
  ·rw [if_pos h1] at h; simp at h
  ·rw [if_neg h1] at h
   by_cases h2 : b < a
   ·rw [if_pos h2] at h; simp at h
   ·rw [if_neg h2] at h
    rw [cmpL_eq h, show a = b by omega]
theorem cmpL_neg : ∀ l m, cmpL l m = - cmpL m l
 | [], [] => rfl
 | [], _ :: _ => rfl
 | _ :: _, [] => rfl
 | a :: l, b :: m => by
  rw [cmpL, cmpL]
  by_cases h1 : a < b
  ·rw [if_pos h1, if_neg (by omega), if_pos h1]
  ·rw [if_neg h1]
   by_cases h2 : b < a
   ·rw [if_pos h2, if_pos h2]; rfl
   ·rw [if_neg h2, if_neg h2, if_neg h1, cmpL_neg l m]
theorem cmpL_trans : ∀ l m n, cmpL l m < 0 → cmpL m n < 0 → cmpL l n < 0
 | [], [], _, h, _ => by simp [cmpL] at h
 | [], _ :: _, [], _, h => by simp [cmpL] at h
 | [], _ :: _, _ :: _, _, _ => by simp [cmpL]
 | _ :: _, [], _, h, _ => by simp [cmpL] at h
 | _ :: _, _ :: _, [], _, h => by simp [cmpL] at h
 | a :: l, b :: m, c :: n, h, h' => by
  rw [cmpL] at h h' ⊢
  by_cases h1 : a < b
  ·by_cases h3 : b < c
   ·rw [if_pos (by omega)]; omega
   ·rw [if_neg h3] at h'
    by_cases h4 : c < b
    ·rw [if_pos h4] at h'; omega
    ·rw [if_pos (by omega)]; omega
  ·rw [if_neg h1] at h
   by_cases h2 : b < a
   ·rw [if_pos h2] at h; omega
   ·rw [if_neg h2] at h
    by_cases h3 : b < c
    ·rw [if_pos (by omega)]; omega
    ·rw [if_neg h3] at h'
     by_cases h4 : c < b
     ·rw [if_pos h4] at h'; omega
     ·rw [if_neg h4] at h'
      rw [if_neg (by omega), if_neg (by omega)]
      exact cmpL_trans l m n h h'
theorem cmpL_swo (f : Nat → List Int) : SWO (fun x y => decide (cmpL (f x) (f y) < 0)) where
 irrefl x := by simp [cmpL_refl]
 trans x y z h1 h2 := by
  simp only [decide_eq_true_eq] at *
  exact cmpL_trans _ _ _ h1 h2
 ntrans x y z h1 h2 := by
  simp only [decide_eq_false_iff_not] at *
  intro h3
  by_cases e1 : cmpL (f x) (f y) = 0
  ·rw [cmpL_eq e1] at h3; exact h2 h3
  ·have : cmpL (f y) (f x) < 0 := by rw [cmpL_neg]; omega
   exact h2 (cmpL_trans _ _ _ this h3)
end

/- Words without sign. -/
section
open Go
theorem shr_u64 {a : Nat} {b : Nat} (hb : b ≤ 64) : ishr .u64 (a : Int) (b : Int) = ((a / 2 ^ b : Nat) : Int) := by
 rw [ishr_eq]
 have e : min (b : Int).toNat IntKind.u64.bits = b := by simp [IntKind.bits]; omega
 rw [e, Int.fdiv_eq_ediv_of_nonneg _ (Int.le_of_lt (by exact_mod_cast Nat.two_pow_pos b))]
 simp
theorem and_u64 {a b : Nat} (ha : a < 2 ^ 64) (hb : b < 2 ^ 64) : iand .u64 (a : Int) (b : Int) = ((a &&& b : Nat) : Int) := by
 rw [iand_eq]
 have h1 : (BitVec.ofInt IntKind.u64.bits (a : Int)).toNat = a := ofInt_nat 64 a ha
 have h2 : (BitVec.ofInt IntKind.u64.bits (b : Int)).toNat = b := ofInt_nat 64 b hb
 rw [BitVec.toNat_and, h1, h2]
 have : a &&& b < 2 ^ 64 := Nat.and_lt_two_pow _ hb
 exact wrapu64 (by omega) (by omega)
end

/- The lowest bit of a word; the bits of a word, ascending. -/
section
open Go
theorem low_form : ∀ (x : Nat), x ≠ 0 → ∃ i q, x = 2 ^ i * (2 * q + 1) := by
 intro x
 induction x using Nat.strongRecOn with
 | ind x ih =>
  intro hx
  by_cases h : x % 2 = 1
  ·exact ⟨0, x / 2, by simp; omega⟩
  ·obtain ⟨i, q, e⟩ := ih (x / 2) (by omega) (by omega)
   refine ⟨i + 1, q, ?_⟩
   have e2 : x = 2 * (x / 2) := by omega
   rw [Nat.pow_succ, Nat.mul_comm (2 ^ i) 2, Nat.mul_assoc, ← e]
   exact e2
def LowAt (x i : Nat) : Prop := ∃ q, x = 2 ^ i * (2 * q + 1)
theorem LowAt.bit {x i : Nat} (h : LowAt x i) : x.testBit i = true := by
 obtain ⟨q, rfl⟩ := h
 rw [Nat.testBit_two_pow_mul]
 simp
theorem LowAt.low {x i : Nat} (h : LowAt x i) {j : Nat} (hj : j < i) : x.testBit j = false := by
 obtain ⟨q, rfl⟩ := h
 rw [Nat.testBit_two_pow_mul]
 simp
 omega
theorem LowAt.ne {x i : Nat} (h : LowAt x i) : x ≠ 0 := by
 obtain ⟨q, rfl⟩ := h
 have := Nat.two_pow_pos i
 have := Nat.mul_pos this (show 0 < 2 * q + 1 by omega)
 omega
theorem LowAt.pred {x i : Nat} (h : LowAt x i) (j : Nat) : (x - 1).testBit j = if j < i then true else if j = i then false else x.testBit j := by
 obtain ⟨q, rfl⟩ := h
 have hp := Nat.two_pow_pos i
 have e : 2 ^ i * (2 * q + 1) - 1 = 2 ^ i * (2 * q) + (2 ^ i - 1) := by
  rw [Nat.mul_add, Nat.mul_one]
  omega
 rw [e, Nat.testBit_two_pow_mul_add _ (by omega)]
 by_cases h1 : j < i
 ·rw [if_pos h1, if_pos h1, Nat.testBit_two_pow_sub_one]
  simpa using h1
 ·rw [if_neg h1, if_neg h1]
  by_cases h2 : j = i
  ·subst h2
   simp
  ·rw [if_neg h2, Nat.testBit_two_pow_mul]
   obtain ⟨k, hk⟩ : ∃ k, j - i = k + 1 := ⟨j - i - 1, by omega⟩
   rw [hk, Nat.testBit_succ, Nat.testBit_succ]
   have e1 : 2 * q / 2 = q := by omega
   have e2 : (2 * q + 1) / 2 = q := by omega
   rw [e1, e2]
   have : (decide (j ≥ i)) = true := by simp; omega
   rw [this, Bool.true_and]
theorem LowAt.lt {x i n : Nat} (h : LowAt x i) (hx : x < 2 ^ n) : i < n := by
 rcases Nat.lt_or_ge i n with h1 | h1
 ·exact h1
 ·have h2 := Nat.testBit_lt_two_pow (Nat.lt_of_lt_of_le hx (Nat.pow_le_pow_right (by omega) h1))
  rw [h.bit] at h2
  cases h2
theorem and_pred_bit {x i : Nat} (h : LowAt x i) (j : Nat) : (x &&& (x - 1)).testBit j = (x.testBit j && decide (j ≠ i)) := by
 rw [Nat.testBit_and, h.pred j]
 by_cases h1 : j < i
 ·rw [h.low h1]; simp
 ·rw [if_neg h1]
  by_cases h2 : j = i
  ·subst h2; simp
  ·rw [if_neg h2]; simp [h2]
theorem and_pred_lt {x : Nat} (h : x ≠ 0) : x &&& (x - 1) < x := by
 have := Nat.and_le_right (n := x) (m := x - 1)
 omega
theorem low_word {x i : Nat} (h : LowAt x i) (hx : x < 2 ^ 64) : x &&& (2 ^ 64 - x) = 2 ^ i := by
 apply Nat.eq_of_testBit_eq
 intro j
 have h0 := h.ne
 have hi := h.lt hx
 have e : 2 ^ 64 - x = 2 ^ 64 - ((x - 1) + 1) := by omega
 rw [Nat.testBit_and, e, Nat.testBit_two_pow_sub_succ (by omega), h.pred j, Nat.testBit_two_pow]
 by_cases h1 : j < i
 ·rw [h.low h1]
  simp
  omega
 ·by_cases h2 : j = i
  ·subst h2
   rw [h.bit]
   simp [hi]
  ·rw [if_neg h1, if_neg h2]
   have : decide (i = j) = false := by simp; omega
   rw [this]
   cases x.testBit j <;> simp
theorem tz_table : ∀ i : Nat, i < 64 → tzTab.getD (2 ^ i * 285870213051353865 % 18446744073709551616 / 288230376151711744) 0 = (i : Int) := by decide +kernel
theorem tz_low {x i : Nat} (h : LowAt x i) (hx : x < 2 ^ 64) : tzv (x : Int) = (i : Int) := by
 have h0 := h.ne
 have hi := h.lt hx
 have e0 : ¬ (x : Int) = 0 := by omega
 unfold tzv
 rw [if_neg e0]
 have e1 : IntKind.u64.wrap (-(x : Int)) = ((2 ^ 64 - x : Nat) : Int) := by
  unfold IntKind.wrap
  simp [IntKind.signed, IntKind.bits]
  omega
 have e2 : bits BinOp.and IntKind.u64 (x : Int) ((2 ^ 64 - x : Nat) : Int) = ((2 ^ i : Nat) : Int) := by
  have := and_u64 (a := x) (b := 2 ^ 64 - x) hx (by omega)
  rw [iand_eq, low_word h hx] at this
  exact this
 have hp : 2 ^ i < 2 ^ 64 := Nat.pow_lt_pow_right (by omega) hi
 have e3 : (tzIdx (x : Int)).toNat = 2 ^ i * 285870213051353865 % 18446744073709551616 / 288230376151711744 := by
  unfold tzIdx
  rw [e1, e2]
  unfold IntKind.wrap
  simp only [IntKind.signed, IntKind.bits, Bool.false_and]
  rw [show (285870213051353865 : Int) = ((285870213051353865 : Nat) : Int) from rfl, ← Int.natCast_mul]
  generalize 2 ^ i * 285870213051353865 = y
  simp
  omega
 rw [e3]
 exact tz_table i hi
def bitF (x n w : Nat) : List Int := if h : w < n then (if x.testBit w = true then [(w : Int)] else []) ++ bitF x n (w + 1) else []
 termination_by n - w
theorem bitF_end {x n w : Nat} (h : ¬ w < n) : bitF x n w = [] := by rw [bitF, dif_neg h]
theorem bitF_step {x n w : Nat} (h : w < n) : bitF x n w = (if x.testBit w = true then [(w : Int)] else []) ++ bitF x n (w + 1) := by rw [bitF, dif_pos h]
theorem bitF_congr {x y n w : Nat} (h : ∀ j, w ≤ j → x.testBit j = y.testBit j) : bitF x n w = bitF y n w := by
  by_cases hw : w < n
  · rw [bitF_step hw, bitF_step hw, h w (Nat.le_refl _), bitF_congr fun j hj => h j (by omega)]
  · rw [bitF_end hw, bitF_end hw]
 termination_by n - w
theorem bitF_low {x i n : Nat} (h : LowAt x i) (w : Nat) (hw : w ≤ i) (hi : i < n) : bitF x n w = (i : Int) :: bitF (x &&& (x - 1)) n w := by
  have hwn : w < n := by omega
  rw [bitF_step hwn, bitF_step (x := x &&& (x - 1)) hwn, and_pred_bit h w]
  by_cases h1 : w = i
  · subst h1
    rw [h.bit, bitF_congr (x := x &&& (x - 1)) (y := x)]
    · simp
    · intro j hj
      rw [and_pred_bit h j]
      have : decide (j ≠ w) = true := by simp; omega
      rw [this, Bool.and_true]
  · rw [h.low (by omega), bitF_low h (w + 1) (by omega) hi]
    simp
 termination_by i - w
theorem bitF_zero (n w : Nat) : bitF 0 n w = [] := by
  by_cases h : w < n
  · rw [bitF_step h, bitF_zero n (w + 1)]
    simp
  · exact bitF_end h
 termination_by n - w
theorem bitF_mem (x n w : Nat) (y : Int) : y ∈ bitF x n w ↔ (w : Int) ≤ y ∧ y < n ∧ x.testBit y.toNat = true := by
  by_cases h : w < n
  · rw [bitF_step h, List.mem_append, bitF_mem x n (w + 1) y]
    by_cases hb : x.testBit w = true
    · rw [if_pos hb]
      simp
      constructor
      · rintro (rfl | ⟨h1, h2, h3⟩)
        · exact ⟨by omega, by omega, by simpa using hb⟩
        · exact ⟨by omega, h2, h3⟩
      · rintro ⟨h1, h2, h3⟩
        by_cases e : y = w
        · exact .inl e
        · exact .inr ⟨by omega, h2, h3⟩
    · rw [if_neg hb]
      simp
      intro h2 h3
      constructor
      · intro h1; omega
      · intro h1
        have : y ≠ w := by
          rintro rfl
          exact hb (by simpa using h3)
        omega
  · rw [bitF_end h]
    simp
    intro h1 h2
    omega
 termination_by n - w
theorem bitF_len (x n w : Nat) (hw : w ≤ n) : (bitF x n w).length ≤ n - w := by
  by_cases h : w < n
  · have := bitF_len x n (w + 1) h
    rw [bitF_step h, List.length_append]
    split <;> simp <;> omega
  · rw [bitF_end h]; simp
 termination_by n - w
def bitL (x : Nat) : List Int := bitF x 62 0
theorem bitL_zero : bitL 0 = [] := bitF_zero 62 0
theorem bitL_low {x i : Nat} (h : LowAt x i) (hx : x < 2 ^ 62) : bitL x = (i : Int) :: bitL (x &&& (x - 1)) := bitF_low h 0 (Nat.zero_le _) (h.lt hx)
theorem bitL_len (x : Nat) : (bitL x).length ≤ 62 := bitF_len x 62 0 (by omega)
theorem bitL_mem (x : Nat) (y : Int) : y ∈ bitL x ↔ 0 ≤ y ∧ y < 62 ∧ x.testBit y.toNat = true := bitF_mem x 62 0 y
end

/- The program's list of a set's numbers. -/
section
open Go
variable {nro : Nat}
theorem c_tz {x i : Nat} (hl : LowAt x i) (hx : x < 2 ^ 62) (h : VH) : vcall F nro k_math_bits_TrailingZeros64 [.int .u64 x] h = some (.int .i64 i, h) := by
 rw [vcall, vstep]
 have hF : F k_math_bits_TrailingZeros64 = some (.ext tzX) := by kernel_rfl
 simp only [hF]
 unfold tzX
 simp only
 rw [tz_low hl (by omega)]
theorem ints_snoc' (ys : List Int) (w : Int) : ints ys ++ [Value.int .i64 w] = ints (ys ++ [w]) := by simp [ints]
theorem l_zz73 (h : VH) (hn : nro ≤ h.length) (y0 : List Int) (x : Nat) (hx : x < 2 ^ 62) (ys : List Int) (hy : ys.length + (bitL x).length ≤ 1000) :
    floop (vcall F nro) nro [0, 3] i_zz73_B1 (h ++ [⟨1, ints y0⟩]) [.int .i64 x, .slice (some ⟨h.length, 0, none⟩) ys.length ys.length] (h ++ [⟨1, ints ys⟩]) =
      some (.exit 0, fl [(3, .slice (some ⟨h.length, 0, none⟩) (ys ++ bitL x).length (ys ++ bitL x).length)], h ++ [⟨1, ints (ys ++ bitL x)⟩]) := by
  have hn' := fun k => Nat.le_trans hn (Nat.le_add_right h.length k)
  rw [floop_at i_zz73_B1.eq_1]
  by_cases h0 : x = 0
  · subst h0
    rw [bitL_zero]
    simp (disch := first | assumption | omega | (simp [*] <;> omega) | fail) [hn, hn']
  · obtain ⟨i, q, hq⟩ := low_form x h0
    have hl : LowAt x i := ⟨q, hq⟩
    have hi := hl.lt hx
    clear hq
    have hc := fun L => c_tz (nro := nro) hl hx (h ++ L)
    have hlt := and_pred_lt h0
    have e := bitL_low hl hx
    rw [e] at hy ⊢
    simp at hy
    have ih := l_zz73 h hn y0 (x &&& (x - 1)) (by omega) (ys ++ [(i : Int)]) (by simp; omega)
    have h0' : ¬ (x : Int) = 0 := by omega
    have w1 : IntKind.u64.wrap (x : Int) = x := wrapu64 (by omega) (by omega)
    have w2 : IntKind.i64.wrap ((x : Int) - 1) = ((x - 1 : Nat) : Int) := by rw [wrap64 (by omega) (by omega)]; omega
    have w3 := iand_nat (a := x) (b := x - 1) (by omega) (by omega)
    have b1 : (ys.length + 1) * 8 ≤ 1099511627776 := by omega
    have b2 : ys.length < 1099511627776 := by omega
    obtain ⟨p, hp⟩ : ∃ p, p = x - 1 := ⟨_, rfl⟩
    obtain ⟨z, hz⟩ : ∃ z, z = x &&& p := ⟨_, rfl⟩
    rw [← hp] at w2 w3 ih ⊢
    rw [← hz] at w3 ih ⊢
    simp at ih
    clear hl hlt e hp hz
    simp (disch := first | assumption | omega | (simp [*] <;> omega) | fail) [hc, h0, h0', w1, w2, w3, hn, hn', ih, b1, b2, ints_snoc']
 termination_by x
 decreasing_by exact and_pred_lt h0
theorem c_zz73 (x : Nat) (hx : x < 2 ^ 62) (h : VH) (hn : nro ≤ h.length) :
  vcall F nro k_zz73 [.int .i64 x] h = some (.slice (some ⟨h.length, 0, none⟩) (bitL x).length (bitL x).length, h ++ [⟨1, ints (bitL x)⟩]) := by
 refine v_zz73 (by simp [i_zz73]) ?_
 rw [fbody_eq]
 have hb := bitL_len x
 have hl := l_zz73 (nro := nro) h hn [] x hx [] (by simp; omega)
 simp at hl
 simp (disch := first | assumption | omega | (simp [*] <;> omega) | fail) [i_zz73, hl, hn]
end

/- Distances: the levels of a search, told once; the program's and the reference's search find them. -/
section
open Go
variable {nro : Nat}
def nand (x m : Nat) : Nat := x ^^^ (x &&& m)
structure Rok (n : Nat) (rows : List Int) : Prop where
 len : rows.length = n
 le : n ≤ 62
 row : ∀ v, v < n → 0 ≤ rows.getD v 0 ∧ (rows.getD v 0).toNat < 2 ^ n
def orL (rows : List Int) : List Int → Nat
 | [] => 0
 | y :: l => (rows.getD y.toNat 0).toNat ||| orL rows l
def nxt (rows : List Int) (f : Nat) : Nat := orL rows (bitL f)
theorem le62 {n x : Nat} (hn : n ≤ 62) (hx : x < 2 ^ n) : x < 2 ^ 62 := Nat.lt_of_lt_of_le hx (Nat.pow_le_pow_right (by omega) hn)
end

/- Rows of bits that are filled in: edges put in. -/
section
open Go
variable {nro : Nat}
noncomputable def set1 (r : List Int) (a b : Int) : List Int := r.set a.toNat (ior .i64 (r.getD a.toNat 0) (ishl .i64 1 b))
noncomputable def put2 (r : List Int) (a b : Int) : List Int := set1 (set1 r a b) b a
@[simp] theorem set1_length (r : List Int) (a b : Int) : (set1 r a b).length = r.length := by simp [set1]
@[simp] theorem put2_length (r : List Int) (a b : Int) : (put2 r a b).length = r.length := by simp [put2]
def IsAdj (N : Nat) (r : List Int) (adj : Nat → Nat → Prop) : Prop :=
 r.length = N ∧ ∀ v, v < N → 0 ≤ r.getD v 0 ∧ r.getD v 0 < 4611686018427387904 ∧ ∀ w, rbit r v w = true ↔ adj v w
theorem setbit {x b : Int} (hx : 0 ≤ x) (hx2 : x < 4611686018427387904) (hb : 0 ≤ b) (hb2 : b < 62) :
  0 ≤ ior .i64 x (ishl .i64 1 b) ∧ ior .i64 x (ishl .i64 1 b) < 4611686018427387904 ∧ ∀ w : Nat, (ior .i64 x (ishl .i64 1 b)).toNat.testBit w = true ↔ x.toNat.testBit w = true ∨ w = b.toNat := by
 have hp : 2 ^ b.toNat < 2 ^ 62 := Nat.pow_lt_pow_right (by omega) (by omega)
 have e : ior .i64 x (ishl .i64 1 b) = ((x.toNat ||| 2 ^ b.toNat : Nat) : Int) := by
  rw [ishl_one (by omega)]
  have e1 : x = (x.toNat : Int) := (Int.toNat_of_nonneg hx).symm
  rw [e1, ior_nat (by omega) (by omega), Int.toNat_natCast]
 have hlt : x.toNat ||| 2 ^ b.toNat < 2 ^ 62 := Nat.or_lt_two_pow (by omega) hp
 rw [e]
 refine ⟨by omega, by omega, fun w => ?_⟩
 rw [Int.toNat_natCast, Nat.testBit_or, Nat.testBit_two_pow, Bool.or_eq_true, decide_eq_true_eq]
 constructor
 ·rintro (h | h)
  ·exact .inl h
  ·exact .inr h.symm
 ·rintro (h | h)
  ·exact .inl h
  ·exact .inr h.symm
theorem IsAdj.set1 {N : Nat} {r : List Int} {adj : Nat → Nat → Prop} (h : IsAdj N r adj) {a b : Int} (ha : 0 ≤ a) (ha2 : a < N) (hb : 0 ≤ b) (hb2 : b < 62) :
  IsAdj N (set1 r a b) (fun v w => adj v w ∨ (v = a.toNat ∧ w = b.toNat)) := by
 obtain ⟨hl, hr⟩ := h
 refine ⟨by simp [hl], fun v hv => ?_⟩
 obtain ⟨h1, h2, h3⟩ := hr v hv
 by_cases e : v = a.toNat
 ·subst e
  have hg : (Zv.set1 r a b).getD a.toNat 0 = ior .i64 (r.getD a.toNat 0) (ishl .i64 1 b) := by
   rw [getD_at _ (by simp; omega)]
   simp [Zv.set1]
  obtain ⟨k1, k2, k3⟩ := setbit h1 h2 hb hb2
  unfold rbit
  rw [hg]
  refine ⟨k1, k2, fun w => ?_⟩
  rw [k3]
  have := h3 w
  unfold rbit at this
  rw [this]
  simp
 ·have hg : (Zv.set1 r a b).getD v 0 = r.getD v 0 := by
   unfold Zv.set1
   simp only [List.getD_eq_getElem?_getD, List.getElem?_set]
   rw [if_neg (fun h => e h.symm)]
  unfold rbit
  rw [hg]
  refine ⟨h1, h2, fun w => ?_⟩
  have := h3 w
  unfold rbit at this
  rw [this]
  simp [e]
theorem IsAdj.put2 {N : Nat} {r : List Int} {adj : Nat → Nat → Prop} (h : IsAdj N r adj) {a b : Int} (ha : 0 ≤ a) (ha2 : a < N) (hb : 0 ≤ b) (hb2 : b < N) (hN : N ≤ 62) :
  IsAdj N (put2 r a b) (fun v w => adj v w ∨ (v = a.toNat ∧ w = b.toNat) ∨ (v = b.toNat ∧ w = a.toNat)) := by
 have h1 := (h.set1 ha ha2 hb (by omega)).set1 hb hb2 ha (by omega)
 refine ⟨h1.1, fun v hv => ?_⟩
 obtain ⟨k1, k2, k3⟩ := h1.2 v hv
 refine ⟨k1, k2, fun w => ?_⟩
 exact (k3 w).trans or_assoc
theorem IsAdj.congr {N : Nat} {r : List Int} {adj adj' : Nat → Nat → Prop} (h : IsAdj N r adj) (e : ∀ v w, v < N → (adj v w ↔ adj' v w)) : IsAdj N r adj' :=
 ⟨h.1, fun v hv => ⟨(h.2 v hv).1, (h.2 v hv).2.1, fun w => ((h.2 v hv).2.2 w).trans (e v w hv)⟩⟩
theorem IsAdj.unique {N : Nat} {r r' : List Int} {adj : Nat → Nat → Prop} (h : IsAdj N r adj) (h' : IsAdj N r' adj) : r = r' := by
 apply List.ext_getElem (h.1.trans h'.1.symm)
 intro v h1 h2
 have hv : v < N := by rw [← h.1]; exact h1
 obtain ⟨a1, a2, a3⟩ := h.2 v hv
 obtain ⟨b1, b2, b3⟩ := h'.2 v hv
 have : (r.getD v 0).toNat = (r'.getD v 0).toNat := by
  apply Nat.eq_of_testBit_eq
  intro w
  have := (a3 w).trans (b3 w).symm
  unfold rbit at this
  cases h1 : (r.getD v 0).toNat.testBit w <;> cases h2 : (r'.getD v 0).toNat.testBit w <;> simp_all
 rw [getD_at r h1, getD_at r' h2] at this
 rw [getD_at r h1] at a1
 rw [getD_at r' h2] at b1
 omega
theorem IsAdj.zero (N : Nat) : IsAdj N (List.replicate N 0) (fun _ _ => False) := by
 refine ⟨by simp, fun v hv => ?_⟩
 have e : (List.replicate N (0 : Int)).getD v 0 = 0 := by simp [List.getD_eq_getElem?_getD, List.getElem?_replicate, hv]
 unfold rbit
 rw [e]
 simp
@[simp] theorem old_tup0 (n : Nat) : Old n (.tuple #[]) := old_undef n
theorem c_zz54 (n a b : Int) (s : Value) (rows : List Int) (h : VH) (hs : Sli h s rows) (h1 : 0 ≤ a) (h2 : a < rows.length) (h3 : 0 ≤ b) (h4 : b ≤ 64) (h5 : 0 ≤ rows.getD a.toNat 0) (h6 : rows.getD a.toNat 0 ≤ 9223372036854775807) :
  vcall F nro k_zz54 [gv n s, .int .i64 a, .int .i64 b] h = some (.bool (rbit rows a.toNat b.toNat), h) := by
 refine v_zz54 (by simp [i_zz54]) ?_
 have e := bit_int h5 h6 h4
 unfold rbit
 rw [fbody_eq]
 rw [getD_at rows (by omega)] at e ⊢
 simp (disch := first | assumption | omega | (simp [*] <;> omega) | fail) [i_zz54, hs.vidx', hs.vload', e]
noncomputable def adjRows (N : Nat) (adj : Nat → Nat → Prop) : List Int := Classical.epsilon fun r => IsAdj N r adj
theorem IsAdj.eq {N : Nat} {r : List Int} {adj : Nat → Nat → Prop} (h : IsAdj N r adj) : adjRows N adj = r :=
 IsAdj.unique (Classical.epsilon_spec (p := fun r => IsAdj N r adj) ⟨r, h⟩) h
abbrev GAns := (Int × List Int) ⊕ Int
def gres (h : VH) : GAns → Value × VH
 | .inl (m, r) => (.tuple #[gv m (.slice (some ⟨h.length, 0, none⟩) r.length r.length), .int .i64 0], h ++ [⟨1, ints r⟩])
 | .inr c => (.tuple #[gv 0 (.slice none 0 0), .int .i64 c], h)
@[simp] theorem gres_inl (h : VH) (m : Int) (r : List Int) : gres h (.inl (m, r)) = (.tuple #[gv m (.slice (some ⟨h.length, 0, none⟩) r.length r.length), .int .i64 0], h ++ [⟨1, ints r⟩]) := rfl
@[simp] theorem gres_inr (h : VH) (c : Int) : gres h (.inr c) = (.tuple #[gv 0 (.slice none 0 0), .int .i64 c], h) := rfl
end

/- How many bits are set: the library's way with masks tells it. -/
section
open Go
def pc (x : Nat) : Nat := if h : x = 0 then 0 else x % 2 + pc (x / 2)
 termination_by x
 decreasing_by omega
theorem pc_zero : pc 0 = 0 := by rw [pc]; simp
theorem pc_step (x : Nat) : pc x = x % 2 + pc (x / 2) := by
 by_cases h : x = 0
 ·subst h; simp [pc_zero]
 ·conv => lhs; rw [pc]
  simp [h]
def dig (b : Nat) : List Nat → Nat
 | [] => 0
 | d :: r => d + b * dig b r
def bitsL (x : Nat) : Nat → List Nat
 | 0 => []
 | m + 1 => x % 2 :: bitsL (x / 2) m
theorem bitsL_length (x m : Nat) : (bitsL x m).length = m := by
 induction m generalizing x with
 | zero => rfl
 | succ m ih => simp [bitsL, ih]
theorem bitsL_dig (x m : Nat) (h : x < 2 ^ m) : dig 2 (bitsL x m) = x := by
 induction m generalizing x with
 | zero => simp at h; simp [bitsL, dig, h]
 | succ m ih =>
  simp only [bitsL, dig]
  rw [ih (x / 2) (by rw [Nat.pow_succ] at h; omega)]
  omega
theorem bitsL_sum (x m : Nat) (h : x < 2 ^ m) : (bitsL x m).sum = pc x := by
 induction m generalizing x with
 | zero => simp at h; simp [bitsL, h, pc_zero]
 | succ m ih =>
  simp only [bitsL, List.sum_cons]
  rw [ih (x / 2) (by rw [Nat.pow_succ] at h; omega), ← pc_step]
theorem bitsL_le (x m : Nat) : ∀ d ∈ bitsL x m, d ≤ 1 := by
 induction m generalizing x with
 | zero => simp [bitsL]
 | succ m ih =>
  simp only [bitsL, List.mem_cons]
  rintro d (rfl | h)
  ·omega
  ·exact ih _ _ h
theorem and_split {a l r l' r' : Nat} (h : l < 2 ^ a) (h' : l' < 2 ^ a) : (l + 2 ^ a * r) &&& (l' + 2 ^ a * r') = (l &&& l') + 2 ^ a * (r &&& r') := by
 have hl : l &&& l' < 2 ^ a := Nat.and_lt_two_pow _ h'
 rw [Nat.add_comm l, Nat.add_comm l', Nat.add_comm (l &&& l')]
 apply Nat.eq_of_testBit_eq
 intro i
 rw [Nat.testBit_and, Nat.testBit_two_pow_mul_add _ h, Nat.testBit_two_pow_mul_add _ h', Nat.testBit_two_pow_mul_add _ hl]
 split <;> simp [Nat.testBit_and]
def msk (w : Nat) : Nat → Nat
 | 0 => 0
 | m + 1 => (2 ^ w - 1) + 2 ^ (2 * w) * msk w m
def pairs : List Nat → List Nat
 | a :: b :: r => (a + b) :: pairs r
 | _ => []
def evens : List Nat → List Nat
 | a :: _ :: r => a :: evens r
 | _ => []
def odds : List Nat → List Nat
 | _ :: b :: r => b :: odds r
 | _ => []
theorem two_w (w : Nat) : 2 ^ (2 * w) = 2 ^ w * 2 ^ w := by rw [Nat.two_mul, Nat.pow_add]
theorem mask_low {w d e : Nat} (h : d < 2 ^ w) : (d + 2 ^ w * e) &&& (2 ^ w - 1) = d := by
 rw [Nat.and_two_pow_sub_one_eq_mod, Nat.add_mul_mod_self_left, Nat.mod_eq_of_lt h]
theorem and_even (w : Nat) : ∀ (m : Nat) (ds : List Nat), ds.length = 2 * m → (∀ d ∈ ds, d < 2 ^ w) → dig (2 ^ w) ds &&& msk w m = dig (2 ^ (2 * w)) (evens ds)
 | 0, ds, hl, _ => by
  have : ds = [] := List.length_eq_zero_iff.mp (by omega)
  subst this; simp [dig, evens, msk]
 | m + 1, a :: b :: r, hl, hd => by
  have ha := hd a (by simp)
  have hb := hd b (by simp)
  have ih := and_even w m r (by simp at hl; omega) fun d h => hd d (by simp [h])
  have hp : 0 < 2 ^ w := Nat.two_pow_pos w
  have e : dig (2 ^ w) (a :: b :: r) = (a + 2 ^ w * b) + 2 ^ (2 * w) * dig (2 ^ w) r := by
   simp only [dig]
   rw [two_w, Nat.mul_add, Nat.mul_assoc, Nat.add_assoc]
  have hlt : a + 2 ^ w * b < 2 ^ (2 * w) := by
   rw [two_w]
   have : 2 ^ w * b + 2 ^ w ≤ 2 ^ w * 2 ^ w := by
    rw [← Nat.mul_succ]; exact Nat.mul_le_mul_left _ hb
   omega
  have hm : 2 ^ w - 1 < 2 ^ (2 * w) := by
   have : 2 ^ w ≤ 2 ^ (2 * w) := Nat.pow_le_pow_right (by omega) (by omega)
   omega
  rw [e, msk, and_split hlt hm, ih, mask_low ha]
  simp [evens, dig]
 | m + 1, [], hl, _ => by simp at hl
 | m + 1, [a], hl, _ => by simp at hl; omega
theorem dig_div (b : Nat) (hb : 0 < b) (d : Nat) (r : List Nat) (hd : d < b) : dig b (d :: r) / b = dig b r := by
 simp only [dig]
 rw [Nat.add_mul_div_left _ _ hb, Nat.div_eq_of_lt hd, Nat.zero_add]
theorem dig_append0 (b : Nat) (r : List Nat) : dig b (r ++ [0]) = dig b r := by
 induction r with
 | nil => simp [dig]
 | cons a r ih => simp [dig, ih]
theorem evens_tail : ∀ (ds : List Nat), ds.length % 2 = 0 → evens (ds.tail ++ [0]) = odds ds
 | [], _ => by simp [evens, odds]
 | [a], h => by simp at h
 | [a, b], _ => by simp [evens, odds]
 | a :: b :: c :: r, h => by
  have := evens_tail (c :: r) (by simp at h ⊢; omega)
  simp only [List.tail_cons, List.cons_append, evens, odds] at this ⊢
  rw [this]
theorem and_odd (w : Nat) (m : Nat) (ds : List Nat) (hl : ds.length = 2 * m) (hd : ∀ d ∈ ds, d < 2 ^ w) : (dig (2 ^ w) ds / 2 ^ w) &&& msk w m = dig (2 ^ (2 * w)) (odds ds) := by
 have hp : 0 < 2 ^ w := Nat.two_pow_pos w
 cases ds with
 | nil =>
  have : m = 0 := by simp at hl; omega
  subst this; simp [dig, odds, msk]
 | cons a r =>
  rw [dig_div _ hp _ _ (hd a (by simp)), ← dig_append0, and_even w m (r ++ [0]) (by simp at hl ⊢; omega) (by
   intro d h
   simp only [List.mem_append, List.mem_singleton] at h
   rcases h with h | rfl
   ·exact hd d (by simp [h])
   ·exact hp)]
  have := evens_tail (a :: r) (by omega)
  simp only [List.tail_cons] at this
  rw [this]
theorem eo_pairs (b : Nat) : ∀ (ds : List Nat), dig b (odds ds) + dig b (evens ds) = dig b (pairs ds)
 | [] => by simp [odds, evens, pairs, dig]
 | [a] => by simp [odds, evens, pairs, dig]
 | a :: c :: r => by
  have := eo_pairs b r
  simp only [odds, evens, pairs, dig]
  rw [← this, Nat.mul_add]
  omega
theorem pairs_sum : ∀ (ds : List Nat), ds.length % 2 = 0 → (pairs ds).sum = ds.sum
 | [], _ => rfl
 | [a], h => by simp at h
 | a :: b :: r, h => by
  have := pairs_sum r (by simp at h; omega)
  simp only [pairs, List.sum_cons, this]
  omega
theorem pairs_length : ∀ (ds : List Nat), (pairs ds).length = ds.length / 2
 | [] => rfl
 | [a] => by simp [pairs]
 | a :: b :: r => by
  have := pairs_length r
  simp only [pairs, List.length_cons, this]
  omega
theorem pairs_le (k : Nat) : ∀ (ds : List Nat), (∀ d ∈ ds, d ≤ k) → ∀ d ∈ pairs ds, d ≤ 2 * k
 | [], _ => by simp [pairs]
 | [a], _ => by simp [pairs]
 | a :: b :: r, h => by
  have h1 := h a (by simp)
  have h2 := h b (by simp)
  have ih := pairs_le k r fun d hd => h d (by simp [hd])
  simp only [pairs, List.mem_cons]
  rintro d (rfl | hd)
  ·omega
  ·exact ih d hd
theorem mask_step (w m : Nat) (ds : List Nat) (hl : ds.length = 2 * m) (hd : ∀ d ∈ ds, d < 2 ^ w) : ((dig (2 ^ w) ds / 2 ^ w) &&& msk w m) + (dig (2 ^ w) ds &&& msk w m) = dig (2 ^ (2 * w)) (pairs ds) := by
 rw [and_odd w m ds hl hd, and_even w m ds hl hd, eo_pairs]
def neigh : List Nat → List Nat
 | a :: b :: r => (a + b) :: neigh (b :: r)
 | l => l
theorem neigh_length : ∀ (ds : List Nat), (neigh ds).length = ds.length
 | [] => rfl
 | [a] => rfl
 | a :: b :: r => by simp [neigh, neigh_length (b :: r)]
theorem neigh_le (k : Nat) : ∀ (ds : List Nat), (∀ d ∈ ds, d ≤ k) → ∀ d ∈ neigh ds, d ≤ 2 * k
 | [], _ => by simp [neigh]
 | [a], h => by simp only [neigh, List.mem_singleton]; rintro d rfl; have := h d (by simp); omega
 | a :: b :: r, h => by
  have h1 := h a (by simp)
  have h2 := h b (by simp)
  have ih := neigh_le k (b :: r) fun d hd => h d (List.mem_cons_of_mem _ hd)
  simp only [neigh, List.mem_cons]
  rintro d (rfl | hd)
  ·omega
  ·exact ih d hd
theorem neigh_dig (b : Nat) (hb : 0 < b) : ∀ (ds : List Nat), (∀ d ∈ ds, d < b) → dig b ds / b + dig b ds = dig b (neigh ds)
 | [], _ => by simp [dig, neigh]
 | [a], h => by
  rw [dig_div b hb a [] (h a (by simp))]
  simp [dig, neigh]
 | a :: c :: r, h => by
  have ih := neigh_dig b hb (c :: r) fun d hd => h d (List.mem_cons_of_mem _ hd)
  rw [dig_div b hb c r (h c (by simp))] at ih
  rw [dig_div b hb a (c :: r) (h a (by simp))]
  have e1 : dig b (a :: c :: r) = a + b * dig b (c :: r) := rfl
  have e2 : dig b (neigh (a :: c :: r)) = (a + c) + b * dig b (neigh (c :: r)) := rfl
  rw [e1, e2, ← ih, Nat.mul_add]
  have e3 : dig b (c :: r) = c + b * dig b r := rfl
  omega
theorem neigh_evens : ∀ (ds : List Nat), ds.length % 2 = 0 → evens (neigh ds) = pairs ds
 | [], _ => rfl
 | [a], h => by simp at h
 | [a, b], _ => rfl
 | a :: b :: c :: r, h => by
  have := neigh_evens (c :: r) (by simp at h ⊢; omega)
  have e : neigh (a :: b :: c :: r) = (a + b) :: (b + c) :: neigh (c :: r) := rfl
  rw [e]
  simp only [evens, pairs, this]
def addL : List Nat → List Nat → List Nat
 | a :: r, b :: s => (a + b) :: addL r s
 | [], s => s
 | r, [] => r
theorem addL_dig (b : Nat) : ∀ (r s : List Nat), dig b (addL r s) = dig b r + dig b s
 | [], s => by simp [addL, dig]
 | a :: r, [] => by simp [addL, dig]
 | a :: r, c :: s => by
  simp only [addL, dig]
  rw [addL_dig b r s, Nat.mul_add]
  omega
theorem dig_drop (b : Nat) (hb : 0 < b) : ∀ (k : Nat) (ds : List Nat), (∀ d ∈ ds, d < b) → dig b ds / b ^ k = dig b (ds.drop k)
 | 0, ds, _ => by simp
 | k + 1, [], _ => by simp [dig]
 | k + 1, d :: r, h => by
  rw [Nat.pow_succ, Nat.mul_comm, ← Nat.div_div_eq_div_mul, dig_div b hb d r (h d (by simp)), dig_drop b hb k r fun d hd => h d (List.mem_cons_of_mem _ hd)]
  rfl
theorem dig_lt (b : Nat) : ∀ (ds : List Nat), (∀ d ∈ ds, d + 1 ≤ b) → dig b ds + 1 ≤ b ^ ds.length
 | [], _ => by simp [dig]
 | d :: r, h => by
  have h1 := dig_lt b r fun d hd => h d (List.mem_cons_of_mem _ hd)
  have h2 := h d (by simp)
  simp only [dig, List.length_cons]
  have h3 : b * (dig b r + 1) ≤ b * b ^ r.length := Nat.mul_le_mul_left _ h1
  rw [Nat.mul_add] at h3
  rw [Nat.pow_succ, Nat.mul_comm (b ^ r.length)]
  omega
theorem dig_snoc (b : Nat) (t : Nat) : ∀ (r : List Nat), dig b (r ++ [t]) = dig b r + b ^ r.length * t
 | [] => by simp [dig]
 | a :: r => by
  simp only [List.cons_append, dig, List.length_cons]
  rw [dig_snoc b t r, Nat.mul_add, Nat.pow_succ, Nat.mul_comm (b ^ r.length) b, Nat.mul_assoc]
  omega
theorem last_step (ds : List Nat) (hl : ds.length = 8) (hd : ∀ d ∈ ds, d ≤ 8) (x y z u : Nat) (hx : x = dig 256 ds) (hy : y = x + x / 2 ^ 8) (hz : z = y + y / 2 ^ 16) (hu : u = z + z / 2 ^ 32) : u % 128 = ds.sum ∧ u < 2 ^ 63 ∧ z < 2 ^ 64 ∧ y < 2 ^ 64 := by
 match ds, hl with
 | [a, b, c, d, e, f, g, h], _ =>
  have h1 := hd a (by simp)
  have h2 := hd b (by simp)
  have h3 := hd c (by simp)
  have h4 := hd d (by simp)
  have h5 := hd e (by simp)
  have h6 := hd f (by simp)
  have h7 := hd g (by simp)
  have h8 := hd h (by simp)
  clear hd
  have y0 : y = dig 256 [a + b, b + c, c + d, d + e, e + f, f + g, g + h, h] := by
   rw [hy, hx, show (2 : Nat) ^ 8 = 256 ^ 1 from rfl, dig_drop 256 (by omega) 1 _ (by simp; omega), ← addL_dig]
   rfl
  have z0 : z = dig 256 [a + b + (c + d), b + c + (d + e), c + d + (e + f), d + e + (f + g), e + f + (g + h), f + g + h, g + h, h] := by
   rw [hz, y0, show (2 : Nat) ^ 16 = 256 ^ 2 from rfl, dig_drop 256 (by omega) 2 _ (by simp; omega), ← addL_dig]
   rfl
  have u0 : u = dig 256 [a + b + (c + d) + (e + f + (g + h)), b + c + (d + e) + (f + g + h), c + d + (e + f) + (g + h), d + e + (f + g) + h, e + f + (g + h), f + g + h, g + h, h] := by
   rw [hu, z0, show (2 : Nat) ^ 32 = 256 ^ 4 from rfl, dig_drop 256 (by omega) 4 _ (by simp; omega), ← addL_dig]
   rfl
  refine ⟨?_, ?_, ?_, ?_⟩
  ·rw [u0, dig]
   generalize dig 256 _ = R
   simp only [List.sum_cons, List.sum_nil]
   clear hx hy hz hu y0 z0 u0
   omega
  ·have es := dig_snoc 256 h [a + b + (c + d) + (e + f + (g + h)), b + c + (d + e) + (f + g + h), c + d + (e + f) + (g + h), d + e + (f + g) + h, e + f + (g + h), f + g + h, g + h]
   have l := dig_lt 256 [a + b + (c + d) + (e + f + (g + h)), b + c + (d + e) + (f + g + h), c + d + (e + f) + (g + h), d + e + (f + g) + h, e + f + (g + h), f + g + h, g + h] (by simp; omega)
   simp only [List.cons_append, List.nil_append] at es
   rw [u0, es]
   generalize dig 256 _ = R at l ⊢
   simp only [List.length_cons, List.length_nil] at l ⊢
   clear hx hy hz hu y0 z0 u0 es
   omega
  ·rw [z0]
   exact Nat.lt_of_lt_of_le (Nat.lt_of_succ_le (dig_lt 256 _ (by simp; omega))) (by simp)
  ·rw [y0]
   exact Nat.lt_of_lt_of_le (Nat.lt_of_succ_le (dig_lt 256 _ (by simp; omega))) (by simp)
theorem msk1 : msk 1 32 = 6148914691236517205 := by decide +kernel
theorem msk2 : msk 2 16 = 3689348814741910323 := by decide +kernel
theorem msk4 : msk 4 8 = 1085102592571150095 := by decide +kernel
theorem pop_all (x : Nat) (hx : x < 2 ^ 64) (a b c d e f : Nat) (ha : a = ((x / 2 ^ 1) &&& 6148914691236517205) + (x &&& 6148914691236517205)) (hb : b = ((a / 2 ^ 2) &&& 3689348814741910323) + (a &&& 3689348814741910323)) (hc : c = (b / 2 ^ 4 + b) &&& 1085102592571150095) (hd : d = c + c / 2 ^ 8) (he : e = d + d / 2 ^ 16) (hf : f = e + e / 2 ^ 32) :
  f % 128 = pc x ∧ a < 2 ^ 64 ∧ b < 2 ^ 64 ∧ b / 2 ^ 4 + b < 2 ^ 64 ∧ c < 2 ^ 64 ∧ d < 2 ^ 64 ∧ e < 2 ^ 64 ∧ f < 2 ^ 63 := by
 have q0 := bitsL_length x 64
 have q1 := bitsL_le x 64
 have e0 := bitsL_dig x 64 hx
 have s0 := bitsL_sum x 64 hx
 generalize bitsL x 64 = l0 at q0 q1 e0 s0
 have a1 : a = dig (2 ^ 2) (pairs l0) := by
  rw [ha, ← msk1, ← e0]
  exact mask_step 1 32 l0 q0 fun d h => by have := q1 d h; omega
 have q2 := pairs_length l0
 have q3 := pairs_le 1 l0 q1
 have s1 := pairs_sum l0 (by omega)
 generalize pairs l0 = l1 at a1 q2 q3 s1
 have b1 : b = dig (2 ^ 4) (pairs l1) := by
  rw [hb, ← msk2, a1]
  exact mask_step 2 16 l1 (by omega) fun d h => by have := q3 d h; omega
 have q4 := pairs_length l1
 have q5 := pairs_le 2 l1 q3
 have s2 := pairs_sum l1 (by omega)
 have a2 : a < 2 ^ 64 := by
  have := dig_lt (2 ^ 2) l1 fun d h => by have := q3 d h; omega
  rw [q2, q0] at this
  rw [a1]
  omega
 generalize pairs l1 = l2 at b1 q4 q5 s2
 have b2 : b < 2 ^ 64 := by
  have := dig_lt (2 ^ 4) l2 fun d h => by have := q5 d h; omega
  rw [q4, q2, q0] at this
  rw [b1]
  omega
 have n1 : b / 2 ^ 4 + b = dig (2 ^ 4) (neigh l2) := by
  rw [b1]
  exact neigh_dig (2 ^ 4) (by omega) l2 fun d h => by have := q5 d h; omega
 have n2 := neigh_length l2
 have n3 := neigh_le 4 l2 q5
 have n4 := neigh_evens l2 (by omega)
 have b3 : b / 2 ^ 4 + b < 2 ^ 64 := by
  have := dig_lt (2 ^ 4) (neigh l2) fun d h => by have := n3 d h; omega
  rw [n2, q4, q2, q0] at this
  rw [n1]
  omega
 have c1 : c = dig (2 ^ 8) (pairs l2) := by
  rw [hc, ← msk4, n1, and_even 4 8 (neigh l2) (by omega) (fun d h => by have := n3 d h; omega), n4]
 have q6 := pairs_length l2
 have q7 := pairs_le 4 l2 q5
 have s3 := pairs_sum l2 (by omega)
 generalize pairs l2 = l3 at c1 q6 q7 s3
 have c2 : c < 2 ^ 64 := by
  have := dig_lt (2 ^ 8) l3 fun d h => by have := q7 d h; omega
  rw [q6, q4, q2, q0] at this
  rw [c1]
  omega
 obtain ⟨r1, r2, r3, r4⟩ := last_step l3 (by omega) q7 c d e f c1 hd he hf
 exact ⟨by omega, a2, b2, b3, c2, r4, r3, r2⟩
end

/- Neighbours, vertices that are in range, covers. -/
section
open Go
variable {nro : Nat}
theorem and_127 {a : Nat} (ha : a < 2 ^ 63) : iand .i64 (a : Int) 127 = ((a % 128 : Nat) : Int) := by
 have := iand_nat (a := a) (b := 127) ha (by omega)
 rw [show (127 : Nat) = 2 ^ 7 - 1 from rfl, Nat.and_two_pow_sub_one_eq_mod] at this
 exact this
theorem c_zz41 (x : Nat) (h : VH) (hx : x < 2 ^ 63) : vcall F nro k_zz41 [.int .u64 x] h = some (.int .i64 (pc x), h) := by
 refine v_zz41 (by simp [i_zz41]) ?_
 rw [fbody_eq]
 obtain ⟨a, ha⟩ : ∃ a, a = ((x / 2 ^ 1) &&& 6148914691236517205) + (x &&& 6148914691236517205) := ⟨_, rfl⟩
 obtain ⟨b, hb⟩ : ∃ b, b = ((a / 2 ^ 2) &&& 3689348814741910323) + (a &&& 3689348814741910323) := ⟨_, rfl⟩
 obtain ⟨c, hc⟩ : ∃ c, c = (b / 2 ^ 4 + b) &&& 1085102592571150095 := ⟨_, rfl⟩
 obtain ⟨d, hd⟩ : ∃ d, d = c + c / 2 ^ 8 := ⟨_, rfl⟩
 obtain ⟨e, he⟩ : ∃ e, e = d + d / 2 ^ 16 := ⟨_, rfl⟩
 obtain ⟨f, hf⟩ : ∃ f, f = e + e / 2 ^ 32 := ⟨_, rfl⟩
 obtain ⟨r1, r2, r3, r4, r5, r6, r7, r8⟩ := pop_all x (by omega) a b c d e f ha hb hc hd he hf
 have q1 : ∀ y : Nat, ishr .u64 (y : Int) 1 = ((y / 2 ^ 1 : Nat) : Int) := fun y => shr_u64 (a := y) (b := 1) (by omega)
 have q2 : ∀ y : Nat, ishr .u64 (y : Int) 2 = ((y / 2 ^ 2 : Nat) : Int) := fun y => shr_u64 (a := y) (b := 2) (by omega)
 have q4 : ∀ y : Nat, ishr .u64 (y : Int) 4 = ((y / 2 ^ 4 : Nat) : Int) := fun y => shr_u64 (a := y) (b := 4) (by omega)
 have q8 : ∀ y : Nat, ishr .u64 (y : Int) 8 = ((y / 2 ^ 8 : Nat) : Int) := fun y => shr_u64 (a := y) (b := 8) (by omega)
 have q16 : ∀ y : Nat, ishr .u64 (y : Int) 16 = ((y / 2 ^ 16 : Nat) : Int) := fun y => shr_u64 (a := y) (b := 16) (by omega)
 have q32 : ∀ y : Nat, ishr .u64 (y : Int) 32 = ((y / 2 ^ 32 : Nat) : Int) := fun y => shr_u64 (a := y) (b := 32) (by omega)
 have w : ∀ y : Nat, y < 2 ^ 64 → IntKind.u64.wrap (y : Int) = (y : Int) := fun y hy => wrapu64 (by omega) (by omega)
 have s1 : IntKind.u64.wrap (iand .u64 (ishr .u64 (x : Int) 1) 6148914691236517205 + iand .u64 (x : Int) 6148914691236517205) = (a : Int) := by
  rw [q1, show (6148914691236517205 : Int) = ((6148914691236517205 : Nat) : Int) from rfl, and_u64 (by omega) (by omega), and_u64 (by omega) (by omega), ← Int.natCast_add, ← ha]
  exact w a r2
 have s2 : IntKind.u64.wrap (iand .u64 (ishr .u64 (a : Int) 2) 3689348814741910323 + iand .u64 (a : Int) 3689348814741910323) = (b : Int) := by
  rw [q2, show (3689348814741910323 : Int) = ((3689348814741910323 : Nat) : Int) from rfl, and_u64 (by omega) (by omega), and_u64 (by omega) (by omega), ← Int.natCast_add, ← hb]
  exact w b r3
 have s3 : iand .u64 (IntKind.u64.wrap (ishr .u64 (b : Int) 4 + (b : Int))) 1085102592571150095 = (c : Int) := by
  rw [q4, ← Int.natCast_add, w _ r4, show (1085102592571150095 : Int) = ((1085102592571150095 : Nat) : Int) from rfl, and_u64 r4 (by omega), ← hc]
 have s4 : IntKind.u64.wrap ((c : Int) + ishr .u64 (c : Int) 8) = (d : Int) := by
  rw [q8, ← Int.natCast_add, ← hd, w _ r6]
 have s5 : IntKind.u64.wrap ((d : Int) + ishr .u64 (d : Int) 16) = (e : Int) := by
  rw [q16, ← Int.natCast_add, ← he, w _ r7]
 have s6 : IntKind.u64.wrap ((e : Int) + ishr .u64 (e : Int) 32) = (f : Int) := by
  rw [q32, ← Int.natCast_add, ← hf, w _ (by omega)]
 have s7 : iand .i64 (IntKind.i64.wrap (f : Int)) 127 = (pc x : Int) := by
  rw [wrap64 (by omega) (by omega), and_127 r8, r1]
 clear r1 r2 r3 r4 r5 r6 r7 r8 ha hb hc hd he hf q1 q2 q4 q8 q16 q32 w
 simp (disch := first | assumption | omega | (simp [*] <;> omega) | fail) [i_zz41, s1, s2, s3, s4, s5, s6, s7]
theorem c_zz74 (x : Int) (h : VH) (h0 : 0 ≤ x) (hx : x < 4611686018427387904) : vcall F nro k_zz74 [.int .i64 x] h = some (.int .i64 (pc x.toNat), h) := by
 refine v_zz74 (by simp [i_zz74]) ?_
 rw [fbody_eq]
 have hc := c_zz41 (nro := nro) x.toNat h (by omega)
 rw [Int.toNat_of_nonneg h0] at hc
 simp (disch := first | assumption | omega | (simp [*] <;> omega) | fail) [i_zz74, wrapu64, hc]
theorem sli_at {h : VH} {b : Nat} {xs : List Int} (hb : h[b]? = some ⟨1, ints xs⟩) : Sli h (.slice (some ⟨b, 0, none⟩) xs.length xs.length) xs := by simp [Sli, Sl, hb]
theorem ints_snoc (ys : List Int) (w : Int) : ints ys ++ [Value.int .i64 w] = ints (ys ++ [w]) := by simp [ints]
def nbF (rows : List Int) (v n w : Nat) : List Int := if h : w < n then (if rbit rows v w = true then [(w : Int)] else []) ++ nbF rows v n (w + 1) else []
 termination_by n - w
def nb (rows : List Int) (v n : Nat) : List Int := nbF rows v n 0
end

/- Marks: what is written into a graph's rows, and what is held there. -/
section
open Go
variable {nro : Nat}
def cnt (k : Int) (n : Nat) : List Int := (List.range n).map fun (i : Nat) => k + (i : Int)
@[simp] theorem cnt_length (k : Int) (n : Nat) : (cnt k n).length = n := by simp [cnt]
@[simp] theorem take_cnt (k : Int) (n : Nat) : List.take n (ints (cnt k n)) = ints (cnt k n) := List.take_of_length_le (by simp)
@[simp] theorem cnt_zero (k : Int) : cnt k 0 = [] := rfl
end

/- Edges put in and taken out: PutEdge, TakeEdge. -/
section
open Go
variable {nro : Nat}
theorem ints_nj (xs : List Int) : ∀ x ∈ ints xs, isJunk x = false := by
 intro x hx
 obtain ⟨n, _, rfl⟩ := List.mem_map.mp hx
 rfl
theorem c_zz70 (s : Value) (xs : List Int) (h : VH) (hs : Sli h s xs) (hl : xs.length ≤ 1000) (hn : nro ≤ h.length) :
  vcall F nro k_zz70 [s] h = some (.slice (some ⟨h.length, 0, none⟩) xs.length xs.length, h ++ [⟨1, ints xs⟩]) := by
 refine v_zz70 (by simp [i_zz70]) ?_
 rw [fbody_eq]
 have hv : vsrc 1 (h ++ [⟨1, []⟩]) s = some (ints xs, (ints xs).length) := hs.app _
 have hn' := fun k => Nat.le_trans hn (Nat.le_add_right h.length k)
 have b1 : xs.length * 8 ≤ 1099511627776 := by omega
 have b2 : xs.length ≤ 1099511627776 := by omega
 simp (disch := first | assumption | omega | (simp [*] <;> omega) | fail) [i_zz70, hv, hn, hn', b1, b2]
 have hj := ints_nj xs
 unfold isJunk at hj
 exact hj
theorem Sli.neqnil {h : VH} {s : Value} {xs : List Int} (hs : Sli h s xs) (hx : xs ≠ []) (neg : Bool) : veqnilS neg h s = some (.bool neg, h) := by
 unfold Sli Sl vsrc at hs
 split at hs
 ·cases xs with
  | nil => exact absurd rfl hx
  | cons x r => simp at hs
 ·cases xs with
  | nil => exact absurd rfl hx
  | cons x r => simp at hs
 ·rename_i a n tot
  split at hs
  ·rename_i o ho
   split at hs
   ·rename_i hc
    simp [ho, hc.2.1]
   ·cases hs
  ·cases hs
 ·cases hs
theorem c_slices_Clone (s : Value) (xs : List Int) (h : VH) (hs : Sli h s xs) (hx : xs ≠ []) (hl : xs.length ≤ 1000) (hn : nro ≤ h.length) :
  vcall F nro k_zz32 [s] h = some (.slice (some ⟨h.length, 0, none⟩) xs.length xs.length, h ++ [⟨1, ints xs⟩]) := by
 refine v_zz32 (by simp [i_zz32]) ?_
 rw [fbody_eq]
 have hv : vsrc 1 (h ++ [⟨1, []⟩]) s = some (ints xs, (ints xs).length) := hs.app _
 have hn' := fun k => Nat.le_trans hn (Nat.le_add_right h.length k)
 have b1 : xs.length * 8 ≤ 1099511627776 := by omega
 have b2 : xs.length ≤ 1099511627776 := by omega
 simp (disch := first | assumption | omega | (simp [*] <;> omega) | fail) [i_zz32, hs.neqnil hx, hv, hn, hn', b1, b2]
 have hj := ints_nj xs
 unfold isJunk at hj
 exact hj
theorem sub_bit {x b : Nat} (h : x.testBit b = true) : 2 ^ b ≤ x ∧ ∀ w, (x - 2 ^ b).testBit w = (x.testBit w && decide (w ≠ b)) := by
 have hx : x = 2 ^ (b + 1) * (x / 2 ^ (b + 1)) + (2 ^ b + x % 2 ^ b) := by
  have h1 := Nat.div_add_mod x (2 ^ (b + 1))
  have h2 : x % 2 ^ (b + 1) = x % 2 ^ b + 2 ^ b * (x / 2 ^ b % 2) := Nat.mod_pow_succ
  rw [Nat.testBit_eq_decide_div_mod_eq] at h
  have h3 : x / 2 ^ b % 2 = 1 := by simpa using h
  rw [h3] at h2
  omega
 have hr : x % 2 ^ b < 2 ^ b := Nat.mod_lt _ (Nat.two_pow_pos b)
 have hp : 2 ^ (b + 1) = 2 * 2 ^ b := by rw [Nat.pow_succ]; omega
 refine ⟨by omega, fun w => ?_⟩
 have e1 : x - 2 ^ b = 2 ^ (b + 1) * (x / 2 ^ (b + 1)) + x % 2 ^ b := by omega
 rw [e1]
 conv => rhs; rw [hx]
 rw [Nat.testBit_two_pow_mul_add _ (by omega), Nat.testBit_two_pow_mul_add _ (by omega)]
 by_cases hw : w < b + 1
 ·rw [if_pos hw, if_pos hw]
  have e2 := Nat.testBit_two_pow_mul_add 1 hr w
  rw [Nat.mul_one] at e2
  rw [e2]
  by_cases hw2 : w < b
  ·simp [hw2, Nat.ne_of_lt hw2]
  ·have : w = b := by omega
   subst this
   simp
 ·rw [if_neg hw, if_neg hw]
  have : w ≠ b := by omega
  simp [this]
def cut1 (r : List Int) (a b : Int) : List Int := r.set a.toNat (r.getD a.toNat 0 - 2 ^ b.toNat)
def cut2 (r : List Int) (a b : Int) : List Int := cut1 (cut1 r a b) b a
@[simp] theorem cut1_length (r : List Int) (a b : Int) : (cut1 r a b).length = r.length := by simp [cut1]
@[simp] theorem cut2_length (r : List Int) (a b : Int) : (cut2 r a b).length = r.length := by simp [cut2]
theorem IsAdj.cut1 {N : Nat} {r : List Int} {adj : Nat → Nat → Prop} (h : IsAdj N r adj) {a b : Int} (ha : 0 ≤ a) (ha2 : a < N) (hab : adj a.toNat b.toNat) :
  IsAdj N (cut1 r a b) (fun v w => adj v w ∧ ¬ (v = a.toNat ∧ w = b.toNat)) := by
 obtain ⟨hl, hr⟩ := h
 refine ⟨by simp [hl], fun v hv => ?_⟩
 obtain ⟨h1, h2, h3⟩ := hr v hv
 by_cases e : v = a.toNat
 ·subst e
  have hbit := (h3 b.toNat).mpr hab
  unfold rbit at hbit
  obtain ⟨s1, s2⟩ := sub_bit hbit
  have hg : (Zv.cut1 r a b).getD a.toNat 0 = (((r.getD a.toNat 0).toNat - 2 ^ b.toNat : Nat) : Int) := by
   rw [getD_at _ (by simp; omega)]
   simp only [Zv.cut1, List.getElem_set_self]
   have hp2 : ((2 ^ b.toNat : Nat) : Int) = (2 : Int) ^ b.toNat := by simp
   rw [Int.ofNat_sub s1, hp2, Int.toNat_of_nonneg h1]
  have hsub := Nat.sub_le (r.getD a.toNat 0).toNat (2 ^ b.toNat)
  unfold rbit
  rw [hg]
  refine ⟨by omega, by omega, fun w => ?_⟩
  rw [Int.toNat_natCast, s2]
  have := h3 w
  unfold rbit at this
  simp only [Bool.and_eq_true, decide_eq_true_eq, this]
  simp
 ·have hg : (Zv.cut1 r a b).getD v 0 = r.getD v 0 := by
   unfold Zv.cut1
   simp only [List.getD_eq_getElem?_getD, List.getElem?_set]
   rw [if_neg (fun h => e h.symm)]
  unfold rbit
  rw [hg]
  refine ⟨h1, h2, fun w => ?_⟩
  have := h3 w
  unfold rbit at this
  rw [this]
  simp [e]
theorem IsAdj.cut2 {N : Nat} {r : List Int} {adj : Nat → Nat → Prop} (h : IsAdj N r adj) {a b : Int} (ha : 0 ≤ a) (ha2 : a < N) (hb : 0 ≤ b) (hb2 : b < N) (hne : a ≠ b) (hab : adj a.toNat b.toNat) (hba : adj b.toNat a.toNat) :
  IsAdj N (cut2 r a b) (fun v w => adj v w ∧ ¬ ((v = a.toNat ∧ w = b.toNat) ∨ (v = b.toNat ∧ w = a.toNat))) := by
 have h1 := (h.cut1 ha ha2 hab).cut1 (a := b) (b := a) hb hb2 ⟨hba, fun h => by omega⟩
 refine h1.congr fun v w _ => ?_
 constructor
 ·rintro ⟨⟨h1, h2⟩, h3⟩; exact ⟨h1, fun h => h.elim h2 h3⟩
 ·rintro ⟨h1, h2⟩; exact ⟨⟨h1, fun h => h2 (.inl h)⟩, fun h => h2 (.inr h)⟩
theorem GV.isAdj {n : Int} {rows : List Int} (g : GV n rows) : IsAdj rows.length rows (fun v w => rbit rows v w = true) := by
 have hp := pow_le62 g.hi
 refine ⟨rfl, fun v hv => ?_⟩
 obtain ⟨h1, h2, _⟩ := g.row v hv
 exact ⟨h1, by omega, fun w => Iff.rfl⟩
end

/- The program's distances from a vertex. -/
section
open Go
variable {nro : Nat}
def rep (n m : Nat) : List Int := List.replicate m (-1) ++ List.replicate (n - m) 0
end

/- Graphs that are filled with all edges that may be. -/
section
open Go
variable {nro : Nat}
theorem Rok.isAdj {n : Nat} {rows : List Int} (R : Rok n rows) : IsAdj n rows (fun v w => rbit rows v w = true) := by
 refine ⟨R.len, fun v hv => ?_⟩
 obtain ⟨r1, r2⟩ := R.row v hv
 have := le62 R.le r2
 exact ⟨r1, by omega, fun w => Iff.rfl⟩
theorem bit_lt {x n j : Nat} (h : x < 2 ^ n) (hb : x.testBit j = true) : j < n := by
 rcases Nat.lt_or_ge j n with h1 | h1
 ·exact h1
 ·rw [Nat.testBit_lt_two_pow (Nat.lt_of_lt_of_le h (Nat.pow_le_pow_right (by omega) h1))] at hb
  cases hb
theorem Rok.lt {n : Nat} {rows : List Int} (R : Rok n rows) {v w : Nat} (hv : v < n) (h : rbit rows v w = true) : w < n := bit_lt (R.row v hv).2 h
theorem Rok.of {n : Nat} {rows : List Int} {adj : Nat → Nat → Prop} (h : IsAdj n rows adj) (hn : n ≤ 62) (hlt : ∀ v w, v < n → adj v w → w < n) : Rok n rows := by
 refine ⟨h.1, hn, fun v hv => ?_⟩
 obtain ⟨h1, _, h3⟩ := h.2 v hv
 refine ⟨h1, Nat.lt_pow_two_of_testBit _ fun w hw => ?_⟩
 have : ¬ rbit rows v w = true := fun hb => by
  have := hlt v w hv ((h3 w).mp hb)
  omega
 unfold rbit at this
 simpa using this
theorem Rok.put2 {n : Nat} {rows : List Int} (R : Rok n rows) {v w : Nat} (hv : v < n) (hw : w < n) : Rok n (put2 rows v w) := by
 have := R.isAdj.put2 (a := (v : Int)) (b := (w : Int)) (by omega) (by omega) (by omega) (by omega) R.le
 refine Rok.of this R.le fun x y hx hxy => ?_
 rcases hxy with h | ⟨_, h⟩ | ⟨_, h⟩
 ·exact R.lt hx h
 ·omega
 ·omega
theorem Rok.zero {n : Nat} (hn : n ≤ 62) : Rok n (List.replicate n 0) := Rok.of (IsAdj.zero n) hn fun _ _ _ h => h.elim
theorem GV.rok {n : Nat} {rows : List Int} (g : GV n rows) : Rok n rows := by
 have hl := g.len
 have hi := g.hi
 refine ⟨by omega, by omega, fun v hv => ?_⟩
 obtain ⟨h1, h2, _⟩ := g.row v (by omega)
 refine ⟨h1, ?_⟩
 rw [Int.toNat_natCast] at h2
 have e : ((2 ^ n : Nat) : Int) = (2 : Int) ^ n := by simp
 omega
end

/- Girths: the least length of a cycle with an edge, at a vertex, of all. -/
section
open Go
variable {nro : Nat}
theorem rbit_lt {n : Nat} {rows : List Int} (R : Rok n rows) {v w : Nat} (h : rbit rows v w = true) : v < n ∧ w < n := by
 have hv : v < n := by
  rcases Nat.lt_or_ge v n with h1 | h1
  ·exact h1
  ·have hl := R.len
   unfold rbit at h
   rw [List.getD_eq_getElem?_getD, List.getElem?_eq_none (by omega)] at h
   simp at h
 exact ⟨hv, R.lt hv h⟩
theorem GV.sym' {n : Nat} {rows : List Int} (g : GV n rows) {v w : Nat} (h : rbit rows v w = true) : rbit rows w v = true := by
 have hl := g.len
 obtain ⟨h1, h2⟩ := rbit_lt g.rok h
 rw [g.sym w v (by omega) (by omega)]
 exact h
theorem GV.ne {n : Nat} {rows : List Int} (g : GV n rows) {v w : Nat} (h : rbit rows v w = true) : v ≠ w := by
 rintro rfl
 have hl := g.len
 obtain ⟨h1, _⟩ := rbit_lt g.rok h
 obtain ⟨_, _, h2⟩ := g.row v (by omega)
 rw [h2] at h
 cases h
def nbL (rows : List Int) (v : Nat) : List Int := bitL (rows.getD v 0).toNat
theorem nbL_mem (rows : List Int) (v : Nat) (y : Int) : y ∈ nbL rows v ↔ 0 ≤ y ∧ y < 62 ∧ rbit rows v y.toNat = true := bitL_mem _ y
theorem c_impl_listRow (n v : Nat) (rows : List Int) (R : Rok n rows) (hv : v < n) (h : VH) (hn : nro ≤ h.length) :
  vcall F nro k_zz73 [.int .i64 (rows[v]'(by have := R.len; omega))] h = some (.slice (some ⟨h.length, 0, none⟩) (nbL rows v).length (nbL rows v).length, h ++ [⟨1, ints (nbL rows v)⟩]) := by
 have hl := R.len
 obtain ⟨r1, r2⟩ := R.row v hv
 have := c_zz73 (nro := nro) (rows.getD v 0).toNat (le62 R.le r2) h hn
 rw [Int.toNat_of_nonneg r1] at this
 rw [← getD_at rows (by omega)]
 exact this
end

/- Lists of lists in new memory. -/
section
open Go
variable {nro : Nat}
theorem cleanup_old {h0 h : VH} {vs : List Value} (hv : ∀ v ∈ vs, Old h0.length v) : kclean h0 vs h = (vs, h) ∨ (okT h0.length h0 (h.take h0.length) ∧ kclean h0 vs h = (vs, h.take h0.length)) := by
 unfold kclean cleanup
 rw [keepL_nil hv]
 by_cases hc : okT h0.length h0 (h.take h0.length) ∧ flatL h0.length [] h
 ·rw [if_pos hc]
  refine .inr ⟨hc.1, ?_⟩
  simp only [List.filterMap_nil, List.append_nil, Prod.mk.injEq, and_true]
  have : ∀ v ∈ vs, tren (renOf h0.length []) v = v := fun v h => tren_old (hv v h) fun i hi => by simp only [renOf, if_pos hi]
  exact (List.map_congr_left this).trans (by simp)
 ·rw [if_neg hc]
  exact .inl rfl
def LL (h : VH) (v : Value) (ess : List (List Int)) : Prop := ∃ vs, vs.length = ess.length ∧ Sl h v vs ∧ ∀ (i : Nat) (hi : i < vs.length), Sli h vs[i] (ess.getD i [])
theorem LL.app {h : VH} {v : Value} {ess : List (List Int)} (hl : LL h v ess) (L : VH) : LL (h ++ L) v ess := by
 obtain ⟨vs, h1, h2, h3⟩ := hl
 exact ⟨vs, h1, h2.app L, fun i hi => (h3 i hi).app L⟩
theorem LL.nil (h : VH) : LL h (.slice none 0 0) [] := ⟨[], rfl, by simp [Sl, vsrc], fun i hi => by simp at hi⟩
theorem LL.old {h : VH} {v : Value} {ess : List (List Int)} (hl : LL h v ess) : Old h.length v := by
 obtain ⟨vs, h1, h2, h3⟩ := hl
 exact h2.old
def tot : List (List Int) → Nat
 | [] => 0
 | e :: es => e.length + tot es
end

/- Lists of lists: all edges. -/
section
open Go
variable {nro : Nat}
abbrev eH (h : VH) (n : Int) (s : Value) (vs : List Value) (G : VH) : VH := h ++ ⟨0, [.int .i64 n, s]⟩ :: ⟨1, vs⟩ :: G
end

/- Does a graph fit k and c: the program's test and the reference's are one. -/
section
open Go
variable {nro : Nat}
def mxL (m : Int) : List Int → Int
 | [] => m
 | x :: l => mxL (if m < x then x else m) l
theorem mxL_le (k : Int) : ∀ (l : List Int) (m : Int), mxL m l ≤ k ↔ m ≤ k ∧ ∀ x ∈ l, x ≤ k
 | [], m => by simp [mxL]
 | x :: l, m => by
  rw [mxL, mxL_le k l]
  simp only [List.mem_cons, forall_eq_or_imp]
  by_cases h : m < x
  ·rw [if_pos h]
   exact ⟨fun ⟨a, b⟩ => ⟨by omega, a, b⟩, fun ⟨_, a, b⟩ => ⟨a, b⟩⟩
  ·rw [if_neg h]
   exact ⟨fun ⟨a, b⟩ => ⟨a, by omega, b⟩, fun ⟨a, _, b⟩ => ⟨a, b⟩⟩
theorem l_slices_Max (h : VH) (s : Value) (xs : List Int) (hs : Sli h s xs) (hl : xs.length ≤ 1000) (k j : Nat) (hk : k = xs.length - j) (hj : j ≤ xs.length) (m : Int) :
    floop (vcall F nro) nro [0, 3, 4] i_zz38_B1 h [s, .int .i64 m, .int .i64 j] h = some (.exit 0, fl [(3, .int .i64 (mxL m (xs.drop j)))], h) := by
  have hso := hs.old
  rw [floop_at i_zz38_B1.eq_1]
  by_cases hlt : j < xs.length
  · have hlt' : (j : Int) < xs.length := by omega
    have vl := hs.vlen
    have vx := hs.vidx (k := .i64) (j := (j : Int)) (by omega) hlt'
    have vd := hs.vload hlt
    have ih := l_slices_Max h s xs hs hl (k - 1) (j + 1) (by omega) hlt (if m < xs[j] then xs[j] else m)
    rw [show ((j + 1 : Nat) : Int) = (j : Int) + 1 by omega] at ih
    rw [List.drop_eq_getElem_cons hlt, mxL]
    obtain ⟨x, hx⟩ : ∃ x, x = xs[j] := ⟨_, rfl⟩
    rw [← hx] at vd ih ⊢
    by_cases c1 : m < x
    · rw [if_pos c1] at ih ⊢
      simp (disch := first | assumption | omega | (simp [*] <;> omega) | fail) [wrap64, hlt', vl, vx, vd, ih, c1, vminmax, vminmaxL, vminmax2]
    · rw [if_neg c1] at ih ⊢
      simp (disch := first | assumption | omega | (simp [*] <;> omega) | fail) [wrap64, hlt', vl, vx, vd, ih, c1, vminmax, vminmaxL, vminmax2]
  · have hlt' : ¬ (j : Int) < xs.length := by omega
    have vl := hs.vlen
    rw [List.drop_eq_nil_of_le (by omega), mxL]
    simp (disch := first | assumption | omega | (simp [*] <;> omega) | fail) [hlt', vl]
 termination_by k
 decreasing_by omega
theorem c_slices_Max (s : Value) (x : Int) (xs : List Int) (h : VH) (hs : Sli h s (x :: xs)) (hl : xs.length ≤ 999) :
  vcall F nro k_zz38 [s] h = some (.int .i64 (mxL x xs), h) := by
 refine v_zz38 (by simp [i_zz38]) ?_
 rw [fbody_eq]
 have vl := hs.vlen
 have vx := hs.vidx (k := .i64) (j := 0) (by omega) (by simp)
 have vd := hs.vload (j := 0) (by simp)
 have lp := l_slices_Max (nro := nro) h s (x :: xs) hs (by simp; omega) xs.length 1 (by simp) (by simp) x
 rw [List.drop_succ_cons, List.drop_zero] at lp
 simp only [Int.natCast_one] at lp
 simp at vl vd
 have e : ¬ ((xs.length : Int) + 1 < 1) := by omega
 obtain ⟨q, hq⟩ : ∃ q, q = mxL x xs := ⟨_, rfl⟩
 rw [← hq] at lp ⊢
 clear hq
 simp (disch := first | assumption | omega | (simp [*] <;> omega) | fail) [i_zz38, vl, vx, vd, lp, e]
end

/- Graphs with colours: what a refinement reads and writes. -/
section
open Go
def updL (c : Nat → List Int) (i : Nat) (l : List Int) : Nat → List Int := fun j => if j = i then l else c j
structure RG (nro K n a bg bc : Nat) (q : Nat → Nat) (rs : Nat → Value) (rows : Nat → List Int) (gcs : List Value) (Hc : (Nat → List Int) → VH) : Prop where
 nr : ∀ c, nro ≤ (Hc c).length
 nq : ∀ i, i < K → nro ≤ q i
 len : ∀ c c', (Hc c).length = (Hc c').length
 upd : ∀ c c', Upd (Hc c) (Hc c')
 ax : ∀ c, (Hc c)[a]? = some ⟨0, [.slice (some ⟨bg, 0, none⟩) K (2 * K), .slice (some ⟨bc, 0, none⟩) K K]⟩
 ag : ∀ c, (Hc c)[bg]? = some ⟨2, gcs⟩
 gl : gcs.length = 2 * K
 ga : ∀ i, i < K → gcs[2 * i]? = some (.int .i64 n) ∧ gcs[2 * i + 1]? = some (rs i)
 ac : ∀ c, (Hc c)[bc]? = some ⟨1, (List.range K).map fun i => .slice (some ⟨q i, 0, none⟩) n n⟩
 aq : ∀ c i, i < K → (Hc c)[q i]? = some ⟨1, ints (c i)⟩
 st : ∀ c i l, i < K → (Hc c).set (q i) ⟨1, ints l⟩ = Hc (updL c i l)
 rr : ∀ c i, i < K → Sli (Hc c) (rs i) (rows i)
 rok : ∀ i, i < K → Rok n (rows i)
 n1 : 1 ≤ n
 K1 : 1 ≤ K
 K2 : K ≤ 2
structure CL (K n : Nat) (c : Nat → List Int) : Prop where
 len : ∀ i, i < K → (c i).length = n
 ge : ∀ i, i < K → ∀ x ∈ c i, 0 ≤ x ∧ x < 500
section
variable {nro K n a bg bc : Nat} {q : Nat → Nat} {rs : Nat → Value} {rows : Nat → List Int} {gcs : List Value} {Hc : (Nat → List Int) → VH} (E : RG nro K n a bg bc q rs rows gcs Hc)
include E
theorem RG.lt {p : Nat} {o : VO} (c : Nat → List Int) (h : (Hc c)[p]? = some o) (L : VH) : (Hc c ++ L)[p]? = some o := by
 have _e := E.n1
 rw [List.getElem?_append_left (List.getElem?_eq_some_iff.mp h).1]; exact h
theorem RG.lax (c : Nat → List Int) : a < (Hc c).length := (List.getElem?_eq_some_iff.mp (E.ax c)).1
theorem RG.lbg (c : Nat → List Int) : bg < (Hc c).length := (List.getElem?_eq_some_iff.mp (E.ag c)).1
theorem RG.lbc (c : Nat → List Int) : bc < (Hc c).length := (List.getElem?_eq_some_iff.mp (E.ac c)).1
theorem RG.lq (c : Nat → List Int) {i : Nat} (hi : i < K) : q i < (Hc c).length := (List.getElem?_eq_some_iff.mp (E.aq c i hi)).1
theorem RG.setA (c : Nat → List Int) (L : VH) (i : Nat) (l : List Int) (hi : i < K) : (Hc c ++ L).set (q i) ⟨1, ints l⟩ = Hc (updL c i l) ++ L := by
 rw [List.set_append_left _ _ (E.lq c hi), E.st c i l hi]
theorem RG.ccell (i : Nat) (hi : i < K) : List.take 1 (List.drop i ((List.range K).map fun i => (Value.slice (some ⟨q i, 0, none⟩) n n))) = [.slice (some ⟨q i, 0, none⟩) n n] := by
 have _e := E.n1
 rw [List.drop_eq_getElem_cons (by simpa using hi)]
 simp
theorem RG.gcell (i : Nat) (hi : i < K) : List.take 2 (List.drop (i * 2) gcs) = [.int .i64 n, rs i] := by
 have h1 := E.gl
 obtain ⟨h2, h3⟩ := E.ga i hi
 obtain ⟨p2, q2⟩ := List.getElem?_eq_some_iff.mp h2
 obtain ⟨p3, q3⟩ := List.getElem?_eq_some_iff.mp h3
 rw [Nat.mul_comm i 2, List.drop_eq_getElem_cons p2, List.drop_eq_getElem_cons p3, q2, q3]
 rfl
end
def mxl (l : List Int) : Int := mxL (l.headD 0) l.tail
theorem mxl_le (k : Int) (l : List Int) (h : l ≠ []) : mxl l ≤ k ↔ ∀ x ∈ l, x ≤ k := by
 cases l with
 | nil => exact absurd rfl h
 | cons x r => simp [mxl, mxL_le]
def mxK (c : Nat → List Int) : Nat → Int
 | 0 => 0
 | j + 1 => if mxK c j < mxl (c j) then mxl (c j) else mxK c j
theorem mxK_ge (c : Nat → List Int) : ∀ j, 0 ≤ mxK c j
 | 0 => Int.le_refl 0
 | j + 1 => by
  have := mxK_ge c j
  rw [mxK]
  split <;> omega
theorem mxK_le (c : Nat → List Int) (k : Int) (hk : 0 ≤ k) : ∀ j, (∀ i, i < j → c i ≠ []) → (mxK c j ≤ k ↔ ∀ i, i < j → ∀ x ∈ c i, x ≤ k)
 | 0, _ => by simp [mxK, hk]
 | j + 1, hne => by
  have ih := mxK_le c k hk j (fun i hi => hne i (by omega))
  have h1 := mxl_le k (c j) (hne j (by omega))
  rw [mxK]
  constructor
  ·intro h i hi
   split at h
   ·rcases Nat.lt_succ_iff_lt_or_eq.mp hi with h2 | h2
    ·exact ih.mp (by omega) i h2
    ·subst h2; exact h1.mp h
   ·rcases Nat.lt_succ_iff_lt_or_eq.mp hi with h2 | h2
    ·exact ih.mp h i h2
    ·subst h2; exact h1.mp (by omega)
  ·intro h
   have h2 := h1.mpr (h j (by omega))
   have h3 := ih.mpr (fun i hi => h i (by omega))
   split <;> assumption
def manyN (K : Nat) (c : Nat → List Int) : Nat := (mxK c K).toNat + 1
theorem CL.ne {K n : Nat} {c : Nat → List Int} (C : CL K n c) (hn : 1 ≤ n) (i : Nat) (hi : i < K) : c i ≠ [] := by
 have := C.len i hi
 intro e
 rw [e] at this
 simp at this
 omega
theorem CL.lt {K n : Nat} {c : Nat → List Int} (C : CL K n c) (hn : 1 ≤ n) (i : Nat) (hi : i < K) (x : Int) (hx : x ∈ c i) : 0 ≤ x ∧ x < manyN K c := by
 have h1 := (mxK_le c (mxK c K) (mxK_ge c K) K (fun i hi => C.ne hn i hi)).mp (Int.le_refl _) i hi x hx
 have h2 := (C.ge i hi x hx).1
 have h3 := mxK_ge c K
 unfold manyN
 omega
theorem CL.many5 {K n : Nat} {c : Nat → List Int} (C : CL K n c) (hn : 1 ≤ n) : manyN K c ≤ 500 := by
 have h1 := (mxK_le c 499 (by omega) K (fun i hi => C.ne hn i hi)).mpr (fun i hi x hx => by have := (C.ge i hi x hx).2; omega)
 unfold manyN
 omega
theorem CL.many {K n : Nat} {c : Nat → List Int} (C : CL K n c) (hn : 1 ≤ n) : manyN K c ≤ 1000 := by
 have h1 := (mxK_le c 999 (by omega) K (fun i hi => C.ne hn i hi)).mpr (fun i hi x hx => by have := (C.ge i hi x hx).2; omega)
 unfold manyN
 omega
section
variable {nro K n a bg bc : Nat} {q : Nat → Nat} {rs : Nat → Value} {rows : Nat → List Int} {gcs : List Value} {Hc : (Nat → List Int) → VH} (E : RG nro K n a bg bc q rs rows gcs Hc)
include E
theorem c_zz47 (c : Nat → List Int) (C : CL K n c) (L : VH) : vcall F nro k_zz47 [.pointer (some ⟨a, 0, some 2⟩)] (Hc c ++ L) = some (.int .i64 (manyN K c), Hc c ++ L) := by
 have hax := E.lax c
 have hbc := E.lbc c
 have q1 := E.lt c (E.ax c) L
 have q2 := E.lt c (E.ac c) L
 have hK := E.K2
 have hn1 := E.n1
 have lq := fun i (hi : i < K) => E.lq c hi
 have q3 := fun i (hi : i < K) => E.lt c (E.aq c i hi) L
 have hcc := E.ccell
 have hmb := mxK_le c 999 (by omega)
 obtain ⟨H, hH⟩ : ∃ H, H = Hc c ++ L := ⟨_, rfl⟩
 have hl : (Hc c).length ≤ H.length := by rw [hH]; simp
 rw [← hH] at q1 q2 q3 ⊢
 refine v_zz47 (by simp [i_zz47]) ?_
 rw [fbody_eq]
 have key := for_up (call := vcall F nro) (nro := nro) (live := [3, 9, 10, 11]) (c := i_zz47_B1) (h0 := H) (n := K) (fun i (_ : Unit) => [.int .i64 (mxK c i), .slice (some ⟨bc, 0, none⟩) K K, .int .i64 K, .int .i64 i]) (fun _ _ => H) (fun _ u => u) (fun _ _ => True)
  (fun _ => some (.exit 0, fl [(3, .int .i64 (mxK c K))], H)) (fun i _ hi hi2 _ => ⟨trivial, ?_⟩) (fun _ _ => ?_) 0 () (by omega) trivial
 ·obtain ⟨key, _⟩ := key
  have hge := mxK_ge c K
  have hle := (hmb K (fun i hi => C.ne hn1 i hi)).mpr (fun i hi x hx => by have := (C.ge i hi x hx).2; omega)
  have w1 : IntKind.i64.wrap (mxK c K + 1) = manyN K c := by
   rw [wrap64 (by omega) (by omega)]
   unfold manyN
   omega
  have k1 : mxK c 0 = 0 := rfl
  simp only [k1, Int.natCast_zero] at key
  clear hH q3 hcc
  simp (disch := first | assumption | omega | (simp [*] <;> omega) | fail) [-getElem?_pos, List.getElem?_cons_zero, List.getElem?_cons_succ, i_zz47, q1, q2, key, w1, fresults, fresL, fres1]
 ·rw [floop_at i_zz47_B1.eq_1]
  have hcl := C.len i hi
  have hm : vcall F nro k_zz38 [.slice (some ⟨q i, 0, none⟩) n n] H = some (.int .i64 (mxl (c i)), H) := by
   have s1 : Sli H (.slice (some ⟨q i, 0, none⟩) n n) (c i) := by
    have := sli_at (q3 i hi)
    rwa [hcl] at this
   obtain ⟨x, r, hxr⟩ : ∃ x r, c i = x :: r := by
    cases hc : c i with
    | nil => exact absurd hc (C.ne hn1 i hi)
    | cons x r => exact ⟨x, r, rfl⟩
   rw [hxr] at s1 ⊢
   refine c_slices_Max _ x r H s1 ?_
   have hnl := (E.rok i hi).le
   rw [hxr] at hcl
   simp at hcl
   omega
  have k2 : mxK c (i + 1) = if mxK c i < mxl (c i) then mxl (c i) else mxK c i := rfl
  have k3 := hcc i hi
  obtain ⟨m, hm2⟩ : ∃ m, m = mxK c i := ⟨_, rfl⟩
  obtain ⟨m', hm3⟩ : ∃ m', m' = mxl (c i) := ⟨_, rfl⟩
  rw [k2, ← hm2, ← hm3]
  rw [← hm3] at hm
  clear k2 hm2 hm3 q3 hH hcc hmb
  have w1 : IntKind.i64.wrap ((i : Int) + 1) = (i : Int) + 1 := wrap64 (by omega) (by omega)
  by_cases c1 : m < m'
  ·rw [if_pos c1]
   simp (disch := first | assumption | omega | (simp [*] <;> omega) | fail) [-getElem?_pos, List.getElem?_cons_zero, List.getElem?_cons_succ, q1, q2, hi, hi2, hm, k3, w1, c1, vminmax, vminmaxL, vminmax2]
  ·rw [if_neg c1]
   simp (disch := first | assumption | omega | (simp [*] <;> omega) | fail) [-getElem?_pos, List.getElem?_cons_zero, List.getElem?_cons_succ, q1, q2, hi, hi2, hm, k3, w1, c1, vminmax, vminmaxL, vminmax2]
 ·rw [floop_at i_zz47_B1.eq_1]
  simp (disch := first | assumption | omega | (simp [*] <;> omega) | fail) [-getElem?_pos, List.getElem?_cons_zero, List.getElem?_cons_succ, q2]
end
end

/- Refining: the sets of the colours, the numbers of a vertex. -/
section
open Go
variable {nro : Nat}
noncomputable def stF (cl : List Int) (m n : Nat) : List Int := upF (fun v st => set1 st (cl.getD v 0) v) n 0 (List.replicate m 0)
theorem l_refine_B1 (P : VH) (s : Value) (cl : List Int) (n m : Nat) (hs : Sli P s cl) (hcl : cl.length = n) (hn62 : n ≤ 62) (hc : ∀ x ∈ cl, 0 ≤ x ∧ x < m) (hm : m ≤ 1000) (hn : nro ≤ P.length)
  (v0 v2 v3 v4 v5 v23 v24 v25 : Value) (o0 : Old (P.length + 1) v0) (o2 : Old (P.length + 1) v2) (o3 : Old (P.length + 1) v3) (o4 : Old (P.length + 1) v4) (o5 : Old (P.length + 1) v5) (o23 : Old (P.length + 1) v23) (o24 : Old (P.length + 1) v24) (o25 : Old (P.length + 1) v25) :
  floop (vcall F nro) nro [0, 2, 3, 4, 5, 6, 23, 24, 25, 38, 39, 40] i_zz43_B1 (P ++ [⟨1, ints (List.replicate m 0)⟩])
   [v0, v2, v3, v4, v5, .slice (some ⟨P.length, 0, none⟩) m m, v23, v24, v25, s, .int .i64 n, .int .i64 0] (P ++ [⟨1, ints (List.replicate m 0)⟩]) =
   some (.exit 4, fl [(0, v0), (2, v2), (3, v3), (4, v4), (5, v5), (6, .slice (some ⟨P.length, 0, none⟩) m m), (23, v23), (24, v24), (25, v25)], P ++ [⟨1, ints (stF cl m n)⟩]) ∧ (stF cl m n).length = m := by
 have hso := hs.old
 obtain ⟨z0, hz0⟩ : ∃ z, z = List.replicate m (0 : Int) := ⟨_, rfl⟩
 have hz : z0.length = m := by rw [hz0]; simp
 unfold stF
 rw [← hz0]
 clear hz0
 have key := for_up (call := vcall F nro) (nro := nro) (live := [0, 2, 3, 4, 5, 6, 23, 24, 25, 38, 39, 40]) (c := i_zz43_B1) (h0 := P ++ [⟨1, ints z0⟩]) (n := n)
  (fun i (_ : List Int) => [v0, v2, v3, v4, v5, .slice (some ⟨P.length, 0, none⟩) m m, v23, v24, v25, s, .int .i64 n, .int .i64 i]) (fun _ st => P ++ [⟨1, ints st⟩]) (fun v st => set1 st (cl.getD v 0) v) (fun _ st => st.length = m)
  (fun st => some (.exit 4, fl [(0, v0), (2, v2), (3, v3), (4, v4), (5, v5), (6, .slice (some ⟨P.length, 0, none⟩) m m), (23, v23), (24, v24), (25, v25)], P ++ [⟨1, ints st⟩])) (fun i st hi hi2 I => ⟨by simpa using I, ?_⟩) (fun st I => ?_) 0 z0 (by omega) hz
 ·exact key
 ·rw [floop_at i_zz43_B1.eq_1]
  have hi3 : i < cl.length := by omega
  have hg : cl.getD i 0 = cl[i] := by simp [List.getD_eq_getElem?_getD, hi3]
  obtain ⟨x, hx⟩ : ∃ x : Nat, cl[i] = x := by
   have := hc cl[i] (List.getElem_mem _)
   exact ⟨(cl[i]).toNat, by omega⟩
  have hxm : x < m := by
   have := hc cl[i] (List.getElem_mem _)
   omega
  have hxs : x < st.length := by omega
  have vx := (hs.app [⟨1, ints st⟩]).vidx (k := .i64) (j := (i : Int)) (by omega) (by omega)
  have vd := (hs.app [⟨1, ints st⟩]).vload hi3
  rw [hx] at vd hg
  have hss : set1 st (x : Int) i = st.set x (ior .i64 st[x] (ishl .i64 1 i)) := by
   simp [set1, List.getD_eq_getElem?_getD, hxs]
  rw [hg, hss]
  have w1 : IntKind.i64.wrap ((i : Int) + 1) = (i : Int) + 1 := wrap64 (by omega) (by omega)
  have hxm' : (x : Int) < m := by omega
  clear hc hs hg hss hx hcl hi3
  subst I
  have t1 := take1_ints hxs
  have t2 := fun y => splice_ints (v := y) hxs
  obtain ⟨y, hy⟩ : ∃ y, y = ior .i64 st[x] (ishl .i64 1 i) := ⟨_, rfl⟩
  rw [← hy]
  have hcl : ∀ vs, (∀ v ∈ vs, Old (P.length + 1) v) → kclean (P ++ [⟨1, ints z0⟩]) vs (P ++ [⟨1, ints (st.set x y)⟩]) = (vs, P ++ [⟨1, ints (st.set x y)⟩]) := fun vs hv => by
   have := cleanup_app (h0 := P) (L0 := [⟨1, ints z0⟩]) (L := [⟨1, ints (st.set x y)⟩]) (vs := vs) (by simpa using hv) (by simp)
   simpa using this
  have hso' : Old (P.length + 1) s := by
   intro r hr
   have := hso r hr
   omega
  simp (disch := first | assumption | omega | (simp [*] <;> omega) | fail) [vx, vd, w1, hi, hi2, hxm', t1, t2, hn, hxs, ← hy, hcl]
 ·rw [floop_at i_zz43_B1.eq_1]
  have vl := (hs.app [⟨1, ints st⟩]).vlen
  simp (disch := first | assumption | omega | (simp [*] <;> omega) | fail) [vl]
noncomputable def nbN (row s : Int) : Int := (pc (iand .i64 row s).toNat : Int)
theorem l_refine_B2 (P : VH) (p : Nat) (n : Nat) (r tS : Value) (rows st : List Int) (v : Nat) (x : Int) (hp : P[p]? = some ⟨0, [.int .i64 n, r]⟩) (hr : Sli P r rows) (hS : Sli P tS st) (hv : v < rows.length) (hrow : 0 ≤ rows[v] ∧ rows[v] < 4611686018427387904) (hst : ∀ y ∈ st, 0 ≤ y ∧ y < 4611686018427387904) (hst2 : st.length ≤ 1000) (hn : nro ≤ P.length)
  (v0 v2 v3 v4 v23 v24 v25 v60 v61 v62 : Value) (o0 : Old (P.length + 1) v0) (o2 : Old (P.length + 1) v2) (o3 : Old (P.length + 1) v3) (o4 : Old (P.length + 1) v4) (o23 : Old (P.length + 1) v23) (o24 : Old (P.length + 1) v24) (o25 : Old (P.length + 1) v25) (o60 : Old (P.length + 1) v60) (o61 : Old (P.length + 1) v61) (o62 : Old (P.length + 1) v62) :
  floop (vcall F nro) nro [0, 2, 3, 4, 5, 6, 9, 11, 23, 24, 25, 60, 61, 62, 69, 70, 71] i_zz43_B2 (P ++ [⟨1, ints [x]⟩])
   [v0, v2, v3, v4, .pointer (some ⟨p, 0, some 2⟩), tS, .int .i64 v, .slice (some ⟨P.length, 0, none⟩) 1 1, v23, v24, v25, v60, v61, v62, tS, .int .i64 st.length, .int .i64 0] (P ++ [⟨1, ints [x]⟩]) =
   some (.exit 8, fl [(0, v0), (2, v2), (3, v3), (4, v4), (5, .pointer (some ⟨p, 0, some 2⟩)), (6, tS), (9, .int .i64 v), (11, .slice (some ⟨P.length, 0, none⟩) (st.length + 1) (st.length + 1)), (23, v23), (24, v24), (25, v25), (60, v60), (61, v61), (62, v62)], P ++ [⟨1, ints (x :: st.map (nbN rows[v]))⟩]) := by
 have hso := hS.old
 have hpl := (List.getElem?_eq_some_iff.mp hp).1
 obtain ⟨row, hro⟩ : ∃ row, row = rows[v] := ⟨_, rfl⟩
 have vdr := hr.vload hv
 rw [← hro] at hrow vdr ⊢
 have key := for_up (call := vcall F nro) (nro := nro) (live := [0, 2, 3, 4, 5, 6, 9, 11, 23, 24, 25, 60, 61, 62, 69, 70, 71]) (c := i_zz43_B2) (h0 := P ++ [⟨1, ints [x]⟩]) (n := st.length)
  (fun i (_ : Unit) => [v0, v2, v3, v4, .pointer (some ⟨p, 0, some 2⟩), tS, .int .i64 v, .slice (some ⟨P.length, 0, none⟩) (i + 1) (i + 1), v23, v24, v25, v60, v61, v62, tS, .int .i64 st.length, .int .i64 i]) (fun i _ => P ++ [⟨1, ints (x :: (st.take i).map (nbN row))⟩]) (fun _ u => u) (fun _ _ => True)
  (fun _ => some (.exit 8, fl [(0, v0), (2, v2), (3, v3), (4, v4), (5, .pointer (some ⟨p, 0, some 2⟩)), (6, tS), (9, .int .i64 v), (11, .slice (some ⟨P.length, 0, none⟩) (st.length + 1) (st.length + 1)), (23, v23), (24, v24), (25, v25), (60, v60), (61, v61), (62, v62)], P ++ [⟨1, ints (x :: st.map (nbN row))⟩])) (fun i _ hi hi2 _ => ⟨trivial, ?_⟩) (fun _ _ => ?_) 0 () (by omega) trivial
 ·simpa using key.1
 ·rw [floop_at i_zz43_B2.eq_1]
  obtain ⟨ys, hys⟩ : ∃ ys, ys = x :: (st.take i).map (nbN row) := ⟨_, rfl⟩
  have hyl : ys.length = i + 1 := by rw [hys]; simp; omega
  have hyn : x :: (st.take (i + 1)).map (nbN row) = ys ++ [nbN row st[i]] := by
   rw [hys, List.take_add_one, List.getElem?_eq_getElem hi, List.map_append]
   rfl
  have hsi := hst st[i] (List.getElem_mem _)
  rw [hyn, ← hys]
  obtain ⟨si, hs⟩ : ∃ si, si = st[i] := ⟨_, rfl⟩
  have vx := (hS.app [⟨1, ints ys⟩]).vidx (k := .i64) (j := (i : Int)) (by omega) (by omega)
  have vd := (hS.app [⟨1, ints ys⟩]).vload hi
  rw [← hs] at hsi vd ⊢
  have vxr := (hr.app [⟨1, ints ys⟩]).vidx (k := .i64) (j := (v : Int)) (by omega) (by omega)
  have vdr := (hr.app [⟨1, ints ys⟩]).vload hv
  rw [← hro] at vdr
  have hc : vcall F nro k_zz74 [.int .i64 (iand .i64 row si)] (P ++ [⟨1, ints ys⟩]) = some (.int .i64 (nbN row si), P ++ [⟨1, ints ys⟩]) := by
   obtain ⟨a, rfl⟩ : ∃ a : Nat, row = a := ⟨row.toNat, by omega⟩
   obtain ⟨b, rfl⟩ : ∃ b : Nat, si = b := ⟨si.toNat, by omega⟩
   have e := iand_nat (a := a) (b := b) (by omega) (by omega)
   have : a &&& b ≤ a := Nat.and_le_left
   refine c_zz74 _ _ ?_ ?_ <;> rw [e] <;> omega
  have w1 : IntKind.i64.wrap ((i : Int) + 1) = (i : Int) + 1 := wrap64 (by omega) (by omega)
  obtain ⟨d, hd⟩ : ∃ d, d = nbN row si := ⟨_, rfl⟩
  rw [← hd] at hc ⊢
  have q1 : (P ++ [⟨1, ints ys⟩])[p]? = some ⟨0, [.int .i64 n, r]⟩ := by rw [List.getElem?_append_left hpl]; exact hp
  have hcl : ∀ vs, (∀ v ∈ vs, Old (P.length + 1) v) → kclean (P ++ [⟨1, ints [x]⟩]) vs (P ++ [⟨1, ints (ys ++ [d])⟩, ⟨1, [.int .i64 d]⟩]) = (vs, P ++ [⟨1, ints (ys ++ [d])⟩]) := fun vs hv => by
   have := cleanup_app (h0 := P) (L0 := [⟨1, ints [x]⟩]) (L := [⟨1, ints (ys ++ [d])⟩, ⟨1, [.int .i64 d]⟩]) (vs := vs) (by simpa using hv) (by simp)
   simpa using this
  have hpc := (List.getElem?_eq_some_iff.mp hp).2
  simp only [ints_cons, ints_nil] at hcl
  have hso' : Old (P.length + 1) tS := by
   intro r hr
   have := hso r hr
   omega
  clear hst hS hr hs hro hys hyn hd
  have b1 : (ys.length + 1) * 8 ≤ 1099511627776 := by omega
  have b2 : ys.length < 1099511627776 := by omega
  have hpl1 : p < P.length + 1 := by omega
  rw [← hyl]
  have w1 : IntKind.i64.wrap ((i : Int) + 1) = (ys.length : Int) := by rw [w1]; omega
  simp (disch := first | assumption | omega | (simp [*] <;> omega) | fail) [vx, vd, w1, hi, hi2, vxr, vdr, hc, q1, hn, b1, b2, hcl, ints_snoc, hpl, hpl1, hpc]
 ·rw [floop_at i_zz43_B2.eq_1]
  have vl := (hS.app [⟨1, ints (x :: (st.take st.length).map (nbN row))⟩]).vlen
  simp only [List.take_length] at vl ⊢
  simp (disch := first | assumption | omega | (simp [*] <;> omega) | fail) [vl]
end

/- Refining: what is told of a graph's vertices. -/
section
open Go
variable {nro : Nat}
abbrev TD := Int × Int × List Int
structure ET (n : Nat) (cs : List Value) (G : VH) (es : List TD) : Prop where
 len : cs.length = es.length * 3
 at_ : ∀ (i : Nat) (hi : i < es.length), ∃ k, (cs.drop (i * 3)).take 3 = [.int .i64 es[i].1, .int .i64 es[i].2.1, .slice (some ⟨n + k, 0, none⟩) es[i].2.2.length es[i].2.2.length] ∧ G[k]? = some ⟨1, ints es[i].2.2⟩
theorem ET.nil (n : Nat) (G : VH) : ET n [] G [] := ⟨rfl, fun i hi => by simp at hi⟩
theorem ET.more {n : Nat} {cs : List Value} {G : VH} {es : List TD} (e : ET n cs G es) (L : VH) : ET n cs (G ++ L) es := by
 refine ⟨e.len, fun i hi => ?_⟩
 obtain ⟨k, h1, h2⟩ := e.at_ i hi
 exact ⟨k, h1, by rw [List.getElem?_append_left (List.getElem?_eq_some_iff.mp h2).1]; exact h2⟩
theorem ET.push {n : Nat} {cs : List Value} {G : VH} {es : List TD} (e : ET n cs G es) (t : TD) (L : VH) : ET n (cs ++ [.int .i64 t.1, .int .i64 t.2.1, .slice (some ⟨n + G.length, 0, none⟩) t.2.2.length t.2.2.length]) (G ++ ⟨1, ints t.2.2⟩ :: L) (es ++ [t]) := by
 have hl := e.len
 have e2 := e.more (⟨1, ints t.2.2⟩ :: L)
 refine ⟨by simp [hl]; omega, fun i hi => ?_⟩
 by_cases h : i < es.length
 ·obtain ⟨k', h1, h2⟩ := e2.at_ i h
  rw [List.getElem_append_left h]
  refine ⟨k', ?_, h2⟩
  rw [← h1, List.drop_append_of_le_length (by omega), List.take_append_of_le_length (by simp; omega)]
 ·have hi2 : i = es.length := by simp at hi; omega
  subst hi2
  rw [List.getElem_append_right (by omega)]
  simp only [Nat.sub_self, List.getElem_cons_zero]
  refine ⟨G.length, ?_, by simp⟩
  rw [List.drop_append, List.drop_eq_nil_of_le (by omega), hl, Nat.sub_self]
  rfl
theorem ET.cell {n : Nat} {cs : List Value} {G : VH} {es : List TD} (e : ET n cs G es) (i : Nat) (hi : i < es.length) : ∃ k, n + k ∈ orefs ⟨3, cs⟩ ∧ (cs.drop (i * 3)).take 3 = [.int .i64 es[i].1, .int .i64 es[i].2.1, .slice (some ⟨n + k, 0, none⟩) es[i].2.2.length es[i].2.2.length] ∧ G[k]? = some ⟨1, ints es[i].2.2⟩ := by
 obtain ⟨k, h1, h2⟩ := e.at_ i hi
 refine ⟨k, ?_, h1, h2⟩
 unfold orefs
 refine List.mem_flatMap.mpr ⟨.slice (some ⟨n + k, 0, none⟩) es[i].2.2.length es[i].2.2.length, ?_, by simp [crefs, arefs]⟩
 have : Value.slice (some ⟨n + k, 0, none⟩) es[i].2.2.length es[i].2.2.length ∈ (cs.drop (i * 3)).take 3 := by rw [h1]; simp
 exact List.mem_of_mem_drop (List.mem_of_mem_take this)
theorem ET.cleanP {P0 P : VH} {cs0 cs vals : List Value} {G0 G : VH} {es0 es : List TD} (e0 : ET (P.length + 1) cs0 G0 es0) (e : ET (P.length + 1) cs G es) (hP : P0.length = P.length) (hG : G0.length ≤ G.length) (hv : ∀ v ∈ vals, Old (P.length + 1 + G0.length) v) :
  ∃ G1, kclean (P0 ++ ⟨3, cs0⟩ :: G0) vals (P ++ ⟨3, cs⟩ :: G) = (vals, P ++ ⟨3, cs⟩ :: G1) ∧ ET (P.length + 1) cs G1 es ∧ G0.length ≤ G1.length ∧ ∀ k, k < G0.length → G1[k]? = G[k]? := by
 have hlen : (P0 ++ (⟨3, cs0⟩ : VO) :: G0).length = P.length + 1 + G0.length := by simp; omega
 rcases cleanup_old (h0 := P0 ++ ⟨3, cs0⟩ :: G0) (h := P ++ ⟨3, cs⟩ :: G) (vs := vals) (by rw [hlen]; exact hv) with hk | ⟨hok, hk⟩
 ·exact ⟨G, hk, e, hG, fun _ _ => rfl⟩
 ·have e1 : (P ++ (⟨3, cs⟩ : VO) :: G).take (P0 ++ (⟨3, cs0⟩ : VO) :: G0).length = P ++ ⟨3, cs⟩ :: G.take G0.length := by
   rw [hlen, List.take_append, List.take_of_length_le (by omega)]
   rw [show P.length + 1 + G0.length - P.length = G0.length + 1 by omega]
   rfl
  rw [e1] at hk hok
  refine ⟨G.take G0.length, hk, ⟨e.len, fun i hi => ?_⟩, by simp; omega, fun k hk2 => by rw [List.getElem?_take, if_pos hk2]⟩
  obtain ⟨k, hmem, h1, h2⟩ := e.cell i hi
  have hk : k < G0.length := by
   have h3 := hok P.length ⟨3, cs⟩ (by rw [hget0]; rfl)
   rcases h3 with h3 | h3
   ·rw [← hP, hget0] at h3
    simp at h3
    subst h3
    have hl0 := e0.len
    have hl1 := e.len
    obtain ⟨k', _, h4, h5⟩ := e0.cell i (by omega)
    rw [h1] at h4
    simp at h4
    have : k = k' := h4.2.2.1
    subst this
    exact (List.getElem?_eq_some_iff.mp h5).1
   ·have := h3 _ hmem
    rw [hlen] at this
    omega
  exact ⟨k, h1, by rw [List.getElem?_take, if_pos hk]; exact h2⟩
theorem ET.max {n : Nat} {cs : List Value} {G G1 : VH} {es : List TD} (e : ET n cs G es) (h : ∀ k, k < G.length → G1[k]? = G[k]?) : ET n cs G1 es := by
 refine ⟨e.len, fun i hi => ?_⟩
 obtain ⟨k, h1, h2⟩ := e.at_ i hi
 exact ⟨k, h1, by rw [h k (List.getElem?_eq_some_iff.mp h2).1]; exact h2⟩
noncomputable def tdF (gi : Int) (rows cl st : List Int) (n v : Nat) : List TD := if v < n then (gi, (v : Int), cl.getD v 0 :: st.map (nbN (rows.getD v 0))) :: tdF gi rows cl st n (v + 1) else []
 termination_by n - v
theorem tdF_step {gi : Int} {rows cl st : List Int} {n v : Nat} (h : v < n) : tdF gi rows cl st n v = (gi, (v : Int), cl.getD v 0 :: st.map (nbN (rows.getD v 0))) :: tdF gi rows cl st n (v + 1) := by rw [tdF, if_pos h]
theorem tdF_end {gi : Int} {rows cl st : List Int} {n v : Nat} (h : ¬ v < n) : tdF gi rows cl st n v = [] := by rw [tdF, if_neg h]
theorem tdF_len (gi : Int) (rows cl st : List Int) (n v : Nat) : (tdF gi rows cl st n v).length = n - v := by
  by_cases h : v < n
  · rw [tdF_step h, List.length_cons, tdF_len gi rows cl st n (v + 1)]; omega
  · rw [tdF_end h]; simp; omega
 termination_by n - v
end

/- Refining: the numbers of all vertices of a graph. -/
section
open Go
variable {nro : Nat}
theorem l_refine_B3 (P : VH) (hn : nro ≤ P.length) (n kg ks gi : Nat) (r s : Value) (rows cl st : List Int) (hr : Sli P r rows) (hs : Sli P s cl) (R : Rok n rows) (hcl : cl.length = n)
  (hst : ∀ y ∈ st, 0 ≤ y ∧ y < 4611686018427387904) (hst2 : st.length ≤ 1000) (v0 v2 v23 v24 v25 : Value) (o0 : Old P.length v0) (o2 : Old P.length v2) (o23 : Old P.length v23) (o24 : Old P.length v24) (o25 : Old P.length v25)
  (cs0 : List Value) (G0 : VH) (es0 : List TD) (e0 : ET (P.length + 1) cs0 G0 es0) (kg0 : kg < G0.length) (ks0 : ks < G0.length) (k : Nat) : ∀ (v : Nat) (cs : List Value) (G : VH) (es : List TD), k = n - v → v ≤ n → ET (P.length + 1) cs G es → G0.length ≤ G.length → G[kg]? = some ⟨0, [.int .i64 n, r]⟩ → G[ks]? = some ⟨1, ints st⟩ → es.length + (n - v) ≤ 1000 →
  ∃ cs' G', floop (vcall F nro) nro [0, 2, 3, 4, 5, 6, 23, 24, 25, 60, 61, 62] i_zz43_B3 (P ++ ⟨3, cs0⟩ :: G0)
   [v0, v2, .slice (some ⟨P.length, 0, none⟩) es.length cs.length, .int .i64 gi, .pointer (some ⟨P.length + 1 + kg, 0, some 2⟩), .slice (some ⟨P.length + 1 + ks, 0, none⟩) st.length st.length, v23, v24, v25, s, .int .i64 n, .int .i64 v] (P ++ ⟨3, cs⟩ :: G) =
   some (.exit 6, fl [(0, v0), (2, v2), (3, .slice (some ⟨P.length, 0, none⟩) (es ++ tdF gi rows cl st n v).length cs'.length), (23, v23), (24, v24), (25, v25)], P ++ ⟨3, cs'⟩ :: G') ∧ ET (P.length + 1) cs' G' (es ++ tdF gi rows cl st n v) ∧ G0.length ≤ G'.length := by
 induction k with
 | zero =>
  intro v cs G es hk hv e hG hg hks hle
  have h1 : ¬ v < n := by omega
  have h2 : ¬ (v : Int) < n := by omega
  rw [tdF_end h1, List.append_nil]
  refine ⟨cs, G, ?_, e, hG⟩
  rw [floop_at i_zz43_B3.eq_1]
  have vl := (hs.app (⟨3, cs⟩ :: G)).vlen
  simp (disch := first | assumption | omega | (simp [*] <;> omega) | fail) [vl, h2]
 | succ k ih =>
  intro v cs G es hk hv e hG hg hks hle
  have hlt : v < n := by omega
  have hlt' : (v : Int) < n := by omega
  have hRl := R.len
  have hRle := R.le
  have hcv : v < cl.length := by omega
  have hrv : v < rows.length := by omega
  have hrow := R.row v hlt
  have g1 : rows.getD v 0 = rows[v] := by simp [List.getD_eq_getElem?_getD, hrv]
  have g2 : cl.getD v 0 = cl[v] := by simp [List.getD_eq_getElem?_getD, hcv]
  obtain ⟨nums, hnums⟩ : ∃ nums, nums = cl.getD v 0 :: st.map (nbN (rows.getD v 0)) := ⟨_, rfl⟩
  have hnl : nums.length = st.length + 1 := by rw [hnums]; simp
  obtain ⟨H, hH⟩ : ∃ H, H = P ++ ⟨3, cs⟩ :: G := ⟨_, rfl⟩
  have hHl : H.length = P.length + 1 + G.length := by rw [hH]; simp; omega
  have hPH : P.length < H.length := by omega
  have q1 : H[P.length]? = some ⟨3, cs⟩ := by rw [hH, hget0]; rfl
  have q2 : H[P.length + 1 + kg]? = some ⟨0, [.int .i64 n, r]⟩ := by rw [hH, Nat.add_assoc, hgetk, Nat.add_comm 1 kg, List.getElem?_cons_succ]; exact hg
  have q3 : H[P.length + 1 + ks]? = some ⟨1, ints st⟩ := by rw [hH, Nat.add_assoc, hgetk, Nat.add_comm 1 ks, List.getElem?_cons_succ]; exact hks
  have hsH : Sli H s cl := by rw [hH]; exact hs.app _
  have hrH : Sli H r rows := by rw [hH]; exact hr.app _
  have old : ∀ {v : Value}, Old P.length v → Old (H.length + 1) v := fun ho r hr => by
   have := ho r hr
   omega
  have b2 := l_refine_B2 (nro := nro) H (P.length + 1 + kg) n r (.slice (some ⟨P.length + 1 + ks, 0, none⟩) st.length st.length) rows st v cl[v] q2 hrH (sli_at q3) hrv (by
    have hp : 2 ^ n ≤ 2 ^ 62 := Nat.pow_le_pow_right (by omega) hRle
    rw [← g1]; omega) hst hst2 (by omega) v0 v2 (.slice (some ⟨P.length, 0, none⟩) es.length cs.length) (.int .i64 gi) v23 v24 v25 s (.int .i64 n) (.int .i64 v) (old o0) (old o2) (by intro r hr; simp [trefs, vrefs, crefs, arefs] at hr; omega) (by simp) (old o23) (old o24) (old o25) (old hs.old) (by simp) (by simp)
  rw [← g1, ← g2, ← hnums] at b2
  obtain ⟨t, ht⟩ : ∃ t : TD, t = ((gi : Int), (v : Int), nums) := ⟨_, rfl⟩
  have e' := e.push t [⟨3, [.int .i64 gi, .int .i64 v, .slice (some ⟨H.length, 0, none⟩) nums.length nums.length]⟩]
  rw [ht] at e'
  simp only [← hHl] at e'
  obtain ⟨G1, k1, k2, k3, k4⟩ := ET.cleanP (P0 := P) (vals := [v0, v2, .slice (some ⟨P.length, 0, none⟩) (es.length + 1) (cs.length + 3), .int .i64 gi, .pointer (some ⟨P.length + 1 + kg, 0, some 2⟩), .slice (some ⟨P.length + 1 + ks, 0, none⟩) st.length st.length, v23, v24, v25, s, .int .i64 n, .int .i64 ((v : Int) + 1)]) e0 e' rfl (by simp; omega) (by
   have oL : ∀ {v : Value}, Old P.length v → Old (P.length + 1 + G0.length) v := fun ho r hr => by
    have := ho r hr
    omega
   intro w hw
   simp only [List.mem_cons, List.not_mem_nil, or_false] at hw
   rcases hw with rfl | rfl | rfl | rfl | rfl | rfl | rfl | rfl | rfl | rfl | rfl | rfl
   ·exact oL o0
   ·exact oL o2
   ·intro r hr; simp [trefs, vrefs, crefs, arefs] at hr; omega
   ·simp
   ·intro r hr; simp [trefs, vrefs, crefs, arefs] at hr; omega
   ·intro r hr; simp [trefs, vrefs, crefs, arefs] at hr; omega
   ·exact oL o23
   ·exact oL o24
   ·exact oL o25
   ·exact oL hs.old
   ·simp
   ·simp)
  have hkg : kg < G.length := by omega
  have hks' : ks < G.length := by omega
  obtain ⟨cs', G', j1, j2, j3⟩ := ih (v + 1) _ G1 _ (by omega) (by omega) k2 k3 (by rw [k4 kg kg0, List.getElem?_append_left hkg]; exact hg) (by rw [k4 ks ks0, List.getElem?_append_left hks']; exact hks) (by simp; omega)
  refine ⟨cs', G', ?_, by rw [tdF_step hlt, ← hnums]; simpa using j2, j3⟩
  rw [tdF_step hlt, ← hnums]
  simp only [List.append_assoc, List.singleton_append] at j1
  obtain ⟨LT, hLT⟩ : ∃ q, q = (es ++ ((gi : Int), (v : Int), nums) :: tdF gi rows cl st n (v + 1)).length := ⟨_, rfl⟩
  rw [← hLT] at j1 ⊢
  have hset : (H ++ ([⟨1, ints nums⟩, ⟨3, [.int .i64 gi, .int .i64 v, .slice (some ⟨H.length, 0, none⟩) nums.length nums.length]⟩] : VH)).set P.length ⟨3, cs ++ [.int .i64 gi, .int .i64 v, .slice (some ⟨H.length, 0, none⟩) nums.length nums.length]⟩ =
    P ++ ⟨3, cs ++ [.int .i64 gi, .int .i64 v, .slice (some ⟨H.length, 0, none⟩) nums.length nums.length]⟩ :: (G ++ [⟨1, ints nums⟩, ⟨3, [.int .i64 gi, .int .i64 v, .slice (some ⟨H.length, 0, none⟩) nums.length nums.length]⟩]) := by
   rw [hH]
   simp
  have vx := hsH.vidx (k := .i64) (j := (v : Int)) (by omega) (by omega)
  have vd := hsH.vload hcv
  rw [← g2] at vd
  obtain ⟨c0, hc0⟩ : ∃ c0, c0 = cl.getD v 0 := ⟨_, rfl⟩
  rw [← hc0] at vd b2
  have vlS := ((sli_at q3).app [⟨1, [.int .i64 c0]⟩]).vlen
  have w1 : IntKind.i64.wrap ((v : Int) + 1) = (v : Int) + 1 := wrap64 (by omega) (by omega)
  have hlen : cs.length = es.length * 3 := e.len
  have q4 : (H ++ ([⟨1, ints nums⟩, ⟨3, [.int .i64 gi, .int .i64 v, .slice (some ⟨H.length, 0, none⟩) nums.length nums.length]⟩] : VH))[P.length]? = some ⟨3, cs⟩ := by rw [List.getElem?_append_left hPH]; exact q1
  have b3 : (es.length + 1) * 40 ≤ 1099511627776 := by omega
  have b4 : es.length + 1 ≤ 1099511627776 := by omega
  simp only [ints_cons, ints_nil, ← hnl] at b2
  simp only [List.length_append, List.length_cons, List.length_nil, Nat.zero_add] at j1
  clear ih e' k2 k3 k4 e e0 hg hks j2 j3 hs hr hst hnums hsH hrH q1 q2 q3 ht hLT g1 g2 hc0 hrow hRl
  rw [← hH]
  rw [floop_at i_zz43_B3.eq_1]
  simp (disch := first | assumption | omega | (simp [*] <;> omega) | fail) [-getElem?_pos, List.getElem?_cons_zero, List.getElem?_cons_succ, hlt', vx, vd, vlS, b2, q4, hn, hset, k1, w1, j1, b3, b4]
  refine ⟨hlen.symm, ?_⟩
  simpa using j1
end

/- Refining: the numbers of all vertices of all graphs. -/
section
open Go
theorem Sl.nj {h : VH} {v : Value} {cs : List Value} (hs : Sl h v cs) : isJunk v = false := by
 rcases hs.inv with ⟨rfl, _⟩ | ⟨rfl, _⟩ | ⟨a, n, tot, o, rfl, _⟩ <;> rfl
theorem stF_ok (cl : List Int) (m n : Nat) (hn : n ≤ 62) (hcl : ∀ x ∈ cl, 0 ≤ x ∧ x < m) : ∀ y ∈ stF cl m n, 0 ≤ y ∧ y < 4611686018427387904 := by
 refine upF_inv (I := fun _ st => ∀ y ∈ st, 0 ≤ y ∧ y < 4611686018427387904) (n := n) (fun v st hv I => ?_) 0 _ (by omega) ?_
 ·intro y hy
  unfold set1 at hy
  rcases List.mem_or_eq_of_mem_set hy with h | h
  ·exact I y h
  ·subst h
   have hx : 0 ≤ st.getD (cl.getD v 0).toNat 0 ∧ st.getD (cl.getD v 0).toNat 0 < 4611686018427387904 := by
    by_cases h : (cl.getD v 0).toNat < st.length
    ·have e : st.getD (cl.getD v 0).toNat 0 = st[(cl.getD v 0).toNat] := by rw [List.getD_eq_getElem?_getD, List.getElem?_eq_getElem h]; rfl
     rw [e]
     exact I _ (List.getElem_mem h)
    ·have e : st.getD (cl.getD v 0).toNat 0 = 0 := by rw [List.getD_eq_getElem?_getD, List.getElem?_eq_none (by omega)]; rfl
     rw [e]; omega
   have := setbit (b := (v : Int)) hx.1 hx.2 (by omega) (by omega)
   exact ⟨this.1, this.2.1⟩
 ·intro y hy
  rw [List.mem_replicate] at hy
  omega
noncomputable def tdsF (rows c : Nat → List Int) (m n K i : Nat) : List TD := if i < K then tdF i (rows i) (c i) (stF (c i) m n) n 0 ++ tdsF rows c m n K (i + 1) else []
 termination_by K - i
theorem tdsF_step {rows c : Nat → List Int} {m n K i : Nat} (h : i < K) : tdsF rows c m n K i = tdF i (rows i) (c i) (stF (c i) m n) n 0 ++ tdsF rows c m n K (i + 1) := by rw [tdsF, if_pos h]
theorem tdsF_end {rows c : Nat → List Int} {m n K i : Nat} (h : ¬ i < K) : tdsF rows c m n K i = [] := by rw [tdsF, if_neg h]
theorem tdsF_len (rows c : Nat → List Int) (m n K i : Nat) : (tdsF rows c m n K i).length = (K - i) * n := by
  by_cases h : i < K
  · rw [tdsF_step h, List.length_append, tdF_len, tdsF_len rows c m n K (i + 1)]
    have e : K - i = (K - (i + 1)) + 1 := by omega
    rw [e, Nat.succ_mul]
    omega
  · rw [tdsF_end h, show K - i = 0 by omega]; simp
 termination_by K - i
section
variable {nro K n a bg bc : Nat} {q : Nat → Nat} {rs : Nat → Value} {rows : Nat → List Int} {gcs : List Value} {Hc : (Nat → List Int) → VH} (E : RG nro K n a bg bc q rs rows gcs Hc)
include E
theorem l_refine_B4 (c : Nat → List Int) (C : CL K n c) (m : Nat) (hm : m = manyN K c) (k : Nat) : ∀ (i : Nat) (cs : List Value) (G : VH) (es : List TD), k = K - i → i ≤ K → ET ((Hc c).length + 1) cs G es → es.length = i * n →
  ∃ cs' G', floop (vcall F nro) nro [0, 2, 3, 23, 24, 25] i_zz43_B4 (Hc c ++ [⟨3, []⟩])
   [.pointer (some ⟨a, 0, some 2⟩), .int .i64 m, .slice (some ⟨(Hc c).length, 0, none⟩) es.length cs.length, .slice (some ⟨bg, 0, none⟩) K (2 * K), .int .i64 K, .int .i64 i] (Hc c ++ ⟨3, cs⟩ :: G) =
   some (.exit 2, fl [(0, .pointer (some ⟨a, 0, some 2⟩)), (2, .int .i64 m), (3, .slice (some ⟨(Hc c).length, 0, none⟩) (es ++ tdsF rows c m n K i).length cs'.length)], Hc c ++ ⟨3, cs'⟩ :: G') ∧ ET ((Hc c).length + 1) cs' G' (es ++ tdsF rows c m n K i) := by
 have hax := E.lax c
 have hbc := E.lbc c
 have hbg := E.lbg c
 have hK := E.K2
 have hn1 := E.n1
 induction k with
 | zero =>
  intro i cs G es hk hi e hes
  have h1 : ¬ i < K := by omega
  have h2 : ¬ (i : Int) < K := by omega
  rw [tdsF_end h1, List.append_nil]
  refine ⟨cs, G, ?_, e⟩
  have q2 := E.lt c (E.ag c) (⟨3, cs⟩ :: G)
  have hgl := E.gl
  rw [floop_at i_zz43_B4.eq_1]
  obtain ⟨H, hH⟩ : ∃ H, H = Hc c ++ ⟨3, cs⟩ :: G := ⟨_, rfl⟩
  rw [← hH] at q2 ⊢
  clear hH
  simp (disch := first | assumption | omega | (simp [*] <;> omega) | fail) [-getElem?_pos, List.getElem?_cons_zero, List.getElem?_cons_succ, q2, h2, hgl]
 | succ k ih =>
  intro i cs G es hk hi e hes
  have hlt : i < K := by omega
  have hlt' : (i : Int) < K := by omega
  have R := E.rok i hlt
  have hRle := R.le
  have hcl := C.len i hlt
  have hml := C.many hn1
  have hmm := fun x hx => C.lt hn1 i hlt x hx
  rw [← hm] at hml hmm
  have hst := stF_ok (c i) m n hRle hmm
  have hn := E.nr c
  obtain ⟨H, hH⟩ : ∃ H, H = Hc c ++ ⟨3, cs⟩ :: G := ⟨_, rfl⟩
  have hHl : H.length = (Hc c).length + 1 + G.length := by rw [hH]; simp; omega
  have b1 := l_refine_B1 (nro := nro) (H ++ [⟨0, [.int .i64 n, rs i]⟩]) (.slice (some ⟨q i, 0, none⟩) n n) (c i) n m (by
   have h1 := E.lt c (E.aq c i hlt) (⟨3, cs⟩ :: G ++ [⟨0, [.int .i64 n, rs i]⟩])
   have := sli_at h1
   rw [hcl] at this
   rw [hH]
   simpa using this) hcl hRle hmm hml (by rw [List.length_append, hHl]; omega)
   (.pointer (some ⟨a, 0, some 2⟩)) (.int .i64 m) (.slice (some ⟨(Hc c).length, 0, none⟩) es.length cs.length) (.int .i64 i) (.pointer (some ⟨H.length, 0, some 2⟩)) (.slice (some ⟨bg, 0, none⟩) K (2 * K)) (.int .i64 K) (.int .i64 i)
   (by intro r hr; simp [trefs, vrefs, crefs, arefs] at hr; simp; omega) (by simp) (by intro r hr; simp [trefs, vrefs, crefs, arefs] at hr; simp; omega) (by simp) (by intro r hr; simp [trefs, vrefs, crefs, arefs] at hr; simp; omega) (by intro r hr; simp [trefs, vrefs, crefs, arefs] at hr; simp; omega) (by simp) (by simp)
  obtain ⟨b1, stl⟩ := b1
  obtain ⟨st, hstd⟩ : ∃ st, st = stF (c i) m n := ⟨_, rfl⟩
  rw [← hstd] at hst b1 stl
  have eG : ET ((Hc c).length + 1) cs (G ++ [⟨0, [.int .i64 n, rs i]⟩, ⟨1, ints st⟩]) es := e.more _
  obtain ⟨cs1, G1, f1, f2, f3⟩ := l_refine_B3 (nro := nro) (Hc c) (E.nr c) n G.length (G.length + 1) i (rs i) (.slice (some ⟨q i, 0, none⟩) n n) (rows i) (c i) st (E.rr c i hlt) (by
   have := sli_at (E.aq c i hlt)
   rwa [hcl] at this) R hcl hst (by omega) (.pointer (some ⟨a, 0, some 2⟩)) (.int .i64 m) (.slice (some ⟨bg, 0, none⟩) K (2 * K)) (.int .i64 K) (.int .i64 i)
   (by intro r hr; simp [trefs, vrefs, crefs, arefs] at hr; omega) (by simp) (by intro r hr; simp [trefs, vrefs, crefs, arefs] at hr; omega) (by simp) (by simp) cs _ es eG (by simp) (by simp) n 0 cs _ es (by omega) (by omega) eG (Nat.le_refl _) (by simp) (by simp) (by
    have := Nat.mul_le_mul_right n (by omega : i ≤ 2)
    omega)
  rw [hstd] at f1 f2
  have hfl : (es ++ tdF i (rows i) (c i) (stF (c i) m n) n 0).length = (i + 1) * n := by
   rw [List.length_append, tdF_len, hes, Nat.succ_mul]; omega
  rw [← hstd] at f1 f2 hfl
  obtain ⟨G2, k1, k2, k3, k4⟩ := ET.cleanP (P0 := Hc c) (vals := [.pointer (some ⟨a, 0, some 2⟩), .int .i64 m, .slice (some ⟨(Hc c).length, 0, none⟩) ((i + 1) * n) cs1.length, .slice (some ⟨bg, 0, none⟩) K (2 * K), .int .i64 K, .int .i64 ((i : Int) + 1)]) (ET.nil _ []) f2 rfl (by simp) (by
   intro w hw
   simp only [List.mem_cons, List.not_mem_nil, or_false] at hw
   rcases hw with rfl | rfl | rfl | rfl | rfl | rfl <;> intro r hr <;> simp [trefs, vrefs, crefs, arefs] at hr <;> simp <;> omega)
  obtain ⟨cs', G', j1, j2⟩ := ih (i + 1) _ G2 _ (by omega) (by omega) k2 hfl
  rw [tdsF_step hlt, ← hstd]
  refine ⟨cs', G', ?_, by simpa using j2⟩
  rw [hfl] at f1 j1
  simp only [List.append_assoc] at j1
  have q0 := E.lt c (E.ax c) (⟨3, cs⟩ :: G)
  have q1 := E.lt c (E.ag c) (⟨3, cs⟩ :: G)
  have q2 := E.lt c (E.ac c) (⟨3, cs⟩ :: G)
  have q3 := E.lt c (E.aq c i hlt) (⟨3, cs⟩ :: G)
  have hq := E.lq c hlt
  have g1 := E.gcell i hlt
  have g2 := E.ccell i hlt
  have hgl := E.gl
  have eH : ∀ L : VH, Hc c ++ ⟨3, cs⟩ :: (G ++ L) = H ++ L := fun L => by rw [hH]; simp
  have l1 : (Hc c).length + 1 + (G.length + 1) = H.length + 1 := by omega
  rw [eH, ← hHl, l1] at f1
  have c2 := (E.gl)
  have w1 : IntKind.i64.wrap ((i : Int) + 1) = (i : Int) + 1 := wrap64 (by omega) (by omega)
  have hnH : nro ≤ H.length := by omega
  have l2 : i * 2 + 2 ≤ 2 * K := by omega
  have lK : q i < H.length := by omega
  have la : a < H.length := by omega
  have lb : bc < H.length := by omega
  rw [← hH] at q0 q1 q2 q3 ⊢
  simp only [List.append_assoc, List.cons_append, List.nil_append, List.length_append, List.length_cons, List.length_nil, Nat.zero_add] at b1
  rw [stl] at f1
  simp only [Int.natCast_zero] at f1
  simp only [List.length_append] at j1
  have p0 : ∀ L : VH, (H ++ L)[a]? = _ := fun L => (List.getElem?_append_left la).trans q0
  have p2 : ∀ L : VH, (H ++ L)[bc]? = _ := fun L => (List.getElem?_append_left lb).trans q2
  have p3 : ∀ L : VH, (H ++ L)[q i]? = _ := fun L => (List.getElem?_append_left lK).trans q3
  have b4 : 8 * (m : Int) ≤ 140737488355328 := by omega
  have b5 : (m : Int) ≤ 140737488355328 := by omega
  have hj := Sl.nj (E.rr c i hlt)
  unfold isJunk at hj
  clear ih e hes hH eG f2 f3 k2 k3 k4 j2 hmm hst hm hstd hfl hHl l1 C R
  rw [floop_at i_zz43_B4.eq_1]
  simp (disch := first | assumption | omega | (simp [*] <;> omega) | fail) [-getElem?_pos, List.getElem?_cons_zero, List.getElem?_cons_succ, hlt', hlt, q0, q1, q2, q3, g1, g2, hgl, l2, b1, f1, k1, w1, j1, p0, p2, p3, hcl, hnH, lK, la, lb, b4, b5, hj]
  simpa using j1
end
end

/- Lists that are told by functions; sums. -/
section
open Go
def tbl (n : Nat) (g : Nat → Int) : List Int := (List.range n).map g
def upd (g : Nat → Int) (u : Nat) (x : Int) : Nat → Int := fun j => if j = u then x else g j
@[simp] theorem tbl_length (n : Nat) (g : Nat → Int) : (tbl n g).length = n := by simp [tbl]
def sumF (f : Nat → Int) : Nat → Int
 | 0 => 0
 | k + 1 => sumF f k + f k
theorem sumF_congr {f g : Nat → Int} : ∀ {n : Nat}, (∀ i, i < n → f i = g i) → sumF f n = sumF g n
 | 0, _ => rfl
 | n + 1, h => by rw [sumF, sumF, sumF_congr (fun i hi => h i (by omega)), h n (by omega)]
theorem sumF_nonneg {f : Nat → Int} : ∀ {n : Nat}, (∀ i, i < n → 0 ≤ f i) → 0 ≤ sumF f n
 | 0, _ => Int.le_refl _
 | n + 1, h => by
  have h1 := sumF_nonneg (f := f) (n := n) (fun i hi => h i (by omega))
  have h2 := h n (by omega)
  rw [sumF]; omega
theorem sumF_add (f g : Nat → Int) : ∀ n, sumF (fun i => f i + g i) n = sumF f n + sumF g n
 | 0 => rfl
 | n + 1 => by rw [sumF, sumF, sumF, sumF_add f g n]; omega
theorem sumF_zero : ∀ n, sumF (fun _ => 0) n = 0
 | 0 => rfl
 | n + 1 => by rw [sumF, sumF_zero n]; rfl
theorem sumF_mul (c : Int) (f : Nat → Int) : ∀ n, sumF (fun i => c * f i) n = c * sumF f n
 | 0 => by simp [sumF]
 | n + 1 => by rw [sumF, sumF, sumF_mul c f n, Int.mul_add]
theorem sumF_swap (f : Nat → Nat → Int) (m : Nat) : ∀ n, sumF (fun i => sumF (f i) m) n = sumF (fun j => sumF (fun i => f i j) n) m
 | 0 => by simp only [sumF]; exact (sumF_zero m).symm
 | n + 1 => by
  rw [sumF, sumF_swap f m n, ← sumF_add]
  exact sumF_congr fun j _ => rfl
theorem sumF_one {f : Nat → Int} {k : Nat} : ∀ {n : Nat}, k < n → (∀ i, i < n → i ≠ k → f i = 0) → sumF f n = f k
 | 0, h, _ => by omega
 | n + 1, h, h0 => by
  rw [sumF]
  by_cases e : k = n
  ·subst e
   have : sumF f k = sumF (fun _ => 0) k := sumF_congr fun i hi => h0 i (by omega) (by omega)
   rw [this, sumF_zero]; omega
  ·rw [sumF_one (k := k) (n := n) (by omega) (fun i hi hne => h0 i (by omega) hne), h0 n (by omega) (fun e2 => e e2.symm)]; omega
theorem sumF_le {f g : Nat → Int} : ∀ {n : Nat}, (∀ i, i < n → f i ≤ g i) → sumF f n ≤ sumF g n
 | 0, _ => Int.le_refl _
 | n + 1, h => by
  have h1 := sumF_le (f := f) (g := g) (n := n) (fun i hi => h i (by omega))
  have h2 := h n (by omega)
  rw [sumF, sumF]; omega
end

/- The reference's search for distances: a queue. -/
section
open Go
variable {nro : Nat}
def b0 (v : Nat) : (Nat → Int) × List Int := (upd (fun _ => -1) v 0, [(v : Int)])
end

/- Shortest ways are counted: by layers, and by walks. -/
section
open Go
variable {nro : Nat}
theorem w_eq (n : Int) : IntKind.i64.wrap n = (n + 9223372036854775808) % 18446744073709551616 - 9223372036854775808 := IntKind.wrap_i64 n
end

/- The sums of powers, and the girth bound. -/
section
open Go
variable {nro : Nat}
def pw (q : Int) : Nat → Int
 | 0 => 1
 | i + 1 => min (pw q i * q) 1000000000001
def pS (q : Int) : Nat → Int
 | 0 => 0
 | i + 1 => min (pS q i + pw q i) 1000000000001
def gB (k : Int) (c : Nat) : Int := if c % 2 = 1 then 1 + k * pS (k - 1) ((c - 1) / 2) else 2 * pS (k - 1) (c / 2)
end

/- A regular graph without short cycles has many vertices. -/
section
open Go
open Classical
noncomputable def oneIf (p : Prop) : Int := if p then 1 else 0
theorem one_nonneg (p : Prop) : 0 ≤ oneIf p := by unfold oneIf; split <;> omega
theorem one_pos {p : Prop} (h : p) : oneIf p = 1 := if_pos h
theorem one_neg {p : Prop} (h : ¬ p) : oneIf p = 0 := if_neg h
theorem one_le (p : Prop) : oneIf p ≤ 1 := by unfold oneIf; split <;> omega
theorem sumF_most {P : Nat → Prop} : ∀ {n : Nat}, (∀ i j, i < n → j < n → P i → P j → i = j) → sumF (fun i => oneIf (P i)) n ≤ 1
 | 0, _ => by simp [sumF]
 | n + 1, h => by
  rw [sumF]
  by_cases hp : P n
  ·have : sumF (fun i => oneIf (P i)) n = sumF (fun _ => 0) n := sumF_congr fun i hi => one_neg fun hi2 => by
    have := h i n (by omega) (by omega) hi2 hp
    omega
   rw [this, sumF_zero]
   have := one_le (P n)
   omega
  ·rw [one_neg hp]
   have := sumF_most (P := P) (n := n) fun i j hi hj => h i j (by omega) (by omega)
   omega
theorem sumF_front (f : Nat → Int) : ∀ n, sumF f (n + 1) = f 0 + sumF (fun i => f (i + 1)) n
 | 0 => by simp [sumF]
 | n + 1 => by rw [sumF, sumF_front f n, sumF]; omega
theorem pc_sum : ∀ (n x : Nat), x < 2 ^ n → (pc x : Int) = sumF (fun i => oneIf (x.testBit i = true)) n
 | 0, x, h => by
  have : x = 0 := by omega
  subst this
  simp [sumF, pc_zero]
 | n + 1, x, h => by
  rw [sumF_front, pc_step]
  have h2 := pc_sum n (x / 2) (by rw [Nat.pow_succ] at h; omega)
  have e : sumF (fun i => oneIf (x.testBit (i + 1) = true)) n = sumF (fun i => oneIf ((x / 2).testBit i = true)) n := sumF_congr fun i _ => by rw [Nat.testBit_succ]
  rw [e, ← h2]
  have h3 : oneIf (x.testBit 0 = true) = ((x % 2 : Nat) : Int) := by
   rw [Nat.testBit_zero]
   rcases Nat.mod_two_eq_zero_or_one x with h | h <;> rw [h] <;> simp [oneIf]
  rw [h3]; omega
end

/- Refining, in plain terms: how many neighbours have each colour. -/
section
open Go
open Classical in
noncomputable def cntC (rows cl : List Int) (n v : Nat) (x : Int) : Int := sumF (fun w => oneIf (rbit rows v w = true ∧ cl.getD w 0 = x)) n
theorem stF_bit (cl : List Int) (m n : Nat) (hn : n ≤ 62) (hl : cl.length = n) (hcl : ∀ x ∈ cl, 0 ≤ x ∧ x < m) : (stF cl m n).length = m ∧ ∀ x, x < m → ∀ w, ((stF cl m n).getD x 0).toNat.testBit w = true ↔ w < n ∧ cl.getD w 0 = x := by
 have := upF_inv (n := n) (f := fun v st => set1 st (cl.getD v 0) v) (I := fun k st => st.length = m ∧ (∀ x, x < m → 0 ≤ st.getD x 0 ∧ st.getD x 0 < 4611686018427387904 ∧ ∀ w : Nat, (st.getD x 0).toNat.testBit w = true ↔ w < k ∧ cl.getD w 0 = x)) (fun k st hk I => ?_) 0 (List.replicate m 0) (by omega) ⟨by simp, fun x hx => ?_⟩
 ·exact ⟨this.1, fun x hx => (this.2 x hx).2.2⟩
 ·obtain ⟨i1, i2⟩ := I
  have hc : cl.getD k 0 ∈ cl := by
   rw [List.getD_eq_getElem?_getD, List.getElem?_eq_getElem (by omega)]
   exact List.getElem_mem _
  obtain ⟨c1, c2⟩ := hcl _ hc
  refine ⟨by simpa using i1, fun x hx => ?_⟩
  have hlt : (cl.getD k 0).toNat < st.length := by omega
  obtain ⟨j1, j2, j3⟩ := i2 (cl.getD k 0).toNat (by omega)
  have sb := setbit (b := (k : Int)) j1 j2 (by omega) (by omega)
  unfold set1
  by_cases e : x = (cl.getD k 0).toNat
  ·have e1 : (st.set (cl.getD k 0).toNat (ior .i64 (st.getD (cl.getD k 0).toNat 0) (ishl .i64 1 k))).getD x 0 = ior .i64 (st.getD (cl.getD k 0).toNat 0) (ishl .i64 1 k) := by
    rw [e, List.getD_eq_getElem?_getD, List.getElem?_set_self hlt]; rfl
   rw [e1]
   refine ⟨sb.1, sb.2.1, fun w => ?_⟩
   rw [sb.2.2 w, j3 w, Int.toNat_natCast]
   constructor
   ·rintro (⟨h1, h2⟩ | h1)
    ·exact ⟨by omega, by omega⟩
    ·subst h1; exact ⟨by omega, by omega⟩
   ·rintro ⟨h1, h2⟩
    by_cases h3 : w = k
    ·exact .inr h3
    ·exact .inl ⟨by omega, by omega⟩
  ·have e1 : (st.set (cl.getD k 0).toNat (ior .i64 (st.getD (cl.getD k 0).toNat 0) (ishl .i64 1 k))).getD x 0 = st.getD x 0 := by
    rw [List.getD_eq_getElem?_getD, List.getElem?_set_ne (fun h => e h.symm), ← List.getD_eq_getElem?_getD]
   rw [e1]
   obtain ⟨k1, k2, k3⟩ := i2 x hx
   refine ⟨k1, k2, fun w => ?_⟩
   rw [k3 w]
   constructor
   ·rintro ⟨h1, h2⟩; exact ⟨by omega, h2⟩
   ·rintro ⟨h1, h2⟩
    refine ⟨?_, h2⟩
    have : w ≠ k := fun h3 => by
     subst h3
     omega
    omega
 ·have e : (List.replicate m (0 : Int)).getD x 0 = 0 := by simp [List.getD_eq_getElem?_getD, hx]
  rw [e]
  refine ⟨by omega, by omega, fun w => ?_⟩
  simp
theorem stF_map (rows cl : List Int) (m n v : Nat) (R : Rok n rows) (hv : v < n) (hl : cl.length = n) (hcl : ∀ x ∈ cl, 0 ≤ x ∧ x < m) :
  (stF cl m n).map (nbN (rows.getD v 0)) = (List.range m).map fun x : Nat => cntC rows cl n v x := by
 obtain ⟨h1, h2⟩ := stF_bit cl m n R.le hl hcl
 have h3 := stF_ok cl m n R.le hcl
 obtain ⟨r1, r2⟩ := R.row v hv
 apply List.ext_getElem (by simp [h1])
 intro x p1 p2
 simp only [List.getElem_map, List.getElem_range]
 have hx : x < m := by simpa using p2
 have p3 : x < (stF cl m n).length := by omega
 have h4 := h3 _ (List.getElem_mem p3)
 have h5 := h2 x hx
 have e1 : (stF cl m n).getD x 0 = (stF cl m n)[x] := by rw [List.getD_eq_getElem?_getD, List.getElem?_eq_getElem p3]; rfl
 rw [e1] at h5
 obtain ⟨s, hs⟩ : ∃ s : Nat, (stF cl m n)[x] = s := ⟨(stF cl m n)[x].toNat, by omega⟩
 obtain ⟨r, hr⟩ : ∃ r : Nat, rows.getD v 0 = r := ⟨(rows.getD v 0).toNat, by omega⟩
 have hp : 2 ^ n ≤ 2 ^ 62 := Nat.pow_le_pow_right (by omega) R.le
 rw [hs] at h4 h5 ⊢
 rw [hr] at r2 ⊢
 simp only [Int.toNat_natCast] at r2 h5
 unfold nbN cntC
 rw [iand_nat (by omega) (by omega), Int.toNat_natCast, pc_sum n (r &&& s) (Nat.lt_of_le_of_lt Nat.and_le_left r2)]
 refine sumF_congr fun w hw => ?_
 have e2 : (r &&& s).testBit w = true ↔ rbit rows v w = true ∧ cl.getD w 0 = (x : Int) := by
  rw [Nat.testBit_and, Bool.and_eq_true, h5 w]
  unfold rbit
  rw [hr, Int.toNat_natCast]
  constructor
  ·rintro ⟨a, _, b⟩; exact ⟨a, b⟩
  ·rintro ⟨a, b⟩; exact ⟨a, hw, b⟩
 simp only [e2]
noncomputable def nuC (rows cl : List Int) (m n v : Nat) : List Int := cl.getD v 0 :: (List.range m).map fun x : Nat => cntC rows cl n v x
theorem tdF_mem {gi : Int} {rows cl : List Int} {m n : Nat} (R : Rok n rows) (hl : cl.length = n) (hcl : ∀ x ∈ cl, 0 ≤ x ∧ x < m) (v : Nat) : ∀ t, t ∈ tdF gi rows cl (stF cl m n) n v ↔ ∃ w, v ≤ w ∧ w < n ∧ t = (gi, (w : Int), nuC rows cl m n w) := by
  intro t
  by_cases h : v < n
  · rw [tdF_step h, List.mem_cons, tdF_mem R hl hcl (v + 1), stF_map rows cl m n v R h hl hcl]
    constructor
    · rintro (h1 | ⟨w, h1, h2, h3⟩)
      · exact ⟨v, by omega, h, h1⟩
      · exact ⟨w, by omega, h2, h3⟩
    · rintro ⟨w, h1, h2, h3⟩
      by_cases e : w = v
      · subst e; exact .inl h3
      · exact .inr ⟨w, by omega, h2, h3⟩
  · rw [tdF_end h]
    simp
    intro w h1 h2
    omega
 termination_by n - v
theorem tdsF_mem {rows c : Nat → List Int} {m n K : Nat} (R : ∀ i, i < K → Rok n (rows i)) (hl : ∀ i, i < K → (c i).length = n) (hcl : ∀ i, i < K → ∀ x ∈ c i, 0 ≤ x ∧ x < m) (i : Nat) : ∀ t, t ∈ tdsF rows c m n K i ↔ ∃ j w : Nat, i ≤ j ∧ j < K ∧ w < n ∧ t = ((j : Int), (w : Int), nuC (rows j) (c j) m n w) := by
  intro t
  by_cases h : i < K
  · rw [tdsF_step h, List.mem_append, tdsF_mem R hl hcl (i + 1), tdF_mem (R i h) (hl i h) (hcl i h)]
    constructor
    · rintro (⟨w, _, h1, h2⟩ | ⟨j, w, h1, h2, h3, h4⟩)
      · exact ⟨i, w, by omega, h, h1, h2⟩
      · exact ⟨j, w, by omega, h2, h3, h4⟩
    · rintro ⟨j, w, h1, h2, h3, h4⟩
      by_cases e : j = i
      · subst e; exact .inl ⟨w, by omega, h3, h4⟩
      · exact .inr ⟨j, w, by omega, h2, h3, h4⟩
  · rw [tdsF_end h]
    simp
    intro j h1 h2
    omega
 termination_by K - i
theorem tdF_nodup {gi : Int} {rows cl : List Int} {st : List Int} {n : Nat} (v : Nat) : (tdF gi rows cl st n v).Nodup ∧ ∀ t ∈ tdF gi rows cl st n v, t.1 = gi ∧ (v : Int) ≤ t.2.1 := by
  by_cases h : v < n
  · rw [tdF_step h]
    obtain ⟨h1, h2⟩ := tdF_nodup (gi := gi) (rows := rows) (cl := cl) (st := st) (n := n) (v + 1)
    refine ⟨List.nodup_cons.mpr ⟨fun hm => ?_, h1⟩, fun t ht => ?_⟩
    · have := (h2 _ hm).2
      simp only at this
      omega
    · rcases List.mem_cons.mp ht with rfl | h3
      · exact ⟨rfl, Int.le_refl _⟩
      · have := h2 _ h3
        exact ⟨this.1, by omega⟩
  · rw [tdF_end h]
    simp
 termination_by n - v
theorem tdsF_nodup {rows c : Nat → List Int} {m n K : Nat} (i : Nat) : (tdsF rows c m n K i).Nodup ∧ ∀ t ∈ tdsF rows c m n K i, (i : Int) ≤ t.1 := by
  by_cases h : i < K
  · rw [tdsF_step h]
    obtain ⟨h1, h2⟩ := tdsF_nodup (rows := rows) (c := c) (m := m) (n := n) (K := K) (i + 1)
    obtain ⟨h3, h4⟩ := tdF_nodup (gi := (i : Int)) (rows := rows i) (cl := c i) (st := stF (c i) m n) (n := n) 0
    refine ⟨List.nodup_append.mpr ⟨h3, h1, fun x hx y hy e => ?_⟩, fun t ht => ?_⟩
    · have := (h4 x hx).1
      have := h2 y hy
      subst e
      omega
    · rcases List.mem_append.mp ht with h5 | h5
      · have := (h4 t h5).1; omega
      · have := h2 t h5; omega
  · rw [tdsF_end h]
    simp
 termination_by K - i
end

/- A function in parts, one after the other. -/
section
open Go
def takeS : Nat → FC → FC
 | 0, .seq a _ => a
 | k + 1, .seq a b => .seq a (takeS k b)
 | _, c => c
def dropS : Nat → FC → FC
 | 0, c => c
 | k + 1, .seq _ b => dropS k b
 | _ + 1, c => c
def nseq : FC → Nat
 | .seq _ b => nseq b + 1
 | _ => 0
theorem kseq_kseq (call : VCall) (nro : Nat) (a b : FC) (r : Option (VX × FE × VH)) : kseq call nro (.seq a b) r = kseq call nro b (kseq call nro a r) := by
 match r with
 | none => rfl
 | some (.normal, e, h) => rw [kseq_normal, fcode_seq, kseq_normal]
 | some (.ret, e, h) => rfl
 | some (.exit i, e, h) => rfl
theorem kseq_parts (call : VCall) (nro : Nat) : ∀ (k : Nat) (c : FC) (r : Option (VX × FE × VH)), k + 1 ≤ nseq c → kseq call nro c r = kseq call nro (dropS (k + 1) c) (kseq call nro (takeS k c) r)
 | 0, .seq a b, r, _ => kseq_kseq call nro a b r
 | k + 1, .seq a b, r, h => by
  have h2 : k + 1 ≤ nseq b := by simp [nseq] at h; omega
  rw [kseq_kseq, kseq_parts call nro k b _ h2]
  show _ = kseq call nro (dropS (k + 1) b) (kseq call nro (.seq a (takeS k b)) r)
  rw [kseq_kseq]
theorem fcode_parts (call : VCall) (nro : Nat) (k : Nat) (c : FC) (e : FE) (h : VH) (hk : k + 1 ≤ nseq c) : fcode call nro c e h = kseq call nro (dropS (k + 1) c) (fcode call nro (takeS k c) e h) := by
 have := kseq_parts call nro k c (some (.normal, e, h)) hk
 rwa [kseq_normal, kseq_normal] at this
end

/- Sorting: by insertion. -/
section
open Go
variable {nro : Nat}
theorem c_cmp_Less (x y : Int) (h : VH) : vcall F nro k_zz53 [.int .i64 x, .int .i64 y] h = some (.bool (decide (x < y)), h) := by
 have e : ∀ z : Int, vcall F nro k_zz50 [.int .i64 z] h = some (.bool false, h) := fun z => by
  refine v_zz50 (by simp [i_zz50]) ?_
  rw [fbody_eq]
  simp (disch := first | assumption | omega | (simp [*] <;> omega) | fail) [i_zz50]
 refine v_zz53 (by simp [i_zz53]) ?_
 rw [fbody_eq]
 simp (disch := first | assumption | omega | (simp [*] <;> omega) | fail) [i_zz53, e]
def swp (xs : List Int) (i j : Nat) : List Int := (xs.set i (xs.getD j 0)).set j (xs.getD i 0)
@[simp] theorem swp_length (xs : List Int) (i j : Nat) : (swp xs i j).length = xs.length := by simp [swp]
def insD (a : Nat) : Nat → List Int → List Int
 | 0, xs => xs
 | j + 1, xs => if a < j + 1 ∧ xs.getD (j + 1) 0 < xs.getD j 0 then insD a j (swp xs (j + 1) j) else xs
@[simp] theorem insD_length (a : Nat) : ∀ (j : Nat) (xs : List Int), (insD a j xs).length = xs.length
 | 0, _ => rfl
 | j + 1, xs => by
  rw [insD]
  split
  ·rw [insD_length a j, swp_length]
  ·rfl
def insS (a b : Nat) (xs : List Int) : List Int := upF (fun i xs => insD a i xs) b (a + 1) xs
theorem upF_len {f : Nat → List Int → List Int} (hf : ∀ i xs, (f i xs).length = xs.length) (n i : Nat) (xs : List Int) : (upF f n i xs).length = xs.length := by
  by_cases h : i < n
  · rw [upF_step h, upF_len hf n (i + 1), hf]
  · rw [upF_end h]
 termination_by n - i
@[simp] theorem insS_length (a b : Nat) (xs : List Int) : (insS a b xs).length = xs.length := upF_len (fun i xs => insD_length a i xs) b (a + 1) xs
structure Inp (nro : Nat) (h0 G : VH) (blk : Nat) (xs : List Int) : Prop where
 at' : G[blk]? = some ⟨1, ints xs⟩
 nr : nro ≤ blk
 upd : Upd h0 G
 len : xs.length ≤ 100000
def ws (blk N : Nat) : Value := .slice (some ⟨blk, 0, none⟩) N N
theorem Inp.lt {h0 G : VH} {blk : Nat} {xs : List Int} (I : Inp nro h0 G blk xs) : blk < G.length := (List.getElem?_eq_some_iff.mp I.at').1
theorem Inp.set {h0 G : VH} {blk : Nat} {xs ys : List Int} (I : Inp nro h0 G blk xs) (hl : ys.length = xs.length) : Inp nro h0 (G.set blk ⟨1, ints ys⟩) blk ys :=
 ⟨by simp [I.lt], I.nr, I.upd.set' (flatO_ints _ _ _), by rw [hl]; exact I.len⟩
theorem Inp.clean {h0 G : VH} {blk : Nat} {xs : List Int} (I : Inp nro h0 G blk xs) {vs : List Value} (hv : ∀ v ∈ vs, Old h0.length v) : kclean h0 vs G = (vs, G) := by
 have := cleanup_upd (L := []) I.upd hv
 rwa [List.append_nil] at this
end

/- slices.Compact. -/
section
open Go
variable {nro : Nat}
def ddN (xs : List Int) : Nat → List Int
 | 0 => []
 | p + 1 => if p ≠ 0 ∧ xs.getD p 0 = xs.getD (p - 1) 0 then ddN xs p else ddN xs p ++ [xs.getD p 0]
theorem ddN_le (xs : List Int) : ∀ p, (ddN xs p).length ≤ p
 | 0 => Nat.le_refl _
 | p + 1 => by
  have := ddN_le xs p
  rw [ddN]; split
  ·omega
  ·simp; omega
theorem ddN_none {xs : List Int} : ∀ {p : Nat}, p ≤ xs.length → (∀ q, 1 ≤ q → q < p → xs.getD q 0 ≠ xs.getD (q - 1) 0) → ddN xs p = xs.take p
 | 0, _, _ => by simp [ddN]
 | p + 1, hp, h => by
  rw [ddN, ddN_none (by omega) fun q h1 h2 => h q h1 (by omega), if_neg]
  ·rw [List.take_add_one, List.getD_eq_getElem?_getD, List.getElem?_eq_getElem (by omega)]; rfl
  ·rintro ⟨h1, h2⟩
   exact h p (by omega) (by omega) h2
theorem set_here {D xs : List Int} {x : Int} (h : D.length < xs.length) : (D ++ xs.drop D.length).set D.length x = (D ++ [x]) ++ xs.drop (D ++ [x]).length := by
 rw [List.set_append_right _ _ (Nat.le_refl _), Nat.sub_self, List.drop_eq_getElem_cons h, List.set_cons_zero]
 simp
theorem get_there {D xs : List Int} {q : Nat} (h : D.length ≤ q) : (D ++ xs.drop D.length).getD q 0 = xs.getD q 0 := by
 rw [List.getD_eq_getElem?_getD, List.getElem?_append_right h, List.getElem?_drop, List.getD_eq_getElem?_getD]
 rw [show D.length + (q - D.length) = q by omega]
theorem l_cpt1 {h0 G : VH} {blk : Nat} {xs zs : List Int} (I : Inp nro h0 G blk zs) (k k2 : Nat) (hz : zs = ddN xs (k + k2) ++ xs.drop (ddN xs (k + k2)).length) (hk : 1 ≤ k2) (hp : k + k2 ≤ xs.length) (hd : (ddN xs (k + k2)).length < k + k2) :
    floop (vcall F nro) nro [0, 3, 4, 5] i_zz26_B1 h0 [.slice (some ⟨blk, 0, none⟩) xs.length xs.length, .int .i64 (ddN xs (k + k2)).length, .slice (some ⟨blk, k, none⟩) (xs.length - k) xs.length, .int .i64 k2] G =
      some (.exit 2, fl [(0, .slice (some ⟨blk, 0, none⟩) xs.length xs.length), (3, .int .i64 (ddN xs xs.length).length)], G.set blk ⟨1, ints (ddN xs xs.length ++ xs.drop (ddN xs xs.length).length)⟩) := by
  have hb := I.at'
  have hnb := I.nr
  have hlen := I.len
  have hlt := I.lt
  have hbl : blk < h0.length := by rw [← I.upd.1]; exact hlt
  have hzl : zs.length = xs.length := by rw [hz]; simp; omega
  rw [floop_at i_zz26_B1.eq_1]
  by_cases c : k + k2 < xs.length
  · obtain ⟨D, hD⟩ : ∃ D, D = ddN xs (k + k2) := ⟨_, rfl⟩
    rw [← hD] at hz hd ⊢
    have g1 : zs.getD (k + k2) 0 = xs.getD (k + k2) 0 := by rw [hz]; exact get_there (by omega)
    have g0 : zs.getD (k + k2 - 1) 0 = xs.getD (k + k2 - 1) 0 := by rw [hz]; exact get_there (by omega)
    have r1 : List.take 1 (List.drop (k + k2) (ints zs)) = [.int .i64 (xs.getD (k + k2) 0)] := by rw [take1_ints (by omega), ← getD_at zs (by omega), g1]
    have r0 : List.take 1 (List.drop (k + (k2 - 1)) (ints zs)) = [.int .i64 (xs.getD (k + k2 - 1) 0)] := by rw [show k + (k2 - 1) = k + k2 - 1 by omega, take1_ints (by omega), ← getD_at zs (by omega), g0]
    have c' : (k2 : Int) < ((xs.length - k : Nat) : Int) := by omega
    have w1 : IntKind.i64.wrap ((k2 : Int) - 1) = ((k2 - 1 : Nat) : Int) := by rw [wrap64 (by omega) (by omega)]; omega
    have w2 : IntKind.i64.wrap ((k2 : Int) + 1) = (k2 : Int) + 1 := wrap64 (by omega) (by omega)
    have w3 : IntKind.i64.wrap ((D.length : Int) + 1) = (D.length : Int) + 1 := wrap64 (by omega) (by omega)
    have p1 : ((k2 - 1 : Nat) : Int) < ((xs.length - k : Nat) : Int) := by omega
    have e0 : ddN xs (k + (k2 + 1)) = if xs.getD (k + k2) 0 = xs.getD (k + k2 - 1) 0 then D else D ++ [xs.getD (k + k2) 0] := by
      rw [show k + (k2 + 1) = (k + k2) + 1 by omega, ddN, ← hD]
      have : k + k2 ≠ 0 := by omega
      simp only [ne_eq, this, not_false_eq_true, true_and]
    obtain ⟨x, hx⟩ : ∃ x, x = xs.getD (k + k2) 0 := ⟨_, rfl⟩
    obtain ⟨y, hy⟩ : ∃ y, y = xs.getD (k + k2 - 1) 0 := ⟨_, rfl⟩
    rw [← hx] at r1 e0
    rw [← hy] at r0 e0
    by_cases c2 : x = y
    · rw [if_pos c2] at e0
      have ih := l_cpt1 I k (k2 + 1) (by rw [e0]; exact hz) (by omega) (by omega) (by rw [e0]; omega)
      rw [e0, show ((k2 + 1 : Nat) : Int) = (k2 : Int) + 1 by omega] at ih
      have hcl := fun vs => I.clean (vs := vs)
      obtain ⟨q, hq⟩ : ∃ q, q = ddN xs xs.length := ⟨_, rfl⟩
      rw [← hq] at ih ⊢
      have b1 : k + k2 < (ints zs).length := by rw [ints_length]; omega
      have b0 : k + (k2 - 1) < (ints zs).length := by rw [ints_length]; omega
      have b2 : k + k2 < xs.length := c
      have b3 : k + (k2 - 1) < xs.length := by omega
      clear hq hx hy I hz g0 g1 e0 hD
      simp (disch := first | assumption | omega | (simp [*] <;> omega) | fail) [-getElem?_pos, List.getElem?_cons_zero, List.getElem?_cons_succ, c', w1, w2, p1, r1, r0, c2, hb, hcl, hbl, ih, b1, b0, b2, b3, hzl]
    · rw [if_neg c2] at e0
      have hset := set_here (D := D) (xs := xs) (x := x) (by omega)
      rw [← hz] at hset
      have ih := l_cpt1 (I.set (ys := zs.set D.length x) (by simp)) k (k2 + 1) (by rw [e0]; exact hset) (by omega) (by omega) (by rw [e0]; simp; omega)
      rw [e0, List.set_set] at ih
      simp only [List.length_append, List.length_singleton] at ih
      rw [show ((k2 + 1 : Nat) : Int) = (k2 : Int) + 1 by omega, show ((D.length + 1 : Nat) : Int) = (D.length : Int) + 1 by omega] at ih
      have e1 : splice D.length [.int .i64 x] (ints zs) = ints (zs.set D.length x) := splice_ints (by omega)
      have hcl : ∀ (ys : List Int) vs, (∀ v ∈ vs, Old h0.length v) → kclean h0 vs (G.set blk ⟨1, ints ys⟩) = (vs, G.set blk ⟨1, ints ys⟩) := fun ys vs hv => by
        have := cleanup_upd (L := []) (I.upd.set' (b := blk) (flatO_ints _ 1 ys)) hv
        rwa [List.append_nil] at this
      have hg : ∀ o, (G.set blk o)[blk]? = some o := fun o => by simp [hlt]
      obtain ⟨q, hq⟩ : ∃ q, q = ddN xs xs.length := ⟨_, rfl⟩
      rw [← hq] at ih ⊢
      obtain ⟨d, hd2⟩ : ∃ d, d = D.length := ⟨_, rfl⟩
      rw [← hd2] at ih e1 w3 hd ⊢
      obtain ⟨u, hu⟩ : ∃ u, u = zs.set d x := ⟨_, rfl⟩
      rw [← hu] at ih e1
      have b1 : k + k2 < (ints zs).length := by rw [ints_length]; omega
      have b0 : k + (k2 - 1) < (ints zs).length := by rw [ints_length]; omega
      have b2 : k + k2 < xs.length := c
      have b3 : k + (k2 - 1) < xs.length := by omega
      have b4 : (d : Int) < xs.length := by omega
      have b5 : d < xs.length := by omega
      clear hq hx hy I hz g0 g1 e0 hD hd2 hset hu
      simp (disch := first | assumption | omega | (simp [*] <;> omega) | fail) [-getElem?_pos, List.getElem?_cons_zero, List.getElem?_cons_succ, c', w1, w2, w3, p1, r1, r0, c2, hb, hnb, hcl, hg, hbl, hlt, ih, b1, b0, b2, b3, b4, b5, hzl, e1]
  · have e : k + k2 = xs.length := by omega
    have c' : ¬ (k2 : Int) < ((xs.length - k : Nat) : Int) := by omega
    rw [e] at hz ⊢
    rw [← hz, hset_self hb]
    simp (disch := first | assumption | omega | (simp [*] <;> omega) | fail) [-getElem?_pos, List.getElem?_cons_zero, List.getElem?_cons_succ, c', hb, hzl]
 termination_by xs.length - (k + k2)
theorem ddN_grow (xs : List Int) : ∀ (p m : Nat), m ≤ p → (ddN xs p).length ≤ (ddN xs m).length + (p - m)
 | 0, m, h => by
  have : m = 0 := by omega
  subst this; simp
 | p + 1, m, h => by
  by_cases e : m = p + 1
  ·subst e; omega
  ·have := ddN_grow xs p m (by omega)
   rw [ddN]; split
   ·omega
   ·simp; omega
theorem splice_zeros {D L : List Int} {m : Nat} (h : L.length = m) : splice D.length (List.replicate m [Value.int .i64 0]).flatten (ints (D ++ L)) = ints (D ++ List.replicate m 0) := by
 have e : (List.replicate m [Value.int .i64 0]).flatten = ints (List.replicate m 0) := by
  clear h
  induction m with
  | zero => rfl
  | succ m ih => rw [List.replicate_succ, List.replicate_succ, List.flatten_cons, ih]; rfl
 rw [e]
 unfold splice ints
 simp only [List.map_append, List.length_map, List.length_replicate]
 have l1 : D.length = (D.map (Value.int .i64)).length := by simp
 have l2 : (D.map (Value.int .i64) ++ L.map (Value.int .i64)).length ≤ D.length + m := by simp; omega
 have t1 : List.take D.length (D.map (Value.int .i64) ++ L.map (Value.int .i64)) = D.map (Value.int .i64) := by
  rw [l1, List.take_left]
 rw [t1, List.drop_eq_nil_of_le l2, List.append_nil]
theorem l_cpt2 {h0 G : VH} {blk : Nat} {xs : List Int} (I : Inp nro h0 G blk xs) (k : Nat) (h1 : 1 ≤ k) (hk : k ≤ xs.length) (hd : ∀ q, 1 ≤ q → q < k → xs.getD q 0 ≠ xs.getD (q - 1) 0) :
    floop (vcall F nro) nro [0, 3] i_zz26_B2 h0 [.slice (some ⟨blk, 0, none⟩) xs.length xs.length, .int .i64 k] G =
      if (ddN xs xs.length).length = xs.length then some (.exit 0, fl [(0, .slice (some ⟨blk, 0, none⟩) xs.length xs.length)], G)
      else some (.ret, fl [(2, .slice (some ⟨blk, 0, none⟩) (ddN xs xs.length).length xs.length)], G.set blk ⟨1, ints (ddN xs xs.length ++ List.replicate (xs.length - (ddN xs xs.length).length) 0)⟩) := by
  have hb := I.at'
  have hnb := I.nr
  have hlen := I.len
  have hlt := I.lt
  have hbl : blk < h0.length := by rw [← I.upd.1]; exact hlt
  rw [floop_at i_zz26_B2.eq_1]
  by_cases c : k < xs.length
  · have c' : (k : Int) < xs.length := by omega
    have r1 : List.take 1 (List.drop k (ints xs)) = [.int .i64 (xs.getD k 0)] := by rw [take1_ints c, ← getD_at xs c]
    have r0 : List.take 1 (List.drop (k - 1) (ints xs)) = [.int .i64 (xs.getD (k - 1) 0)] := by rw [take1_ints (by omega), ← getD_at xs (by omega)]
    have w1 : IntKind.i64.wrap ((k : Int) - 1) = ((k - 1 : Nat) : Int) := by rw [wrap64 (by omega) (by omega)]; omega
    have w2 : IntKind.i64.wrap ((k : Int) + 1) = (k : Int) + 1 := wrap64 (by omega) (by omega)
    have p1 : ((k - 1 : Nat) : Int) < xs.length := by omega
    have b1 : k < xs.length := c
    have b0 : k - 1 < xs.length := by omega
    have hcl := fun vs => I.clean (vs := vs)
    by_cases c2 : xs.getD k 0 = xs.getD (k - 1) 0
    · have e1 : ddN xs (k + 1) = xs.take k := by
        rw [ddN, if_pos ⟨by omega, c2⟩, ddN_none (by omega) hd]
      have hne : ¬ (ddN xs xs.length).length = xs.length := by
        have := ddN_grow xs xs.length (k + 1) (by omega)
        rw [e1] at this
        simp at this
        omega
      rw [if_neg hne]
      have I0 : Inp nro G G blk xs := ⟨hb, hnb, Upd.rfl' G, hlen⟩
      have lp := l_cpt1 I0 k 1 (by rw [e1]; simp; rw [Nat.min_eq_left (by omega)]; simp) (by omega) (by omega) (by rw [e1]; simp; omega)
      rw [e1, List.length_take, Nat.min_eq_left (by omega)] at lp
      simp only [Int.natCast_one] at lp
      have hle := ddN_le xs xs.length
      have s1 : vslice 1 G (.slice (some ⟨blk, 0, none⟩) xs.length xs.length) (some (.int .i64 k)) none = some (.slice (some ⟨blk, k, none⟩) (xs.length - k) xs.length) := by
        simp [vslice, hb]; omega
      obtain ⟨D, hD⟩ : ∃ D, D = ddN xs xs.length := ⟨_, rfl⟩
      rw [← hD] at lp hle hne ⊢
      have hl3 : (ints (D ++ xs.drop D.length)).length = xs.length := by rw [ints_length]; simp; omega
      obtain ⟨G', hG'⟩ : ∃ G', G' = G.set blk ⟨1, ints (D ++ xs.drop D.length)⟩ := ⟨_, rfl⟩
      have hg : G'[blk]? = some ⟨1, ints (D ++ xs.drop D.length)⟩ := by rw [hG']; simp [hlt]
      have s2 : vslice 1 G' (.slice (some ⟨blk, 0, none⟩) xs.length xs.length) (some (.int .i64 D.length)) none = some (.slice (some ⟨blk, D.length, none⟩) (xs.length - D.length) xs.length) := by
        simp only [vslice, hg, hl3, and_self, if_true, Option.getD_some, Option.getD_none]
        rw [if_pos (by omega)]
        simp
      have s3 : vclear nro 1 [.int .i64 0] G' (.slice (some ⟨blk, D.length, none⟩) (xs.length - D.length) xs.length) = some (.tuple #[], G.set blk ⟨1, ints (D ++ List.replicate (xs.length - D.length) 0)⟩) := by
        simp only [vclear, hg, hl3, and_self, if_true]
        rw [if_neg (by omega), if_pos ⟨hnb, by omega, rfl, rfl⟩, splice_zeros (by simp), hG', List.set_set]
      have hl4 : (ints (D ++ List.replicate (xs.length - D.length) 0)).length = xs.length := by rw [ints_length]; simp; omega
      obtain ⟨G2, hG2⟩ : ∃ G2, G2 = G.set blk ⟨1, ints (D ++ List.replicate (xs.length - D.length) 0)⟩ := ⟨_, rfl⟩
      have hg2 : G2[blk]? = some ⟨1, ints (D ++ List.replicate (xs.length - D.length) 0)⟩ := by rw [hG2]; simp [hlt]
      have s4 : vslice 1 G2 (.slice (some ⟨blk, 0, none⟩) xs.length xs.length) none (some (.int .i64 D.length)) = some (.slice (some ⟨blk, 0, none⟩) D.length xs.length) := by
        simp only [vslice, hg2, hl4, and_self, if_true, Option.getD_some, Option.getD_none]
        rw [if_pos (by omega)]
        simp
      rw [← hG'] at lp
      rw [← hG2] at s3 ⊢
      obtain ⟨y, hy⟩ : ∃ y, y = xs.getD (k - 1) 0 := ⟨_, rfl⟩
      rw [c2] at r1
      rw [← hy] at r0 r1
      clear hD hG' hG2 I I0 e1 hd c2 hg hg2 hl3 hl4 hy
      simp (disch := first | assumption | omega | (simp [*] <;> omega) | fail) [-getElem?_pos, List.getElem?_cons_zero, List.getElem?_cons_succ, c', hk, r1, r0, w1, w2, p1, b1, b0, hb, hnb, hbl, hlt, s1, lp, s2, s3, s4]
    · have ih := l_cpt2 I (k + 1) (by omega) c fun q h2 h3 => by
        by_cases e : q = k
        · rw [e]; exact c2
        · exact hd q h2 (by omega)
      rw [show ((k + 1 : Nat) : Int) = (k : Int) + 1 by omega] at ih
      obtain ⟨q, hq⟩ : ∃ q, q = (if (ddN xs xs.length).length = xs.length then some (VX.exit 0, fl [(0, .slice (some ⟨blk, 0, none⟩) xs.length xs.length)], G)
        else some (.ret, fl [(2, .slice (some ⟨blk, 0, none⟩) (ddN xs xs.length).length xs.length)], G.set blk ⟨1, ints (ddN xs xs.length ++ List.replicate (xs.length - (ddN xs xs.length).length) 0)⟩)) := ⟨_, rfl⟩
      rw [← hq] at ih ⊢
      obtain ⟨x, hx⟩ : ∃ x, x = xs.getD k 0 := ⟨_, rfl⟩
      obtain ⟨y, hy⟩ : ∃ y, y = xs.getD (k - 1) 0 := ⟨_, rfl⟩
      rw [← hx] at r1 c2
      rw [← hy] at r0 c2
      clear hq hx hy I hd
      simp (disch := first | assumption | omega | (simp [*] <;> omega) | fail) [-getElem?_pos, List.getElem?_cons_zero, List.getElem?_cons_succ, c', hk, r1, r0, w1, w2, p1, b1, b0, hb, c2, hcl, hbl, ih]
  · have e : k = xs.length := by omega
    have c' : ¬ (k : Int) < xs.length := by omega
    have e1 : ddN xs xs.length = xs := by
      rw [ddN_none (Nat.le_refl _) (by rw [← e]; exact hd), List.take_length]
    rw [e1, if_pos rfl]
    simp (disch := first | assumption | omega | (simp [*] <;> omega) | fail) [-getElem?_pos, List.getElem?_cons_zero, List.getElem?_cons_succ, c', hb]
 termination_by xs.length - k
theorem c_Compact {G : VH} {blk : Nat} {xs : List Int} (hb : G[blk]? = some ⟨1, ints xs⟩) (hnb : nro ≤ blk) (hlen : xs.length ≤ 100000) (h0 : 1 ≤ xs.length) :
  vcall F nro k_zz26 [.slice (some ⟨blk, 0, none⟩) xs.length xs.length] G = some (.slice (some ⟨blk, 0, none⟩) (ddN xs xs.length).length xs.length, G.set blk ⟨1, ints (ddN xs xs.length ++ List.replicate (xs.length - (ddN xs xs.length).length) 0)⟩) := by
 refine v_zz26 (by simp [i_zz26]) ?_
 rw [fbody_eq]
 have hlt : blk < G.length := (List.getElem?_eq_some_iff.mp hb).1
 have hco : ∀ (ys : List Int) a b, kclean G [.slice (some ⟨blk, 0, none⟩) a b] (G.set blk ⟨1, ints ys⟩) = ([.slice (some ⟨blk, 0, none⟩) a b], G.set blk ⟨1, ints ys⟩) := fun ys a b => by
  have := cleanup_upd (L := []) ((Upd.rfl' G).set' (b := blk) (flatO_ints _ 1 ys)) (vs := [.slice (some ⟨blk, 0, none⟩) a b]) (by simp [hlt])
  rwa [List.append_nil] at this
 have hco0 : ∀ a b, kclean G [.slice (some ⟨blk, 0, none⟩) a b] G = ([.slice (some ⟨blk, 0, none⟩) a b], G) := fun a b => by
  have := hco xs a b
  rwa [hset_self hb] at this
 have full : (ddN xs xs.length).length = xs.length → ddN xs xs.length = xs := fun e => by
  rw [ddN_none (Nat.le_refl _) fun q h1 h2 e2 => ?_, List.take_length]
  have h3 := ddN_grow xs xs.length (q + 1) (by omega)
  have h4 := ddN_le xs q
  rw [ddN, if_pos ⟨by omega, e2⟩] at h3
  omega
 by_cases c : xs.length < 2
 ·have e : xs.length = 1 := by omega
  have e1 : ddN xs xs.length = xs := by
   rw [ddN_none (Nat.le_refl _) fun q h1 h2 => by omega, List.take_length]
  rw [e1, Nat.sub_self, List.replicate_zero, List.append_nil, hset_self hb]
  have c' : (xs.length : Int) < 2 := by omega
  simp (disch := first | assumption | omega | (simp [*] <;> omega) | fail) [-getElem?_pos, List.getElem?_cons_zero, List.getElem?_cons_succ, i_zz26, hb, c', hco0]
 ·have c' : ¬ (xs.length : Int) < 2 := by omega
  have lp := l_cpt2 (nro := nro) (h0 := G) (G := G) (blk := blk) (xs := xs) ⟨hb, hnb, Upd.rfl' G, hlen⟩ 1 (Nat.le_refl _) (by omega) fun q h1 h2 => by omega
  simp only [Int.natCast_one] at lp
  by_cases e : (ddN xs xs.length).length = xs.length
  ·have e1 := full e
   rw [if_pos e] at lp
   rw [e1, Nat.sub_self, List.replicate_zero, List.append_nil, hset_self hb]
   simp (disch := first | assumption | omega | (simp [*] <;> omega) | fail) [-getElem?_pos, List.getElem?_cons_zero, List.getElem?_cons_succ, i_zz26, hb, c', lp, hco0]
  ·rw [if_neg e] at lp
   simp (disch := first | assumption | omega | (simp [*] <;> omega) | fail) [-getElem?_pos, List.getElem?_cons_zero, List.getElem?_cons_succ, i_zz26, hb, c', lp, hco]
end

/- Sorting short lists; what sorted lists are. -/
section
open Go
variable {nro : Nat}
theorem swp_perm {xs : List Int} {i j : Nat} (hi : i < xs.length) (hj : j < xs.length) : List.Perm (swp xs i j) xs := by
 unfold swp
 rw [getD_at xs hi, getD_at xs hj]
 exact List.set_set_perm hi hj
theorem swp_get {xs : List Int} {i j : Nat} (hi : i < xs.length) (hj : j < xs.length) (p : Nat) : (swp xs i j).getD p 0 = if p = j then xs.getD i 0 else if p = i then xs.getD j 0 else xs.getD p 0 := by
 unfold swp
 rw [List.getD_eq_getElem?_getD, List.getElem?_set]
 by_cases h1 : p = j
 ·rw [if_pos h1.symm, if_pos (by simpa [h1] using hj), if_pos h1]; rfl
 ·rw [if_neg (fun e => h1 e.symm), if_neg h1, List.getElem?_set]
  by_cases h2 : p = i
  ·rw [if_pos h2.symm, if_pos hi, if_pos h2]; rfl
  ·rw [if_neg (fun e => h2 e.symm), if_neg h2, List.getD_eq_getElem?_getD]
theorem insD_perm (a : Nat) : ∀ (j : Nat) (xs : List Int), j < xs.length → List.Perm (insD a j xs) xs
 | 0, _, _ => List.Perm.refl _
 | j + 1, xs, h => by
  rw [insD]
  split
  ·exact (insD_perm a j (swp xs (j + 1) j) (by simp; omega)).trans (swp_perm h (by omega))
  ·exact List.Perm.refl _
def SrtB (a b : Nat) (xs : List Int) : Prop := ∀ p q, a ≤ p → p < q → q < b → xs.getD p 0 ≤ xs.getD q 0
theorem insD_sorted (a i : Nat) : ∀ (j : Nat) (xs : List Int), a ≤ j → j ≤ i → i < xs.length → (∀ p q, a ≤ p → p < q → q ≤ i → p ≠ j → q ≠ j → xs.getD p 0 ≤ xs.getD q 0) → (∀ q, j < q → q ≤ i → xs.getD j 0 ≤ xs.getD q 0) → SrtB a (i + 1) (insD a j xs)
 | 0, xs, ha, hj, hi, h1, h2 => by
  intro p q hp hpq hq
  show xs.getD p 0 ≤ xs.getD q 0
  by_cases e : p = 0
  ·rw [e]; exact h2 q (by omega) (by omega)
  ·exact h1 p q hp hpq (by omega) e (by omega)
 | j + 1, xs, ha, hj, hi, h1, h2 => by
  rw [insD]
  by_cases c : a < j + 1 ∧ xs.getD (j + 1) 0 < xs.getD j 0
  ·rw [if_pos c]
   have g := swp_get (xs := xs) (i := j + 1) (j := j) (by omega) (by omega)
   refine insD_sorted a i j (swp xs (j + 1) j) (by omega) (by omega) (by simpa using hi) (fun p q hp hpq hq n1 n2 => ?_) (fun q h3 h4 => ?_)
   ·rw [g, g, if_neg n1, if_neg n2]
    by_cases e1 : p = j + 1
    ·rw [if_pos e1, if_neg (by omega)]
     exact h1 j q (by omega) (by omega) hq (by omega) (by omega)
    ·rw [if_neg e1]
     by_cases e2 : q = j + 1
     ·rw [if_pos e2]
      exact h1 p j hp (by omega) (by omega) e1 (by omega)
     ·rw [if_neg e2]
      exact h1 p q hp hpq hq e1 e2
   ·rw [g, g, if_pos rfl, if_neg (by omega)]
    by_cases e2 : q = j + 1
    ·rw [if_pos e2]; omega
    ·rw [if_neg e2]
     exact h2 q (by omega) h4
  ·rw [if_neg c]
   intro p q hp hpq hq
   by_cases e1 : p = j + 1
   ·rw [e1]; exact h2 q (by omega) (by omega)
   ·by_cases e2 : q = j + 1
    ·rw [e2]
     have h3 : xs.getD j 0 ≤ xs.getD (j + 1) 0 := by omega
     by_cases e3 : p = j
     ·rw [e3]; exact h3
     ·exact Int.le_trans (h1 p j hp (by omega) (by omega) e1 (by omega)) h3
    ·exact h1 p q hp hpq (by omega) e1 e2
theorem insS_ok (a b : Nat) : ∀ (i : Nat) (xs : List Int), b ≤ xs.length → a < i → SrtB a i xs → List.Perm (upF (fun i xs => insD a i xs) b i xs) xs ∧ (i ≤ b → SrtB a b (upF (fun i xs => insD a i xs) b i xs)) := by
  intro i xs hb hi hs
  by_cases c : i < b
  · rw [upF_step c]
    have h1 : SrtB a (i + 1) (insD a i xs) := insD_sorted a i i xs (by omega) (Nat.le_refl _) (by omega) (fun p q hp hpq hq _ n2 => hs p q hp hpq (by omega)) (fun q h1 h2 => by omega)
    obtain ⟨h2, h3⟩ := insS_ok a b (i + 1) (insD a i xs) (by simpa using hb) (by omega) h1
    exact ⟨h2.trans (insD_perm a i xs (by omega)), fun _ => h3 (by omega)⟩
  · rw [upF_end c]
    exact ⟨List.Perm.refl _, fun h => by have : i = b := by omega
                                         rw [← this]; exact hs⟩
 termination_by i => b - i
theorem insS_perm {a b : Nat} {xs : List Int} (hb : b ≤ xs.length) : List.Perm (insS a b xs) xs := (insS_ok a b (a + 1) xs hb (by omega) (fun p q h1 h2 h3 => by omega)).1
theorem insS_sorted {a b : Nat} {xs : List Int} (hb : b ≤ xs.length) : SrtB a b (insS a b xs) := by
 by_cases h : a + 1 ≤ b
 ·exact (insS_ok a b (a + 1) xs hb (by omega) (fun p q h1 h2 h3 => by omega)).2 h
 ·intro p q h1 h2 h3; omega
end

/- Sorting, as the library does it: what is sorted, told once. -/
section
open Go Go.Sort
def getI (d : Array Nat) (x : Int) : Nat := d[x.toNat]!
def setI (d : Array Nat) (x : Int) (v : Nat) : Array Nat := d.setIfInBounds x.toNat v
@[simp] theorem setI_size (d : Array Nat) (x : Int) (v : Nat) : (setI d x v).size = d.size := by simp [setI]
def swI (d : Array Nat) (x y : Int) : Array Nat := setI (setI d x (getI d y)) y (getI d x)
@[simp] theorem swI_size (d : Array Nat) (x y : Int) : (swI d x y).size = d.size := by simp [swI]
theorem swI_swp (d : Array Nat) (x y : Int) (i j : Nat) (hx : x = i) (hy : y = j) : swI d x y = Go.Sort.swp d i j := by
 subst hx; subst hy; rfl
@[simp] theorem swp_size (d : Array Nat) (i j : Nat) : (Go.Sort.swp d i j).size = d.size := by simp [Go.Sort.swp]
structure SE (nro : Nat) (ld : Bool) (sz : Nat) (S C : Value) (P : Int → Value) (ag : Nat → Value) (cm : Nat → Nat → Int) (N : Nat) (H : Array Nat → VH) : Prop where
 len : ∀ d d', (H d).length = (H d').length
 nr : ∀ d, nro ≤ (H d).length
 oS : ∀ n, (H #[]).length ≤ n → Old n S
 oC : ∀ n, (H #[]).length ≤ n → Old n C
 idx : ∀ (d : Array Nat) (x : Int), d.size = N → 0 ≤ x → x < N → vidx sz (H d) S (.int .i64 x) = some (P x, H d)
 load : ∀ (d : Array Nat) (x : Int), d.size = N → 0 ≤ x → x < N → vload ld sz (H d) (P x) = some (ag (getI d x))
 store : ∀ (d : Array Nat) (x : Int) (v : Nat), d.size = N → 0 ≤ x → x < N → vstore nro sz (H d) (P x) (ag v) = some (H (setI d x v))
 cmp : ∀ (d : Array Nat) (x y : Nat), vcallv (vcall F nro) (H d) C [ag x, ag y] = some (.int .i64 (cm x y), H d)
 upd : ∀ (d d' : Array Nat), Upd (H d) (H d')
 vln : ∀ d, d.size = N → vlen (H d) S = some (.int .i64 N, H d)
 hN : N ≤ 1000
section
variable {nro : Nat} {ld : Bool} {sz : Nat} {S C : Value} {P : Int → Value} {ag : Nat → Value} {cm : Nat → Nat → Int} {N : Nat} {H : Array Nat → VH}
theorem SE.clean (E : SE nro ld sz S C P ag cm N H) (d d' : Array Nat) (L : VH) (vs : List Value) (hv : ∀ v ∈ vs, Old (H #[]).length v) : kclean (H d) vs (H d' ++ L) = (vs, H d') :=
 cleanup_upd (E.upd d d') (by rw [E.len d #[]]; exact hv)
theorem SE.clean0 (E : SE nro ld sz S C P ag cm N H) (d d' : Array Nat) (vs : List Value) (hv : ∀ v ∈ vs, Old (H #[]).length v) : kclean (H d) vs (H d') = (vs, H d') := by
 have := E.clean d d' [] vs hv
 rwa [List.append_nil] at this
theorem SE.ln (E : SE nro ld sz S C P ag cm N H) (d : Array Nat) : (H d).length = (H #[]).length := E.len d #[]
end
theorem Upd.snoc {h h' : VH} (hu : Upd h h') (o o' : VO) (hf : flatO (h.length + 1) o') : Upd (h ++ [o]) (h' ++ [o']) := by
 refine ⟨by simp [hu.1], fun i p hp => ?_⟩
 have hl : (h ++ [o]).length = h.length + 1 := by simp
 by_cases hi : i < h'.length
 ·rw [List.getElem?_append_left hi] at hp
  rcases hu.2 i p hp with h1 | h1
  ·left
   have : i < h.length := (List.getElem?_eq_some_iff.mp h1).1
   rw [List.getElem?_append_left this]; exact h1
  ·right
   intro r hr
   have := h1 r hr
   omega
 ·rw [List.getElem?_append_right (by omega)] at hp
  by_cases hi2 : i - h'.length = 0
  ·rw [hi2] at hp
   simp at hp
   subst hp
   right
   intro r hr
   have := hf r hr
   omega
  ·have : i - h'.length = (i - h'.length - 1) + 1 := by omega
   rw [this] at hp
   simp at hp
structure SX (nro : Nat) (ld : Bool) (sz : Nat) (S C : Value) (P : Int → Value) (ag : Nat → Value) (cm : Nat → Nat → Int) (N : Nat) (H : Array Nat → VH) : Prop where
 base : SE nro ld sz S C P ag cm N H
 ext : ∀ o, SE nro ld sz S C P ag cm N (fun d => H d ++ [o])
theorem SX.clean {nro : Nat} {ld : Bool} {sz : Nat} {S C : Value} {P : Int → Value} {ag : Nat → Value} {cm : Nat → Nat → Int} {N : Nat} {H : Array Nat → VH} (E : SX nro ld sz S C P ag cm N H) (d d' : Array Nat) (o o' : VO) (hf : ∀ n, flatO n o') (L : VH) (vs : List Value) (hv : ∀ v ∈ vs, Old ((H #[]).length + 1) v) : kclean (H d ++ [o]) vs (H d' ++ o' :: L) = (vs, H d' ++ [o']) := by
 have := cleanup_upd (L := L) ((E.base.upd d d').snoc o o' (hf _)) (vs := vs) (by rw [List.length_append, List.length_singleton, E.base.len d #[]]; exact hv)
 rwa [List.append_assoc] at this
section
variable {nro : Nat} {ld : Bool} {sz : Nat} {S C : Value} {P : Int → Value} {ag : Nat → Value} {cm : Nat → Nat → Int} {N : Nat} {H : Array Nat → VH} (E : SX nro ld sz S C P ag cm N H)
include E
theorem SX.idx (o : VO) (d : Array Nat) (x : Int) (h1 : d.size = N) (h2 : 0 ≤ x) (h3 : x < N) : vidx sz (H d ++ [o]) S (.int .i64 x) = some (P x, H d ++ [o]) := (E.ext o).idx d x h1 h2 h3
theorem SX.load (o : VO) (d : Array Nat) (x : Int) (h1 : d.size = N) (h2 : 0 ≤ x) (h3 : x < N) : vload ld sz (H d ++ [o]) (P x) = some (ag (getI d x)) := (E.ext o).load d x h1 h2 h3
theorem SX.store (o : VO) (d : Array Nat) (x : Int) (v : Nat) (h1 : d.size = N) (h2 : 0 ≤ x) (h3 : x < N) : vstore nro sz (H d ++ [o]) (P x) (ag v) = some (H (setI d x v) ++ [o]) := (E.ext o).store d x v h1 h2 h3
theorem SX.cmp (o : VO) (d : Array Nat) (x y : Nat) : vcallv (vcall F nro) (H d ++ [o]) C [ag x, ag y] = some (.int .i64 (cm x y), H d ++ [o]) := (E.ext o).cmp d x y
theorem SX.nr (d : Array Nat) : nro ≤ (H #[]).length := E.base.nr #[]
end
def ltC (cm : Nat → Nat → Int) (x y : Nat) : Bool := decide (cm x y < 0)
theorem getI_nat (d : Array Nat) (x : Int) (i : Nat) (h : x = i) : getI d x = d[i]! := by subst h; rfl
end

/- Sorting: insertion. -/
section
open Go Go.Sort
variable {nro : Nat} {S C : Value} {P : Int → Value} {ag : Nat → Value} {cm : Nat → Nat → Int} {N : Nat} {H : Array Nat → VH}
@[simp] theorem insInner_size (lt : Nat → Nat → Bool) (a : Nat) : ∀ (j : Nat) (d : Array Nat), (insInner lt a j d).size = d.size
 | 0, d => rfl
 | j + 1, d => by
  unfold insInner
  split
  ·rw [insInner_size lt a j]; simp
  ·rfl
section
variable (E : SE nro true 3 S C P ag cm N H)
include E
theorem l_told_ins_1 (a b i : Nat) (d0 : Array Nat) : ∀ (j : Nat) (d : Array Nat), d.size = N → j < N →
  floop (vcall F nro) nro [0, 1, 2, 3, 8, 9] i_zz5_B1 (H d0) [S, .int .i64 a, .int .i64 b, C, .int .i64 i, .int .i64 j] (H d) =
   some (.exit 2, fl [(0, S), (1, .int .i64 a), (2, .int .i64 b), (3, C), (8, .int .i64 i)], H (insInner (ltC cm) a j d))
 | 0, d, hd, hj => by
  have hc := E.clean0 d0 d
  have hl := E.ln
  have oS := E.oS
  have oC := E.oC
  have h0 : ¬ (a : Int) < 0 := by omega
  rw [floop_at i_zz5_B1.eq_1]
  unfold insInner
  simp (disch := first | assumption | omega | (simp [*] <;> omega) | fail) [-getElem?_pos, List.getElem?_cons_zero, List.getElem?_cons_succ, hc, hl, oS, oC, h0]
 | j + 1, d, hd, hj => by
  have hc := fun q => E.clean0 d0 q
  have hl := E.ln
  have oS := E.oS
  have oC := E.oC
  have hN := E.hN
  have hi := E.idx
  have hld := E.load
  have hst := E.store
  have hcm := E.cmp
  have w1 : IntKind.i64.wrap ((j : Int) + 1 - 1) = j := by rw [show (j : Int) + 1 - 1 = j by omega]; exact wrap64 (by omega) (by omega)
  have w2 : IntKind.i64.wrap (j : Int) = j := wrap64 (by omega) (by omega)
  have g1 := getI_nat d ((j : Int) + 1) (j + 1) (by omega)
  have g2 := getI_nat d (j : Int) j rfl
  have k1 : (0 : Int) ≤ (j : Int) + 1 := by omega
  have k2 : (j : Int) + 1 < N := by omega
  have k3 : (j : Int) < N := by omega
  rw [floop_at i_zz5_B1.eq_1]
  unfold insInner
  rw [← g1, ← g2]
  by_cases c1 : a < j + 1
  ·have c1' : (a : Int) < (j : Int) + 1 := by omega
   by_cases c2 : cm (getI d ((j : Int) + 1)) (getI d (j : Int)) < 0
   ·have e2 : ltC cm (getI d ((j : Int) + 1)) (getI d (j : Int)) = true := decide_eq_true c2
    have ih := l_told_ins_1 a b i d0 j (Go.Sort.swp d (j + 1) j) (by simpa using hd) (by omega)
    have e3 : swI d ((j : Int) + 1) j = Go.Sort.swp d (j + 1) j := swI_swp _ _ _ _ _ (by omega) rfl
    unfold swI at e3
    rw [if_pos (by simp [e2, c1]), ← ih]
    clear ih g1 g2
    simp (disch := first | assumption | omega | (simp [*] <;> omega) | fail) [-getElem?_pos, List.getElem?_cons_zero, List.getElem?_cons_succ, hc, hl, oS, oC, hi, hld, hst, hcm, hd, w1, w2, k1, k2, k3, c1', c2, e3]
   ·have e2 : ltC cm (getI d ((j : Int) + 1)) (getI d (j : Int)) = false := decide_eq_false c2
    rw [if_neg (by simp [e2])]
    clear g1 g2
    simp (disch := first | assumption | omega | (simp [*] <;> omega) | fail) [-getElem?_pos, List.getElem?_cons_zero, List.getElem?_cons_succ, hc, hl, oS, oC, hi, hld, hst, hcm, hd, w1, w2, k1, k2, k3, c1', c2]
  ·have c1' : ¬ (a : Int) < (j : Int) + 1 := by omega
   rw [if_neg (by simp [c1])]
   simp (disch := first | assumption | omega | (simp [*] <;> omega) | fail) [-getElem?_pos, List.getElem?_cons_zero, List.getElem?_cons_succ, hc, hl, oS, oC, c1']
theorem c_told_ins (a b : Nat) (d : Array Nat) (hd : d.size = N) (hb : b ≤ N) (ha : a ≤ N) :
  vcall F nro k_zz5 [S, .int .i64 a, .int .i64 b, C] (H d) = some (.tuple #[], H (insertionSort (ltC cm) d a b)) := by
 have hl := E.ln
 have oS := E.oS
 have oC := E.oC
 have hN := E.hN
 have hc0 := fun q vs => E.clean0 d q vs
 have lp : ∀ (k i : Nat) (q : Array Nat), q.size = N → b ≤ i + k → i ≤ N + 1 →
   floop (vcall F nro) nro [0, 1, 2, 3, 8] i_zz5_B2 (H d) [S, .int .i64 a, .int .i64 b, C, .int .i64 i] (H q) = some (.exit 0, fl [], H (insOuter (ltC cm) a b i q)) := by
  intro k
  induction k with
  | zero =>
   intro i q hq hk hi
   have h1 : ¬ i < b := by omega
   have h2 : ¬ (i : Int) < b := by omega
   rw [insOuter, if_neg h1, floop_at i_zz5_B2.eq_1]
   simp (disch := first | assumption | omega | (simp [*] <;> omega) | fail) [-getElem?_pos, List.getElem?_cons_zero, List.getElem?_cons_succ, hc0, hl, oS, oC, h2, h1]
  | succ k ih =>
   intro i q hq hk hi
   by_cases h1 : i < b
   ·have h2 : (i : Int) < b := by omega
    have l1 := l_told_ins_1 E a b i q i q hq (by omega)
    have w1 : IntKind.i64.wrap ((i : Int) + 1) = (i : Int) + 1 := wrap64 (by omega) (by omega)
    have ih2 := ih (i + 1) (insInner (ltC cm) a i q) (by simpa using hq) (by omega) (by omega)
    rw [insOuter, if_pos h1, ← ih2]
    clear ih ih2
    rw [floop_at i_zz5_B2.eq_1]
    simp (disch := first | assumption | omega | (simp [*] <;> omega) | fail) [-getElem?_pos, List.getElem?_cons_zero, List.getElem?_cons_succ, hc0, hl, oS, oC, h2, h1, l1, w1]
   ·have h2 : ¬ (i : Int) < b := by omega
    rw [insOuter, if_neg h1, floop_at i_zz5_B2.eq_1]
    simp (disch := first | assumption | omega | (simp [*] <;> omega) | fail) [-getElem?_pos, List.getElem?_cons_zero, List.getElem?_cons_succ, hc0, hl, oS, oC, h2, h1]
 have l1 := lp b (a + 1) d hd (by omega) (by omega)
 have w1 : IntKind.i64.wrap ((a : Int) + 1) = (a : Int) + 1 := wrap64 (by omega) (by omega)
 refine v_zz5 (by simp [i_zz5]) ?_
 rw [fbody_eq]
 unfold insertionSort
 simp only [Int.natCast_add, Int.natCast_one] at l1
 simp (disch := first | assumption | omega | (simp [*] <;> omega) | fail) [-getElem?_pos, List.getElem?_cons_zero, List.getElem?_cons_succ, i_zz5, w1, l1, hc0, fresults, fresL]
end
end

end Go.Proofs.YtbdlmjnpglfkoaaDoor.Zv

