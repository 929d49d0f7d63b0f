/- What the laws' own small functions compute. -/
import Derived.Test.YthpgiimaadohcaaDoorZwIr
import Derived.Test.YthpgiimaadohcaaDoorZvRow
namespace Go.Proofs.YthpgiimaadohcaaDoor.Zv
open Go

open Classical in
/-- A loop that looks for something bad. -/
theorem search {α : Type} (f : Int → α) (bad : Int → Prop) (r d : α) (n lo : Int) (hstep : ∀ i, lo ≤ i → i < n → (bad i → f i = r) ∧ (¬ bad i → f i = f (i + 1))) (hend : ∀ i, lo ≤ i → ¬ i < n → f i = d) (i : Int) (hi : lo ≤ i) :
    f i = if ∃ j, i ≤ j ∧ j < n ∧ bad j then r else d := by
  by_cases hlt : i < n
  · by_cases hb : bad i
    · rw [(hstep i hi hlt).1 hb, if_pos ⟨i, Int.le_refl _, hlt, hb⟩]
    · rw [(hstep i hi hlt).2 hb, search f bad r d n lo hstep hend (i + 1) (by omega)]
      have : (∃ j, i + 1 ≤ j ∧ j < n ∧ bad j) ↔ ∃ j, i ≤ j ∧ j < n ∧ bad j := by
        constructor
        · rintro ⟨j, h1, h2, h3⟩; exact ⟨j, by omega, h2, h3⟩
        · rintro ⟨j, h1, h2, h3⟩
          refine ⟨j, ?_, h2, h3⟩
          have : j ≠ i := fun e => hb (e ▸ h3)
          omega
      simp only [this]
  · rw [hend i hi hlt, if_neg]
    rintro ⟨j, h1, h2, _⟩
    omega
 termination_by (n - i).toNat

theorem getD_at (xs : List Int) {i : Nat} (hi : i < xs.length) : xs.getD i 0 = xs[i] := by
  rw [List.getD_eq_getElem?_getD, List.getElem?_eq_getElem hi]; rfl

variable {nro : Nat}

/-- A graph's value. -/
abbrev gv (n : Int) (s : Value) : Value := .agg #[.int .i64 n, s]

theorem c_laws_szInt64S (s : Value) (xs : List Int) (left : Int) (h : VH) (hs : Sli h s xs) (h1 : 0 ≤ left) (h2 : left ≤ 1048576) (h3 : xs.length ≤ 9223372036854775807) :
    vcall F nro k_laws_szInt64S [s, .int .i64 left] h = some (.int .i64 (if left < xs.length then -1 else left - xs.length), h) := by
  refine v_laws_szInt64S (by simp [i_laws_szInt64S]) ?_
  rw [fbody_eq]
  simp (disch := first | assumption | omega | (simp [*] <;> omega) | fail) [i_laws_szInt64S, hs.vlen, wrap64]
  split <;> split <;> first | rfl | omega

theorem c_laws_szGraph (n : Int) (s : Value) (xs : List Int) (left : Int) (h : VH) (hs : Sli h s xs) (h1 : 0 ≤ left) (h2 : left ≤ 1048576) (h3 : xs.length ≤ 9223372036854775807) :
    vcall F nro k_laws_szGraph [gv n s, .int .i64 left] h = some (.int .i64 (if left < xs.length then -1 else left - xs.length), h) := by
  refine v_laws_szGraph (by simp [i_laws_szGraph]) ?_
  rw [fbody_eq]
  have hc := c_laws_szInt64S (nro := nro) s xs left (h ++ [⟨0, [.int .i64 n, s]⟩]) (hs.app _) h1 h2 h3
  simp (disch := first | assumption | omega | (simp [*] <;> omega) | fail) [i_laws_szGraph, hc]
  by_cases hx : left < xs.length
  · simp [hx]; omega
  · have : ¬ (left - (xs.length : Int) < 0) := by omega
    simp [hx, this]

theorem l_laws_toInt64S (s : Value) (xs : List Int) (h : VH) (hs : Sli h s xs) (h3 : xs.length ≤ 1099511627776) (hn : nro ≤ h.length) (y0 : List Int) (i : Int) (ys : List Int) (h0 : 0 ≤ i) (hi : i ≤ xs.length) (hl : ys.length = xs.length) (hp : ys.take i.toNat = xs.take i.toNat) :
    floop (vcall F nro) nro [0, 3, 4] i_laws_toInt64S_B1 (h ++ [⟨1, ints y0⟩]) [s, .slice (some ⟨h.length, 0, none⟩) xs.length xs.length, .int .i64 i] (h ++ [⟨1, ints ys⟩]) =
      some (.exit 0, fl [(3, .slice (some ⟨h.length, 0, none⟩) xs.length xs.length)], h ++ [⟨1, ints xs⟩]) := by
  have hso := fun k => hs.oldk (k := k)
  rw [floop_at i_laws_toInt64S_B1.eq_1]
  by_cases hlt : i < xs.length
  · simp (disch := first | assumption | omega | (simp [*] <;> omega) | fail) [hs.vlen', hs.vidx', hs.vload', wrap64, hlt, splice_ints, hn, hl, h0]
    refine l_laws_toInt64S s xs h hs h3 hn y0 (i + 1) (ys.set i.toNat xs[i.toNat]) (by omega) (by omega) (by simpa using hl) ?_
    rw [show (i + 1).toNat = i.toNat + 1 by omega]
    apply List.ext_getElem?
    intro k
    have := congrArg (·[k]?) hp
    grind
  · have : i = xs.length := by omega
    subst this
    have : ys = xs := by simpa [← hl, List.take_of_length_le] using hp
    simp (disch := first | assumption | omega | (simp [*] <;> omega) | fail) [hs.vlen', hs.vidx', hs.vload', wrap64, this]
 termination_by (xs.length - i).toNat

theorem c_laws_toInt64S (s : Value) (xs : List Int) (h : VH) (hs : Sli h s xs) (h3 : xs.length ≤ 1099511627776) (hn : nro ≤ h.length) :
    vcall F nro k_laws_toInt64S [s] h = some (.slice (some ⟨h.length, 0, none⟩) xs.length xs.length, h ++ [⟨1, ints xs⟩]) := by
  refine v_laws_toInt64S (by simp [i_laws_toInt64S]) ?_
  rw [fbody_eq]
  have hl := l_laws_toInt64S s xs h hs h3 hn (List.replicate xs.length 0) 0 (List.replicate xs.length 0) (by omega) (by omega) (by simp) (by simp)
  simp (disch := first | assumption | omega | (simp [*] <;> omega) | fail) [i_laws_toInt64S, hs.vlen, hl]
  omega

theorem c_laws_toGraph (n : Int) (s : Value) (xs : List Int) (h : VH) (hs : Sli h s xs) (h3 : xs.length ≤ 1099511627776) (hn : nro ≤ h.length) :
    vcall F nro k_laws_toGraph [gv n s] h = some (gv n (.slice (some ⟨h.length, 0, none⟩) xs.length xs.length), h ++ [⟨1, ints xs⟩]) := by
  refine v_laws_toGraph (by simp [i_laws_toGraph]) ?_
  rw [fbody_eq]
  have hc := c_laws_toInt64S (nro := nro) s xs (h ++ [⟨0, [.int .i64 n, s]⟩, ⟨0, [.int .i64 0, .slice none 0 0]⟩, ⟨0, [.int .i64 n, .slice none 0 0]⟩]) (hs.app _) h3 (by simp; omega)
  simp at hc
  have hn' := fun k => Nat.le_trans hn (Nat.le_add_right h.length k)
  simp (disch := first | assumption | omega | (simp [*] <;> omega) | fail) [i_laws_toGraph, hc, splice, fresults, fresL, fres1, hn']

theorem l_laws_eqInt64S (s t : Value) (xs ys : List Int) (h : VH) (hs : Sli h s xs) (ht : Sli h t ys) (h3 : xs.length ≤ 9223372036854775806) (hl : xs.length = ys.length) :
    floop (vcall F nro) nro [0, 1, 5] i_laws_eqInt64S_B1 h [s, t, .int .i64 0] h = if xs = ys then some (.exit 0, fl [], h) else some (.ret, fl [(4, .bool false)], h) := by
  have key := search (fun i => floop (vcall F nro) nro [0, 1, 5] i_laws_eqInt64S_B1 h [s, t, .int .i64 i] h) (fun i => xs.getD i.toNat 0 ≠ ys.getD i.toNat 0) (some (.ret, fl [(4, .bool false)], h)) (some (.exit 0, fl [], h)) xs.length 0 ?_ ?_ 0 (by omega)
  · rw [key]
    by_cases e : xs = ys
    · rw [if_pos e, if_neg]
      rintro ⟨j, _, _, hj⟩
      exact hj (by rw [e])
    · rw [if_neg e, if_pos]
      apply Classical.byContradiction
      intro hno
      apply e
      apply List.ext_getElem hl
      intro k h1 h2
      apply Classical.byContradiction
      intro hne
      exact hno ⟨k, by omega, by omega, by simpa [h1, h2] using hne⟩
  · intro i h0 hi
    have hso := hs.old
    have hto := ht.old
    have e1 : xs.getD i.toNat 0 = xs[i.toNat]'(by omega) := getD_at _ (by omega)
    have e2 : ys.getD i.toNat 0 = ys[i.toNat]'(by omega) := getD_at _ (by omega)
    rw [e1, e2, floop_at i_laws_eqInt64S_B1.eq_1]
    constructor <;> intro hb <;> simp (disch := first | assumption | omega | (simp [*] <;> omega) | fail) [hs.vlen, hs.vidx, hs.vload, ht.vlen, ht.vidx, ht.vload, wrap64, hi, hb]
  · intro i h0 hi
    rw [floop_at i_laws_eqInt64S_B1.eq_1]
    simp (disch := first | assumption | omega | (simp [*] <;> omega) | fail) [hs.vlen, hi]

theorem c_laws_eqInt64S (s t : Value) (xs ys : List Int) (h : VH) (hs : Sli h s xs) (ht : Sli h t ys) (h3 : xs.length ≤ 9223372036854775806) :
    vcall F nro k_laws_eqInt64S [s, t] h = some (.bool (decide (xs = ys)), h) := by
  refine v_laws_eqInt64S (by simp [i_laws_eqInt64S]) ?_
  rw [fbody_eq]
  by_cases hl : xs.length = ys.length
  · simp (disch := first | assumption | omega | (simp [*] <;> omega) | fail) [i_laws_eqInt64S, hs.vlen, ht.vlen, hl, l_laws_eqInt64S s t xs ys h hs ht h3 hl]
    by_cases e : xs = ys <;> simp [e]
  · have hl' : ¬ (xs.length : Int) = ys.length := by omega
    have : xs ≠ ys := fun e => hl (by rw [e])
    simp (disch := first | assumption | omega | (simp [*] <;> omega) | fail) [i_laws_eqInt64S, hs.vlen, ht.vlen, hl', this]

theorem c_laws_eqGraph (n m : Int) (s t : Value) (xs ys : List Int) (h : VH) (hs : Sli h s xs) (ht : Sli h t ys) (h3 : xs.length ≤ 9223372036854775806) :
    vcall F nro k_laws_eqGraph [gv n s, gv m t] h = some (.bool (decide (n = m ∧ xs = ys)), h) := by
  refine v_laws_eqGraph (by simp [i_laws_eqGraph]) ?_
  rw [fbody_eq]
  have hc := c_laws_eqInt64S (nro := nro) s t xs ys (h ++ [⟨0, [.int .i64 n, s]⟩, ⟨0, [.int .i64 m, t]⟩]) (hs.app _) (ht.app _) h3
  simp (disch := first | assumption | omega | (simp [*] <;> omega) | fail) [i_laws_eqGraph, hc]
  by_cases e1 : n = m <;> by_cases e2 : xs = ys <;> simp [e1, e2]

theorem r_laws_toInt64S (s : Value) (h : VH) (hs : isSli h s) (h3 : (rd h s).length ≤ 1099511627776) (hn : nro ≤ h.length) :
    vcall F nro k_laws_toInt64S [s] h = some (.slice (some ⟨h.length, 0, none⟩) (rd h s).length (rd h s).length, h ++ [⟨1, ints (rd h s)⟩]) := c_laws_toInt64S s _ h hs.sli h3 hn
theorem r_laws_toGraph (n : Int) (s : Value) (h : VH) (hs : isSli h s) (h3 : (rd h s).length ≤ 1099511627776) (hn : nro ≤ h.length) :
    vcall F nro k_laws_toGraph [gv n s] h = some (gv n (.slice (some ⟨h.length, 0, none⟩) (rd h s).length (rd h s).length), h ++ [⟨1, ints (rd h s)⟩]) := c_laws_toGraph n s _ h hs.sli h3 hn
theorem r_laws_eqInt64S (s t : Value) (h : VH) (hs : isSli h s) (ht : isSli h t) (h3 : (rd h s).length ≤ 9223372036854775806) :
    vcall F nro k_laws_eqInt64S [s, t] h = some (.bool (decide (rd h s = rd h t)), h) := c_laws_eqInt64S s t _ _ h hs.sli ht.sli h3
theorem r_laws_eqGraph (n m : Int) (s t : Value) (h : VH) (hs : isSli h s) (ht : isSli h t) (h3 : (rd h s).length ≤ 9223372036854775806) :
    vcall F nro k_laws_eqGraph [gv n s, gv m t] h = some (.bool (decide (n = m ∧ rd h s = rd h t)), h) := c_laws_eqGraph n m s t _ _ h hs.sli ht.sli h3
theorem r_laws_szGraph (n : Int) (s : Value) (left : Int) (h : VH) (hs : isSli h s) (h1 : 0 ≤ left) (h2 : left ≤ 1048576) (h3 : (rd h s).length ≤ 9223372036854775807) :
    vcall F nro k_laws_szGraph [gv n s, .int .i64 left] h = some (.int .i64 (if left < (rd h s).length then -1 else left - (rd h s).length), h) := c_laws_szGraph n s _ left h hs.sli h1 h2 h3
end Go.Proofs.YthpgiimaadohcaaDoor.Zv
