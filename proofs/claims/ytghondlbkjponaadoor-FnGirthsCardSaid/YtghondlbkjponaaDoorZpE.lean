/- Part E of the proof: ZwDist, ZwDist2, ZwMay, ZwFill, ZwWalk, ZwGirth, ZwFrom, ZwFrom2, ZwWays, ZwWays2, ZwBound, ZwMoore, ZwTup, ZwFew, ZwCyc, ZwLL. Conditions: none. -/
import Derived.Test.YtghondlbkjponaaDoorZpD
set_option linter.unusedSimpArgs false
set_option linter.unusedVariables false
/- The program's distances from a vertex. -/
namespace Go.Proofs.YtghondlbkjponaaDoor.Zv
open Go
variable {nro : Nat}

/-! ### a slice of one number, repeated -/
theorem c_math_bits_Mul (n : Nat) (hn : n ≤ 1000) (h : VH) : vcall F nro k_math_bits_Mul [.int .u64 1, .int .u64 n] h = some (.tuple #[.int .u64 0, .int .u64 n], h) := by
  have a1 : iand .u64 1 4294967295 = 1 := by have := and_u64 (a := 1) (b := 4294967295) (by omega) (by omega); simpa using this
  have a2 : ishr .u64 1 32 = 0 := by have := shr_u64 (a := 1) (b := 32) (by omega); simpa using this
  have a3 : iand .u64 (n : Int) 4294967295 = n := by
    have := and_u64 (a := n) (b := 4294967295) (by omega) (by omega)
    rw [show (4294967295 : Nat) = 2 ^ 32 - 1 from rfl, Nat.and_two_pow_sub_one_eq_mod, Nat.mod_eq_of_lt (by omega)] at this
    exact this
  have a4 : ishr .u64 (n : Int) 32 = 0 := by
    have := shr_u64 (a := n) (b := 32) (by omega)
    rw [Nat.div_eq_of_lt (by omega)] at this
    exact this
  have a5 : iand .u64 0 4294967295 = 0 := by have := and_u64 (a := 0) (b := 4294967295) (by omega) (by omega); simpa using this
  have a6 : ishr .u64 0 32 = 0 := by have := shr_u64 (a := 0) (b := 32) (by omega); simpa using this
  have w0 : IntKind.u64.wrap 0 = 0 := wrapu64 (by omega) (by omega)
  have wn : IntKind.u64.wrap (n : Int) = n := wrapu64 (by omega) (by omega)
  have hc : vcall F nro k_math_bits_Mul64 [.int .u64 1, .int .u64 n] h = some (.tuple #[.int .u64 0, .int .u64 n], h) := by
    refine v_math_bits_Mul64 (by simp [i_math_bits_Mul64]) ?_
    rw [fbody_eq]
    simp (disch := first | assumption | omega | (simp [*] <;> omega) | fail) [i_math_bits_Mul64, a1, a2, a3, a4, a5, a6, w0, wn, fresults, fresL, fres1]
  refine v_math_bits_Mul (by simp [i_math_bits_Mul]) ?_
  rw [fbody_eq]
  simp (disch := first | assumption | omega | (simp [*] <;> omega) | fail) [i_math_bits_Mul, hc, fresults, fresL, fres1]

theorem vcopy_ints {h : VH} {b : Nat} {xs ys : List Int} {y : Value} (hb : h[b]? = some ⟨1, ints xs⟩) (hy : vsrc 1 h y = some (ints ys, ys.length)) {o1 n1 : Nat} (h1 : o1 + n1 ≤ xs.length) (hn : nro ≤ b) (hk : 0 < min ys.length n1) :
    vcopy nro 1 h (.slice (some ⟨b, o1, none⟩) n1 xs.length) y = some (.int .i64 ((min ys.length n1 : Nat) : Int), h.set b ⟨1, ints (xs.take o1 ++ ys.take (min ys.length n1) ++ xs.drop (o1 + min ys.length n1))⟩) := by
  have hl : (ints xs).length = xs.length := by simp
  unfold vcopy
  simp only [hy, hb, hl]
  rw [if_pos (by simp), if_neg (by omega)]
  have hj : (ints ys).all (fun v => !isJunk v) = true := by
    simp only [List.all_eq_true]
    intro v hv
    rw [ints_nj _ v hv]
    rfl
  rw [if_pos ⟨hn, by omega, by omega, hj⟩]
  have e3 : List.take (min ys.length n1 * 1) (ints ys) = ints (ys.take (min ys.length n1)) := by
    simp only [ints, Nat.mul_one, ← List.map_take]
  have e4 : splice o1 (ints (ys.take (min ys.length n1))) (ints xs) = ints (xs.take o1 ++ ys.take (min ys.length n1) ++ xs.drop (o1 + min ys.length n1)) := by
    unfold splice
    have : (ints (ys.take (min ys.length n1))).length = min ys.length n1 := by simp
    rw [this]
    simp [ints]
  rw [e3, e4]

/-- Half done. -/
def rep (n m : Nat) : List Int := List.replicate m (-1) ++ List.replicate (n - m) 0
theorem rep_len {n m : Nat} (h : m ≤ n) : (rep n m).length = n := by simp [rep]; omega

theorem l_slices_Repeat (h : VH) (hn : nro ≤ h.length) (n : Nat) (hn2 : n ≤ 1000) (m0 m : Nat) (hm1 : 1 ≤ m) (hm0 : m0 ≤ n) (hm : m ≤ n) :
    floop (vcall F nro) nro [7, 8] i_slices_Repeat_int64_int64_B1 (h ++ [⟨1, ints (rep n m0)⟩]) [.slice (some ⟨h.length, 0, none⟩) n n, .int .i64 m] (h ++ [⟨1, ints (rep n m)⟩]) =
      some (.exit 0, fl [(7, .slice (some ⟨h.length, 0, none⟩) n n)], h ++ [⟨1, ints (List.replicate n (-1))⟩]) := by
  have hn' := fun k => Nat.le_trans hn (Nat.le_add_right h.length k)
  have hrl := rep_len hm
  rw [floop_at i_slices_Repeat_int64_int64_B1.eq_1]
  by_cases hlt : m < n
  · have hy : vsrc 1 (h ++ [⟨1, ints (rep n m)⟩]) (.slice (some ⟨h.length, 0, none⟩) m n) = some (ints (List.replicate m (-1)), (List.replicate m (-1 : Int)).length) := by
      rw [vsrc_ref]
      have e : List.take m (ints (rep n m)) = ints (List.replicate m (-1)) := by
        unfold rep ints
        rw [List.map_append]
        exact List.take_left' (by simp)
      simp [hrl, hm, e]
    have hc := vcopy_ints (nro := nro) (h := h ++ [⟨1, ints (rep n m)⟩]) (b := h.length) (xs := rep n m) (by simp) hy (o1 := m) (n1 := n - m) (by omega) hn (by simp; omega)
    rw [List.length_replicate] at hc
    have e : (rep n m).take m ++ (List.replicate m (-1 : Int)).take (min m (n - m)) ++ (rep n m).drop (m + min m (n - m)) = rep n (m + min m (n - m)) := by
      unfold rep
      obtain ⟨k, hk⟩ : ∃ k, k = min m (n - m) := ⟨_, rfl⟩
      rw [← hk]
      have h1 : k ≤ m := by omega
      have h2 : k ≤ n - m := by omega
      have e1 : List.take m (List.replicate m (-1 : Int) ++ List.replicate (n - m) 0) = List.replicate m (-1) := List.take_left' (by simp)
      have e2 : List.take k (List.replicate m (-1 : Int)) = List.replicate k (-1) := by
        rw [List.take_replicate]
        congr 1
        omega
      have e3 : List.drop (m + k) (List.replicate m (-1 : Int) ++ List.replicate (n - m) 0) = List.replicate (n - (m + k)) 0 := by
        rw [List.drop_append, List.drop_eq_nil_of_le (by simp), List.nil_append, List.drop_replicate]
        congr 1
        simp
        omega
      rw [e1, e2, e3, List.replicate_append_replicate]
    rw [e, hrl] at hc
    simp at hc
    have ih := l_slices_Repeat h hn n hn2 m0 (m + min m (n - m)) (by omega) hm0 (by omega)
    have hlt' : (m : Int) < n := by omega
    have hmn : (m : Int) ≤ n := by omega
    obtain ⟨k, hk⟩ : ∃ k, k = min m (n - m) := ⟨_, rfl⟩
    rw [← hk] at hc ih
    have wk : IntKind.i64.wrap ((m : Int) + k) = (m : Int) + k := wrap64 (by omega) (by omega)
    simp only [Int.natCast_add] at ih
    have hrl2 := rep_len (n := n) (m := m + k) (by omega)
    simp (disch := first | assumption | omega | (simp [*] <;> omega) | fail) [hlt', hmn, hrl, hc, wk, ih, hn, hn', hrl2, vslice]
  · have hlt' : ¬ (m : Int) < n := by omega
    have e : m = n := by omega
    subst e
    have e2 : rep m m = List.replicate m (-1) := by simp [rep]
    rw [e2] at hrl ⊢
    simp (disch := first | assumption | omega | (simp [*] <;> omega) | fail) [hlt', hrl]
 termination_by n - m

theorem c_slices_Repeat (s : Value) (n : Nat) (h : VH) (hs : Sli h s [-1]) (h1 : 1 ≤ n) (h2 : n ≤ 1000) (hn : nro ≤ h.length) :
    vcall F nro k_slices_Repeat_int64_int64 [s, .int .i64 n] h = some (.slice (some ⟨h.length, 0, none⟩) n n, h ++ [⟨1, ints (List.replicate n (-1))⟩]) := by
  refine v_slices_Repeat_int64_int64 (by simp [i_slices_Repeat_int64_int64]) ?_
  rw [fbody_eq]
  have hc := c_math_bits_Mul (nro := nro) n h2 h
  have lp := l_slices_Repeat (nro := nro) h hn n h2 1 1 (by omega) h1 h1
  have hv : vsrc 1 (h ++ [⟨1, ints (List.replicate n 0)⟩]) s = some (ints [-1], (ints [-1]).length) := hs.app _
  have hcp : vcopy nro 1 (h ++ [⟨1, ints (List.replicate n 0)⟩]) (.slice (some ⟨h.length, 0, none⟩) n n) s = some (.int .i64 1, h ++ [⟨1, ints (rep n 1)⟩]) := by
    have := vcopy_ints (nro := nro) (h := h ++ [⟨1, ints (List.replicate n 0)⟩]) (b := h.length) (xs := List.replicate n 0) (by simp) (by rw [hv, ints_length]) (o1 := 0) (n1 := n) (by simp) hn (by simp; omega)
    have e1 : min 1 n = 1 := by omega
    simp [e1] at this
    rw [this]
    simp [rep]
  have w1 : IntKind.u64.wrap (n : Int) = n := wrapu64 (by omega) (by omega)
  have w2 : IntKind.i64.wrap (n : Int) = n := wrap64 (by omega) (by omega)
  have w3 : IntKind.u64.wrap 1 = 1 := wrapu64 (by omega) (by omega)
  have b0 : ¬ (n : Int) < 0 := by omega
  have b1 : ¬ (9223372036854775807 : Int) < n := by omega
  have b2 : 8 * (n : Int) ≤ 140737488355328 := by omega
  have b3 : (n : Int) ≤ 140737488355328 := by omega
  simp only [Int.natCast_one] at lp
  simp (disch := first | assumption | omega | (simp [*] <;> omega) | fail) [i_slices_Repeat_int64_int64, hs.vlen, hc, w1, w2, w3, b0, b1, b2, b3, hcp, lp, hn]
end Go.Proofs.YtghondlbkjponaaDoor.Zv

/- The program's distances from a vertex. -/
namespace Go.Proofs.YtghondlbkjponaaDoor.Zv
open Go
variable {nro : Nat}

/-- The number d at some places. -/
def setAll (o : List Int) (d : Nat) : List Int → List Int
  | [] => o
  | y :: l => setAll (o.set y.toNat d) d l
theorem setAll_len (d : Nat) : ∀ (l : List Int) (o : List Int), (setAll o d l).length = o.length
  | [], _ => rfl
  | y :: l, o => by simp [setAll, setAll_len d l]
theorem setAll_get (d b : Nat) : ∀ (l : List Int) (o : List Int), b < o.length → (∀ y ∈ l, 0 ≤ y) → (setAll o d l).getD b 0 = if (b : Int) ∈ l then (d : Int) else o.getD b 0
  | [], o, _, _ => by simp [setAll]
  | y :: l, o, hb, h0 => by
    have h1 := h0 y (List.mem_cons_self ..)
    rw [setAll, setAll_get d b l _ (by simpa using hb) fun z hz => h0 z (List.mem_cons_of_mem _ hz)]
    by_cases h2 : (b : Int) ∈ l
    · rw [if_pos h2, if_pos (List.mem_cons_of_mem _ h2)]
    · rw [if_neg h2]
      by_cases h3 : (b : Int) = y
      · rw [if_pos (by rw [h3]; exact List.mem_cons_self ..)]
        have : y.toNat = b := by omega
        rw [this, List.getD_eq_getElem?_getD, List.getElem?_set_self hb]
        rfl
      · rw [if_neg (by simp [h3, h2])]
        rw [List.getD_eq_getElem?_getD, List.getElem?_set_ne (by omega), ← List.getD_eq_getElem?_getD]

/-- The heap of the search: the graph, the number -1 that was repeated, the distances. -/
def dh (h : VH) (n : Nat) (s : Value) (o : List Int) : VH := h ++ [⟨0, [.int .i64 n, s]⟩, ⟨1, [.int .i64 (-1)]⟩, ⟨1, ints o⟩]

theorem l_impl_Graph_distances_1 (h : VH) (n : Nat) (s : Value) (rows : List Int) (hs : Sli h s rows) (R : Rok n rows) (hn : nro ≤ h.length) (met d : Nat) (L : List Int) (hL : ∀ y ∈ L, 0 ≤ y ∧ y < n) (hLl : L.length ≤ 62) (o0 : List Int)
    (k j : Nat) (hk : k = L.length - j) (hj : j ≤ L.length) (o : List Int) (ho : o.length = n) (acc : Nat) (ha : acc < 2 ^ 62) :
    floop (vcall F nro) nro [2, 5, 6, 8, 9, 25, 26, 27] i_impl_Graph_distances_B1 (dh h n s o0 ++ [⟨1, ints L⟩]) [bp h, .slice (some ⟨h.length + 2, 0, none⟩) n n, .int .i64 met, .int .i64 d, .int .i64 acc, .slice (some ⟨h.length + 3, 0, none⟩) L.length L.length, .int .i64 L.length, .int .i64 j] (dh h n s o ++ [⟨1, ints L⟩]) =
      some (.exit 2, fl [(2, bp h), (5, .slice (some ⟨h.length + 2, 0, none⟩) n n), (6, .int .i64 met), (8, .int .i64 d), (9, .int .i64 ((acc ||| orL rows (L.drop j) : Nat) : Int))], dh h n s (setAll o d (L.drop j)) ++ [⟨1, ints L⟩]) := by
  have hn' := fun k => Nat.le_trans hn (Nat.le_add_right h.length k)
  have hsc := fun k => hs.oldCk (k := k)
  have hle := R.le
  have hlen := R.len
  unfold dh
  rw [floop_at i_impl_Graph_distances_B1.eq_1]
  by_cases hlt : j < L.length
  · obtain ⟨y, hy⟩ : ∃ y : Nat, L[j] = (y : Int) := by
      have := hL L[j] (List.getElem_mem hlt)
      exact ⟨L[j].toNat, by omega⟩
    have hyn : y < n := by
      have := hL L[j] (List.getElem_mem hlt)
      omega
    have hyr : y < rows.length := by omega
    have hyo : y < o.length := by omega
    obtain ⟨r1, r2⟩ := R.row y hyn
    have r3 := le62 hle r2
    have hor := ior_nat (a := acc) (b := (rows.getD y 0).toNat) (by omega) (by omega)
    have e1 : (((rows.getD y 0).toNat : Nat) : Int) = rows[y]'hyr := by rw [getD_at rows hyr] at r1 ⊢; omega
    rw [e1] at hor
    have vx := fun L => (hs.app L).vidx (k := .i64) (j := (y : Int)) (by omega) (by omega)
    have vl := fun L => (hs.app L).vload hyr
    have hlt' : (j : Int) < L.length := by omega
    have ih := l_impl_Graph_distances_1 h n s rows hs R hn met d L hL hLl o0 (k - 1) (j + 1) (by omega) hlt (o.set y d) (by simpa using ho) (acc ||| (rows.getD y 0).toNat) (Nat.or_lt_two_pow ha r3)
    rw [show ((j + 1 : Nat) : Int) = (j : Int) + 1 by omega] at ih
    rw [List.drop_eq_getElem_cons hlt, hy]
    simp only [orL, setAll, Int.toNat_natCast]
    rw [← Nat.or_assoc]
    obtain ⟨a2, ha2⟩ : ∃ a2, a2 = acc ||| (rows.getD y 0).toNat := ⟨_, rfl⟩
    rw [← ha2] at ih hor ⊢
    obtain ⟨q, hq⟩ : ∃ q, q = orL rows (L.drop (j + 1)) := ⟨_, rfl⟩
    rw [← hq] at ih ⊢
    obtain ⟨q2, hq2⟩ : ∃ q2, q2 = setAll (o.set y d) d (L.drop (j + 1)) := ⟨_, rfl⟩
    rw [← hq2] at ih ⊢
    unfold dh at ih
    simp at ih
    have hyn' : (y : Int) < n := by omega
    have sp := splice_ints (v := (d : Int)) hyo
    have t1 := take1_ints (xs := L) hlt
    rw [hy] at t1
    clear ha2 hq hq2 r1 r2 r3 e1 hL hk
    simp (disch := first | assumption | omega | (simp [*] <;> omega) | fail) [wrap64, hlt', hlt, vx, vl, hor, hsc, ih, hn', hn, hyn', hyn, ho, hyo, sp, t1, hy]
  · have hlt' : ¬ (j : Int) < L.length := by omega
    rw [List.drop_eq_nil_of_le (by omega)]
    simp only [orL, setAll, Nat.or_zero]
    simp (disch := first | assumption | omega | (simp [*] <;> omega) | fail) [hlt']
 termination_by k
 decreasing_by omega

/-- The list of the levels. -/
def dl (rows : List Int) (met f d : Nat) (o : List Int) : List Int :=
  if f = 0 then o else
    if h : met < (met ||| nxt rows f) ∧ (met ||| nxt rows f) < 2 ^ 62 then dl rows (met ||| nxt rows f) (nand (nxt rows f) met) (d + 1) (setAll o d (bitL f)) else setAll o d (bitL f)
 termination_by 2 ^ 62 - met
 decreasing_by omega
theorem dl_zero {rows : List Int} {met d : Nat} {o : List Int} : dl rows met 0 d o = o := by rw [dl, if_pos rfl]
theorem dl_step {n : Nat} {rows : List Int} (R : Rok n rows) {met f d : Nat} {o : List Int} (hm : met < 2 ^ n) (hf : f < 2 ^ n) (h0 : ¬ f = 0) :
    dl rows met f d o = dl rows (met ||| nxt rows f) (nand (nxt rows f) met) (d + 1) (setAll o d (bitL f)) := by
  have h2 := le62 R.le (Nat.or_lt_two_pow hm (nxt_lt R hf))
  by_cases h1 : met < met ||| nxt rows f
  · conv => lhs; rw [dl]
    rw [if_neg h0, dif_pos ⟨h1, h2⟩]
  · conv => lhs; rw [dl]
    rw [if_neg h0, dif_neg (fun h => h1 h.1), or_or_zero (rows := rows) h1, dl_zero]
theorem dl_len {rows : List Int} {met f d : Nat} {o : List Int} : (dl rows met f d o).length = o.length := by
  rw [dl]
  split
  · rfl
  · split
    · rw [dl_len, setAll_len]
    · rw [setAll_len]
 termination_by 2 ^ 62 - met
 decreasing_by omega

/-- What is met already and not in front keeps its number. -/
theorem dl_old {n : Nat} {rows : List Int} (R : Rok n rows) (b : Nat) (hb : b < n) (met f d : Nat) (o : List Int) (ho : o.length = n) (hm : met < 2 ^ n) (hf : f < 2 ^ n) (h1 : met.testBit b = true) (h2 : f.testBit b = false) :
    (dl rows met f d o).getD b 0 = o.getD b 0 := by
  by_cases h0 : f = 0
  · subst h0; rw [dl_zero]
  · have hx := nxt_lt R hf
    have hnl := nand_le (nxt rows f) met
    have hs : (setAll o d (bitL f)).getD b 0 = o.getD b 0 := by
      rw [setAll_get d b _ _ (by omega) fun y hy => (bitL_lt hf y hy).1, if_neg]
      intro h
      have := (bitL_mem f b).mp h
      rw [Int.toNat_natCast] at this
      rw [h2] at this
      exact Bool.noConfusion this.2.2
    by_cases h3 : met < met ||| nxt rows f
    · have := dl_old R b hb (met ||| nxt rows f) (nand (nxt rows f) met) (d + 1) (setAll o d (bitL f)) (by rw [setAll_len]; exact ho) (Nat.or_lt_two_pow hm hx) (by omega) (by rw [Nat.testBit_or, h1]; rfl) (by rw [nand_bit, h1]; simp)
      rw [dl_step R hm hf h0, this, hs]
    · rw [dl_step R hm hf h0, or_or_zero (rows := rows) h3, dl_zero, hs]
 termination_by 2 ^ n - met
 decreasing_by
  have := Nat.or_lt_two_pow hm hx
  omega

theorem dl_get {n : Nat} {rows : List Int} (R : Rok n rows) (b : Nat) (hb : b < n) (met f d : Nat) (o : List Int) (ho : o.length = n) (hm : met < 2 ^ n) (hf : f < 2 ^ n) (hfm : ∀ j, f.testBit j = true → met.testBit j = true) :
    (dl rows met f d o).getD b 0 = if lev rows met f d b < 0 then o.getD b 0 else lev rows met f d b := by
  by_cases h0 : f = 0
  · subst h0; rw [dl_zero, lev_zero]; rfl
  · have hx := nxt_lt R hf
    have hnl := nand_le (nxt rows f) met
    have hs : (setAll o d (bitL f)).getD b 0 = if f.testBit b = true then (d : Int) else o.getD b 0 := by
      rw [setAll_get d b _ _ (by omega) fun y hy => (bitL_lt hf y hy).1]
      have hl := R.le
      have e : ((b : Int) ∈ bitL f) ↔ f.testBit b = true := by
        rw [bitL_mem, Int.toNat_natCast]
        exact ⟨fun h => h.2.2, fun h => ⟨by omega, by omega, h⟩⟩
      simp only [e]
    rw [dl_step R hm hf h0]
    by_cases hbb : f.testBit b = true
    · rw [lev_bit hbb, if_neg (by omega), dl_old R b hb _ _ _ _ (by rw [setAll_len]; exact ho) (Nat.or_lt_two_pow hm hx) (by omega) (by rw [Nat.testBit_or, hfm b hbb]; rfl) (by rw [nand_bit, hfm b hbb]; simp), hs, if_pos hbb]
    · have hbb' : f.testBit b = false := by simpa using hbb
      rw [lev_step R hm hf h0 hbb']
      rw [if_neg hbb] at hs
      by_cases h3 : met < met ||| nxt rows f
      · rw [dl_get R b hb (met ||| nxt rows f) (nand (nxt rows f) met) (d + 1) (setAll o d (bitL f)) (by rw [setAll_len]; exact ho) (Nat.or_lt_two_pow hm hx) (by omega) (by
          intro j hj
          rw [nand_bit] at hj
          simp at hj
          rw [Nat.testBit_or, hj.1]
          simp), hs]
      · rw [or_or_zero (rows := rows) h3, dl_zero, lev_zero, hs]
        rfl
 termination_by 2 ^ n - met
 decreasing_by
  have := Nat.or_lt_two_pow hm hx
  omega

theorem l_impl_Graph_distances_2 (h : VH) (n : Nat) (s : Value) (rows : List Int) (hs : Sli h s rows) (R : Rok n rows) (hn : nro ≤ h.length) (o0 : List Int) (met f d : Nat) (hm : met < 2 ^ n) (hf : f < 2 ^ n) (hd : ¬ f = 0 → d ≤ met) (o : List Int) (ho : o.length = n) :
    floop (vcall F nro) nro [2, 5, 6, 7, 8] i_impl_Graph_distances_B2 (dh h n s o0) [bp h, .slice (some ⟨h.length + 2, 0, none⟩) n n, .int .i64 met, .int .i64 f, .int .i64 d] (dh h n s o) =
      some (.exit 0, fl [(5, .slice (some ⟨h.length + 2, 0, none⟩) n n)], dh h n s (dl rows met f d o)) := by
  have hn' := fun k => Nat.le_trans hn (Nat.le_add_right h.length k)
  have hsc := fun k => hs.oldCk (k := k)
  have hle := R.le
  have hm62 := le62 hle hm
  have hf62 := le62 hle hf
  rw [floop_at i_impl_Graph_distances_B2.eq_1]
  by_cases h0 : f = 0
  · subst h0
    rw [dl_zero]
    unfold dh
    simp (disch := first | assumption | omega | (simp [*] <;> omega) | fail) [hn, hn']
  · have h0' : ¬ (f : Int) = 0 := by omega
    have hdm := hd h0
    rw [dl_step R hm hf h0]
    have hx := nxt_lt R hf
    have hx62 := le62 hle hx
    have hnl := nand_le (nxt rows f) met
    have hc := c_impl_list (nro := nro) f hf62 (dh h n s o) (by unfold dh; simp; omega)
    have hlL := bitL_len f
    have lp := l_impl_Graph_distances_1 (nro := nro) h n s rows hs R hn met d (bitL f) (bitL_lt hf) hlL o (bitL f).length 0 (by omega) (Nat.zero_le _) o ho 0 (by omega)
    rw [List.drop_zero, Nat.zero_or, show orL rows (bitL f) = nxt rows f from rfl] at lp
    have hih := l_impl_Graph_distances_2 h n s rows hs R hn o0 (met ||| nxt rows f) (nand (nxt rows f) met) (d + 1) (Nat.or_lt_two_pow hm hx) (by omega) (by
      intro hne
      rcases Nat.lt_or_ge met (met ||| nxt rows f) with h1 | h1
      · omega
      · exact absurd (or_or_zero (rows := rows) (by omega)) hne) (setAll o d (bitL f)) (by rw [setAll_len]; exact ho)
    have a1 := iandNot_nat (a := nxt rows f) (b := met) hx62 hm62
    have a2 := ior_nat (a := met) (b := nxt rows f) (by omega) (by omega)
    have a6 : IntKind.i64.wrap ((d : Int) + 1) = (d : Int) + 1 := wrap64 (by omega) (by omega)
    rw [show ((d + 1 : Nat) : Int) = (d : Int) + 1 by omega] at hih
    obtain ⟨x, hxx⟩ : ∃ x, x = nxt rows f := ⟨_, rfl⟩
    rw [← hxx] at lp hih a1 a2 ⊢
    obtain ⟨z, hz⟩ : ∃ z, z = nand x met := ⟨_, rfl⟩
    rw [← hz] at a1 hih ⊢
    obtain ⟨m2, hm2⟩ : ∃ m2, m2 = met ||| x := ⟨_, rfl⟩
    rw [← hm2] at a2 hih ⊢
    obtain ⟨q, hq⟩ : ∃ q, q = dl rows m2 z (d + 1) (setAll o d (bitL f)) := ⟨_, rfl⟩
    rw [← hq] at hih ⊢
    have hsl := setAll_len d (bitL f) o
    obtain ⟨q2, hq2⟩ : ∃ q2, q2 = setAll o d (bitL f) := ⟨_, rfl⟩
    rw [← hq2] at hih lp hsl
    obtain ⟨Lf, hLf⟩ : ∃ Lf, Lf = bitL f := ⟨_, rfl⟩
    rw [← hLf] at hc lp hlL
    simp only [Int.natCast_zero] at lp
    unfold dh at hc lp hih ⊢
    simp at hc lp hih
    clear hxx hz hm2 hq hq2 hLf hnl hm hf hx hd hx62
    simp (disch := first | assumption | omega | (simp [*] <;> omega) | fail) [h0, h0', hc, lp, a1, a2, a6, hih, hn, hn', hsc]
 termination_by (if f = 0 then 0 else 2 ^ 62 - met + 1)
 decreasing_by
  rw [if_neg h0]
  split
  · omega
  · rename_i hne
    rcases Nat.lt_or_ge met (met ||| nxt rows f) with h1 | h1
    · omega
    · exact absurd (or_or_zero (rows := rows) (by omega)) hne

/-- The distances of all vertices from a. -/
def dists (rows : List Int) (n a : Nat) : List Int := dl rows (2 ^ a) (2 ^ a) 0 (List.replicate n (-1))
theorem dists_len (rows : List Int) (n a : Nat) : (dists rows n a).length = n := by
  unfold dists
  rw [dl_len, List.length_replicate]
theorem dists_get {n : Nat} {rows : List Int} (R : Rok n rows) {a b : Nat} (ha : a < n) (hb : b < n) : (dists rows n a).getD b 0 = far rows a b := by
  have hp : 2 ^ a < 2 ^ n := Nat.pow_lt_pow_right (by omega) ha
  unfold dists far
  rw [dl_get R b hb _ _ _ _ (by simp) hp hp (fun _ h => h)]
  have hg := lev_ge rows (2 ^ a) (2 ^ a) 0 b
  split
  · rw [List.getD_eq_getElem?_getD, List.getElem?_replicate, if_pos hb]
    simp
    omega
  · rfl

theorem c_impl_Graph_distances (n a : Nat) (s : Value) (rows : List Int) (h : VH) (hs : Sli h s rows) (R : Rok n rows) (ha : a < n) (hn : nro ≤ h.length) :
    vcall F nro k_impl_Graph_distances [gv n s, .int .i64 a] h = some (.slice (some ⟨h.length, 0, none⟩) n n, h ++ [⟨1, ints (dists rows n a)⟩]) := by
  have hn' := fun k => Nat.le_trans hn (Nat.le_add_right h.length k)
  refine v_impl_Graph_distances (by simp [i_impl_Graph_distances]) ?_
  rw [fbody_eq]
  have hle := R.le
  have hp : 2 ^ a < 2 ^ n := Nat.pow_lt_pow_right (by omega) ha
  have lp := l_impl_Graph_distances_2 (nro := nro) h n s rows hs R hn (List.replicate n (-1)) (2 ^ a) (2 ^ a) 0 hp hp (fun _ => Nat.zero_le _) (List.replicate n (-1)) (by simp)
  have w2 : ishl .i64 1 (a : Int) = ((2 ^ a : Nat) : Int) := by
    have := ishl_one (b := (a : Int)) (by omega)
    rwa [Int.toNat_natCast] at this
  have hr := c_slices_Repeat (nro := nro) (.slice (some ⟨h.length + 1, 0, none⟩) 1 1) n (h ++ [⟨0, [.int .i64 n, s]⟩, ⟨1, [.int .i64 (-1)]⟩]) (by simp [Sli, Sl, vsrc, ints]) (by omega) (by omega) (by simp; omega)
  have hdl := dists_len rows n a
  rw [show dl rows (2 ^ a) (2 ^ a) 0 (List.replicate n (-1)) = dists rows n a from rfl] at lp
  obtain ⟨q, hq⟩ : ∃ q, q = dists rows n a := ⟨_, rfl⟩
  rw [← hq] at lp hdl ⊢
  obtain ⟨p, hpp⟩ : ∃ p, p = 2 ^ a := ⟨_, rfl⟩
  rw [← hpp] at lp w2
  simp only [Int.natCast_zero] at lp
  unfold dh at lp
  simp at lp hr
  clear hpp hp hq
  simp (disch := first | assumption | omega | (simp [*] <;> omega) | fail) [i_impl_Graph_distances, hr, w2, lp, hn, hn', hdl]
end Go.Proofs.YtghondlbkjponaaDoor.Zv

/- May two vertices be joined: the reference's and the program's tests are one. -/
namespace Go.Proofs.YtghondlbkjponaaDoor.Zv
open Go
variable {nro : Nat}

theorem lev_le {n : Nat} {rows : List Int} (R : Rok n rows) (met f d b : Nat) (hm : met < 2 ^ n) (hf : f < 2 ^ n) (hd : ¬ f = 0 → d ≤ met) : lev rows met f d b ≤ 4611686018427387904 := by
  have hm62 := le62 R.le hm
  by_cases h0 : f = 0
  · subst h0; rw [lev_zero]; omega
  · by_cases hb : f.testBit b = true
    · rw [lev_bit hb]
      have := hd h0
      omega
    · rw [lev_step R hm hf h0 (by simpa using hb)]
      have hx := nxt_lt R hf
      have hnl := nand_le (nxt rows f) met
      by_cases h3 : met < met ||| nxt rows f
      · have := hd h0
        exact lev_le R (met ||| nxt rows f) (nand (nxt rows f) met) (d + 1) b (Nat.or_lt_two_pow hm hx) (by omega) (fun _ => by omega)
      · rw [or_or_zero (rows := rows) h3, lev_zero]; omega
 termination_by 2 ^ n - met
 decreasing_by
  have := Nat.or_lt_two_pow hm hx
  omega
theorem far_le {n : Nat} {rows : List Int} (R : Rok n rows) {a : Nat} (ha : a < n) (b : Nat) : far rows a b ≤ 4611686018427387904 := by
  have hp : 2 ^ a < 2 ^ n := Nat.pow_lt_pow_right (by omega) ha
  exact lev_le R _ _ _ b hp hp (fun _ => Nat.zero_le _)
theorem far_ge (rows : List Int) (a b : Nat) : -1 ≤ far rows a b := lev_ge ..

theorem has_spec (n v w : Nat) (s : Value) (rows : List Int) (h : VH) (hs : Sli h s rows) (R : Rok n rows) (hv : v < n) (hw : w < n) : vcall F nro k_spec_l01Has [gv n s, .int .i64 v, .int .i64 w] h = some (.bool (rbit rows v w), h) := by
  obtain ⟨r1, r2⟩ := R.row v hv
  have r3 := le62 R.le r2
  have hl := R.len
  have hle := R.le
  have := c_spec_l01Has' (nro := nro) n v w s rows h hs (by omega) (by omega) (by omega) (by omega) (by rw [Int.toNat_natCast]; exact r1) (by rw [Int.toNat_natCast]; omega)
  rw [Int.toNat_natCast, Int.toNat_natCast] at this
  exact this
theorem has_impl (n v w : Nat) (s : Value) (rows : List Int) (h : VH) (hs : Sli h s rows) (R : Rok n rows) (hv : v < n) (hw : w < n) : vcall F nro k_impl_Graph_has [gv n s, .int .i64 v, .int .i64 w] h = some (.bool (rbit rows v w), h) := by
  obtain ⟨r1, r2⟩ := R.row v hv
  have r3 := le62 R.le r2
  have hl := R.len
  have hle := R.le
  have := c_impl_Graph_has (nro := nro) n v w s rows h hs (by omega) (by omega) (by omega) (by omega) (by rw [Int.toNat_natCast]; exact r1) (by rw [Int.toNat_natCast]; omega)
  rw [Int.toNat_natCast, Int.toNat_natCast] at this
  exact this

end Go.Proofs.YtghondlbkjponaaDoor.Zv

/- Graphs that are filled with all edges that may be. -/
namespace Go.Proofs.YtghondlbkjponaaDoor.Zv
open Go
variable {nro : Nat}

theorem Rok.isAdj {n : Nat} {rows : List Int} (R : Rok n rows) : IsAdj n rows (fun v w => rbit rows v w = true) := by
  refine ⟨R.len, fun v hv => ?_⟩
  obtain ⟨r1, r2⟩ := R.row v hv
  have := le62 R.le r2
  exact ⟨r1, by omega, fun w => Iff.rfl⟩
theorem bit_lt {x n j : Nat} (h : x < 2 ^ n) (hb : x.testBit j = true) : j < n := by
  rcases Nat.lt_or_ge j n with h1 | h1
  · exact h1
  · rw [Nat.testBit_lt_two_pow (Nat.lt_of_lt_of_le h (Nat.pow_le_pow_right (by omega) h1))] at hb
    cases hb
theorem Rok.lt {n : Nat} {rows : List Int} (R : Rok n rows) {v w : Nat} (hv : v < n) (h : rbit rows v w = true) : w < n := bit_lt (R.row v hv).2 h
theorem Rok.of {n : Nat} {rows : List Int} {adj : Nat → Nat → Prop} (h : IsAdj n rows adj) (hn : n ≤ 62) (hlt : ∀ v w, v < n → adj v w → w < n) : Rok n rows := by
  refine ⟨h.1, hn, fun v hv => ?_⟩
  obtain ⟨h1, _, h3⟩ := h.2 v hv
  refine ⟨h1, Nat.lt_pow_two_of_testBit _ fun w hw => ?_⟩
  have : ¬ rbit rows v w = true := fun hb => by
    have := hlt v w hv ((h3 w).mp hb)
    omega
  unfold rbit at this
  simpa using this
theorem Rok.put2 {n : Nat} {rows : List Int} (R : Rok n rows) {v w : Nat} (hv : v < n) (hw : w < n) : Rok n (put2 rows v w) := by
  have := R.isAdj.put2 (a := (v : Int)) (b := (w : Int)) (by omega) (by omega) (by omega) (by omega) R.le
  refine Rok.of this R.le fun x y hx hxy => ?_
  rcases hxy with h | ⟨_, h⟩ | ⟨_, h⟩
  · exact R.lt hx h
  · omega
  · omega
theorem Rok.zero {n : Nat} (hn : n ≤ 62) : Rok n (List.replicate n 0) := Rok.of (IsAdj.zero n) hn fun _ _ _ h => h.elim
theorem GV.rok {n : Nat} {rows : List Int} (g : GV n rows) : Rok n rows := by
  have hl := g.len
  have hi := g.hi
  refine ⟨by omega, by omega, fun v hv => ?_⟩
  obtain ⟨h1, h2, _⟩ := g.row v (by omega)
  refine ⟨h1, ?_⟩
  rw [Int.toNat_natCast] at h2
  have e : ((2 ^ n : Nat) : Int) = (2 : Int) ^ n := by simp
  omega

end Go.Proofs.YtghondlbkjponaaDoor.Zv

/- Levels are distances: the shortest walks. -/
namespace Go.Proofs.YtghondlbkjponaaDoor.Zv
open Go

/-- There is a walk of k steps from a to b. -/
def Wk (rows : List Int) : Nat → Nat → Nat → Prop
  | 0, a, b => a = b
  | k + 1, a, b => ∃ c, Wk rows k a c ∧ rbit rows c b = true

theorem Wk.front {rows : List Int} : ∀ (k a b : Nat), Wk rows (k + 1) a b ↔ ∃ c, rbit rows a c = true ∧ Wk rows k c b
  | 0, a, b => by
    constructor
    · rintro ⟨c, rfl, h⟩; exact ⟨b, h, rfl⟩
    · rintro ⟨c, h, rfl⟩; exact ⟨a, rfl, h⟩
  | k + 1, a, b => by
    constructor
    · rintro ⟨c, h1, h2⟩
      obtain ⟨d, h3, h4⟩ := (Wk.front k a c).mp h1
      exact ⟨d, h3, c, h4, h2⟩
    · rintro ⟨d, h3, c, h4, h2⟩
      exact ⟨c, (Wk.front k a c).mpr ⟨d, h3, h4⟩, h2⟩
theorem Wk.symm {rows : List Int} (hs : ∀ v w, rbit rows v w = true → rbit rows w v = true) : ∀ (k a b : Nat), Wk rows k a b → Wk rows k b a
  | 0, _, _, h => Eq.symm h
  | k + 1, a, b, h => by
    obtain ⟨c, h1, h2⟩ := h
    exact (Wk.front k b a).mpr ⟨c, hs _ _ h2, Wk.symm hs k a c h1⟩
theorem Wk.add {rows : List Int} (d a : Nat) : ∀ (m b : Nat), Wk rows (d + m) a b → ∃ c, Wk rows d a c ∧ Wk rows m c b
  | 0, b, h => ⟨b, h, rfl⟩
  | m + 1, b, h => by
    obtain ⟨c, h1, h2⟩ := h
    obtain ⟨e, h3, h4⟩ := Wk.add d a m c h1
    exact ⟨e, h3, c, h4, h2⟩
theorem Wk.comp {rows : List Int} {k a c : Nat} (h : Wk rows k a c) : ∀ (m b : Nat), Wk rows m c b → Wk rows (k + m) a b
  | 0, b, h2 => by cases h2; exact h
  | m + 1, b, h2 => by
    obtain ⟨e, h3, h4⟩ := h2
    exact ⟨e, Wk.comp h m e h3, h4⟩

/-- The shortest walk from a to b has d steps. -/
def Dst (rows : List Int) (d a b : Nat) : Prop := Wk rows d a b ∧ ∀ e, e < d → ¬ Wk rows e a b
theorem Dst.unique {rows : List Int} {d d' a b : Nat} (h : Dst rows d a b) (h' : Dst rows d' a b) : d = d' := by
  rcases Nat.lt_trichotomy d d' with h1 | h1 | h1
  · exact absurd h.1 (h'.2 d h1)
  · exact h1
  · exact absurd h'.1 (h.2 d' h1)
theorem Wk.dst {rows : List Int} {a b : Nat} : ∀ (k : Nat), Wk rows k a b → ∃ d, d ≤ k ∧ Dst rows d a b := by
  intro k
  induction k using Nat.strongRecOn with
  | ind k ih =>
    intro h
    by_cases h1 : ∃ e, e < k ∧ Wk rows e a b
    · obtain ⟨e, h2, h3⟩ := h1
      obtain ⟨d, h4, h5⟩ := ih e h2 h3
      exact ⟨d, by omega, h5⟩
    · exact ⟨k, Nat.le_refl _, h, fun e he hw => h1 ⟨e, he, hw⟩⟩
theorem Dst.before {rows : List Int} {d m a b : Nat} (h : Dst rows (d + m) a b) : ∃ c, Dst rows d a c := by
  obtain ⟨c, h1, h2⟩ := Wk.add d a m b h.1
  refine ⟨c, h1, fun e he hw => ?_⟩
  exact h.2 (e + m) (by omega) (hw.comp m b h2)

theorem orL_bit (rows : List Int) (j : Nat) : ∀ (l : List Int), (orL rows l).testBit j = true ↔ ∃ y ∈ l, rbit rows y.toNat j = true
  | [] => by simp [orL]
  | y :: l => by
    rw [orL, Nat.testBit_or, Bool.or_eq_true, orL_bit rows j l]
    simp [rbit]
theorem nxt_bit {n : Nat} {rows : List Int} {f : Nat} (hf : f < 2 ^ n) (hn : n ≤ 62) (j : Nat) : (nxt rows f).testBit j = true ↔ ∃ i, f.testBit i = true ∧ rbit rows i j = true := by
  unfold nxt
  rw [orL_bit]
  constructor
  · rintro ⟨y, h1, h2⟩
    exact ⟨y.toNat, ((bitL_mem f y).mp h1).2.2, h2⟩
  · rintro ⟨i, h1, h2⟩
    have := bit_lt hf h1
    exact ⟨i, (bitL_mem f i).mpr ⟨by omega, by omega, by rw [Int.toNat_natCast]; exact h1⟩, by rw [Int.toNat_natCast]; exact h2⟩

/-- What a number and its sign tell. -/
def IsDist (rows : List Int) (a b : Nat) (x : Int) : Prop := (x = -1 ∧ ∀ e, ¬ Wk rows e a b) ∨ ∃ d : Nat, x = d ∧ Dst rows d a b
theorem IsDist.unique {rows rows' : List Int} {a b a' b' : Nat} {x x' : Int} (h : IsDist rows a b x) (h' : IsDist rows' a' b' x') (e : ∀ k, Wk rows k a b ↔ Wk rows' k a' b') : x = x' := by
  rcases h with ⟨rfl, h⟩ | ⟨d, rfl, h⟩ <;> rcases h' with ⟨rfl, h'⟩ | ⟨d', rfl, h'⟩
  · rfl
  · exact absurd ((e d').mpr h'.1) (h d')
  · exact absurd ((e d).mp h.1) (h' d)
  · have : Dst rows d' a b := ⟨(e d').mpr h'.1, fun k hk hw => h'.2 k hk ((e k).mp hw)⟩
    rw [h.unique this]

theorem lev_dist {n : Nat} {rows : List Int} (R : Rok n rows) (a b met f d : Nat) (hm : met < 2 ^ n) (hf : f < 2 ^ n) (h1 : ∀ j, met.testBit j = true ↔ ∃ e, e ≤ d ∧ Wk rows e a j) (h2 : ∀ j, f.testBit j = true ↔ Dst rows d a j) (h3 : ∀ e, e < d → ¬ Wk rows e a b) :
    IsDist rows a b (lev rows met f d b) := by
  by_cases h0 : f = 0
  · subst h0
    rw [lev_zero]
    refine .inl ⟨rfl, fun e hw => ?_⟩
    obtain ⟨k, hk, hd⟩ := Wk.dst e hw
    rcases Nat.lt_or_ge k d with hlt | hge
    · exact h3 k hlt hd.1
    · obtain ⟨m, rfl⟩ : ∃ m, k = d + m := ⟨k - d, by omega⟩
      obtain ⟨c, hc⟩ := hd.before
      have := (h2 c).mpr hc
      simp at this
  · by_cases hb : f.testBit b = true
    · rw [lev_bit hb]
      exact .inr ⟨d, rfl, (h2 b).mp hb⟩
    · rw [lev_step R hm hf h0 (by simpa using hb)]
      have hx := nxt_lt R hf
      have hnl := nand_le (nxt rows f) met
      have n1 := nxt_bit (rows := rows) hf R.le
      have n2 : ∀ j, (met ||| nxt rows f).testBit j = true ↔ ∃ e, e ≤ d + 1 ∧ Wk rows e a j := by
        intro j
        rw [Nat.testBit_or, Bool.or_eq_true, h1, n1]
        constructor
        · rintro (⟨e, he, hw⟩ | ⟨i, hi, hij⟩)
          · exact ⟨e, by omega, hw⟩
          · exact ⟨d + 1, Nat.le_refl _, i, ((h2 i).mp hi).1, hij⟩
        · rintro ⟨e, he, hw⟩
          rcases Nat.lt_or_ge d e with hlt | hge
          · have : e = d + 1 := by omega
            subst this
            obtain ⟨c, hc, hcj⟩ := hw
            by_cases hmin : ∃ k, k < d ∧ Wk rows k a c
            · obtain ⟨k, hk, hkw⟩ := hmin
              exact .inl ⟨k + 1, by omega, c, hkw, hcj⟩
            · exact .inr ⟨c, (h2 c).mpr ⟨hc, fun k hk hw => hmin ⟨k, hk, hw⟩⟩, hcj⟩
          · exact .inl ⟨e, hge, hw⟩
      have n3 : ∀ j, (nand (nxt rows f) met).testBit j = true ↔ Dst rows (d + 1) a j := by
        intro j
        rw [nand_bit, Bool.and_eq_true, n1, Bool.not_eq_true', ← Bool.not_eq_true, h1]
        constructor
        · rintro ⟨⟨i, hi, hij⟩, hno⟩
          exact ⟨⟨i, ((h2 i).mp hi).1, hij⟩, fun e he hw => hno ⟨e, by omega, hw⟩⟩
        · rintro ⟨⟨c, hc, hcj⟩, hmin⟩
          refine ⟨⟨c, (h2 c).mpr ⟨hc, fun k hk hw => ?_⟩, hcj⟩, fun ⟨e, he, hw⟩ => hmin e (by omega) hw⟩
          exact hmin (k + 1) (by omega) ⟨c, hw, hcj⟩
      have n4 : ∀ e, e < d + 1 → ¬ Wk rows e a b := by
        intro e he hw
        rcases Nat.lt_or_ge e d with hlt | hge
        · exact h3 e hlt hw
        · have : e = d := by omega
          subst this
          exact hb ((h2 b).mpr ⟨hw, h3⟩)
      by_cases h5 : met < met ||| nxt rows f
      · exact lev_dist R a b _ _ (d + 1) (Nat.or_lt_two_pow hm hx) (by omega) n2 n3 n4
      · rw [or_or_zero (rows := rows) h5] at n3 ⊢
        rw [lev_zero]
        refine .inl ⟨rfl, fun e hw => ?_⟩
        obtain ⟨k, hk, hd⟩ := Wk.dst e hw
        rcases Nat.lt_or_ge k (d + 1) with hlt | hge
        · exact n4 k hlt hd.1
        · obtain ⟨m, rfl⟩ : ∃ m, k = d + 1 + m := ⟨k - (d + 1), by omega⟩
          obtain ⟨c, hc⟩ := hd.before
          have := (n3 c).mpr hc
          simp at this
 termination_by 2 ^ n - met
 decreasing_by
  have := Nat.or_lt_two_pow hm hx
  omega

theorem far_dist {n : Nat} {rows : List Int} (R : Rok n rows) {a : Nat} (ha : a < n) (b : Nat) : IsDist rows a b (far rows a b) := by
  have hp : 2 ^ a < 2 ^ n := Nat.pow_lt_pow_right (by omega) ha
  refine lev_dist R a b _ _ 0 hp hp (fun j => ?_) (fun j => ?_) (fun e he => by omega)
  · rw [Nat.testBit_two_pow, decide_eq_true_eq]
    constructor
    · intro h; exact ⟨0, Nat.le_refl _, h⟩
    · rintro ⟨e, he, hw⟩
      have : e = 0 := by omega
      subst this
      exact hw
  · rw [Nat.testBit_two_pow, decide_eq_true_eq]
    constructor
    · intro h; exact ⟨h, fun e he => by omega⟩
    · intro h; exact h.1

/-- Two graphs in which walks go alike. -/
theorem far_same {n : Nat} {rows rows' : List Int} (R : Rok n rows) (R' : Rok n rows') {a b : Nat} (ha : a < n) (hb : b < n) (hs : ∀ v w, rbit rows v w = true → rbit rows w v = true) (e : ∀ v w, rbit rows v w = true ↔ rbit rows' v w = true) : far rows a b = far rows' b a := by
  refine (far_dist R ha b).unique (far_dist R' hb a) fun k => ?_
  have e2 : ∀ (k v w : Nat), Wk rows k v w ↔ Wk rows' k v w := by
    intro k
    induction k with
    | zero => intro v w; exact Iff.rfl
    | succ k ih =>
      intro v w
      constructor
      · rintro ⟨c, h1, h2⟩; exact ⟨c, (ih v c).mp h1, (e c w).mp h2⟩
      · rintro ⟨c, h1, h2⟩; exact ⟨c, (ih v c).mpr h1, (e c w).mpr h2⟩
  exact ⟨fun h => (e2 k b a).mp (h.symm hs), fun h => Wk.symm hs k b a ((e2 k b a).mpr h)⟩
end Go.Proofs.YtghondlbkjponaaDoor.Zv

/- Girths: the least length of a cycle with an edge, at a vertex, of all. -/
namespace Go.Proofs.YtghondlbkjponaaDoor.Zv
open Go
variable {nro : Nat}

theorem rbit_lt {n : Nat} {rows : List Int} (R : Rok n rows) {v w : Nat} (h : rbit rows v w = true) : v < n ∧ w < n := by
  have hv : v < n := by
    rcases Nat.lt_or_ge v n with h1 | h1
    · exact h1
    · have hl := R.len
      unfold rbit at h
      rw [List.getD_eq_getElem?_getD, List.getElem?_eq_none (by omega)] at h
      simp at h
  exact ⟨hv, R.lt hv h⟩
theorem rbit_of_not {rows : List Int} {v w : Nat} (h : ¬ rbit rows v w = true) : rbit rows v w = false := by simpa using h

/-- A graph without one of its edges. -/
theorem cut_rok {n : Nat} {rows : List Int} (g : GV n rows) {a b : Nat} (ha : a < n) (hb : b < n) (hab : rbit rows a b = true) :
    Rok n (cut2 rows a b) ∧ ∀ v w, rbit (cut2 rows a b) v w = true ↔ rbit rows v w = true ∧ ¬ ((v = a ∧ w = b) ∨ (v = b ∧ w = a)) := by
  have R := g.rok
  have hl := g.len
  have hba : rbit rows b a = true := by rw [g.sym b a (by omega) (by omega)]; exact hab
  have hne : (a : Int) ≠ b := by
    intro e
    have e : a = b := by omega
    subst e
    obtain ⟨_, _, h⟩ := g.row a (by omega)
    rw [h] at hab
    cases hab
  have := R.isAdj.cut2 (a := (a : Int)) (b := (b : Int)) (by omega) (by omega) (by omega) (by omega) hne (by simpa using hab) (by simpa using hba)
  simp only [Int.toNat_natCast] at this
  have R2 : Rok n (cut2 rows a b) := Rok.of this R.le fun v w hv h => R.lt hv h.1
  refine ⟨R2, fun v w => ?_⟩
  by_cases hv : v < n
  · exact (this.2 v hv).2.2 w
  · constructor
    · intro h; exact absurd (rbit_lt R2 h).1 hv
    · intro h; exact absurd (rbit_lt R h.1).1 hv

/-- The least length of a cycle with an edge; 0 without one. -/
def arF (rows : List Int) (a b : Nat) : Int := far (cut2 rows a b) a b + 1
theorem GV.sym' {n : Nat} {rows : List Int} (g : GV n rows) {v w : Nat} (h : rbit rows v w = true) : rbit rows w v = true := by
  have hl := g.len
  obtain ⟨h1, h2⟩ := rbit_lt g.rok h
  rw [g.sym w v (by omega) (by omega)]
  exact h
theorem GV.ne {n : Nat} {rows : List Int} (g : GV n rows) {v w : Nat} (h : rbit rows v w = true) : v ≠ w := by
  rintro rfl
  have hl := g.len
  obtain ⟨h1, _⟩ := rbit_lt g.rok h
  obtain ⟨_, _, h2⟩ := g.row v (by omega)
  rw [h2] at h
  cases h
theorem arF_symm {n : Nat} {rows : List Int} (g : GV n rows) {a b : Nat} (hab : rbit rows a b = true) : arF rows a b = arF rows b a := by
  obtain ⟨ha, hb⟩ := rbit_lt g.rok hab
  obtain ⟨R1, e1⟩ := cut_rok g ha hb hab
  obtain ⟨R2, e2⟩ := cut_rok g hb ha (g.sym' hab)
  unfold arF
  rw [far_same R1 R2 ha hb (fun v w h => ?_) (fun v w => ?_)]
  · rw [e1] at h ⊢
    exact ⟨g.sym' h.1, fun h2 => h.2 (by omega)⟩
  · rw [e1, e2]
    constructor <;> (rintro ⟨h1, h2⟩; exact ⟨h1, fun h3 => h2 (by omega)⟩)
theorem arF_ge {n : Nat} {rows : List Int} (a b : Nat) : 0 ≤ arF rows a b := by
  have := far_ge (cut2 rows a b) a b
  unfold arF
  omega
theorem c_impl_Graph_around (n a b : Nat) (s : Value) (rows : List Int) (h : VH) (hs : Sli h s rows) (g : GV n rows) (hab : rbit rows a b = true) (hn : nro ≤ h.length) :
    vcall F nro k_impl_Graph_around [gv n s, .int .i64 a, .int .i64 b] h = some (.int .i64 (arF rows a b), h) := by
  refine v_impl_Graph_around (by simp [i_impl_Graph_around]) ?_
  rw [fbody_eq]
  have hn' := fun k => Nat.le_trans hn (Nat.le_add_right h.length k)
  obtain ⟨ha, hb⟩ := rbit_lt g.rok hab
  obtain ⟨R2, _⟩ := cut_rok g ha hb hab
  have R := g.rok
  have hl := R.len
  have hle := R.le
  have hne := g.ne hab
  have ho := c_impl_own (nro := nro) n s rows (h ++ [⟨0, [.int .i64 n, s]⟩]) (hs.app _) (by intro e; rw [e] at hl; simp at hl; omega) (by omega) (by simp; omega)
  obtain ⟨r1, r2⟩ := R.row a ha
  obtain ⟨q1, q2⟩ := R.row b hb
  have r3 := le62 hle r2
  have q3 := le62 hle q2
  have ht := c_impl_Graph_take (nro := nro) n (h.length + 1) n a b rows (h ++ [⟨0, [.int .i64 n, s]⟩, ⟨1, ints rows⟩, ⟨0, [.int .i64 n, .slice (some ⟨h.length + 1, 0, none⟩) n n]⟩]) (by simp) hl (by omega) (by omega) (by omega) (by omega) (by omega) hle (by omega)
    (by rw [Int.toNat_natCast]; exact r1) (by rw [Int.toNat_natCast]; omega) (by rw [Int.toNat_natCast, Int.toNat_natCast]; exact hab) (by rw [Int.toNat_natCast]; exact q1) (by rw [Int.toNat_natCast]; omega) (by rw [Int.toNat_natCast, Int.toNat_natCast]; exact g.sym' hab)
  have hl2 := R2.len
  have hd := c_impl_Graph_distances (nro := nro) n a (.slice (some ⟨h.length + 1, 0, none⟩) n n) (cut2 rows a b) (h ++ [⟨0, [.int .i64 n, s]⟩, ⟨1, ints (cut2 rows a b)⟩, ⟨0, [.int .i64 n, .slice (some ⟨h.length + 1, 0, none⟩) n n]⟩]) (by
    have := sli_at (h := h ++ [⟨0, [.int .i64 n, s]⟩, ⟨1, ints (cut2 rows a b)⟩, ⟨0, [.int .i64 n, .slice (some ⟨h.length + 1, 0, none⟩) n n]⟩]) (b := h.length + 1) (xs := cut2 rows a b) (by simp)
    rw [hl2] at this
    exact this) R2 ha (by simp; omega)
  have f1 := far_le R2 ha b
  have f2 := far_ge (cut2 rows a b) a b
  have f3 := dists_get R2 ha hb
  have f4 := dists_len (cut2 rows a b) n a
  unfold arF
  obtain ⟨x, hx⟩ : ∃ x, x = far (cut2 rows a b) a b := ⟨_, rfl⟩
  rw [← hx] at f1 f2 f3 ⊢
  obtain ⟨D, hD⟩ : ∃ D, D = dists (cut2 rows a b) n a := ⟨_, rfl⟩
  rw [← hD] at hd f3 f4
  obtain ⟨c, hc⟩ : ∃ c, c = cut2 rows a b := ⟨_, rfl⟩
  rw [← hc] at ht hd
  have hbD : b < D.length := by omega
  rw [getD_at D hbD] at f3
  have t1 := take1_ints hbD
  rw [f3] at t1
  have hb' : (b : Int) < n := by omega
  have w1 : IntKind.i64.wrap (x + 1) = x + 1 := wrap64 (by omega) (by omega)
  simp at ht hd
  rw [hl] at ho
  simp at ho
  clear hx hD hc R2 hl2
  simp (disch := first | assumption | omega | (simp [*] <;> omega) | fail) [i_impl_Graph_around, ho, ht, hd, hn, hn', f4, hb, hb', t1, w1]

/-! ### the least of lengths -/
/-- The lesser one of two lengths; 0 stands for none. -/
def minP (best n : Int) : Int := if 0 < n ∧ (best = 0 ∨ n < best) then n else best
theorem minP_ok {best n c : Int} (hb : 0 ≤ best) (hc : 1 ≤ c) : (minP best n = 0 ∨ c ≤ minP best n) ↔ (best = 0 ∨ c ≤ best) ∧ (n ≤ 0 ∨ c ≤ n) := by
  unfold minP
  split <;> omega
theorem minP_ge {best n : Int} (hb : 0 ≤ best) : 0 ≤ minP best n := by
  unfold minP
  split <;> omega
/-- The least length at v with the vertices of a list. -/
def gaL (rows : List Int) (v : Nat) (best : Int) : List Int → Int
  | [] => best
  | y :: l => gaL rows v (minP best (arF rows v y.toNat)) l
theorem gaL_ge {rows : List Int} {v : Nat} : ∀ (l : List Int) (best : Int), 0 ≤ best → 0 ≤ gaL rows v best l
  | [], _, h => h
  | y :: l, best, h => gaL_ge l _ (minP_ge h)
theorem gaL_ok {rows : List Int} {v : Nat} {c : Int} (hc : 1 ≤ c) : ∀ (l : List Int) (best : Int), 0 ≤ best → ((gaL rows v best l = 0 ∨ c ≤ gaL rows v best l) ↔ (best = 0 ∨ c ≤ best) ∧ ∀ y ∈ l, arF rows v y.toNat ≤ 0 ∨ c ≤ arF rows v y.toNat)
  | [], best, h => by simp [gaL]
  | y :: l, best, h => by
    rw [gaL, gaL_ok hc l _ (minP_ge h), minP_ok h hc]
    simp only [List.mem_cons, forall_eq_or_imp]
    exact ⟨fun ⟨⟨a, b⟩, c⟩ => ⟨a, b, c⟩, fun ⟨a, b, c⟩ => ⟨⟨a, b⟩, c⟩⟩
/-- The neighbours of v. -/
def nbL (rows : List Int) (v : Nat) : List Int := bitL (rows.getD v 0).toNat
theorem nbL_mem (rows : List Int) (v : Nat) (y : Int) : y ∈ nbL rows v ↔ 0 ≤ y ∧ y < 62 ∧ rbit rows v y.toNat = true := bitL_mem _ y
theorem nbL_nat {rows : List Int} {v j : Nat} (hj : j < (nbL rows v).length) : ∃ y : Nat, (nbL rows v)[j] = (y : Int) ∧ rbit rows v y = true := by
  have h := (nbL_mem rows v (nbL rows v)[j]).mp (List.getElem_mem hj)
  exact ⟨((nbL rows v)[j]).toNat, by omega, h.2.2⟩

theorem c_impl_listRow (n v : Nat) (rows : List Int) (R : Rok n rows) (hv : v < n) (h : VH) (hn : nro ≤ h.length) :
    vcall F nro k_impl_list [.int .i64 (rows[v]'(by have := R.len; omega))] h = some (.slice (some ⟨h.length, 0, none⟩) (nbL rows v).length (nbL rows v).length, h ++ [⟨1, ints (nbL rows v)⟩]) := by
  have hl := R.len
  obtain ⟨r1, r2⟩ := R.row v hv
  have := c_impl_list (nro := nro) (rows.getD v 0).toNat (le62 R.le r2) h hn
  rw [Int.toNat_of_nonneg r1] at this
  rw [← getD_at rows (by omega)]
  exact this

theorem l_impl_Graph_girthAt (h : VH) (n v : Nat) (s : Value) (rows : List Int) (hs : Sli h s rows) (g : GV n rows) (hn : nro ≤ h.length) (k j : Nat) (hk : k = (nbL rows v).length - j) (hj : j ≤ (nbL rows v).length) (best : Int) (hb : 0 ≤ best) :
    floop (vcall F nro) nro [1, 2, 5, 14, 15, 16] i_impl_Graph_girthAt_B1 (h ++ [⟨0, [.int .i64 n, s]⟩, ⟨1, ints (nbL rows v)⟩]) [.int .i64 v, bp h, .int .i64 best, .slice (some ⟨h.length + 1, 0, none⟩) (nbL rows v).length (nbL rows v).length, .int .i64 (nbL rows v).length, .int .i64 j] (h ++ [⟨0, [.int .i64 n, s]⟩, ⟨1, ints (nbL rows v)⟩]) =
      some (.exit 0, fl [(5, .int .i64 (gaL rows v best ((nbL rows v).drop j)))], h ++ [⟨0, [.int .i64 n, s]⟩, ⟨1, ints (nbL rows v)⟩]) := by
  have hn' := fun k => Nat.le_trans hn (Nat.le_add_right h.length k)
  have hsc := fun k => hs.oldCk (k := k)
  rw [floop_at i_impl_Graph_girthAt_B1.eq_1]
  by_cases hlt : j < (nbL rows v).length
  · obtain ⟨y, hy, hvy⟩ := nbL_nat hlt
    have hc := c_impl_Graph_around (nro := nro) n v y s rows (h ++ [⟨0, [.int .i64 n, s]⟩, ⟨1, ints (nbL rows v)⟩]) (hs.app _) g hvy (by simp; omega)
    have a1 := arF_ge (n := n) (rows := rows) v y
    have ih := l_impl_Graph_girthAt h n v s rows hs g hn (k - 1) (j + 1) (by omega) hlt (minP best (arF rows v y)) (minP_ge hb)
    rw [show ((j + 1 : Nat) : Int) = (j : Int) + 1 by omega] at ih
    rw [List.drop_eq_getElem_cons hlt, hy, gaL, Int.toNat_natCast]
    have hll : (nbL rows v).length ≤ 62 := bitL_len _
    have t1 := take1_ints hlt
    rw [hy] at t1
    obtain ⟨q, hq⟩ : ∃ q, q = gaL rows v (minP best (arF rows v y)) ((nbL rows v).drop (j + 1)) := ⟨_, rfl⟩
    rw [← hq] at ih ⊢
    obtain ⟨x, hx⟩ : ∃ x, x = arF rows v y := ⟨_, rfl⟩
    rw [← hx] at hc a1 ih
    have hlt' : (j : Int) < (nbL rows v).length := by omega
    clear hq hx hk
    unfold minP at ih
    by_cases c1 : 0 < x
    · by_cases c2 : best = 0
      · rw [if_pos ⟨c1, .inl c2⟩] at ih
        simp (disch := first | assumption | omega | (simp [*] <;> omega) | fail) [wrap64, hlt', hlt, hc, c1, c2, ih, hsc, t1, hy]
      · by_cases c3 : x < best
        · rw [if_pos ⟨c1, .inr c3⟩] at ih
          simp (disch := first | assumption | omega | (simp [*] <;> omega) | fail) [wrap64, hlt', hlt, hc, c1, c2, c3, ih, hsc, t1, hy]
        · rw [if_neg (by omega)] at ih
          simp (disch := first | assumption | omega | (simp [*] <;> omega) | fail) [wrap64, hlt', hlt, hc, c1, c2, c3, ih, hsc, t1, hy]
    · rw [if_neg (fun h => c1 h.1)] at ih
      simp (disch := first | assumption | omega | (simp [*] <;> omega) | fail) [wrap64, hlt', hlt, hc, c1, ih, hsc, t1, hy]
  · have hlt' : ¬ (j : Int) < (nbL rows v).length := by omega
    rw [List.drop_eq_nil_of_le (by omega), gaL]
    simp (disch := first | assumption | omega | (simp [*] <;> omega) | fail) [hlt', hlt]
 termination_by k
 decreasing_by omega

theorem c_impl_Graph_girthAt (n v : Nat) (s : Value) (rows : List Int) (h : VH) (hs : Sli h s rows) (g : GV n rows) (hv : v < n) (hn : nro ≤ h.length) :
    vcall F nro k_impl_Graph_girthAt [gv n s, .int .i64 v] h = some (.int .i64 (gaL rows v 0 (nbL rows v)), h) := by
  refine v_impl_Graph_girthAt (by simp [i_impl_Graph_girthAt]) ?_
  rw [fbody_eq]
  have hn' := fun k => Nat.le_trans hn (Nat.le_add_right h.length k)
  have R := g.rok
  have hl := R.len
  have hvl : v < rows.length := by omega
  have hL := c_impl_listRow (nro := nro) n v rows R hv (h ++ [⟨0, [.int .i64 n, s]⟩]) (by simp; omega)
  have lp := l_impl_Graph_girthAt (nro := nro) h n v s rows hs g hn (nbL rows v).length 0 (by omega) (Nat.zero_le _) 0 (by omega)
  rw [List.drop_zero] at lp
  have vx := fun L => (hs.app L).vidx (k := .i64) (j := (v : Int)) (by omega) (by omega)
  have vl := fun L => (hs.app L).vload hvl
  obtain ⟨q, hq⟩ : ∃ q, q = gaL rows v 0 (nbL rows v) := ⟨_, rfl⟩
  rw [← hq] at lp ⊢
  clear hq
  simp only [Int.natCast_zero] at lp
  simp at hL
  simp (disch := first | assumption | omega | (simp [*] <;> omega) | fail) [i_impl_Graph_girthAt, vx, vl, hL, lp, hn, hn']

/-- The girth, from v on. -/
def girF (rows : List Int) (n : Nat) (best : Int) (v : Nat) : Int := if h : v < n then girF rows n (minP best (gaL rows v 0 (nbL rows v))) (v + 1) else best
 termination_by n - v
theorem girF_end {rows : List Int} {n v : Nat} {best : Int} (h : ¬ v < n) : girF rows n best v = best := by rw [girF, dif_neg h]
theorem girF_step {rows : List Int} {n v : Nat} {best : Int} (h : v < n) : girF rows n best v = girF rows n (minP best (gaL rows v 0 (nbL rows v))) (v + 1) := by rw [girF, dif_pos h]
theorem girF_ok {rows : List Int} {n : Nat} {c : Int} (hc : 1 ≤ c) (v : Nat) (best : Int) (hb : 0 ≤ best) : (girF rows n best v = 0 ∨ c ≤ girF rows n best v) ↔ (best = 0 ∨ c ≤ best) ∧ ∀ u, v ≤ u → u < n → ∀ y ∈ nbL rows u, arF rows u y.toNat ≤ 0 ∨ c ≤ arF rows u y.toNat := by
  by_cases h : v < n
  · rw [girF_step h, girF_ok hc (v + 1) _ (minP_ge hb), minP_ok hb hc]
    have h1 := gaL_ok (rows := rows) (v := v) hc (nbL rows v) 0 (by omega)
    have h2 := gaL_ge (rows := rows) (v := v) (nbL rows v) 0 (by omega)
    constructor
    · rintro ⟨⟨a, b⟩, c'⟩
      refine ⟨a, fun u hu hun => ?_⟩
      by_cases e : u = v
      · subst e
        exact (h1.mp (by omega)).2
      · exact c' u (by omega) hun
    · rintro ⟨a, b⟩
      refine ⟨⟨a, ?_⟩, fun u hu hun => b u (by omega) hun⟩
      have := h1.mpr ⟨.inl rfl, b v (Nat.le_refl _) h⟩
      omega
  · rw [girF_end h]
    constructor
    · intro h1; exact ⟨h1, fun u hu hun => by omega⟩
    · intro h1; exact h1.1
 termination_by n - v

theorem l_impl_Graph_girth (h : VH) (n : Nat) (s : Value) (rows : List Int) (hs : Sli h s rows) (g : GV n rows) (hn : nro ≤ h.length) (v : Nat) (best : Int) (hb : 0 ≤ best) :
    floop (vcall F nro) nro [1, 3, 7, 8] i_impl_Graph_girth_B1 (bx h n s) [bp h, .int .i64 best, .int .i64 n, .int .i64 v] (bx h n s) =
      some (.exit 0, fl [(3, .int .i64 (girF rows n best v))], bx h n s) := by
  have hn' := fun k => Nat.le_trans hn (Nat.le_add_right h.length k)
  have hsc := fun k => hs.oldCk (k := k)
  have hle := g.rok.le
  rw [floop_at i_impl_Graph_girth_B1.eq_1]
  by_cases hlt : v < n
  · have hlt' : (v : Int) < n := by omega
    have hc := c_impl_Graph_girthAt (nro := nro) n v s rows (bx h n s) (hs.app _) g hlt (by simp; omega)
    have ih := l_impl_Graph_girth h n s rows hs g hn (v + 1) (minP best (gaL rows v 0 (nbL rows v))) (minP_ge hb)
    rw [show ((v + 1 : Nat) : Int) = (v : Int) + 1 by omega] at ih
    rw [girF_step hlt]
    obtain ⟨q, hq⟩ : ∃ q, q = girF rows n (minP best (gaL rows v 0 (nbL rows v))) (v + 1) := ⟨_, rfl⟩
    rw [← hq] at ih ⊢
    obtain ⟨x, hx⟩ : ∃ x, x = gaL rows v 0 (nbL rows v) := ⟨_, rfl⟩
    rw [← hx] at hc ih
    clear hq hx
    unfold minP at ih
    by_cases c1 : 0 < x
    · by_cases c2 : best = 0
      · rw [if_pos ⟨c1, .inl c2⟩] at ih
        simp (disch := first | assumption | omega | (simp [*] <;> omega) | fail) [wrap64, hlt', hlt, hc, c1, c2, ih, hsc]
      · by_cases c3 : x < best
        · rw [if_pos ⟨c1, .inr c3⟩] at ih
          simp (disch := first | assumption | omega | (simp [*] <;> omega) | fail) [wrap64, hlt', hlt, hc, c1, c2, c3, ih, hsc]
        · rw [if_neg (by omega)] at ih
          simp (disch := first | assumption | omega | (simp [*] <;> omega) | fail) [wrap64, hlt', hlt, hc, c1, c2, c3, ih, hsc]
    · rw [if_neg (fun h => c1 h.1)] at ih
      simp (disch := first | assumption | omega | (simp [*] <;> omega) | fail) [wrap64, hlt', hlt, hc, c1, ih, hsc]
  · have hlt' : ¬ (v : Int) < n := by omega
    rw [girF_end hlt]
    simp (disch := first | assumption | omega | (simp [*] <;> omega) | fail) [hlt', hlt]
 termination_by n - v

theorem c_impl_Graph_girth (n : Nat) (s : Value) (rows : List Int) (h : VH) (hs : Sli h s rows) (g : GV n rows) (hn : nro ≤ h.length) :
    vcall F nro k_impl_Graph_girth [gv n s] h = some (.int .i64 (girF rows n 0 0), h) := by
  refine v_impl_Graph_girth (by simp [i_impl_Graph_girth]) ?_
  rw [fbody_eq]
  have lp := l_impl_Graph_girth (nro := nro) h n s rows hs g hn 0 0 (by omega)
  obtain ⟨q, hq⟩ : ∃ q, q = girF rows n 0 0 := ⟨_, rfl⟩
  rw [← hq] at lp ⊢
  clear hq
  simp only [Int.natCast_zero] at lp
  simp (disch := first | assumption | omega | (simp [*] <;> omega) | fail) [i_impl_Graph_girth, lp]
end Go.Proofs.YtghondlbkjponaaDoor.Zv

/- The reference's search for distances: a queue. -/
namespace Go.Proofs.YtghondlbkjponaaDoor.Zv
open Go
variable {nro : Nat}

/-! ### the search, without memory -/
/-- A vertex is looked at from another one. -/
def bIn (adj : Nat → Nat → Bool) (x y : Nat) (s : (Nat → Int) × List Int) : (Nat → Int) × List Int :=
  if adj x y = true ∧ s.1 y < 0 then (upd s.1 y (s.1 x + 1), s.2 ++ [(y : Int)]) else s
/-- All from one vertex. -/
def bRow (adj : Nat → Nat → Bool) (n x : Nat) (s : (Nat → Int) × List Int) : (Nat → Int) × List Int := upF (fun y s => bIn adj x y s) n 0 s
/-- The search from place i of the queue on. -/
def bAll (adj : Nat → Nat → Bool) (n : Nat) : Nat → Nat → (Nat → Int) × List Int → (Nat → Int) × List Int
  | 0, _, s => s
  | k + 1, i, s => if i < s.2.length then bAll adj n k (i + 1) (bRow adj n (s.2.getD i 0).toNat s) else s

/-- How many vertices are not met. -/
def unm (g : Nat → Int) : Nat → Nat
  | 0 => 0
  | k + 1 => unm g k + if g k < 0 then 1 else 0
theorem unm_upd {g : Nat → Int} {y : Nat} {e : Int} (hy : g y < 0) (he : 0 ≤ e) : ∀ {n : Nat}, y < n → unm (upd g y e) n + 1 = unm g n
  | 0, h => by omega
  | n + 1, h => by
    rw [unm, unm]
    by_cases c : y = n
    · subst c
      have : ∀ m, m ≤ y → unm (upd g y e) m = unm g m := by
        intro m
        induction m with
        | zero => intro _; rfl
        | succ m ih => intro hm; rw [unm, unm, ih (by omega), upd_ne (by omega)]
      rw [this y (Nat.le_refl _), upd_same, if_pos hy, if_neg (by omega)]
    · rw [← unm_upd hy he (n := n) (by omega), upd_ne (g := g) (u := y) (j := n) (x := e) (fun e => c e.symm)]
      omega
theorem unm_const : ∀ n, unm (fun _ => -1) n = n
  | 0 => rfl
  | n + 1 => by rw [unm, unm_const n]; rfl

/-- What holds all the while. -/
structure BI (n : Nat) (s : (Nat → Int) × List Int) : Prop where
  q : ∀ j, j < s.2.length → 0 ≤ s.2.getD j 0 ∧ s.2.getD j 0 < n ∧ 0 ≤ s.1 (s.2.getD j 0).toNat
  cnt : s.2.length + unm s.1 n = n
  lo : ∀ w, -1 ≤ s.1 w
  hi : ∀ w, s.1 w < s.2.length
theorem BI.len {n : Nat} {s : (Nat → Int) × List Int} (h : BI n s) : s.2.length ≤ n := by have := h.cnt; omega
theorem getD_app1 {l : List Int} {y : Int} {j : Nat} (h : j < l.length) : (l ++ [y]).getD j 0 = l.getD j 0 := by
  simp only [List.getD_eq_getElem?_getD]; rw [List.getElem?_append_left h]
theorem getD_app2 {l : List Int} {y : Int} : (l ++ [y]).getD l.length 0 = y := by simp [List.getD_eq_getElem?_getD]
theorem BI.bIn {adj : Nat → Nat → Bool} {n x y : Nat} {s : (Nat → Int) × List Int} (h : BI n s) (hy : y < n) (hx : 0 ≤ s.1 x) : BI n (bIn adj x y s) ∧ 0 ≤ (Zv.bIn adj x y s).1 x := by
  unfold Zv.bIn
  split
  · rename_i hc
    have hxy : x ≠ y := by rintro rfl; omega
    refine ⟨⟨fun j hj => ?_, ?_, fun w => ?_, fun w => ?_⟩, by dsimp only; rw [upd_ne hxy]; exact hx⟩
    · simp only [List.length_append, List.length_singleton] at hj
      by_cases e : j < s.2.length
      · dsimp only
        rw [getD_app1 e]
        obtain ⟨h1, h2, h3⟩ := h.q j e
        refine ⟨h1, h2, ?_⟩
        unfold upd
        split
        · omega
        · exact h3
      · have : j = s.2.length := by omega
        subst this
        dsimp only
        rw [getD_app2]
        refine ⟨by omega, by omega, ?_⟩
        rw [Int.toNat_natCast, upd_same]; omega
    · have h1 := unm_upd hc.2 (e := s.1 x + 1) (by omega) hy
      have h2 := h.cnt
      simp only [List.length_append, List.length_singleton]
      omega
    · have h1 := h.lo w
      dsimp only
      unfold upd
      split <;> omega
    · have h1 := h.hi w
      have h2 := h.hi x
      simp only [List.length_append, List.length_singleton]
      unfold upd
      split <;> omega
  · exact ⟨h, hx⟩
theorem BI.bRow {adj : Nat → Nat → Bool} {n x : Nat} {s : (Nat → Int) × List Int} (h : BI n s) (hx : 0 ≤ s.1 x) : BI n (bRow adj n x s) :=
  (upF_inv (f := fun y s => Zv.bIn adj x y s) (n := n) (fun _ s => BI n s ∧ 0 ≤ s.1 x) (fun i a hi ha => ha.1.bIn hi ha.2) 0 s (Nat.zero_le _) ⟨h, hx⟩).1
theorem BI.bAll {adj : Nat → Nat → Bool} {n : Nat} : ∀ (k i : Nat) {s : (Nat → Int) × List Int}, BI n s → BI n (bAll adj n k i s)
  | 0, _, _, h => h
  | k + 1, i, s, h => by
    rw [Zv.bAll]
    split
    · rename_i hi
      exact BI.bAll k (i + 1) (h.bRow (h.q i hi).2.2)
    · exact h

/-- The edge that is left out. -/
def adjE (rows : List Int) (a b : Int) (x y : Nat) : Bool := rbit rows x y && !(decide ((x : Int) = a) && decide ((y : Int) = b)) && !(decide ((x : Int) = b) && decide ((y : Int) = a))

/-! ### the code -/
theorem l_spec_l02From_1 (h : VH) (n : Nat) (s : Value) (v a b : Int) (hso : ∀ k, OldC (h.length + k) s) (hle : n ≤ 62) (hn : nro ≤ h.length) :
    floop (vcall F nro) nro [1, 2, 3, 4, 9, 10] i_spec_l02From_B1 (bx h n s ++ [⟨1, []⟩]) [.int .i64 v, .int .i64 a, .int .i64 b, bp h, .slice (some ⟨h.length + 1, 0, none⟩) 0 0, .int .i64 0] (bx h n s ++ [⟨1, []⟩]) =
      some (.exit 0, fl [(1, .int .i64 v), (2, .int .i64 a), (3, .int .i64 b), (4, bp h), (9, .slice (some ⟨h.length + 1, 0, none⟩) n n)], bx h n s ++ [⟨1, ints (tbl n fun _ => -1)⟩]) := by
  have hn' := fun k => Nat.le_trans hn (Nat.le_add_right h.length k)
  have key := for_up (call := vcall F nro) (nro := nro) (live := [1, 2, 3, 4, 9, 10]) (c := i_spec_l02From_B1) (h0 := bx h n s ++ [⟨1, []⟩]) (n := n) (fun i (_ : Unit) => [.int .i64 v, .int .i64 a, .int .i64 b, bp h, .slice (some ⟨h.length + 1, 0, none⟩) i i, .int .i64 i]) (fun i _ => bx h n s ++ [⟨1, ints (tbl i fun _ => -1)⟩]) (fun _ u => u) (fun _ _ => True)
    (fun _ => some (.exit 0, fl [(1, .int .i64 v), (2, .int .i64 a), (3, .int .i64 b), (4, bp h), (9, .slice (some ⟨h.length + 1, 0, none⟩) n n)], bx h n s ++ [⟨1, ints (tbl n fun _ => -1)⟩])) ?_ ?_ 0 () (Nat.zero_le _) trivial
  · have := key.1
    simpa [tbl] using this
  · intro i _ hi hi2 _
    refine ⟨trivial, ?_⟩
    have e : ints (tbl i fun _ => -1) ++ [Value.int .i64 (-1)] = ints (tbl (i + 1) fun _ => -1) := by
      rw [← tbl_snoc]; simp [ints]
    have b1 : (i + 1) * 8 ≤ 1099511627776 := by omega
    have b2 : i < 1099511627776 := by omega
    rw [floop_at i_spec_l02From_B1.eq_1]
    simp (disch := first | assumption | omega | (simp [*] <;> omega) | fail) [hi, hi2, hn', hso, b1, b2, e, wrap64]
  · intro _ _
    rw [floop_at i_spec_l02From_B1.eq_1]
    simp (disch := first | assumption | omega | (simp [*] <;> omega) | fail) []

/-- The heap in the search. -/
def qh (h : VH) (n : Int) (s : Value) (N : Nat) (t : (Nat → Int) × List Int) : VH := h ++ [⟨0, [.int .i64 n, s]⟩, ⟨1, ints (tbl N t.1)⟩, ⟨1, ints t.2⟩]

theorem l_spec_l02From_2 (h : VH) (n : Nat) (s : Value) (rows : List Int) (hs : Sli h s rows) (R : Rok n rows) (a b : Int) (hn : nro ≤ h.length) (i x : Nat) (hx : x < n) (t0 : (Nat → Int) × List Int) (B0 : BI n t0) (hx0 : 0 ≤ t0.1 x) :
    floop (vcall F nro) nro [2, 3, 4, 9, 11, 12, 13, 14] i_spec_l02From_B2 (qh h n s n t0) [.int .i64 a, .int .i64 b, bp h, .slice (some ⟨h.length + 1, 0, none⟩) n n, .slice (some ⟨h.length + 2, 0, none⟩) t0.2.length t0.2.length, .int .i64 i, .int .i64 x, .int .i64 0] (qh h n s n t0) =
      some (.exit 4, fl [(2, .int .i64 a), (3, .int .i64 b), (4, bp h), (9, .slice (some ⟨h.length + 1, 0, none⟩) n n), (11, .slice (some ⟨h.length + 2, 0, none⟩) (bRow (adjE rows a b) n x t0).2.length (bRow (adjE rows a b) n x t0).2.length), (12, .int .i64 i)], qh h n s n (bRow (adjE rows a b) n x t0)) := by
  have hn' := fun k => Nat.le_trans hn (Nat.le_add_right h.length k)
  have hso := fun k => hs.oldCk (k := k)
  have hle := R.le
  have hlen := R.len
  refine (for_up (call := vcall F nro) (nro := nro) (live := [2, 3, 4, 9, 11, 12, 13, 14]) (c := i_spec_l02From_B2) (h0 := qh h n s n t0) (n := n) (fun y (t : (Nat → Int) × List Int) => [.int .i64 a, .int .i64 b, bp h, .slice (some ⟨h.length + 1, 0, none⟩) n n, .slice (some ⟨h.length + 2, 0, none⟩) t.2.length t.2.length, .int .i64 i, .int .i64 x, .int .i64 y]) (fun _ t => qh h n s n t) (fun y t => bIn (adjE rows a b) x y t) (fun _ t => BI n t ∧ 0 ≤ t.1 x)
    (fun t => some (.exit 4, fl [(2, .int .i64 a), (3, .int .i64 b), (4, bp h), (9, .slice (some ⟨h.length + 1, 0, none⟩) n n), (11, .slice (some ⟨h.length + 2, 0, none⟩) t.2.length t.2.length), (12, .int .i64 i)], qh h n s n t)) ?_ ?_ 0 t0 (Nat.zero_le _) ⟨B0, hx0⟩).1
  · rintro y ⟨g, q⟩ hy hy2 ⟨B, hgx⟩
    refine ⟨B.bIn hy hgx, ?_⟩
    have hql := B.len
    have l1 := B.lo y
    have l2 := B.hi x
    dsimp only at hgx hql l1 l2
    obtain ⟨r1, r2⟩ := R.row x hx
    have r3 := le62 hle r2
    have hvl : x < rows.length := by omega
    have vx := fun L => (hs.app L).vidx (k := .i64) (j := (x : Int)) (by omega) (by omega)
    have vl := fun L => (hs.app L).vload hvl
    have w1 : IntKind.u64.wrap (y : Int) = y := wrapu64 (by omega) (by omega)
    have hbit := bit_two (a := rows.getD x 0) (b := (y : Int)) r1 (by omega) (by omega)
    rw [Int.toNat_natCast, getD_at rows hvl] at hbit
    have hrb : rbit rows x y = (rows[x]'hvl).toNat.testBit y := by unfold rbit; rw [getD_at rows hvl]
    rw [← hrb] at hbit
    have w2 : IntKind.i64.wrap (g x + 1) = g x + 1 := wrap64 (by omega) (by omega)
    have w3 : IntKind.i64.wrap ((y : Int) + 1) = (y : Int) + 1 := wrap64 (by omega) (by omega)
    have t1 := tbl_take1 (g := g) hy
    have t2 := tbl_take1 (g := g) hx
    have t3 := tbl_splice (g := g) (x := g x + 1) hy
    have e1 : ints q ++ [Value.int .i64 y] = ints (q ++ [(y : Int)]) := by simp [ints]
    have b1 : (q.length + 1) * 8 ≤ 1099511627776 := by omega
    have b2 : q.length < 1099511627776 := by omega
    have hx2 : (x : Int) < n := by omega
    rw [floop_at i_spec_l02From_B2.eq_1]
    unfold qh bIn adjE
    clear B l1 l2 hql r1 r2 r3 hrb B0 hx0 hgx
    by_cases c1 : rbit rows x y = true
    · rw [if_pos c1] at hbit
      by_cases c2 : g y < 0
      · have c2' : ¬ 0 ≤ g y := by omega
        by_cases c3 : a = (x : Int)
        · by_cases c4 : b = (y : Int)
          · simp (disch := first | assumption | omega | (simp [*] <;> omega) | fail) [hy, hy2, hx, hx2, vx, vl, w1, hbit, c1, c2, c2', c3, c4, t1, w3, hn', hso]
          · have c4n : ¬ (y : Int) = b := fun e => c4 e.symm
            by_cases c5 : b = (x : Int)
            · by_cases c6 : x = y
              · exact absurd (c5.trans (by rw [c6])) c4
              · have c6' : ¬ (y : Int) = x := by omega
                have c6n : ¬ y = x := by omega
                simp (disch := first | assumption | omega | (simp [*] <;> omega) | fail) [hy, hy2, hx, hx2, vx, vl, w1, hbit, c1, c2, c2', c3, c5, c6', c6n, t1, t2, t3, w2, w3, hn', hso, b1, b2, e1]
            · have c5n : ¬ (x : Int) = b := fun e => c5 e.symm
              simp (disch := first | assumption | omega | (simp [*] <;> omega) | fail) [hy, hy2, hx, hx2, vx, vl, w1, hbit, c1, c2, c2', c3, c4n, c5n, t1, t2, t3, w2, w3, hn', hso, b1, b2, e1]
        · have c3n : ¬ (x : Int) = a := fun e => c3 e.symm
          by_cases c5 : b = (x : Int)
          · by_cases c6 : a = (y : Int)
            · simp (disch := first | assumption | omega | (simp [*] <;> omega) | fail) [hy, hy2, hx, hx2, vx, vl, w1, hbit, c1, c2, c2', c3n, c5, c6, t1, w3, hn', hso]
            · have c6n : ¬ (y : Int) = a := fun e => c6 e.symm
              simp (disch := first | assumption | omega | (simp [*] <;> omega) | fail) [hy, hy2, hx, hx2, vx, vl, w1, hbit, c1, c2, c2', c3n, c5, c6n, t1, t2, t3, w2, w3, hn', hso, b1, b2, e1]
          · have c5n : ¬ (x : Int) = b := fun e => c5 e.symm
            simp (disch := first | assumption | omega | (simp [*] <;> omega) | fail) [hy, hy2, hx, hx2, vx, vl, w1, hbit, c1, c2, c2', c3n, c5n, t1, t2, t3, w2, w3, hn', hso, b1, b2, e1]
      · have c2' : 0 ≤ g y := by omega
        simp (disch := first | assumption | omega | (simp [*] <;> omega) | fail) [hy, hy2, hx, hx2, vx, vl, w1, hbit, c1, c2, c2', t1, w3, hn', hso]
    · rw [if_neg c1] at hbit
      simp (disch := first | assumption | omega | (simp [*] <;> omega) | fail) [hy, hy2, hx, hx2, vx, vl, w1, hbit, c1, w3, hn', hso]
  · rintro ⟨g, q⟩ _
    rw [floop_at i_spec_l02From_B2.eq_1]
    unfold qh
    simp (disch := first | assumption | omega | (simp [*] <;> omega) | fail) [hn', hso]

theorem l_spec_l02From_3 (h : VH) (n : Nat) (s : Value) (rows : List Int) (hs : Sli h s rows) (R : Rok n rows) (a b : Int) (hn : nro ≤ h.length) (t0 : (Nat → Int) × List Int) : ∀ (k i : Nat) (t : (Nat → Int) × List Int), n ≤ i + k → i ≤ t.2.length → BI n t →
    floop (vcall F nro) nro [2, 3, 4, 9, 11, 12] i_spec_l02From_B3 (qh h n s n t0) [.int .i64 a, .int .i64 b, bp h, .slice (some ⟨h.length + 1, 0, none⟩) n n, .slice (some ⟨h.length + 2, 0, none⟩) t.2.length t.2.length, .int .i64 i] (qh h n s n t) =
      some (.exit 2, fl [(9, .slice (some ⟨h.length + 1, 0, none⟩) n n)], qh h n s n (bAll (adjE rows a b) n k i t)) := by
  have hn' := fun k => Nat.le_trans hn (Nat.le_add_right h.length k)
  have hso := fun k => hs.oldCk (k := k)
  intro k
  induction k with
  | zero =>
    intro i t hk hi B
    have := B.len
    have e : ¬ (i : Int) < t.2.length := by omega
    rw [floop_at i_spec_l02From_B3.eq_1]
    unfold qh bAll
    simp (disch := first | assumption | omega | (simp [*] <;> omega) | fail) [e, hn', hso]
  | succ k ih =>
    intro i t hk hi B
    have hql := B.len
    have hle := R.le
    by_cases hlt : i < t.2.length
    · have hlt' : (i : Int) < t.2.length := by omega
      obtain ⟨q1, q2, q3⟩ := B.q i hlt
      obtain ⟨x, hx⟩ : ∃ x : Nat, t.2.getD i 0 = x := ⟨(t.2.getD i 0).toNat, by omega⟩
      rw [hx] at q2 q3
      rw [Int.toNat_natCast] at q3
      have hrow := l_spec_l02From_2 (nro := nro) h n s rows hs R a b hn i x (by omega) t B q3
      have ih2 := ih (i + 1) (bRow (adjE rows a b) n x t) (by omega) (by
        have : t.2.length ≤ (bRow (adjE rows a b) n x t).2.length := upF_inv (f := fun y s => bIn (adjE rows a b) x y s) (n := n) (fun _ s => t.2.length ≤ s.2.length) (fun i s _ hs => by
          unfold bIn
          split
          · simp; omega
          · exact hs) 0 t (Nat.zero_le _) (Nat.le_refl _)
        omega) (B.bRow q3)
      rw [show ((i + 1 : Nat) : Int) = (i : Int) + 1 by omega] at ih2
      have e : bAll (adjE rows a b) n (k + 1) i t = bAll (adjE rows a b) n k (i + 1) (bRow (adjE rows a b) n x t) := by rw [bAll, if_pos hlt, hx, Int.toNat_natCast]
      rw [e]
      have hge : t.2[i] = (x : Int) := by rw [← hx, List.getD_eq_getElem?_getD, List.getElem?_eq_getElem hlt]; rfl
      have t1 := take1_ints hlt
      rw [hge] at t1
      rw [floop_at i_spec_l02From_B3.eq_1]
      obtain ⟨t2, ht2⟩ : ∃ t2, t2 = bRow (adjE rows a b) n x t := ⟨_, rfl⟩
      rw [← ht2] at hrow ih2 ⊢
      obtain ⟨t3, ht3⟩ : ∃ t3, t3 = bAll (adjE rows a b) n k (i + 1) t2 := ⟨_, rfl⟩
      rw [← ht3] at ih2 ⊢
      clear e ht2 ht3 hx hge B ih q1 q2 q3
      unfold qh at hrow ih2 ⊢
      simp (disch := first | assumption | omega | (simp [*] <;> omega) | fail) [hlt, hlt', t1, hrow, ih2, hn', hso, wrap64]
    · have e : ¬ (i : Int) < t.2.length := by omega
      have e2 : bAll (adjE rows a b) n (k + 1) i t = t := by rw [bAll, if_neg hlt]
      rw [e2, floop_at i_spec_l02From_B3.eq_1]
      unfold qh
      simp (disch := first | assumption | omega | (simp [*] <;> omega) | fail) [e, hn', hso]

/-- The start. -/
def b0 (v : Nat) : (Nat → Int) × List Int := (upd (fun _ => -1) v 0, [(v : Int)])
theorem BI.b0 {n v : Nat} (hv : v < n) : BI n (b0 v) := by
  refine ⟨fun j hj => ?_, ?_, fun w => ?_, fun w => ?_⟩
  · have : j = 0 := by simpa [Zv.b0] using hj
    subst this
    simp [Zv.b0, upd, hv]
  · have h1 := unm_upd (g := fun _ => -1) (y := v) (e := 0) (by decide) (by omega) hv
    rw [unm_const] at h1
    simp only [Zv.b0, List.length_singleton]
    omega
  · simp only [Zv.b0, upd]; split <;> omega
  · simp only [Zv.b0, upd, List.length_singleton]; split <;> omega
/-- The distances from v. -/
def fromF (adj : Nat → Nat → Bool) (n v : Nat) : List Int := tbl n (bAll adj n n 0 (b0 v)).1
theorem fromF_len (adj : Nat → Nat → Bool) (n v : Nat) : (fromF adj n v).length = n := by simp [fromF]

theorem c_spec_l02From (n v : Nat) (a b : Int) (s : Value) (rows : List Int) (h : VH) (hs : Sli h s rows) (R : Rok n rows) (hv : v < n) (hn : nro ≤ h.length) :
    vcall F nro k_spec_l02From [gv n s, .int .i64 v, .int .i64 a, .int .i64 b] h = some (.slice (some ⟨h.length, 0, none⟩) n n, h ++ [⟨1, ints (fromF (adjE rows a b) n v)⟩]) := by
  have hn' := fun k => Nat.le_trans hn (Nat.le_add_right h.length k)
  have hso := fun k => hs.oldCk (k := k)
  refine v_spec_l02From (by simp [i_spec_l02From]) ?_
  rw [fbody_eq]
  have hle := R.le
  have l1 := l_spec_l02From_1 (nro := nro) h n s v a b hso hle hn
  have l3 := l_spec_l02From_3 (nro := nro) h n s rows hs R a b hn (b0 v) n 0 (b0 v) (by omega) (Nat.zero_le _) (BI.b0 hv)
  have hv2 : (v : Int) < n := by omega
  have t3 := tbl_splice (g := fun _ => -1) (x := 0) hv
  unfold fromF
  obtain ⟨t, ht⟩ : ∃ t, t = bAll (adjE rows a b) n n 0 (b0 v) := ⟨_, rfl⟩
  rw [← ht] at l3 ⊢
  clear ht
  unfold qh b0 at l3
  simp at l1 l3
  simp (disch := first | assumption | omega | (simp [*] <;> omega) | fail) [i_spec_l02From, l1, l3, hv, hv2, t3, hn', hso]
end Go.Proofs.YtghondlbkjponaaDoor.Zv

/- The reference's distances are the program's. -/
namespace Go.Proofs.YtghondlbkjponaaDoor.Zv
open Go
variable {nro : Nat}

/-- What holds of a search up to place i of the queue. -/
structure CI (rows : List Int) (n v i : Nat) (s : (Nat → Int) × List Int) : Prop where
  vis : ∀ w, w < n → 0 ≤ s.1 w → ∃ j, j < s.2.length ∧ s.2.getD j 0 = w
  sorted : ∀ j k, j ≤ k → k < s.2.length → s.1 (s.2.getD j 0).toNat ≤ s.1 (s.2.getD k 0).toNat
  walk : ∀ w, 0 ≤ s.1 w → Wk rows (s.1 w).toNat v w
  closed : ∀ j, j < i → j < s.2.length → ∀ y, rbit rows (s.2.getD j 0).toNat y = true → 0 ≤ s.1 y ∧ s.1 y ≤ s.1 (s.2.getD j 0).toNat + 1
  bound : i < s.2.length → ∀ k, k < s.2.length → s.1 (s.2.getD k 0).toNat ≤ s.1 (s.2.getD i 0).toNat + 1
  start : s.1 v = 0

theorem ci_in {adj : Nat → Nat → Bool} {rows : List Int} {n v i x y : Nat} (hadj : ∀ x y, x < n → y < n → (adj x y = true ↔ rbit rows x y = true)) {s : (Nat → Int) × List Int} (B : BI n s) (C : CI rows n v i s) (hi : i < s.2.length) (hx : (s.2.getD i 0).toNat = x) (hxn : x < n) (hy : y < n) (hrow : ∀ z, z < y → rbit rows x z = true → 0 ≤ s.1 z ∧ s.1 z ≤ s.1 x + 1) :
    CI rows n v i (bIn adj x y s) ∧ i < (bIn adj x y s).2.length ∧ ((bIn adj x y s).2.getD i 0).toNat = x ∧ ∀ z, z < y + 1 → rbit rows x z = true → 0 ≤ (bIn adj x y s).1 z ∧ (bIn adj x y s).1 z ≤ (bIn adj x y s).1 x + 1 := by
  have hq0 := B.q i hi
  rw [hx] at hq0
  obtain ⟨_, _, hx0⟩ := hq0
  by_cases hc : adj x y = true ∧ s.1 y < 0
  · have e : bIn adj x y s = (upd s.1 y (s.1 x + 1), s.2 ++ [(y : Int)]) := by unfold bIn; rw [if_pos hc]
    have hxy : x ≠ y := by rintro rfl; omega
    have hqy : ∀ j, j < s.2.length → (s.2.getD j 0).toNat ≠ y := fun j hj he => by
      have := (B.q j hj).2.2
      rw [he] at this
      omega
    have g1 : ∀ j, j < s.2.length → upd s.1 y (s.1 x + 1) ((s.2 ++ [(y : Int)]).getD j 0).toNat = s.1 (s.2.getD j 0).toNat := fun j hj => by
      rw [getD_app1 hj, upd_ne (hqy j hj)]
    have g2 : upd s.1 y (s.1 x + 1) ((s.2 ++ [(y : Int)]).getD s.2.length 0).toNat = s.1 x + 1 := by
      rw [getD_app2, Int.toNat_natCast, upd_same]
    have hb := C.bound hi
    rw [hx] at hb
    rw [e]
    refine ⟨⟨fun w hw h0 => ?_, fun j k hjk hk => ?_, fun w h0 => ?_, fun j hj hjl z hz => ?_, fun _ k hk => ?_, ?_⟩, by simp; omega, by rw [getD_app1 hi]; exact hx, fun z hz hzb => ?_⟩
    · dsimp only at h0
      by_cases c : w = y
      · subst c
        exact ⟨s.2.length, by simp, by rw [getD_app2]⟩
      · rw [upd_ne c] at h0
        obtain ⟨j, h1, h2⟩ := C.vis w hw h0
        exact ⟨j, by simp; omega, by rw [getD_app1 h1]; exact h2⟩
    · dsimp only
      simp only [List.length_append, List.length_singleton] at hk
      by_cases c : k < s.2.length
      · rw [g1 j (by omega), g1 k c]
        exact C.sorted j k hjk c
      · have : k = s.2.length := by omega
        subst this
        rw [g2]
        by_cases c2 : j < s.2.length
        · rw [g1 j c2]
          exact hb j c2
        · have : j = s.2.length := by omega
          subst this
          rw [g2]
          exact Int.le_refl _
    · dsimp only at h0 ⊢
      by_cases c : w = y
      · subst c
        rw [upd_same]
        have h1 := C.walk x hx0
        rw [show (s.1 x + 1).toNat = (s.1 x).toNat + 1 by omega]
        exact ⟨x, h1, (hadj x w hxn hy).mp hc.1⟩
      · rw [upd_ne c] at h0 ⊢
        exact C.walk w h0
    · dsimp only at hz ⊢
      simp only [List.length_append, List.length_singleton] at hjl
      have hj2 : j < s.2.length := by omega
      rw [getD_app1 hj2] at hz
      obtain ⟨h1, h2⟩ := C.closed j hj hj2 z hz
      have hzy : z ≠ y := by rintro rfl; omega
      rw [g1 j hj2, upd_ne hzy]
      exact ⟨h1, h2⟩
    · dsimp only
      simp only [List.length_append, List.length_singleton] at hk
      rw [g1 i hi, hx]
      by_cases c : k < s.2.length
      · rw [g1 k c]; exact hb k c
      · have : k = s.2.length := by omega
        subst this
        rw [g2]
        exact Int.le_refl _
    · dsimp only
      have : v ≠ y := by rintro rfl; have := C.start; omega
      rw [upd_ne this]
      exact C.start
    · dsimp only
      rw [upd_ne (g := s.1) hxy]
      by_cases c : z = y
      · subst c
        rw [upd_same]
        omega
      · rw [upd_ne c]
        exact hrow z (by omega) hzb
  · have e : bIn adj x y s = s := by unfold bIn; rw [if_neg hc]
    rw [e]
    refine ⟨C, hi, hx, fun z hz hzb => ?_⟩
    by_cases c : z = y
    · subst c
      have h1 := (hadj x z hxn hy).mpr hzb
      have h2 : 0 ≤ s.1 z := by
        rcases Int.lt_or_le (s.1 z) 0 with h | h
        · exact absurd ⟨h1, h⟩ hc
        · exact h
      refine ⟨h2, ?_⟩
      obtain ⟨j, h3, h4⟩ := C.vis z hy h2
      have := C.bound hi j h3
      rw [h4, hx, Int.toNat_natCast] at this
      exact this
    · exact hrow z (by omega) hzb

theorem ci_row {adj : Nat → Nat → Bool} {rows : List Int} {n v i x : Nat} (hadj : ∀ x y, x < n → y < n → (adj x y = true ↔ rbit rows x y = true)) (hR : ∀ x y, rbit rows x y = true → y < n) {s : (Nat → Int) × List Int} (B : BI n s) (C : CI rows n v i s) (hi : i < s.2.length) (hx : (s.2.getD i 0).toNat = x) (hxn : x < n) (hx0 : 0 ≤ s.1 x) :
    CI rows n v (i + 1) (bRow adj n x s) := by
  have key := upF_inv (f := fun y s => bIn adj x y s) (n := n) (fun y s => (BI n s ∧ 0 ≤ s.1 x) ∧ CI rows n v i s ∧ i < s.2.length ∧ (s.2.getD i 0).toNat = x ∧ ∀ z, z < y → rbit rows x z = true → 0 ≤ s.1 z ∧ s.1 z ≤ s.1 x + 1) (fun y t hy ⟨⟨h1, h2⟩, h3, h4, h5, h6⟩ => ⟨h1.bIn hy h2, ci_in hadj h1 h3 h4 h5 hxn hy h6⟩) 0 s (Nat.zero_le _) ⟨⟨B, hx0⟩, C, hi, hx, fun z hz => by omega⟩
  obtain ⟨_, C2, h4, h5, h6⟩ := key
  rw [show upF (fun y s => bIn adj x y s) n 0 s = bRow adj n x s from rfl] at C2 h4 h5 h6
  refine ⟨C2.vis, C2.sorted, C2.walk, fun j hj hjl y hy => ?_, fun hi1 k hk => ?_, C2.start⟩
  · by_cases c : j = i
    · subst c
      rw [h5] at hy ⊢
      exact h6 y (hR _ _ hy) hy
    · exact C2.closed j (by omega) hjl y hy
  · have h1 := C2.bound h4 k hk
    have h2 := C2.sorted i (i + 1) (by omega) hi1
    omega

theorem ci_all {adj : Nat → Nat → Bool} {rows : List Int} {n v : Nat} (hadj : ∀ x y, x < n → y < n → (adj x y = true ↔ rbit rows x y = true)) (hR : ∀ x y, rbit rows x y = true → y < n) : ∀ (k i : Nat) {s : (Nat → Int) × List Int}, BI n s → CI rows n v i s → n ≤ i + k →
    CI rows n v n (bAll adj n k i s) ∧ ∀ j, j < (bAll adj n k i s).2.length → ∀ y, rbit rows ((bAll adj n k i s).2.getD j 0).toNat y = true → 0 ≤ (bAll adj n k i s).1 y ∧ (bAll adj n k i s).1 y ≤ (bAll adj n k i s).1 ((bAll adj n k i s).2.getD j 0).toNat + 1
  | 0, i, s, B, C, h => by
    have hl := B.len
    rw [bAll]
    exact ⟨⟨C.vis, C.sorted, C.walk, fun j _ hj2 => C.closed j (by omega) hj2, fun h2 => by omega, C.start⟩, fun j hj => C.closed j (by omega) hj⟩
  | k + 1, i, s, B, C, h => by
    have hl := B.len
    rw [bAll]
    by_cases hi : i < s.2.length
    · rw [if_pos hi]
      obtain ⟨q1, q2, q3⟩ := B.q i hi
      exact ci_all hadj hR k (i + 1) (B.bRow q3) (ci_row hadj hR B C hi rfl (by omega) q3) (by omega)
    · rw [if_neg hi]
      exact ⟨⟨C.vis, C.sorted, C.walk, fun j _ hj2 => C.closed j (by omega) hj2, fun h2 => by omega, C.start⟩, fun j hj => C.closed j (by omega) hj⟩

theorem ci_b0 (rows : List Int) {n v : Nat} : CI rows n v 0 (b0 v) := by
  refine ⟨fun w _ h0 => ?_, fun j k hjk hk => ?_, fun w h0 => ?_, fun j hj => by omega, fun _ k hk => ?_, by simp [b0, upd]⟩
  · have : w = v := by
      simp only [b0, upd] at h0
      split at h0
      · assumption
      · omega
    subst this
    exact ⟨0, by simp [b0], by simp [b0]⟩
  · have : k = 0 := by simpa [b0] using hk
    subst this
    have : j = 0 := by omega
    subst this
    exact Int.le_refl _
  · simp only [b0, upd] at h0 ⊢
    split at h0
    · rename_i e; subst e; simp [Wk]
    · omega
  · have : k = 0 := by simpa [b0] using hk
    subst this
    omega

theorem fromF_dist {adj : Nat → Nat → Bool} {rows : List Int} {n v : Nat} (R : Rok n rows) (hadj : ∀ x y, x < n → y < n → (adj x y = true ↔ rbit rows x y = true)) (hv : v < n) {w : Nat} (hw : w < n) : IsDist rows v w ((fromF adj n v).getD w 0) := by
  obtain ⟨C, hcl⟩ := ci_all hadj (fun x y h => (rbit_lt R h).2) n 0 (BI.b0 hv) (ci_b0 rows (n := n) (v := v)) (by omega)
  have B := BI.bAll (adj := adj) n 0 (BI.b0 hv)
  unfold fromF
  rw [tbl_getD hw]
  obtain ⟨t, ht⟩ : ∃ t, t = bAll adj n n 0 (b0 v) := ⟨_, rfl⟩
  rw [← ht] at C hcl B ⊢
  have key : ∀ e w, Wk rows e v w → 0 ≤ t.1 w ∧ t.1 w ≤ e := by
    intro e
    induction e with
    | zero => intro w h; cases h; have := C.start; omega
    | succ e ih =>
      rintro w ⟨c, h1, h2⟩
      obtain ⟨h3, h4⟩ := ih c h1
      obtain ⟨j, h5, h6⟩ := C.vis c (rbit_lt R h2).1 h3
      have := hcl j h5 w (by rw [h6, Int.toNat_natCast]; exact h2)
      rw [h6, Int.toNat_natCast] at this
      omega
  by_cases h0 : 0 ≤ t.1 w
  · refine .inr ⟨(t.1 w).toNat, by omega, C.walk w h0, fun e he hwk => ?_⟩
    have := key e w hwk
    omega
  · have := B.lo w
    refine .inl ⟨by omega, fun e hwk => ?_⟩
    have := key e w hwk
    omega

theorem fromF_eq {adj : Nat → Nat → Bool} {rows : List Int} {n v : Nat} (R : Rok n rows) (hadj : ∀ x y, x < n → y < n → (adj x y = true ↔ rbit rows x y = true)) (hv : v < n) : fromF adj n v = dists rows n v := by
  apply List.ext_getElem
  · rw [fromF_len, dists_len]
  · intro w h1 h2
    rw [fromF_len] at h1
    have e1 := (fromF_dist R hadj hv h1).unique (far_dist R hv w) (fun k => Iff.rfl)
    rw [← dists_get R hv h1] at e1
    rw [getD_at _ (by rw [fromF_len]; exact h1), getD_at _ h2] at e1
    exact e1

theorem adjE_cut {n : Nat} {rows : List Int} (g : GV n rows) {a b : Nat} (ha : a < n) (hb : b < n) (hab : rbit rows a b = true) (x y : Nat) : adjE rows a b x y = true ↔ rbit (cut2 rows a b) x y = true := by
  rw [(cut_rok g ha hb hab).2]
  unfold adjE
  simp only [Bool.and_eq_true, Bool.not_eq_true', Bool.and_eq_false_iff, decide_eq_false_iff_not]
  constructor
  · rintro ⟨⟨h1, h2⟩, h3⟩
    exact ⟨h1, fun h => by omega⟩
  · rintro ⟨h1, h2⟩
    exact ⟨⟨h1, by omega⟩, by omega⟩

theorem c_spec_fromCut (n v a b : Nat) (s : Value) (rows : List Int) (h : VH) (hs : Sli h s rows) (g : GV n rows) (hv : v < n) (hab : rbit rows a b = true) (hn : nro ≤ h.length) :
    vcall F nro k_spec_l02From [gv n s, .int .i64 v, .int .i64 a, .int .i64 b] h = some (.slice (some ⟨h.length, 0, none⟩) n n, h ++ [⟨1, ints (dists (cut2 rows a b) n v)⟩]) := by
  obtain ⟨ha, hb⟩ := rbit_lt g.rok hab
  rw [c_spec_l02From n v a b s rows h hs g.rok hv hn, fromF_eq (cut_rok g ha hb hab).1 (fun x y _ _ => adjE_cut g ha hb hab x y) hv]
end Go.Proofs.YtghondlbkjponaaDoor.Zv

/- Shortest ways are counted: by layers, and by walks. -/
namespace Go.Proofs.YtghondlbkjponaaDoor.Zv
open Go
variable {nro : Nat}

theorem w_eq (n : Int) : IntKind.i64.wrap n = (n + 9223372036854775808) % 18446744073709551616 - 9223372036854775808 := IntKind.wrap_i64 n
theorem w_add (x y : Int) : IntKind.i64.wrap (IntKind.i64.wrap x + IntKind.i64.wrap y) = IntKind.i64.wrap (x + y) := by
  rw [w_eq, w_eq, w_eq, w_eq]; omega
theorem w_zero : IntKind.i64.wrap 0 = 0 := by rw [w_eq]; rfl
theorem w_one : IntKind.i64.wrap 1 = 1 := by rw [w_eq]; rfl

/-- How many walks of k steps from a to u. -/
def wkN (rows : List Int) (n a : Nat) : Nat → Nat → Int
  | 0, u => if u = a then 1 else 0
  | k + 1, u => sumF (fun w => if rbit rows w u = true then wkN rows n a k w else 0) n
theorem wkN_none {rows : List Int} {n a : Nat} : ∀ (k u : Nat), ¬ Wk rows k a u → wkN rows n a k u = 0
  | 0, u, h => by
    rw [wkN, if_neg (fun e => h e.symm)]
  | k + 1, u, h => by
    rw [wkN]
    have : sumF (fun w => if rbit rows w u = true then wkN rows n a k w else 0) n = sumF (fun _ => 0) n := by
      apply sumF_congr
      intro w _
      split
      · rename_i hb
        exact wkN_none k w (fun hw => h ⟨w, hw, hb⟩)
      · rfl
    rw [this, sumF_zero]

/-! ### by layers -/
def yIn (rows : List Int) (D : Nat → Int) (a b d x y : Nat) (g : Nat → Int) : Nat → Int :=
  if rbit rows x y = true ∧ D y = d + 1 ∧ ¬ (x = a ∧ y = b) then upd g y (IntKind.i64.wrap (g y + g x)) else g
def xIn (rows : List Int) (D : Nat → Int) (a b d n x : Nat) (g : Nat → Int) : Nat → Int := if D x = d then upF (fun y g => yIn rows D a b d x y g) n 0 g else g
def dIn (rows : List Int) (D : Nat → Int) (a b n d : Nat) (g : Nat → Int) : Nat → Int := upF (fun x g => xIn rows D a b d n x g) n 0 g
def ways (rows : List Int) (D : Nat → Int) (a b n m : Nat) : Nat → Int := upF (fun d g => dIn rows D a b n d g) m 0 (upd (fun _ => 0) a 1)

def wh (h : VH) (n : Int) (s : Value) (D : List Int) (N : Nat) (g : Nat → Int) : VH := h ++ [⟨0, [.int .i64 n, s]⟩, ⟨1, ints D⟩, ⟨1, ints (tbl N g)⟩]

theorem l_spec_l02Around_1 (h : VH) (n : Nat) (s : Value) (rows D : List Int) (hD : D.length = n) (hs : Sli h s rows) (R : Rok n rows) (a b : Nat) (hn : nro ≤ h.length) (d x : Nat) (hd : d ≤ 1000) (hx : x < n) (hDx : D.getD x 0 = d) (g0 : Nat → Int) :
    floop (vcall F nro) nro [1, 2, 3, 8, 9, 10, 11, 12] i_spec_l02Around_B1 (wh h n s D n g0) [.int .i64 a, .int .i64 b, bp h, .slice (some ⟨h.length + 1, 0, none⟩) n n, .slice (some ⟨h.length + 2, 0, none⟩) n n, .int .i64 d, .int .i64 x, .int .i64 0] (wh h n s D n g0) =
      some (.exit 4, fl [(1, .int .i64 a), (2, .int .i64 b), (3, bp h), (8, .slice (some ⟨h.length + 1, 0, none⟩) n n), (9, .slice (some ⟨h.length + 2, 0, none⟩) n n), (10, .int .i64 d), (11, .int .i64 x)], wh h n s D n (xIn rows (fun i => D.getD i 0) a b d n x g0)) := by
  have hn' := fun k => Nat.le_trans hn (Nat.le_add_right h.length k)
  have hso := fun k => hs.oldCk (k := k)
  have hle := R.le
  have hlen := R.len
  unfold xIn
  rw [if_pos hDx]
  have hxD : x < D.length := by omega
  have hDx' : D[x] = (d : Int) := by rw [← getD_at D hxD]; exact hDx
  have tx := take1_ints hxD
  rw [hDx'] at tx
  refine (for_up (call := vcall F nro) (nro := nro) (live := [1, 2, 3, 8, 9, 10, 11, 12]) (c := i_spec_l02Around_B1) (h0 := wh h n s D n g0) (n := n) (fun y (_ : Nat → Int) => [.int .i64 a, .int .i64 b, bp h, .slice (some ⟨h.length + 1, 0, none⟩) n n, .slice (some ⟨h.length + 2, 0, none⟩) n n, .int .i64 d, .int .i64 x, .int .i64 y]) (fun _ g => wh h n s D n g) (fun y g => yIn rows (fun i => D.getD i 0) a b d x y g) (fun _ _ => True)
    (fun g => some (.exit 4, fl [(1, .int .i64 a), (2, .int .i64 b), (3, bp h), (8, .slice (some ⟨h.length + 1, 0, none⟩) n n), (9, .slice (some ⟨h.length + 2, 0, none⟩) n n), (10, .int .i64 d), (11, .int .i64 x)], wh h n s D n g)) ?_ ?_ 0 g0 (Nat.zero_le _) trivial).1
  · intro y g hy hy2 _
    refine ⟨trivial, ?_⟩
    obtain ⟨r1, r2⟩ := R.row x hx
    have r3 := le62 hle r2
    have hvl : x < rows.length := by omega
    have vx := fun L => (hs.app L).vidx (k := .i64) (j := (x : Int)) (by omega) (by omega)
    have vl := fun L => (hs.app L).vload hvl
    have w1 : IntKind.u64.wrap (y : Int) = y := wrapu64 (by omega) (by omega)
    have hbit := bit_two (a := rows.getD x 0) (b := (y : Int)) r1 (by omega) (by omega)
    rw [Int.toNat_natCast, getD_at rows hvl] at hbit
    have hrb : rbit rows x y = (rows[x]'hvl).toNat.testBit y := by unfold rbit; rw [getD_at rows hvl]
    rw [← hrb] at hbit
    have w2 : IntKind.i64.wrap ((d : Int) + 1) = d + 1 := wrap64 (by omega) (by omega)
    have w3 : IntKind.i64.wrap ((y : Int) + 1) = (y : Int) + 1 := wrap64 (by omega) (by omega)
    have hyD : y < D.length := by omega
    have ty := take1_ints hyD
    have hDy : D.getD y 0 = D[y] := getD_at D hyD
    have t1 := tbl_take1 (g := g) hy
    have t2 := tbl_take1 (g := g) hx
    have hx2 : (x : Int) < n := by omega
    rw [floop_at i_spec_l02Around_B1.eq_1]
    unfold wh yIn
    simp only [hDy]
    obtain ⟨z, hz⟩ : ∃ z, z = D[y] := ⟨_, rfl⟩
    rw [← hz] at ty ⊢
    obtain ⟨q, hq⟩ : ∃ q, q = IntKind.i64.wrap (g y + g x) := ⟨_, rfl⟩
    have hq2 := hq.symm
    rw [hq2]
    have t3 := tbl_splice (g := g) (x := q) hy
    clear r1 r2 r3 hrb hDy hDx hDx' hz hq
    by_cases c1 : rbit rows x y = true
    · rw [if_pos c1] at hbit
      by_cases c2 : z = d + 1
      · by_cases c3 : x = a ∧ y = b
        · obtain ⟨rfl, rfl⟩ := c3
          simp (disch := first | assumption | omega | (simp [*] <;> omega) | fail) [hy, hy2, hx, hx2, vx, vl, w1, hbit, c1, c2, tx, ty, w2, w3, hn', hso, hD]
        · by_cases c4 : x = a
          · have c5 : ¬ y = b := fun e => c3 ⟨c4, e⟩
            have c5' : ¬ (y : Int) = b := by omega
            subst c4
            simp (disch := first | assumption | omega | (simp [*] <;> omega) | fail) [hy, hy2, hx, hx2, vx, vl, w1, hbit, c1, c2, c5, c5', tx, ty, t1, t2, t3, hq2, w2, w3, hn', hso, hD]
          · have c4' : ¬ (x : Int) = a := by omega
            simp (disch := first | assumption | omega | (simp [*] <;> omega) | fail) [hy, hy2, hx, hx2, vx, vl, w1, hbit, c1, c2, c4, c4', tx, ty, t1, t2, t3, hq2, w2, w3, hn', hso, hD]
      · simp (disch := first | assumption | omega | (simp [*] <;> omega) | fail) [hy, hy2, hx, hx2, vx, vl, w1, hbit, c1, c2, tx, ty, w2, w3, hn', hso, hD]
    · rw [if_neg c1] at hbit
      simp (disch := first | assumption | omega | (simp [*] <;> omega) | fail) [hy, hy2, hx, hx2, vx, vl, w1, hbit, c1, tx, w3, hn', hso, hD]
  · intro g _
    rw [floop_at i_spec_l02Around_B1.eq_1]
    unfold wh
    simp (disch := first | assumption | omega | (simp [*] <;> omega) | fail) [hn', hso]

theorem l_spec_l02Around_2 (h : VH) (n : Nat) (s : Value) (rows D : List Int) (hD : D.length = n) (hs : Sli h s rows) (R : Rok n rows) (a b : Nat) (hn : nro ≤ h.length) (d : Nat) (hd : d ≤ 1000) (g0 : Nat → Int) :
    floop (vcall F nro) nro [1, 2, 3, 8, 9, 10, 11] i_spec_l02Around_B2 (wh h n s D n g0) [.int .i64 a, .int .i64 b, bp h, .slice (some ⟨h.length + 1, 0, none⟩) n n, .slice (some ⟨h.length + 2, 0, none⟩) n n, .int .i64 d, .int .i64 0] (wh h n s D n g0) =
      some (.exit 2, fl [(1, .int .i64 a), (2, .int .i64 b), (3, bp h), (8, .slice (some ⟨h.length + 1, 0, none⟩) n n), (9, .slice (some ⟨h.length + 2, 0, none⟩) n n), (10, .int .i64 d)], wh h n s D n (dIn rows (fun i => D.getD i 0) a b n d g0)) := by
  have hn' := fun k => Nat.le_trans hn (Nat.le_add_right h.length k)
  have hso := fun k => hs.oldCk (k := k)
  have hle := R.le
  refine (for_up (call := vcall F nro) (nro := nro) (live := [1, 2, 3, 8, 9, 10, 11]) (c := i_spec_l02Around_B2) (h0 := wh h n s D n g0) (n := n) (fun x (_ : Nat → Int) => [.int .i64 a, .int .i64 b, bp h, .slice (some ⟨h.length + 1, 0, none⟩) n n, .slice (some ⟨h.length + 2, 0, none⟩) n n, .int .i64 d, .int .i64 x]) (fun _ g => wh h n s D n g) (fun x g => xIn rows (fun i => D.getD i 0) a b d n x g) (fun _ _ => True)
    (fun g => some (.exit 2, fl [(1, .int .i64 a), (2, .int .i64 b), (3, bp h), (8, .slice (some ⟨h.length + 1, 0, none⟩) n n), (9, .slice (some ⟨h.length + 2, 0, none⟩) n n), (10, .int .i64 d)], wh h n s D n g)) ?_ ?_ 0 g0 (Nat.zero_le _) trivial).1
  · intro x g hx hx2 _
    refine ⟨trivial, ?_⟩
    rw [floop_at i_spec_l02Around_B2.eq_1]
    by_cases c : D.getD x 0 = d
    · have l1 := l_spec_l02Around_1 (nro := nro) h n s rows D hD hs R a b hn d x hd hx c g
      obtain ⟨q, hq⟩ : ∃ q, q = xIn rows (fun i => D.getD i 0) a b d n x g := ⟨_, rfl⟩
      rw [← hq] at l1 ⊢
      clear hq c
      unfold wh at l1 ⊢
      simp (disch := first | assumption | omega | (simp [*] <;> omega) | fail) [hx, hx2, l1, hn', hso, wrap64]
    · have hxD : x < D.length := by omega
      have tx := take1_ints hxD
      have e : xIn rows (fun i => D.getD i 0) a b d n x g = g := by unfold xIn; rw [if_neg c]
      rw [getD_at D hxD] at c
      rw [e]
      obtain ⟨z, hz⟩ : ∃ z, z = D[x] := ⟨_, rfl⟩
      rw [← hz] at tx c
      have l1 : floop (vcall F nro) nro [1, 2, 3, 8, 9, 10, 11, 12] i_spec_l02Around_B1 (wh h n s D n g) [.int .i64 a, .int .i64 b, bp h, .slice (some ⟨h.length + 1, 0, none⟩) n n, .slice (some ⟨h.length + 2, 0, none⟩) n n, .int .i64 d, .int .i64 x, .int .i64 0] (wh h n s D n g) =
          some (.exit 4, fl [(1, .int .i64 a), (2, .int .i64 b), (3, bp h), (8, .slice (some ⟨h.length + 1, 0, none⟩) n n), (9, .slice (some ⟨h.length + 2, 0, none⟩) n n), (10, .int .i64 d), (11, .int .i64 x)], wh h n s D n g) := by
        have h0 : (0 : Int) < n := by omega
        have h0' : 0 < n := by omega
        rw [floop_at i_spec_l02Around_B1.eq_1]
        unfold wh
        simp (disch := first | assumption | omega | (simp [*] <;> omega) | fail) [hx, hx2, tx, c, h0, h0', hD, hn', hso]
      unfold wh at l1 ⊢
      clear e hz
      simp (disch := first | assumption | omega | (simp [*] <;> omega) | fail) [hx, hx2, l1, hn', hso, wrap64]
  · intro g _
    rw [floop_at i_spec_l02Around_B2.eq_1]
    unfold wh
    simp (disch := first | assumption | omega | (simp [*] <;> omega) | fail) [hn', hso]

theorem l_spec_l02Around_3 (h : VH) (n : Nat) (s : Value) (rows D : List Int) (hD : D.length = n) (hs : Sli h s rows) (R : Rok n rows) (a b : Nat) (hb : b < n) (hn : nro ≤ h.length) (m : Nat) (hm : m ≤ 1000) (hDb : D.getD b 0 = m) (g0 : Nat → Int) :
    floop (vcall F nro) nro [1, 2, 3, 8, 9, 10] i_spec_l02Around_B3 (wh h n s D n g0) [.int .i64 a, .int .i64 b, bp h, .slice (some ⟨h.length + 1, 0, none⟩) n n, .slice (some ⟨h.length + 2, 0, none⟩) n n, .int .i64 0] (wh h n s D n g0) =
      some (.exit 0, fl [(2, .int .i64 b), (8, .slice (some ⟨h.length + 1, 0, none⟩) n n), (9, .slice (some ⟨h.length + 2, 0, none⟩) n n)], wh h n s D n (upF (fun d g => dIn rows (fun i => D.getD i 0) a b n d g) m 0 g0)) := by
  have hn' := fun k => Nat.le_trans hn (Nat.le_add_right h.length k)
  have hso := fun k => hs.oldCk (k := k)
  have hle := R.le
  have hbD : b < D.length := by omega
  have tb := take1_ints hbD
  rw [← getD_at D hbD, hDb] at tb
  have hb2 : (b : Int) < n := by omega
  refine (for_up (call := vcall F nro) (nro := nro) (live := [1, 2, 3, 8, 9, 10]) (c := i_spec_l02Around_B3) (h0 := wh h n s D n g0) (n := m) (fun d (_ : Nat → Int) => [.int .i64 a, .int .i64 b, bp h, .slice (some ⟨h.length + 1, 0, none⟩) n n, .slice (some ⟨h.length + 2, 0, none⟩) n n, .int .i64 d]) (fun _ g => wh h n s D n g) (fun d g => dIn rows (fun i => D.getD i 0) a b n d g) (fun _ _ => True)
    (fun g => some (.exit 0, fl [(2, .int .i64 b), (8, .slice (some ⟨h.length + 1, 0, none⟩) n n), (9, .slice (some ⟨h.length + 2, 0, none⟩) n n)], wh h n s D n g)) ?_ ?_ 0 g0 (Nat.zero_le _) trivial).1
  · intro d g hd hd2 _
    refine ⟨trivial, ?_⟩
    have l1 := l_spec_l02Around_2 (nro := nro) h n s rows D hD hs R a b hn d (by omega) g
    rw [floop_at i_spec_l02Around_B3.eq_1]
    obtain ⟨q, hq⟩ : ∃ q, q = dIn rows (fun i => D.getD i 0) a b n d g := ⟨_, rfl⟩
    rw [← hq] at l1 ⊢
    clear hq hDb
    unfold wh at l1 ⊢
    simp (disch := first | assumption | omega | (simp [*] <;> omega) | fail) [hb, hb2, tb, hd, hd2, l1, hn', hso, wrap64, hD]
  · intro g _
    rw [floop_at i_spec_l02Around_B3.eq_1]
    clear hDb
    unfold wh
    simp (disch := first | assumption | omega | (simp [*] <;> omega) | fail) [hb, hb2, tb, hn', hso, hD]
end Go.Proofs.YtghondlbkjponaaDoor.Zv

/- Layers and walks count alike; the least length of a cycle with an edge, and how many there are. -/
namespace Go.Proofs.YtghondlbkjponaaDoor.Zv
open Go
variable {nro : Nat}

/-- One vertex's row, all at once. -/
theorem yIn_all (rows : List Int) (D : Nat → Int) (a b d x : Nat) (hx : D x = d) (n i : Nat) (g : Nat → Int) (y : Nat) : upF (fun y g => yIn rows D a b d x y g) n i g y = if i ≤ y ∧ y < n ∧ rbit rows x y = true ∧ D y = d + 1 ∧ ¬ (x = a ∧ y = b) then IntKind.i64.wrap (g y + g x) else g y := by
  by_cases h : i < n
  · rw [upF_step h, yIn_all rows D a b d x hx n (i + 1)]
    have hx2 : yIn rows D a b d x i g x = g x := by
      unfold yIn
      split
      · rename_i hc
        have : x ≠ i := by rintro rfl; omega
        rw [upd_ne this]
      · rfl
    rw [hx2]
    by_cases e : y = i
    · subst e
      rw [if_neg (by omega)]
      unfold yIn
      by_cases c : rbit rows x y = true ∧ D y = d + 1 ∧ ¬ (x = a ∧ y = b)
      · rw [if_pos c, upd_same, if_pos ⟨Nat.le_refl _, h, c⟩]
      · rw [if_neg c, if_neg (fun h => c h.2.2)]
    · have e2 : yIn rows D a b d x i g y = g y := by
        unfold yIn
        split
        · rw [upd_ne e]
        · rfl
      rw [e2]
      have : (i + 1 ≤ y ∧ y < n ∧ rbit rows x y = true ∧ D y = d + 1 ∧ ¬ (x = a ∧ y = b)) ↔ (i ≤ y ∧ y < n ∧ rbit rows x y = true ∧ D y = d + 1 ∧ ¬ (x = a ∧ y = b)) := by
        constructor
        · rintro ⟨h1, h2⟩; exact ⟨by omega, h2⟩
        · rintro ⟨h1, h2⟩; exact ⟨by omega, h2⟩
      simp only [this]
  · rw [upF_end h, if_neg (by omega)]
 termination_by n - i

/-- A layer, all at once. -/
theorem dIn_all (rows : List Int) (D : Nat → Int) (a b n d : Nat) (f : Nat → Int) (g0 : Nat → Int) (hg : ∀ x, x < n → D x = d → g0 x = IntKind.i64.wrap (f x)) (h0 : ∀ y, y < n → D y = d + 1 → g0 y = 0) (y : Nat) (hy : y < n) :
    dIn rows D a b n d g0 y = if D y = d + 1 then IntKind.i64.wrap (sumF (fun x => if D x = d ∧ rbit rows x y = true ∧ ¬ (x = a ∧ y = b) then f x else 0) n) else g0 y := by
  have key := upF_inv (f := fun x g => xIn rows D a b d n x g) (n := n) (fun i g => ∀ y, y < n → g y = if D y = d + 1 then IntKind.i64.wrap (sumF (fun x => if D x = d ∧ rbit rows x y = true ∧ ¬ (x = a ∧ y = b) then f x else 0) i) else g0 y) (fun i g hi hI y hy => ?_) 0 g0 (Nat.zero_le _) (fun y hy => ?_)
  · exact key y hy
  · rw [sumF]
    unfold xIn
    by_cases c : D i = d
    · rw [if_pos c, yIn_all rows D a b d i c]
      by_cases c2 : D y = d + 1
      · rw [if_pos c2]
        have e1 := hI y hy
        rw [if_pos c2] at e1
        have e2 := hI i hi
        rw [if_neg (by omega), hg i hi c] at e2
        by_cases c3 : rbit rows i y = true ∧ ¬ (i = a ∧ y = b)
        · rw [if_pos ⟨Nat.zero_le _, hy, c3.1, c2, c3.2⟩, if_pos ⟨c, c3.1, c3.2⟩, e1, e2, w_add]
        · rw [if_neg (fun h => c3 ⟨h.2.2.1, h.2.2.2.2⟩), if_neg (fun h => c3 ⟨h.2.1, h.2.2⟩), e1, Int.add_zero]
      · rw [if_neg c2, if_neg (fun h => c2 h.2.2.2.1), hI y hy, if_neg c2]
    · simp only [c, false_and, if_false, Int.add_zero]
      exact hI y hy
  · by_cases c2 : D y = d + 1
    · rw [if_pos c2, h0 y hy c2]
      simp only [sumF]
      exact w_zero.symm
    · rw [if_neg c2]

theorem dist_far {rows : List Int} {n a : Nat} (R : Rok n rows) (ha : a < n) {y d : Nat} (h : far rows a y = d) : Dst rows d a y := by
  rcases far_dist R ha y with ⟨h1, _⟩ | ⟨e, h1, h2⟩
  · omega
  · have : e = d := by omega
    subst this; exact h2
theorem far_of {rows : List Int} {n a : Nat} (R : Rok n rows) (ha : a < n) {y d : Nat} (h : Dst rows d a y) : far rows a y = d := by
  rcases far_dist R ha y with ⟨_, h2⟩ | ⟨e, h1, h2⟩
  · exact absurd h.1 (h2 d)
  · rw [h1, h2.unique h]

theorem ways_eq {n : Nat} {rows : List Int} (g : GV n rows) {a b : Nat} (hab : rbit rows a b = true) (m y : Nat) (hy : y < n) :
    ways rows (fun i => (dists (cut2 rows a b) n a).getD i 0) a b n m y = if 0 ≤ far (cut2 rows a b) a y ∧ far (cut2 rows a b) a y ≤ m then IntKind.i64.wrap (wkN (cut2 rows a b) n a (far (cut2 rows a b) a y).toNat y) else 0 := by
  obtain ⟨ha, hb⟩ := rbit_lt g.rok hab
  obtain ⟨R2, hcut⟩ := cut_rok g ha hb hab
  obtain ⟨C, hC⟩ : ∃ C, C = cut2 rows a b := ⟨_, rfl⟩
  rw [← hC] at R2 hcut ⊢
  have hDg : ∀ y, y < n → (dists C n a).getD y 0 = far C a y := fun y hy => dists_get R2 ha hy
  unfold ways
  have key := upF_inv (f := fun d g => dIn rows (fun i => (dists C n a).getD i 0) a b n d g) (n := m) (fun d g => ∀ y, y < n → g y = if 0 ≤ far C a y ∧ far C a y ≤ d then IntKind.i64.wrap (wkN C n a (far C a y).toNat y) else 0) (fun d g _ hI y hy => ?_) 0 (upd (fun _ => 0) a 1) (Nat.zero_le _) (fun y hy => ?_)
  · exact key y hy
  · rw [dIn_all rows _ a b n d (fun x => wkN C n a d x) g (fun x hx hxd => ?_) (fun y hy hyd => ?_) y hy]
    · rw [hDg y hy]
      by_cases c : far C a y = d + 1
      · rw [if_pos c, if_pos ⟨by omega, by omega⟩, c, show ((d : Int) + 1).toNat = d + 1 by omega, wkN]
        congr 1
        apply sumF_congr
        intro x hx
        rw [hDg x hx]
        have hyd : Dst C (d + 1) a y := dist_far R2 ha (by rw [c]; omega)
        by_cases c2 : far C a x = d
        · have hxd : Dst C d a x := dist_far R2 ha c2
          have e : (rbit rows x y = true ∧ ¬ (x = a ∧ y = b)) ↔ rbit C x y = true := by
            rw [hcut]
            constructor
            · rintro ⟨h1, h2⟩
              refine ⟨h1, fun h3 => ?_⟩
              rcases h3 with h3 | ⟨_, h4⟩
              · exact h2 h3
              · subst h4
                exact hyd.2 0 (by omega) rfl
            · rintro ⟨h1, h2⟩; exact ⟨h1, fun h3 => h2 (.inl h3)⟩
          simp only [c2, true_and, e]
        · rw [if_neg (fun h => c2 h.1)]
          split
          · rename_i hb2
            symm
            apply wkN_none
            intro hw
            apply c2
            refine far_of R2 ha ⟨hw, fun e he hwe => ?_⟩
            exact hyd.2 (e + 1) (by omega) ⟨x, hwe, hb2⟩
          · rfl
      · rw [if_neg c, hI y hy]
        have : (0 ≤ far C a y ∧ far C a y ≤ ((d + 1 : Nat) : Int)) ↔ (0 ≤ far C a y ∧ far C a y ≤ d) := by omega
        simp only [this]
    · rw [hDg x hx] at hxd
      rw [hI x hx, if_pos ⟨by omega, by omega⟩, hxd, Int.toNat_natCast]
    · rw [hDg y hy] at hyd
      rw [hI y hy, if_neg (by omega)]
  · have hge := far_ge C a y
    by_cases e : y = a
    · subst e
      have : far C y y = ((0 : Nat) : Int) := far_of R2 ha ⟨rfl, fun e he => by omega⟩
      rw [upd_same, this, if_pos ⟨by omega, by omega⟩, Int.toNat_natCast]
      simp only [wkN, if_true]
      exact w_one.symm
    · rw [upd_ne e, if_neg]
      intro h
      have : far C a y = ((0 : Nat) : Int) := by omega
      have h2 : a = y := (dist_far R2 ha this).1
      exact e h2.symm

/-- How many shortest cycles there are with an edge. -/
def arN (rows : List Int) (n a b : Nat) : Int := if far (cut2 rows a b) a b < 0 then 0 else IntKind.i64.wrap (wkN (cut2 rows a b) n a (far (cut2 rows a b) a b).toNat b)

theorem Dst.small {n : Nat} {rows : List Int} (R : Rok n rows) {a : Nat} (ha : a < n) : ∀ (d y : Nat), Dst rows d a y → y < n → d < n := by
  intro d y hd hy
  -- vertices at the distances 0 .. d are all different
  have hc : ∀ e, e ≤ d → ∃ c, c < n ∧ Dst rows e a c := by
    intro e he
    obtain ⟨m, rfl⟩ : ∃ m, d = e + m := ⟨d - e, by omega⟩
    cases m with
    | zero => exact ⟨y, hy, hd⟩
    | succ m =>
      obtain ⟨c, h1⟩ := hd.before
      cases e with
      | zero => have : a = c := h1.1; subst this; exact ⟨a, ha, h1⟩
      | succ e =>
        obtain ⟨c0, _, h2⟩ := h1.1
        exact ⟨c, (rbit_lt R h2).2, h1⟩
  apply Classical.byContradiction
  intro hno
  -- n + 1 places in n
  have inj : ∀ (m : Nat) (f : Nat → Nat), (∀ i, i ≤ m → f i < m) → ∃ i j, i < j ∧ j ≤ m ∧ f i = f j := by
    intro m
    induction m with
    | zero => intro f hf; have := hf 0 (Nat.le_refl _); omega
    | succ m ih =>
      intro f hf
      by_cases h1 : ∃ i, i ≤ m ∧ f i = f (m + 1)
      · obtain ⟨i, h2, h3⟩ := h1
        exact ⟨i, m + 1, by omega, by omega, h3⟩
      · have hne : ∀ i, i ≤ m → f i ≠ f (m + 1) := fun i hi he => h1 ⟨i, hi, he⟩
        obtain ⟨i, j, h2, h3, h4⟩ := ih (fun i => if f i = m then f (m + 1) else f i) (fun i hi => by
          have h5 := hf i (by omega)
          have h6 := hf (m + 1) (by omega)
          have h7 := hne i hi
          split <;> omega)
        refine ⟨i, j, h2, by omega, ?_⟩
        have h5 := hne i (by omega)
        have h6 := hne j (by omega)
        split at h4 <;> split at h4 <;> omega
  obtain ⟨f, hf⟩ : ∃ f : Nat → Nat, ∀ e, e ≤ d → f e < n ∧ Dst rows e a (f e) := by
    refine ⟨fun e => if h : e ≤ d then Classical.choose (hc e h) else 0, fun e he => ?_⟩
    simp only [dif_pos he]
    exact Classical.choose_spec (hc e he)
  obtain ⟨i, j, h1, h2, h3⟩ := inj n f (fun i hi => (hf i (by omega)).1)
  have d1 := (hf i (by omega)).2
  have d2 := (hf j (by omega)).2
  rw [h3] at d1
  have := d1.unique d2
  omega
theorem far_small {n : Nat} {rows : List Int} (R : Rok n rows) {a b : Nat} (ha : a < n) (hb : b < n) : far rows a b < n := by
  rcases far_dist R ha b with ⟨h, _⟩ | ⟨d, h1, h2⟩
  · omega
  · have := Dst.small R ha d b h2 hb
    omega

theorem c_spec_l02Around (n a b : Nat) (s : Value) (rows : List Int) (h : VH) (hs : Sli h s rows) (g : GV n rows) (hab : rbit rows a b = true) (hn : nro ≤ h.length) :
    vcall F nro k_spec_l02Around [gv n s, .int .i64 a, .int .i64 b] h = some (.tuple #[.int .i64 (arF rows a b), .int .i64 (arN rows n a b)], h) := by
  have hn' := fun k => Nat.le_trans hn (Nat.le_add_right h.length k)
  have hso := fun k => hs.oldCk (k := k)
  obtain ⟨ha, hb⟩ := rbit_lt g.rok hab
  obtain ⟨R2, _⟩ := cut_rok g ha hb hab
  have R := g.rok
  have hle := R.le
  refine v_spec_l02Around (by simp [i_spec_l02Around]) ?_
  rw [fbody_eq]
  have c1 := c_spec_fromCut (nro := nro) n a a b s rows (bx h n s) (hs.app _) g ha hab (by simp; omega)
  have hDl := dists_len (cut2 rows a b) n a
  have hDb := dists_get R2 ha hb
  have hsm := far_small R2 ha hb
  have hge := far_ge (cut2 rows a b) a b
  have hw := fun m => ways_eq g hab m b hb
  unfold arF arN
  obtain ⟨x, hx⟩ : ∃ x, x = far (cut2 rows a b) a b := ⟨_, rfl⟩
  rw [← hx] at hDb hsm hge hw ⊢
  obtain ⟨D, hD⟩ : ∃ D, D = dists (cut2 rows a b) n a := ⟨_, rfl⟩
  rw [← hD] at c1 hDl hDb hw
  have hbD : b < D.length := by omega
  have tb := take1_ints hbD
  rw [← getD_at D hbD, hDb] at tb
  have hb2 : (b : Int) < n := by omega
  have ha2 : (a : Int) < n := by omega
  simp at c1
  by_cases c : x < 0
  · have : x = -1 := by omega
    subst this
    clear hx hD hw hDb
    simp (disch := first | assumption | omega | (simp [*] <;> omega) | fail) [i_spec_l02Around, c1, tb, hb, hb2, hn', hso, hDl]
  · obtain ⟨m, hm⟩ : ∃ m : Nat, x = m := ⟨x.toNat, by omega⟩
    rw [hm] at hDb hw tb hsm c ⊢
    have l3 := l_spec_l02Around_3 (nro := nro) h n s rows D hDl hs R a b hb hn m (by omega) hDb (upd (fun _ => 0) a 1)
    have hw2 := hw m
    rw [if_pos ⟨by omega, Int.le_refl _⟩] at hw2
    unfold ways at hw2
    have t1 := tbl_take1 (n := n) (g := upF (fun d g => dIn rows (fun i => D.getD i 0) a b n d g) m 0 (upd (fun _ => 0) a 1)) hb
    rw [hw2] at t1
    rw [if_neg c]
    have t3 := tbl_splice (g := fun _ => 0) (x := 1) ha
    have e0 : ints (List.replicate n 0) = ints (tbl n fun _ => 0) := by rw [tbl_const]
    obtain ⟨G, hG⟩ : ∃ G, G = upF (fun d g => dIn rows (fun i => D.getD i 0) a b n d g) m 0 (upd (fun _ => 0) a 1) := ⟨_, rfl⟩
    rw [← hG] at l3 t1
    obtain ⟨q, hq⟩ : ∃ q, q = IntKind.i64.wrap (wkN (cut2 rows a b) n a (m : Int).toNat b) := ⟨_, rfl⟩
    rw [← hq] at t1 ⊢
    have w1 : IntKind.i64.wrap ((m : Int) + 1) = m + 1 := wrap64 (by omega) (by omega)
    unfold wh at l3
    try simp at l3
    have k1 : ¬ (m : Int) < 0 := by omega
    have k2 : 8 * (n : Int) ≤ 140737488355328 := by omega
    have k3 : (n : Int) ≤ 140737488355328 := by omega
    clear hx hD hw hw2 hDb hG hq hge hm
    simp (disch := first | assumption | omega | (simp [*] <;> omega) | fail) [i_spec_l02Around, c1, tb, hb, hb2, ha, ha2, hn', hso, hDl, e0, t3, l3, t1, w1, k1, k2, k3, fresults, fresL, fres1]

/-! ### the girth of the reference -/
/-- Is an edge looked at for the girth at v? -/
def lookE (v : Int) (a b : Nat) : Bool := decide (v < 0) || decide ((a : Int) = v) || decide ((b : Int) = v)
def gRowF (rows : List Int) (v : Int) (a b : Nat) (best : Int) : Int := if rbit rows a b = true ∧ lookE v a b = true then minP best (arF rows a b) else best
def gRow (rows : List Int) (n : Nat) (v : Int) (a : Nat) (best : Int) : Int := upF (fun b x => gRowF rows v a b x) n (a + 1) best
def gAll (rows : List Int) (n : Nat) (v : Int) : Int := upF (fun a x => gRow rows n v a x) n 0 0

theorem gRowF_ge {rows : List Int} {v : Int} {a b : Nat} {best : Int} (h : 0 ≤ best) : 0 ≤ gRowF rows v a b best := by
  unfold gRowF
  split
  · exact minP_ge h
  · exact h
theorem gRow_ok {rows : List Int} {n : Nat} {v c : Int} (hc : 1 ≤ c) (a i : Nat) (best : Int) (hb : 0 ≤ best) : 0 ≤ upF (fun b x => gRowF rows v a b x) n i best ∧ ((upF (fun b x => gRowF rows v a b x) n i best = 0 ∨ c ≤ upF (fun b x => gRowF rows v a b x) n i best) ↔ (best = 0 ∨ c ≤ best) ∧ ∀ b, i ≤ b → b < n → rbit rows a b = true → lookE v a b = true → arF rows a b ≤ 0 ∨ c ≤ arF rows a b) := by
  by_cases h : i < n
  · rw [upF_step h]
    obtain ⟨h1, h2⟩ := gRow_ok (rows := rows) (n := n) (v := v) hc a (i + 1) (gRowF rows v a i best) (gRowF_ge hb)
    refine ⟨h1, h2.trans ?_⟩
    unfold gRowF
    by_cases c1 : rbit rows a i = true ∧ lookE v a i = true
    · rw [if_pos c1, minP_ok hb hc]
      constructor
      · rintro ⟨⟨h3, h4⟩, h5⟩
        refine ⟨h3, fun b hb hbn h6 h7 => ?_⟩
        by_cases e : b = i
        · subst e; exact h4
        · exact h5 b (by omega) hbn h6 h7
      · rintro ⟨h3, h4⟩
        exact ⟨⟨h3, h4 i (Nat.le_refl _) h c1.1 c1.2⟩, fun b hb hbn => h4 b (by omega) hbn⟩
    · rw [if_neg c1]
      constructor
      · rintro ⟨h3, h5⟩
        refine ⟨h3, fun b hb hbn h6 h7 => ?_⟩
        by_cases e : b = i
        · subst e; exact absurd ⟨h6, h7⟩ c1
        · exact h5 b (by omega) hbn h6 h7
      · rintro ⟨h3, h4⟩
        exact ⟨h3, fun b hb hbn => h4 b (by omega) hbn⟩
  · rw [upF_end h]
    exact ⟨hb, fun h1 => ⟨h1, fun b h2 h3 => by omega⟩, fun h1 => h1.1⟩
 termination_by n - i
theorem gAll_ok' {rows : List Int} {n : Nat} {v c : Int} (hc : 1 ≤ c) (i : Nat) (best : Int) (hb : 0 ≤ best) : 0 ≤ upF (fun a x => gRow rows n v a x) n i best ∧ ((upF (fun a x => gRow rows n v a x) n i best = 0 ∨ c ≤ upF (fun a x => gRow rows n v a x) n i best) ↔ (best = 0 ∨ c ≤ best) ∧ ∀ a b, i ≤ a → a < b → b < n → rbit rows a b = true → lookE v a b = true → arF rows a b ≤ 0 ∨ c ≤ arF rows a b) := by
  by_cases h : i < n
  · rw [upF_step h]
    obtain ⟨g1, g2⟩ := gRow_ok (rows := rows) (n := n) (v := v) hc i (i + 1) best hb
    obtain ⟨h1, h2⟩ := gAll_ok' (rows := rows) (n := n) (v := v) hc (i + 1) (gRow rows n v i best) g1
    refine ⟨h1, h2.trans ?_⟩
    unfold gRow
    rw [g2]
    constructor
    · rintro ⟨⟨h3, h4⟩, h5⟩
      refine ⟨h3, fun a b ha hab hbn => ?_⟩
      by_cases e : a = i
      · subst e; exact h4 b (by omega) hbn
      · exact h5 a b (by omega) hab hbn
    · rintro ⟨h3, h4⟩
      exact ⟨⟨h3, fun b hb hbn => h4 i b (Nat.le_refl _) (by omega) hbn⟩, fun a b ha => h4 a b (by omega)⟩
  · rw [upF_end h]
    exact ⟨hb, fun h1 => ⟨h1, fun a b h2 h3 h4 => by omega⟩, fun h1 => h1.1⟩
 termination_by n - i
theorem gAll_ge (rows : List Int) (n : Nat) (v : Int) : 0 ≤ gAll rows n v := (gAll_ok' (rows := rows) (n := n) (v := v) (c := 1) (by omega) 0 0 (by omega)).1
theorem same_min {x y : Int} (hx : 0 ≤ x) (hy : 0 ≤ y) (h : ∀ c, 1 ≤ c → ((x = 0 ∨ c ≤ x) ↔ (y = 0 ∨ c ≤ y))) : x = y := by
  have h1 := h (x + 1) (by omega)
  have h2 := h (y + 1) (by omega)
  by_cases e1 : x = 0
  · subst e1; have := h2.mp (.inl rfl); omega
  · by_cases e2 : y = 0
    · subst e2; have := h1.mpr (.inl rfl); omega
    · have h3 := h x (by omega)
      have h4 := h y (by omega)
      have h5 := h3.mp (.inr (Int.le_refl _))
      have h6 := h4.mpr (.inr (Int.le_refl _))
      omega
theorem girF_ge' {rows : List Int} {n : Nat} (v : Nat) (best : Int) (hb : 0 ≤ best) : 0 ≤ girF rows n best v := by
  by_cases h : v < n
  · rw [girF_step h]
    exact girF_ge' (v + 1) _ (minP_ge hb)
  · rw [girF_end h]; exact hb
 termination_by n - v
/-- The two girths are one. -/
theorem gAll_girF {n : Nat} {rows : List Int} (g : GV n rows) : gAll rows n (-1) = girF rows n 0 0 := by
  refine same_min (gAll_ge ..) (girF_ge' 0 0 (by omega)) fun c hc => ?_
  unfold gAll
  rw [(gAll_ok' hc 0 0 (by omega)).2, girF_ok hc 0 0 (by omega)]
  simp only [true_or, true_and]
  constructor
  · intro h u hu hun y hy
    obtain ⟨h1, h2, h3⟩ := (nbL_mem rows u y).mp hy
    obtain ⟨_, h4⟩ := rbit_lt g.rok h3
    have hne := g.ne h3
    rcases Nat.lt_or_gt_of_ne hne with h5 | h5
    · exact h u y.toNat (by omega) h5 h4 h3 (by simp [lookE])
    · rw [arF_symm g h3]
      exact h y.toNat u (by omega) h5 hun (g.sym' h3) (by simp [lookE])
  · intro h a b ha hab hbn h3 _
    have := h a (by omega) (by omega) b ((nbL_mem rows a b).mpr ⟨by omega, by have := g.rok.le; omega, by rw [Int.toNat_natCast]; exact h3⟩)
    rwa [Int.toNat_natCast] at this
theorem gAll_gaL {n : Nat} {rows : List Int} (g : GV n rows) {v : Nat} (hv : v < n) : gAll rows n v = gaL rows v 0 (nbL rows v) := by
  refine same_min (gAll_ge ..) (gaL_ge _ 0 (by omega)) fun c hc => ?_
  unfold gAll
  rw [(gAll_ok' hc 0 0 (by omega)).2, gaL_ok hc _ 0 (by omega)]
  simp only [true_or, true_and]
  constructor
  · intro h y hy
    obtain ⟨h1, h2, h3⟩ := (nbL_mem rows v y).mp hy
    obtain ⟨_, h4⟩ := rbit_lt g.rok h3
    have hne := g.ne h3
    rcases Nat.lt_or_gt_of_ne hne with h5 | h5
    · exact h v y.toNat (by omega) h5 h4 h3 (by simp [lookE])
    · rw [arF_symm g h3]
      exact h y.toNat v (by omega) h5 hv (g.sym' h3) (by simp [lookE])
  · intro h a b ha hab hbn h3 hl
    have hle := g.rok.le
    unfold lookE at hl
    simp only [Bool.or_eq_true, decide_eq_true_eq] at hl
    have : a = v ∨ b = v := by omega
    rcases this with rfl | rfl
    · have := h b ((nbL_mem rows a b).mpr ⟨by omega, by omega, by rw [Int.toNat_natCast]; exact h3⟩)
      rwa [Int.toNat_natCast] at this
    · have := h a ((nbL_mem rows b a).mpr ⟨by omega, by omega, by rw [Int.toNat_natCast]; exact g.sym' h3⟩)
      rw [Int.toNat_natCast] at this
      rw [arF_symm g h3]; exact this

theorem l_spec_l02Girth_1 (h : VH) (n : Nat) (v : Int) (s : Value) (rows : List Int) (hs : Sli h s rows) (g : GV n rows) (hn : nro ≤ h.length) (a : Nat) (ha : a < n) (best : Int) (hb : 0 ≤ best) :
    floop (vcall F nro) nro [1, 2, 5, 6, 7] i_spec_l02Girth_B1 (bx h n s) [.int .i64 v, bp h, .int .i64 best, .int .i64 a, .int .i64 ((a + 1 : Nat) : Int)] (bx h n s) =
      some (.exit 2, fl [(1, .int .i64 v), (2, bp h), (5, .int .i64 (gRow rows n v a best)), (6, .int .i64 a)], bx h n s) := by
  have hn' := fun k => Nat.le_trans hn (Nat.le_add_right h.length k)
  have hso := fun k => hs.oldCk (k := k)
  have R := g.rok
  have hle := R.le
  have hlen := R.len
  refine (for_up (call := vcall F nro) (nro := nro) (live := [1, 2, 5, 6, 7]) (c := i_spec_l02Girth_B1) (h0 := bx h n s) (n := n) (fun b (x : Int) => [.int .i64 v, bp h, .int .i64 x, .int .i64 a, .int .i64 b]) (fun _ _ => bx h n s) (fun b x => gRowF rows v a b x) (fun _ x => 0 ≤ x)
    (fun x => some (.exit 2, fl [(1, .int .i64 v), (2, bp h), (5, .int .i64 x), (6, .int .i64 a)], bx h n s)) ?_ ?_ (a + 1) best ha hb).1
  · intro b x hb hb2 hx
    refine ⟨gRowF_ge hx, ?_⟩
    obtain ⟨r1, r2⟩ := R.row a ha
    have r3 := le62 hle r2
    have hvl : a < rows.length := by omega
    have vx := fun L => (hs.app L).vidx (k := .i64) (j := (a : Int)) (by omega) (by omega)
    have vl := fun L => (hs.app L).vload hvl
    have w1 : IntKind.u64.wrap (b : Int) = b := wrapu64 (by omega) (by omega)
    have hbit := bit_two (a := rows.getD a 0) (b := (b : Int)) r1 (by omega) (by omega)
    rw [Int.toNat_natCast, getD_at rows hvl] at hbit
    have hrb : rbit rows a b = (rows[a]'hvl).toNat.testBit b := by unfold rbit; rw [getD_at rows hvl]
    rw [← hrb] at hbit
    rw [floop_at i_spec_l02Girth_B1.eq_1]
    unfold gRowF lookE
    by_cases c1 : rbit rows a b = true
    · rw [if_pos c1] at hbit
      have hc := c_spec_l02Around (nro := nro) n a b s rows (bx h n s) (hs.app _) g c1 (by simp; omega)
      obtain ⟨z, hz⟩ : ∃ z, z = arF rows a b := ⟨_, rfl⟩
      obtain ⟨z2, hz2⟩ : ∃ z, z = arN rows n a b := ⟨_, rfl⟩
      rw [← hz, ← hz2] at hc
      rw [← hz]
      unfold minP
      clear r1 r2 r3 hrb hz hz2
      have fin : ∀ (hl : (decide (v < 0) || decide ((a : Int) = v) || decide ((b : Int) = v)) = true), (0 < z ∧ (x = 0 ∨ z < x) ∨ ¬ (0 < z ∧ (x = 0 ∨ z < x))) := fun _ => Classical.em _
      by_cases k1 : 0 < z
      · by_cases k2 : x = 0
        · by_cases c2 : v < 0
          · have c2' : ¬ 0 ≤ v := by omega
            simp (disch := first | assumption | omega | (simp [*] <;> omega) | fail) [hb, hb2, vx, vl, w1, hbit, c1, c2, c2', hc, k1, k2, hn', hso, wrap64]
          · have c2' : 0 ≤ v := by omega
            by_cases c3 : v = (a : Int)
            · simp (disch := first | assumption | omega | (simp [*] <;> omega) | fail) [hb, hb2, vx, vl, w1, hbit, c1, c3, hc, k1, k2, hn', hso, wrap64]
            · have c3n : ¬ (a : Int) = v := fun e => c3 e.symm
              by_cases c4 : v = (b : Int)
              · have c5 : ¬ (a : Int) = b := by omega
                have c5' : ¬ a = b := by omega
                simp (disch := first | assumption | omega | (simp [*] <;> omega) | fail) [hb, hb2, vx, vl, w1, hbit, c1, c4, c5, c5', hc, k1, k2, hn', hso, wrap64]
              · have c4n : ¬ (b : Int) = v := fun e => c4 e.symm
                simp (disch := first | assumption | omega | (simp [*] <;> omega) | fail) [hb, hb2, vx, vl, w1, hbit, c1, c2, c2', c3n, c4n, hn', hso, wrap64]
        · by_cases k3 : z < x
          · by_cases c2 : v < 0
            · have c2' : ¬ 0 ≤ v := by omega
              simp (disch := first | assumption | omega | (simp [*] <;> omega) | fail) [hb, hb2, vx, vl, w1, hbit, c1, c2, c2', hc, k1, k2, k3, hn', hso, wrap64]
            · have c2' : 0 ≤ v := by omega
              by_cases c3 : v = (a : Int)
              · simp (disch := first | assumption | omega | (simp [*] <;> omega) | fail) [hb, hb2, vx, vl, w1, hbit, c1, c3, hc, k1, k2, k3, hn', hso, wrap64]
              · have c3n : ¬ (a : Int) = v := fun e => c3 e.symm
                by_cases c4 : v = (b : Int)
                · have c5 : ¬ (a : Int) = b := by omega
                  have c5' : ¬ a = b := by omega
                  simp (disch := first | assumption | omega | (simp [*] <;> omega) | fail) [hb, hb2, vx, vl, w1, hbit, c1, c4, c5, c5', hc, k1, k2, k3, hn', hso, wrap64]
                · have c4n : ¬ (b : Int) = v := fun e => c4 e.symm
                  simp (disch := first | assumption | omega | (simp [*] <;> omega) | fail) [hb, hb2, vx, vl, w1, hbit, c1, c2, c2', c3n, c4n, hn', hso, wrap64]
          · by_cases c2 : v < 0
            · have c2' : ¬ 0 ≤ v := by omega
              simp (disch := first | assumption | omega | (simp [*] <;> omega) | fail) [hb, hb2, vx, vl, w1, hbit, c1, c2, c2', hc, k1, k2, k3, hn', hso, wrap64]
            · have c2' : 0 ≤ v := by omega
              by_cases c3 : v = (a : Int)
              · simp (disch := first | assumption | omega | (simp [*] <;> omega) | fail) [hb, hb2, vx, vl, w1, hbit, c1, c3, hc, k1, k2, k3, hn', hso, wrap64]
              · have c3n : ¬ (a : Int) = v := fun e => c3 e.symm
                by_cases c4 : v = (b : Int)
                · have c5 : ¬ (a : Int) = b := by omega
                  have c5' : ¬ a = b := by omega
                  simp (disch := first | assumption | omega | (simp [*] <;> omega) | fail) [hb, hb2, vx, vl, w1, hbit, c1, c4, c5, c5', hc, k1, k2, k3, hn', hso, wrap64]
                · have c4n : ¬ (b : Int) = v := fun e => c4 e.symm
                  simp (disch := first | assumption | omega | (simp [*] <;> omega) | fail) [hb, hb2, vx, vl, w1, hbit, c1, c2, c2', c3n, c4n, hn', hso, wrap64]
      · by_cases c2 : v < 0
        · have c2' : ¬ 0 ≤ v := by omega
          simp (disch := first | assumption | omega | (simp [*] <;> omega) | fail) [hb, hb2, vx, vl, w1, hbit, c1, c2, c2', hc, k1, hn', hso, wrap64]
        · have c2' : 0 ≤ v := by omega
          by_cases c3 : v = (a : Int)
          · simp (disch := first | assumption | omega | (simp [*] <;> omega) | fail) [hb, hb2, vx, vl, w1, hbit, c1, c3, hc, k1, hn', hso, wrap64]
          · have c3n : ¬ (a : Int) = v := fun e => c3 e.symm
            by_cases c4 : v = (b : Int)
            · have c5 : ¬ (a : Int) = b := by omega
              have c5' : ¬ a = b := by omega
              simp (disch := first | assumption | omega | (simp [*] <;> omega) | fail) [hb, hb2, vx, vl, w1, hbit, c1, c4, c5, c5', hc, k1, hn', hso, wrap64]
            · have c4n : ¬ (b : Int) = v := fun e => c4 e.symm
              simp (disch := first | assumption | omega | (simp [*] <;> omega) | fail) [hb, hb2, vx, vl, w1, hbit, c1, c2, c2', c3n, c4n, hn', hso, wrap64]
    · rw [if_neg c1] at hbit
      simp (disch := first | assumption | omega | (simp [*] <;> omega) | fail) [hb, hb2, vx, vl, w1, hbit, c1, hn', hso, wrap64]
  · intro x _
    rw [floop_at i_spec_l02Girth_B1.eq_1]
    simp (disch := first | assumption | omega | (simp [*] <;> omega) | fail) [hn', hso]

theorem c_spec_l02Girth (n : Nat) (v : Int) (s : Value) (rows : List Int) (h : VH) (hs : Sli h s rows) (g : GV n rows) (hn : nro ≤ h.length) :
    vcall F nro k_spec_l02Girth [gv n s, .int .i64 v] h = some (.int .i64 (gAll rows n v), h) := by
  have hn' := fun k => Nat.le_trans hn (Nat.le_add_right h.length k)
  have hso := fun k => hs.oldCk (k := k)
  have hle := g.rok.le
  have l2 : floop (vcall F nro) nro [1, 2, 5, 6] i_spec_l02Girth_B2 (bx h n s) [.int .i64 v, bp h, .int .i64 0, .int .i64 0] (bx h n s) = some (.exit 0, fl [(5, .int .i64 (gAll rows n v))], bx h n s) := by
    refine (for_up (call := vcall F nro) (nro := nro) (live := [1, 2, 5, 6]) (c := i_spec_l02Girth_B2) (h0 := bx h n s) (n := n) (fun a (x : Int) => [.int .i64 v, bp h, .int .i64 x, .int .i64 a]) (fun _ _ => bx h n s) (fun a x => gRow rows n v a x) (fun _ x => 0 ≤ x)
      (fun x => some (.exit 0, fl [(5, .int .i64 x)], bx h n s)) ?_ ?_ 0 0 (Nat.zero_le _) (by omega)).1
    · intro a x ha ha2 hx
      refine ⟨(gRow_ok (c := 1) (by omega) a (a + 1) x hx).1, ?_⟩
      have l1 := l_spec_l02Girth_1 (nro := nro) h n v s rows hs g hn a ha x hx
      rw [show ((a + 1 : Nat) : Int) = (a : Int) + 1 by omega] at l1
      obtain ⟨q, hq⟩ : ∃ q, q = gRow rows n v a x := ⟨_, rfl⟩
      rw [← hq] at l1 ⊢
      clear hq
      rw [floop_at i_spec_l02Girth_B2.eq_1]
      simp (disch := first | assumption | omega | (simp [*] <;> omega) | fail) [ha, ha2, l1, hn', hso, wrap64]
    · intro x _
      rw [floop_at i_spec_l02Girth_B2.eq_1]
      simp (disch := first | assumption | omega | (simp [*] <;> omega) | fail) [hn', hso]
  refine v_spec_l02Girth (by simp [i_spec_l02Girth]) ?_
  rw [fbody_eq]
  obtain ⟨q, hq⟩ : ∃ q, q = gAll rows n v := ⟨_, rfl⟩
  rw [← hq] at l2 ⊢
  clear hq
  simp (disch := first | assumption | omega | (simp [*] <;> omega) | fail) [i_spec_l02Girth, l2, hn', hso]
end Go.Proofs.YtghondlbkjponaaDoor.Zv

/- The sums of powers, and the girth bound. -/
namespace Go.Proofs.YtghondlbkjponaaDoor.Zv
open Go
variable {nro : Nat}

/-- The powers, and their sums, as far as they are told. -/
def pw (q : Int) : Nat → Int
  | 0 => 1
  | i + 1 => min (pw q i * q) 1000000000001
def pS (q : Int) : Nat → Int
  | 0 => 0
  | i + 1 => min (pS q i + pw q i) 1000000000001
/-- The least number of vertices. -/
def gB (k : Int) (c : Nat) : Int := if c % 2 = 1 then 1 + k * pS (k - 1) ((c - 1) / 2) else 2 * pS (k - 1) (c / 2)
end Go.Proofs.YtghondlbkjponaaDoor.Zv

/- A regular graph without short cycles has many vertices. -/
namespace Go.Proofs.YtghondlbkjponaaDoor.Zv
open Go
open Classical

section
variable {n : Nat} {rows : List Int} (g : GV n rows)
include g

theorem cut_iff {p q : Nat} (h : rbit rows p q = true) (v w : Nat) : rbit (cut2 rows p q) v w = true ↔ rbit rows v w = true ∧ ¬ ((v = p ∧ w = q) ∨ (v = q ∧ w = p)) := by
  obtain ⟨h1, h2⟩ := rbit_lt g.rok h
  exact (cut_rok g h1 h2 h).2 v w
theorem cut_sym {p q : Nat} (h : rbit rows p q = true) (v w : Nat) (h2 : rbit (cut2 rows p q) v w = true) : rbit (cut2 rows p q) w v = true := by
  rw [cut_iff g h] at h2 ⊢
  refine ⟨g.sym' h2.1, fun h3 => h2.2 ?_⟩
  rcases h3 with ⟨a, b⟩ | ⟨a, b⟩
  · exact .inr ⟨b, a⟩
  · exact .inl ⟨b, a⟩

end

/-! ### counts -/
noncomputable def oneIf (p : Prop) : Int := if p then 1 else 0
theorem one_nonneg (p : Prop) : 0 ≤ oneIf p := by unfold oneIf; split <;> omega
theorem one_pos {p : Prop} (h : p) : oneIf p = 1 := if_pos h
theorem one_neg {p : Prop} (h : ¬ p) : oneIf p = 0 := if_neg h
theorem one_le (p : Prop) : oneIf p ≤ 1 := by unfold oneIf; split <;> omega
/-- At most one. -/
theorem sumF_most {P : Nat → Prop} : ∀ {n : Nat}, (∀ i j, i < n → j < n → P i → P j → i = j) → sumF (fun i => oneIf (P i)) n ≤ 1
  | 0, _ => by simp [sumF]
  | n + 1, h => by
    rw [sumF]
    by_cases hp : P n
    · have : sumF (fun i => oneIf (P i)) n = sumF (fun _ => 0) n := sumF_congr fun i hi => one_neg fun hi2 => by
        have := h i n (by omega) (by omega) hi2 hp
        omega
      rw [this, sumF_zero]
      have := one_le (P n)
      omega
    · rw [one_neg hp]
      have := sumF_most (P := P) (n := n) fun i j hi hj => h i j (by omega) (by omega)
      omega
end Go.Proofs.YtghondlbkjponaaDoor.Zv

/- Counting tuples: closed walks are counted by where they begin. -/
namespace Go.Proofs.YtghondlbkjponaaDoor.Zv
open Go
open Classical

/-- All lists of k numbers below n. -/
def tup (n : Nat) : Nat → List (List Nat)
  | 0 => [[]]
  | k + 1 => (List.range n).flatMap fun v => (tup n k).map (v :: ·)
theorem mem_tup {n : Nat} : ∀ {k : Nat} {l : List Nat}, l ∈ tup n k ↔ l.length = k ∧ ∀ x ∈ l, x < n
  | 0, l => by
    simp only [tup, List.mem_singleton]
    constructor
    · rintro rfl; simp
    · rintro ⟨h, _⟩; exact List.length_eq_zero_iff.mp h
  | k + 1, l => by
    simp only [tup, List.mem_flatMap, List.mem_range, List.mem_map]
    constructor
    · rintro ⟨v, hv, m, hm, rfl⟩
      obtain ⟨h1, h2⟩ := mem_tup.mp hm
      exact ⟨by simp [h1], by simpa using ⟨hv, h2⟩⟩
    · rintro ⟨h1, h2⟩
      cases l with
      | nil => simp at h1
      | cons v m =>
        refine ⟨v, h2 v (by simp), m, mem_tup.mpr ⟨by simpa using h1, fun x hx => h2 x (by simp [hx])⟩, rfl⟩
theorem nodup_tup (n : Nat) : ∀ k, (tup n k).Nodup
  | 0 => by simp [tup]
  | k + 1 => by
    unfold tup List.Nodup
    rw [List.pairwise_flatMap]
    refine ⟨fun v _ => ?_, ?_⟩
    · rw [List.pairwise_map]
      exact (nodup_tup n k).imp (fun h e => h (by simpa using e))
    · refine List.nodup_range.imp ?_
      intro a b hab x hx y hy
      obtain ⟨m, _, rfl⟩ := List.mem_map.mp hx
      obtain ⟨m', _, rfl⟩ := List.mem_map.mp hy
      intro e
      exact hab (by simpa using (List.cons.inj e).1)
theorem tup_perm {n k : Nat} {f f' : List Nat → List Nat} (h1 : ∀ l ∈ tup n k, f l ∈ tup n k) (h2 : ∀ l ∈ tup n k, f' l ∈ tup n k) (h3 : ∀ l ∈ tup n k, f' (f l) = l) (h4 : ∀ l ∈ tup n k, f (f' l) = l) : List.Perm ((tup n k).map f) (tup n k) := by
  refine (List.perm_ext_iff_of_nodup ?_ (nodup_tup n k)).mpr ?_
  · unfold List.Nodup
    rw [List.pairwise_map]
    refine List.Pairwise.imp_of_mem ?_ (nodup_tup n k)
    intro a b ha hb hab e
    exact hab (by rw [← h3 a ha, ← h3 b hb, e])
  · intro a
    rw [List.mem_map]
    constructor
    · rintro ⟨b, hb, rfl⟩; exact h1 b hb
    · intro ha; exact ⟨f' a, h2 a ha, h4 a ha⟩

/-- How many. -/
noncomputable def cn (p : List Nat → Prop) (ls : List (List Nat)) : Int := (ls.countP (fun l => decide (p l)) : Int)
theorem cn_cons (p : List Nat → Prop) (a : List Nat) (ls : List (List Nat)) : cn p (a :: ls) = cn p ls + oneIf (p a) := by
  unfold cn oneIf
  rw [List.countP_cons]
  by_cases h : p a <;> simp [h]
theorem cn_congr {p q : List Nat → Prop} {ls : List (List Nat)} (h : ∀ l ∈ ls, (p l ↔ q l)) : cn p ls = cn q ls := by
  unfold cn
  rw [List.countP_congr]
  intro l hl
  simpa using h l hl
theorem cn_perm {p : List Nat → Prop} {n k : Nat} {f f' : List Nat → List Nat} (h1 : ∀ l ∈ tup n k, f l ∈ tup n k) (h2 : ∀ l ∈ tup n k, f' l ∈ tup n k) (h3 : ∀ l ∈ tup n k, f' (f l) = l) (h4 : ∀ l ∈ tup n k, f (f' l) = l) : cn (fun l => p (f l)) (tup n k) = cn p (tup n k) := by
  have e := (tup_perm h1 h2 h3 h4).countP_eq (fun l => decide (p l))
  rw [List.countP_map] at e
  unfold cn
  rw [← e]
  rfl
/-- Counted by a key. -/
theorem cn_key (p : List Nat → Prop) (key : List Nat → Nat) (N : Nat) : ∀ (ls : List (List Nat)), (∀ l ∈ ls, p l → key l < N) → sumF (fun v => cn (fun l => p l ∧ key l = v) ls) N = cn p ls
  | [], _ => by
    show sumF (fun v => (0 : Int)) N = 0
    exact sumF_zero N
  | a :: ls, h => by
    rw [cn_cons, ← cn_key p key N ls (fun l hl => h l (by simp [hl]))]
    have : (fun v => cn (fun l => p l ∧ key l = v) (a :: ls)) = fun v => cn (fun l => p l ∧ key l = v) ls + oneIf (p a ∧ key a = v) := by
      funext v; rw [cn_cons]
    rw [this, sumF_add]
    congr 1
    by_cases c : p a
    · rw [sumF_one (k := key a) (h a (by simp) c) (fun i _ hi => one_neg (fun e => hi e.2.symm)), one_pos ⟨c, rfl⟩, one_pos c]
    · rw [one_neg c, sumF_congr (g := fun _ => 0) (fun i _ => one_neg (fun e => c e.1)), sumF_zero]
/-- Counted by just one of some. -/
theorem cn_which (p : List Nat → Prop) (q : Nat → List Nat → Prop) (N : Nat) : ∀ (ls : List (List Nat)), (∀ l ∈ ls, p l → ∃ k, k < N ∧ q k l ∧ ∀ i, i < N → q i l → i = k) → sumF (fun v => cn (fun l => p l ∧ q v l) ls) N = cn p ls
  | [], _ => by
    show sumF (fun v => (0 : Int)) N = 0
    exact sumF_zero N
  | a :: ls, h => by
    rw [cn_cons, ← cn_which p q N ls (fun l hl => h l (by simp [hl]))]
    have : (fun v => cn (fun l => p l ∧ q v l) (a :: ls)) = fun v => cn (fun l => p l ∧ q v l) ls + oneIf (p a ∧ q v a) := by
      funext v; rw [cn_cons]
    rw [this, sumF_add]
    congr 1
    by_cases c : p a
    · obtain ⟨k, k1, k2, k3⟩ := h a (by simp) c
      rw [sumF_one (k := k) k1 (fun i hi hne => one_neg (fun e => hne (k3 i hi e.2))), one_pos ⟨c, k2⟩, one_pos c]
    · rw [one_neg c, sumF_congr (g := fun _ => 0) (fun i _ => one_neg (fun e => c e.1)), sumF_zero]

/-! ### closed walks -/
def chn (r : Nat → Nat → Prop) : List Nat → Prop
  | x :: y :: l => r x y ∧ chn r (y :: l)
  | _ => True
theorem chn_snoc {r : Nat → Nat → Prop} (x y : Nat) : ∀ (l : List Nat), chn r (l ++ [x, y]) ↔ chn r (l ++ [x]) ∧ r x y
  | [] => by simp [chn]
  | [a] => by simp [chn, and_assoc]
  | a :: b :: l => by
    have := chn_snoc (r := r) x y (b :: l)
    simp only [List.cons_append] at this ⊢
    simp only [chn]
    rw [this, and_assoc]
theorem chn_rev {r : Nat → Nat → Prop} (hs : ∀ x y, r x y → r y x) : ∀ (l : List Nat), chn r l → chn r l.reverse
  | [], _ => by simp [chn]
  | [a], _ => by simp [chn]
  | a :: b :: l, h => by
    have h2 := chn_rev hs (b :: l) h.2
    rw [List.reverse_cons, List.reverse_cons, List.append_assoc]
    rw [List.reverse_cons] at h2
    exact (chn_snoc b a _).mpr ⟨h2, hs _ _ h.1⟩
theorem chn_congr {r r' : Nat → Nat → Prop} : ∀ {l : List Nat}, (∀ x ∈ l, ∀ y ∈ l, r x y → r' x y) → chn r l → chn r' l
  | [], _, _ => trivial
  | [a], _, _ => trivial
  | a :: b :: l, h, hc => ⟨h a (by simp) b (by simp) hc.1, chn_congr (fun x hx y hy => h x (by simp [hx]) y (by simp [hy])) hc.2⟩
theorem chn_tail {r : Nat → Nat → Prop} {a : Nat} {l : List Nat} (h : chn r (a :: l)) : chn r l := by
  cases l with
  | nil => trivial
  | cons b l => exact h.2
theorem chn_drop {r : Nat → Nat → Prop} : ∀ (l m : List Nat), chn r (l ++ m) → chn r m
  | [], _, h => h
  | a :: l, m, h => chn_drop l m (chn_tail h)
/-- A part between two places of the same number is left out. -/
theorem chn_cut {r : Nat → Nat → Prop} {x : Nat} {B C : List Nat} : ∀ (A : List Nat), chn r (A ++ x :: (B ++ x :: C)) → chn r (A ++ x :: C)
  | [], h => chn_drop (x :: B) (x :: C) h
  | [a], h => by
    obtain ⟨h1, h2⟩ := h
    exact ⟨h1, chn_drop (x :: B) (x :: C) h2⟩
  | a :: b :: A, h => by
    obtain ⟨h1, h2⟩ := h
    exact ⟨h1, chn_cut (b :: A) h2⟩

theorem snoc_last {l : List Nat} {x : Nat} (h : l.getLast? = some x) : l.dropLast ++ [x] = l := by
  have hne : l ≠ [] := by rintro rfl; simp at h
  rw [List.getLast?_eq_some_getLast hne] at h
  have := List.dropLast_concat_getLast hne
  rw [Option.some.inj h] at this
  exact this
theorem nodup_at {l : List Nat} (h : l.Nodup) {i j : Nat} (hi : i < l.length) (hj : j < l.length) (e : l[i] = l[j]) : i = j := by
  have key : ∀ i j (hi : i < l.length) (hj : j < l.length), i < j → l[i] ≠ l[j] := fun i j hi hj hij => List.pairwise_iff_getElem.mp h i j hi hj hij
  rcases Nat.lt_trichotomy i j with c | c | c
  · exact absurd e (key i j hi hj c)
  · exact c
  · exact absurd e.symm (key j i hj hi c)
/-- A closed walk through different vertices. -/
structure Cyc (r : Nat → Nat → Prop) (l : List Nat) : Prop where
  nd : l.Nodup
  ch : chn r (l ++ l.take 1)

def rot : List Nat → List Nat
  | [] => []
  | x :: l => l ++ [x]
def rotB (l : List Nat) : List Nat := (rot l.reverse).reverse
theorem rot_rotB (l : List Nat) : rot (rotB l) = l := by
  unfold rotB
  rcases h : l.reverse with _ | ⟨x, m⟩
  · have : l = [] := by simpa using h
    subst this; rfl
  · have : l = m.reverse ++ [x] := by rw [← List.reverse_reverse l, h]; simp
    simp [rot, this]
theorem rotB_rot (l : List Nat) : rotB (rot l) = l := by
  cases l with
  | nil => rfl
  | cons x l => simp [rot, rotB]
theorem rot_tup {n k : Nat} {l : List Nat} (h : l ∈ tup n k) : rot l ∈ tup n k := by
  rw [mem_tup] at h ⊢
  cases l with
  | nil => exact h
  | cons x l =>
    obtain ⟨h1, h2⟩ := h
    refine ⟨by simpa [rot] using h1, ?_⟩
    intro y hy
    simp only [rot, List.mem_append, List.mem_singleton] at hy
    rcases hy with hy | rfl
    · exact h2 y (by simp [hy])
    · exact h2 y (by simp)
theorem rev_tup {n k : Nat} {l : List Nat} (h : l ∈ tup n k) : l.reverse ∈ tup n k := by
  rw [mem_tup] at h ⊢; simpa using h
theorem rotB_tup {n k : Nat} {l : List Nat} (h : l ∈ tup n k) : rotB l ∈ tup n k := rev_tup (rot_tup (rev_tup h))
theorem Cyc.rot {r : Nat → Nat → Prop} {l : List Nat} (h : Cyc r l) : Cyc r (rot l) := by
  obtain ⟨h1, h2⟩ := h
  match l, h1, h2 with
  | [], h1, h2 => exact ⟨h1, h2⟩
  | [x], h1, h2 => exact ⟨h1, h2⟩
  | x :: y :: l, h1, h2 =>
    refine ⟨?_, ?_⟩
    · simp only [Zv.rot]
      exact (List.perm_append_comm (l₁ := y :: l) (l₂ := [x])).nodup_iff.mpr h1
    · have h3 : r x y ∧ chn r ((y :: l) ++ [x]) := h2
      have := (chn_snoc (r := r) x y (y :: l)).mpr ⟨h3.2, h3.1⟩
      simpa [Zv.rot] using this
theorem Cyc.rev {r : Nat → Nat → Prop} (hs : ∀ x y, r x y → r y x) {l : List Nat} (h : Cyc r l) : Cyc r l.reverse := by
  have h0 := h.rot
  obtain ⟨h1, h2⟩ := h
  refine ⟨(List.reverse_perm l).nodup_iff.mpr h1, ?_⟩
  match l, h1, h2, h0 with
  | [], h1, h2, h0 => simpa using h2
  | [x], h1, h2, h0 => simpa using h2
  | x :: y :: l, h1, h2, h0 =>
    -- reversed closed walk begins with the last
    have h3 := chn_rev hs _ h2
    simp only [List.take_succ_cons, List.take_zero, List.reverse_append, List.reverse_cons, List.reverse_nil, List.nil_append] at h3
    obtain ⟨z, m, e⟩ : ∃ z m, (x :: y :: l).reverse = z :: m := by
      rcases hh : (x :: y :: l).reverse with _ | ⟨z, m⟩
      · simp at hh
      · exact ⟨z, m, rfl⟩
    rw [e]
    simp only [List.reverse_cons] at e
    rw [e] at h3
    -- h3 : chn (x :: z :: m), m ends with x
    have h4 : m ≠ [] := by rintro rfl; have := congrArg List.length e; simp at this
    obtain ⟨m', rfl⟩ : ∃ m', m = m' ++ [x] := by
      have hl : (z :: m).getLast? = some x := by rw [← e]; simp
      rw [List.getLast?_cons_of_ne_nil h4] at hl
      exact ⟨m.dropLast, (snoc_last hl).symm⟩
    have h5 : r x z ∧ chn r (z :: (m' ++ [x])) := h3
    show chn r ((z :: (m' ++ [x])) ++ [z])
    have := (chn_snoc (r := r) x z (z :: m')).mpr ⟨by simpa using h5.2, h5.1⟩
    simpa using this
theorem Cyc.rev_iff {r : Nat → Nat → Prop} (hs : ∀ x y, r x y → r y x) {l : List Nat} : Cyc r l.reverse ↔ Cyc r l :=
  ⟨fun h => by simpa using h.rev hs, fun h => h.rev hs⟩
theorem Cyc.rot_iff {r : Nat → Nat → Prop} (hs : ∀ x y, r x y → r y x) {l : List Nat} : Cyc r (Zv.rot l) ↔ Cyc r l := by
  refine ⟨fun h => ?_, fun h => h.rot⟩
  have := ((h.rev hs).rot).rev hs
  have e : (Zv.rot (Zv.rot l).reverse).reverse = l := rotB_rot l
  rwa [e] at this

/-- The least is at a place. -/
def lstAt (j : Nat) (l : List Nat) : Prop := j < l.length ∧ ∀ y ∈ l, l.getD j 0 ≤ y
theorem lstAt_rot {j : Nat} {l : List Nat} (h : j + 1 < l.length) : lstAt j (rot l) ↔ lstAt (j + 1) l := by
  cases l with
  | nil => simp at h
  | cons x l =>
    simp only [List.length_cons] at h
    unfold lstAt
    simp only [rot, List.length_append, List.length_cons, List.length_nil, List.mem_append, List.mem_singleton, List.mem_cons]
    have e : (l ++ [x]).getD j 0 = l.getD j 0 := by simp [List.getD_eq_getElem?_getD, List.getElem?_append_left (show j < l.length by omega)]
    have e2 : (x :: l).getD (j + 1) 0 = l.getD j 0 := by simp [List.getD_eq_getElem?_getD]
    rw [e, e2]
    constructor
    · rintro ⟨_, b⟩; exact ⟨by omega, fun y hy => b y (by simpa [or_comm] using hy)⟩
    · rintro ⟨_, b⟩; exact ⟨by omega, fun y hy => b y (by simpa [or_comm] using hy)⟩
theorem exists_least : ∀ (l : List Nat), l ≠ [] → ∃ m ∈ l, ∀ y ∈ l, m ≤ y
  | [], h => absurd rfl h
  | [a], _ => ⟨a, by simp, by simp⟩
  | a :: b :: l, _ => by
    obtain ⟨m, h1, h2⟩ := exists_least (b :: l) (by simp)
    by_cases c : a ≤ m
    · refine ⟨a, by simp, ?_⟩
      intro y hy
      rcases List.mem_cons.mp hy with rfl | hy
      · omega
      · have := h2 y hy; omega
    · refine ⟨m, by simp [h1], ?_⟩
      intro y hy
      rcases List.mem_cons.mp hy with rfl | hy
      · omega
      · exact h2 y hy
theorem lstAt_which {l : List Nat} (hl : l ≠ []) (hnd : l.Nodup) : ∃ k, k < l.length ∧ lstAt k l ∧ ∀ i, i < l.length → lstAt i l → i = k := by
  obtain ⟨m, h1, h2⟩ := exists_least l hl
  obtain ⟨k, hk, rfl⟩ := List.getElem_of_mem h1
  have hg : ∀ i (hi : i < l.length), l.getD i 0 = l[i] := fun i hi => by simp [List.getD_eq_getElem?_getD, hi]
  refine ⟨k, hk, ⟨hk, fun y hy => by rw [hg k hk]; exact h2 y hy⟩, ?_⟩
  intro i hi h
  have a1 := h.2 l[k] (List.getElem_mem hk)
  have a2 := h2 l[i] (List.getElem_mem hi)
  rw [hg i hi] at a1
  exact nodup_at hnd hi hk (by omega)

section
variable {r : Nat → Nat → Prop} (hs : ∀ x y, r x y → r y x) (n L : Nat) (h3 : 3 ≤ L)
include hs h3
/-- Closed walks are as many as their places times those that begin with their least. -/
theorem cyc_places : cn (Cyc r) (tup n L) = L * cn (fun l => Cyc r l ∧ lstAt 0 l) (tup n L) := by
  have h1 := cn_which (Cyc r) lstAt L (tup n L) (fun l hl hc => by
    have hl2 := (mem_tup.mp hl).1
    have := lstAt_which (l := l) (by rintro rfl; simp at hl2; omega) hc.nd
    rw [hl2] at this
    exact this)
  rw [← h1]
  have h2 : ∀ j, j < L → cn (fun l => Cyc r l ∧ lstAt j l) (tup n L) = cn (fun l => Cyc r l ∧ lstAt 0 l) (tup n L) := by
    intro j
    induction j with
    | zero => intro _; rfl
    | succ j ih =>
      intro hj
      rw [← ih (by omega), ← cn_perm (p := fun l => Cyc r l ∧ lstAt j l) (f := rot) (f' := rotB) (fun l => rot_tup) (fun l => rotB_tup) (fun l _ => rotB_rot l) (fun l _ => rot_rotB l)]
      apply cn_congr
      intro l hl
      have hl2 := (mem_tup.mp hl).1
      rw [lstAt_rot (by omega), Cyc.rot_iff hs]
  rw [sumF_congr (g := fun _ => cn (fun l => Cyc r l ∧ lstAt 0 l) (tup n L) * 1) (fun i hi => by rw [h2 i hi]; omega), sumF_mul]
  have : ∀ k : Nat, sumF (fun _ => (1 : Int)) k = k := by
    intro k; induction k with
    | zero => rfl
    | succ k ih => rw [sumF, ih]; omega
  rw [this, Int.mul_comm]
/-- Each has two ways round. -/
theorem cyc_ways : ∃ M : Int, cn (fun l => Cyc r l ∧ lstAt 0 l) (tup n L) = 2 * M := by
  let rf : List Nat → List Nat := fun l => l.take 1 ++ (l.drop 1).reverse
  have f1 : ∀ l ∈ tup n L, rf l ∈ tup n L := by
    intro l hl
    rw [mem_tup] at hl ⊢
    cases l with
    | nil => exact hl
    | cons x l => simpa [rf] using hl
  have f2 : ∀ l ∈ tup n L, rf (rf l) = l := by
    intro l hl
    cases l with
    | nil => rfl
    | cons x l => simp [rf]
  have hcy : ∀ l, Cyc r l → Cyc r (rf l) := by
    intro l h
    cases l with
    | nil => exact h
    | cons x l =>
      have := (h.rot).rev hs
      simpa [rf, Zv.rot] using this
  refine ⟨cn (fun l => (Cyc r l ∧ lstAt 0 l) ∧ l.getD 1 0 < l.getD (L - 1) 0) (tup n L), ?_⟩
  have e1 : cn (fun l => (Cyc r l ∧ lstAt 0 l) ∧ l.getD 1 0 < l.getD (L - 1) 0) (tup n L) = cn (fun l => (Cyc r l ∧ lstAt 0 l) ∧ l.getD (L - 1) 0 < l.getD 1 0) (tup n L) := by
    rw [← cn_perm (p := fun l => (Cyc r l ∧ lstAt 0 l) ∧ l.getD (L - 1) 0 < l.getD 1 0) (f := rf) (f' := rf) f1 f1 f2 f2]
    apply cn_congr
    intro l hl
    have hl2 := (mem_tup.mp hl).1
    have g0 : lstAt 0 (rf l) ↔ lstAt 0 l := by
      cases l with
      | nil => exact Iff.rfl
      | cons x l => simp [rf, lstAt]
    have g1 : (rf l).getD 1 0 = l.getD (L - 1) 0 ∧ (rf l).getD (L - 1) 0 = l.getD 1 0 := by
      cases l with
      | nil => simp at hl2; omega
      | cons x l =>
        simp only [List.length_cons] at hl2
        obtain ⟨k, rfl⟩ : ∃ k, L = k + 2 := ⟨L - 2, by omega⟩
        have hk : l.length = k + 1 := by omega
        simp only [rf, List.take_succ_cons, List.take_zero, List.drop_succ_cons, List.drop_zero, List.cons_append, List.nil_append, List.getD_eq_getElem?_getD]
        have : k + 2 - 1 = k + 1 := by omega
        rw [this]
        simp only [List.getElem?_cons_succ]
        rw [List.getElem?_reverse (by omega), List.getElem?_reverse (by omega), hk]
        constructor
        · congr 2
        · congr 2; omega
    rw [g0, g1.1, g1.2]
    have : Cyc r (rf l) ↔ Cyc r l := ⟨fun h => by have := hcy _ h; rwa [f2 l hl] at this, hcy l⟩
    rw [this]
  have e2 := cn_which (fun l => Cyc r l ∧ lstAt 0 l) (fun v l => if v = 0 then l.getD 1 0 < l.getD (L - 1) 0 else l.getD (L - 1) 0 < l.getD 1 0) 2 (tup n L) (by
    intro l hl hc
    have hl2 := (mem_tup.mp hl).1
    have hne : l.getD 1 0 ≠ l.getD (L - 1) 0 := by
      have a1 : 1 < l.length := by omega
      have a2 : L - 1 < l.length := by omega
      simp only [List.getD_eq_getElem?_getD, List.getElem?_eq_getElem a1, List.getElem?_eq_getElem a2, Option.getD_some]
      intro e
      have := nodup_at hc.1.nd a1 a2 e
      omega
    by_cases c : l.getD 1 0 < l.getD (L - 1) 0
    · refine ⟨0, by omega, by simpa using c, ?_⟩
      intro i hi h
      by_cases c0 : i = 0
      · exact c0
      · rw [if_neg c0] at h; omega
    · refine ⟨1, by omega, by rw [if_neg (by omega)]; omega, ?_⟩
      intro i hi h
      by_cases c0 : i = 0
      · rw [if_pos c0] at h; omega
      · omega)
  rw [← e2]
  simp only [sumF, if_pos, Nat.succ_ne_zero, if_false]
  rw [← e1]
  omega
/-- Half of the closed walks. -/
theorem cyc_half : cn (Cyc r) (tup n L) = 2 * cn (fun l => Cyc r l ∧ l.getD (L - 1) 0 < l.getD 0 0) (tup n L) := by
  have e1 : cn (fun l => Cyc r l ∧ l.getD (L - 1) 0 < l.getD 0 0) (tup n L) = cn (fun l => Cyc r l ∧ l.getD 0 0 < l.getD (L - 1) 0) (tup n L) := by
    rw [← cn_perm (p := fun l => Cyc r l ∧ l.getD 0 0 < l.getD (L - 1) 0) (f := List.reverse) (f' := List.reverse) (fun l => rev_tup) (fun l => rev_tup) (fun l _ => List.reverse_reverse l) (fun l _ => List.reverse_reverse l)]
    apply cn_congr
    intro l hl
    have hl2 := (mem_tup.mp hl).1
    rw [Cyc.rev_iff hs]
    have g1 : l.reverse.getD 0 0 = l.getD (L - 1) 0 := by
      simp only [List.getD_eq_getElem?_getD]
      rw [List.getElem?_reverse (by omega), hl2, Nat.sub_zero]
    have g2 : l.reverse.getD (L - 1) 0 = l.getD 0 0 := by
      simp only [List.getD_eq_getElem?_getD]
      rw [List.getElem?_reverse (by omega), hl2]
      congr 2; omega
    rw [g1, g2]
  have e2 := cn_which (Cyc r) (fun v l => if v = 0 then l.getD (L - 1) 0 < l.getD 0 0 else l.getD 0 0 < l.getD (L - 1) 0) 2 (tup n L) (by
    intro l hl hc
    have hl2 := (mem_tup.mp hl).1
    have hne : l.getD 0 0 ≠ l.getD (L - 1) 0 := by
      have a1 : 0 < l.length := by omega
      have a2 : L - 1 < l.length := by omega
      simp only [List.getD_eq_getElem?_getD, List.getElem?_eq_getElem a1, List.getElem?_eq_getElem a2, Option.getD_some]
      intro e
      have := nodup_at hc.nd a1 a2 e
      omega
    by_cases c : l.getD (L - 1) 0 < l.getD 0 0
    · refine ⟨0, by omega, by simpa using c, ?_⟩
      intro i hi h
      by_cases c0 : i = 0
      · exact c0
      · rw [if_neg c0] at h; omega
    · refine ⟨1, by omega, by rw [if_neg (by omega)]; omega, ?_⟩
      intro i hi h
      by_cases c0 : i = 0
      · rw [if_pos c0] at h; omega
      · omega)
  rw [← e2]
  simp only [sumF, Nat.zero_add, if_true, Nat.reduceEqDiff, if_false, Nat.succ_ne_zero]
  rw [← e1]
  omega
/-- Closed walks that end below their beginnings: divisible by the length. -/
theorem cyc_div : ∃ M : Int, cn (fun l => Cyc r l ∧ l.getD (L - 1) 0 < l.getD 0 0) (tup n L) = L * M := by
  obtain ⟨M, hM⟩ := cyc_ways hs n L h3
  have h1 := cyc_places hs n L h3
  have h2 := cyc_half hs n L h3
  rw [hM, h2] at h1
  refine ⟨M, ?_⟩
  have : (L : Int) * (2 * M) = 2 * (L * M) := by rw [← Int.mul_assoc, Int.mul_comm (L : Int) 2, Int.mul_assoc]
  omega
end
end Go.Proofs.YtghondlbkjponaaDoor.Zv

/- Shortest walks are few: their numbers do not overflow. -/
namespace Go.Proofs.YtghondlbkjponaaDoor.Zv
open Go
open Classical

theorem cube_le : ∀ n : Nat, n ^ 3 ≤ 3 ^ n
  | 0 => by decide
  | 1 => by decide
  | 2 => by decide
  | 3 => by decide
  | n + 4 => by
    have h := cube_le (n + 3)
    rw [Nat.pow_succ 3 (n + 3)]
    obtain ⟨m, hm⟩ : ∃ m, m = n + 3 := ⟨_, rfl⟩
    have e0 : n + 4 = m + 1 := by omega
    rw [e0]
    rw [← hm] at h ⊢
    have h1 : 3 * m ≤ m * m := Nat.mul_le_mul_right m (by omega)
    have h2 : 3 * (m * m) ≤ m * (m * m) := Nat.mul_le_mul_right (m * m) (by omega)
    have e1 : (m + 1) ^ 3 = m * (m * m) + 3 * (m * m) + 3 * m + 1 := by
      simp only [Nat.pow_succ, Nat.pow_zero, Nat.one_mul, Nat.add_mul, Nat.mul_add, Nat.mul_one, Nat.mul_assoc]; omega
    have e2 : m ^ 3 = m * (m * m) := by
      simp only [Nat.pow_succ, Nat.pow_zero, Nat.one_mul, Nat.mul_assoc]
    rw [e2] at h
    rw [e1]
    have h3 : 3 ≤ m := by omega
    omega

/-- How many vertices are at a distance. -/
noncomputable def lyr (rows : List Int) (n a j : Nat) : Int := sumF (fun y => oneIf (Dst rows j a y)) n
theorem lyr_nonneg (rows : List Int) (n a j : Nat) : 0 ≤ lyr rows n a j := sumF_nonneg (fun _ _ => one_nonneg _)
theorem lyr_sum (rows : List Int) (n a k : Nat) : sumF (fun j => lyr rows n a j) k ≤ n := by
  unfold lyr
  rw [sumF_swap]
  have h1 : ∀ i, i < n → sumF (fun j => oneIf (Dst rows j a i)) k ≤ (fun _ => (1 : Int)) i := by
    intro i _
    exact sumF_most (fun j j' _ _ h h' => h.unique h')
  refine Int.le_trans (sumF_le h1) ?_
  have : ∀ k : Nat, sumF (fun _ => (1 : Int)) k = k := by
    intro k; induction k with
    | zero => rfl
    | succ k ih => rw [sumF, ih]; omega
  rw [this]; omega
theorem wkN_nonneg (rows : List Int) (n a : Nat) : ∀ (k u : Nat), 0 ≤ wkN rows n a k u
  | 0, u => by rw [wkN]; split <;> omega
  | k + 1, u => by
    rw [wkN]
    refine sumF_nonneg (fun w _ => ?_)
    split
    · exact wkN_nonneg rows n a k w
    · omega
/-- Shortest walks. -/
theorem wkN_few (rows : List Int) (n a : Nat) : ∀ (k : Nat), ∃ B S : Nat, B ^ 3 ≤ 3 ^ S ∧ (S : Int) = sumF (fun j => lyr rows n a j) k ∧ ∀ y, Dst rows k a y → wkN rows n a k y ≤ B
  | 0 => ⟨1, 0, by decide, rfl, fun y _ => by rw [wkN]; split <;> decide⟩
  | k + 1 => by
    obtain ⟨B, S, h1, h2, h3⟩ := wkN_few rows n a k
    obtain ⟨l, hl⟩ : ∃ l : Nat, (l : Int) = lyr rows n a k := ⟨(lyr rows n a k).toNat, by have := lyr_nonneg rows n a k; omega⟩
    refine ⟨l * B, S + l, ?_, ?_, ?_⟩
    · rw [Nat.mul_pow, Nat.pow_add, Nat.mul_comm]
      exact Nat.mul_le_mul h1 (cube_le l)
    · rw [sumF, ← h2, ← hl]; omega
    · intro y hy
      rw [wkN]
      have h4 : ∀ w, w < n → (if rbit rows w y = true then wkN rows n a k w else 0) ≤ (fun w => (B : Int) * oneIf (Dst rows k a w)) w := by
        intro w _
        by_cases hb : rbit rows w y = true
        · rw [if_pos hb]
          by_cases hw : Wk rows k a w
          · have hd : Dst rows k a w := ⟨hw, fun e he h => hy.2 (e + 1) (by omega) ⟨w, h, hb⟩⟩
            show _ ≤ (B : Int) * oneIf (Dst rows k a w)
            rw [one_pos hd]
            have := h3 w hd
            omega
          · rw [wkN_none k w hw]
            exact Int.mul_nonneg (by omega) (one_nonneg _)
        · rw [if_neg hb]
          exact Int.mul_nonneg (by omega) (one_nonneg _)
      refine Int.le_trans (sumF_le h4) ?_
      rw [sumF_mul]
      show (B : Int) * lyr rows n a k ≤ _
      rw [← hl]
      have : ((l * B : Nat) : Int) = (B : Int) * l := by rw [Int.natCast_mul, Int.mul_comm]
      omega
/-- Shortest walks are fewer than 2^33. -/
theorem wkN_small {rows : List Int} {n a k y : Nat} (hn : n ≤ 62) (h : Dst rows k a y) : wkN rows n a k y < 8589934592 := by
  obtain ⟨B, S, h1, h2, h3⟩ := wkN_few rows n a k
  have h4 := lyr_sum rows n a k
  have hS : S ≤ 62 := by omega
  have h5 : B ^ 3 < 8589934592 ^ 3 := Nat.lt_of_le_of_lt (Nat.le_trans h1 (Nat.pow_le_pow_right (by omega) hS)) (by decide)
  have h6 : B < 8589934592 := by
    rcases Nat.lt_or_ge B 8589934592 with h | h
    · exact h
    · have := Nat.pow_le_pow_left h 3
      omega
  have := h3 y h
  omega
end Go.Proofs.YtghondlbkjponaaDoor.Zv

/- Shortest cycles through edges, counted as closed walks. -/
namespace Go.Proofs.YtghondlbkjponaaDoor.Zv
open Go
open Classical

def rr (rows : List Int) (x y : Nat) : Prop := rbit rows x y = true
theorem cn_tup (p : List Nat → Prop) (n k : Nat) : cn p (tup n (k + 1)) = sumF (fun v => cn (fun l => p (v :: l)) (tup n k)) n := by
  have h1 : ∀ m, cn p ((List.range m).flatMap fun v => (tup n k).map (v :: ·)) = sumF (fun v => cn (fun l => p (v :: l)) (tup n k)) m := by
    intro m
    induction m with
    | zero => rfl
    | succ m ih =>
      rw [List.range_succ, List.flatMap_append, sumF, ← ih]
      unfold cn
      rw [List.countP_append]
      simp only [List.flatMap_cons, List.flatMap_nil, List.append_nil, List.countP_map]
      rw [Int.natCast_add]
      rfl
  exact h1 n
theorem cn_none {p : List Nat → Prop} {ls : List (List Nat)} (h : ∀ l ∈ ls, ¬ p l) : cn p ls = 0 := by
  unfold cn
  rw [List.countP_eq_zero.mpr]
  · rfl
  · intro l hl; simpa using h l hl

theorem wkN_tup {rows : List Int} {n a : Nat} (hs : ∀ v w, rbit rows v w = true → rbit rows w v = true) : ∀ (k u : Nat), u < n → wkN rows n a k u = cn (fun l => chn (rr rows) l ∧ l.getD 0 0 = u ∧ l.getD k 0 = a) (tup n (k + 1))
  | 0, u, hu => by
    rw [wkN, cn_tup]
    have e : ∀ v, cn (fun l => chn (rr rows) (v :: l) ∧ (v :: l).getD 0 0 = u ∧ (v :: l).getD 0 0 = a) (tup n 0) = oneIf (v = u ∧ v = a) := by
      intro v
      show cn _ [[]] = _
      rw [cn_cons]
      simp [chn, cn]
    rw [sumF_congr (fun v _ => e v)]
    rw [sumF_one hu (fun i _ hi => one_neg (fun h => hi h.1))]
    by_cases c : u = a
    · rw [if_pos c, one_pos ⟨rfl, c⟩]
    · rw [if_neg c, one_neg (fun h => c h.2)]
  | k + 1, u, hu => by
    rw [wkN, cn_tup]
    rw [sumF_one (f := fun v => cn (fun l => chn (rr rows) (v :: l) ∧ (v :: l).getD 0 0 = u ∧ (v :: l).getD (k + 1) 0 = a) (tup n (k + 1))) hu (fun i _ hi => cn_none (fun l _ h => hi (by simpa using h.2.1)))]
    rw [← cn_key _ (fun l => l.getD 0 0) n (tup n (k + 1)) (by
      intro l hl _
      obtain ⟨h1, h2⟩ := mem_tup.mp hl
      cases l with
      | nil => simp at h1
      | cons x l => simpa using h2 x (by simp))]
    apply sumF_congr
    intro w hw
    by_cases hb : rbit rows w u = true
    · rw [if_pos hb, wkN_tup hs k w hw]
      apply cn_congr
      intro l hl
      obtain ⟨h1, h2⟩ := mem_tup.mp hl
      cases l with
      | nil => simp at h1
      | cons x l =>
        simp only [chn, List.getD_cons_zero, List.getD_cons_succ]
        constructor
        · rintro ⟨a1, rfl, a3⟩
          exact ⟨⟨⟨hs _ _ hb, a1⟩, trivial, a3⟩, rfl⟩
        · rintro ⟨⟨⟨a1, a2⟩, _, a3⟩, rfl⟩
          exact ⟨a2, rfl, a3⟩
    · rw [if_neg hb]
      symm
      apply cn_none
      intro l hl h
      obtain ⟨h1, h2⟩ := mem_tup.mp hl
      cases l with
      | nil => simp at h1
      | cons x l =>
        simp only [chn, List.getD_cons_zero, List.getD_cons_succ] at h
        obtain ⟨⟨⟨a1, _⟩, _⟩, rfl⟩ := h
        exact hb (hs _ _ a1)

theorem chn_wk {rows : List Int} (hs : ∀ v w, rbit rows v w = true → rbit rows w v = true) : ∀ (l : List Nat) (b a : Nat), chn (rr rows) l → l.head? = some b → l.getLast? = some a → Wk rows (l.length - 1) a b
  | [], _, _, _, h, _ => by simp at h
  | [x], b, a, _, h1, h2 => by
    simp at h1 h2
    subst h1; subst h2
    exact rfl
  | x :: y :: l, b, a, hc, h1, h2 => by
    simp at h1
    subst h1
    have h3 := chn_wk hs (y :: l) y a hc.2 rfl (by simpa using h2)
    exact ⟨y, h3, hs _ _ hc.1⟩
theorem not_nodup : ∀ {l : List Nat}, ¬ l.Nodup → ∃ A x B C, l = A ++ x :: (B ++ x :: C)
  | [], h => absurd (by simp) h
  | x :: l, h => by
    by_cases hx : x ∈ l
    · obtain ⟨B, C, rfl⟩ := List.append_of_mem hx
      exact ⟨[], x, B, C, rfl⟩
    · obtain ⟨A, y, B, C, rfl⟩ := not_nodup (l := l) (fun e => h (List.nodup_cons.mpr ⟨hx, e⟩))
      exact ⟨x :: A, y, B, C, rfl⟩
theorem chn_nodup {rows : List Int} (hs : ∀ v w, rbit rows v w = true → rbit rows w v = true) {l : List Nat} {a b : Nat} (hc : chn (rr rows) l) (h1 : l.head? = some b) (h2 : l.getLast? = some a) (hm : ∀ m, m + 1 < l.length → ¬ Wk rows m a b) : l.Nodup := by
  by_cases hn : l.Nodup
  · exact hn
  obtain ⟨A, x, B, C, rfl⟩ := not_nodup hn
  have hc2 := chn_cut A hc
  have g1 : (A ++ x :: C).head? = some b := by
    cases A with
    | nil => simpa using h1
    | cons y A => simpa using h1
  have g2 : (A ++ x :: C).getLast? = some a := by
    rw [← h2]
    simp only [List.getLast?_append, List.getLast?_cons]
    cases C with
    | nil => simp
    | cons c C => simp [List.getLast?_cons]
  have := chn_wk hs _ b a hc2 g1 g2
  exact absurd this (hm _ (by simp; omega))
theorem chn_front {r : Nat → Nat → Prop} : ∀ (l m : List Nat), chn r (l ++ m) → chn r l
  | [], _, _ => trivial
  | [_], _, _ => trivial
  | a :: b :: l, m, h => ⟨h.1, chn_front (b :: l) m h.2⟩

section
variable {n : Nat} {rows : List Int} (g : GV n rows) {L : Nat} (h3 : 3 ≤ L) (hL : ∀ p q, rbit rows p q = true → arF rows p q ≤ 0 ∨ (L : Int) ≤ arF rows p q)
include g h3

omit g h3 in
theorem head_get {l : List Nat} {b : Nat} (hl : 1 ≤ l.length) : l.head? = some b ↔ l.getD 0 0 = b := by
  cases l with
  | nil => simp at hl
  | cons x l => simp
omit g in
theorem last_get {l : List Nat} {a : Nat} (hl : l.length = L) : l.getLast? = some a ↔ l.getD (L - 1) 0 = a := by
  rw [List.getLast?_eq_getElem?, List.getD_eq_getElem?_getD, hl, List.getElem?_eq_getElem (show L - 1 < l.length by omega)]
  simp

/-- A closed walk through an edge is a walk without the edge. -/
theorem cyc_edge {a b : Nat} (hab : rbit rows a b = true) (hmin : ∀ m, m + 1 < L → ¬ Wk (cut2 rows a b) m a b) {l : List Nat} (hl : l.length = L) :
    (Cyc (rr rows) l ∧ l.getD (L - 1) 0 = a) ∧ l.getD 0 0 = b ↔ chn (rr (cut2 rows a b)) l ∧ l.getD 0 0 = b ∧ l.getD (L - 1) 0 = a := by
  have hne := g.ne hab
  constructor
  · rintro ⟨⟨hc, h1⟩, h2⟩
    refine ⟨?_, h2, h1⟩
    have hch := chn_front l _ hc.ch
    have hnd := hc.nd
    rcases l with _ | ⟨x, _ | ⟨y, l⟩⟩
    · trivial
    · trivial
    · simp only [List.getD_cons_zero] at h2
      subst h2
      have hyL : y ≠ a := by
        intro e
        simp only [List.length_cons] at hl
        have h4 : (x :: y :: l).getD 1 0 = (x :: y :: l).getD (L - 1) 0 := by rw [h1]; simpa using e
        have a1 : 1 < (x :: y :: l).length := by simp
        have a2 : L - 1 < (x :: y :: l).length := by simp; omega
        simp only [List.getD_eq_getElem?_getD, List.getElem?_eq_getElem a1, List.getElem?_eq_getElem a2, Option.getD_some] at h4
        have := nodup_at hnd a1 a2 h4
        omega
      have hxn : x ∉ y :: l := (List.nodup_cons.mp hnd).1
      refine ⟨?_, chn_congr ?_ hch.2⟩
      · show rbit (cut2 rows a x) x y = true
        rw [cut_iff g hab]
        refine ⟨hch.1, ?_⟩
        rintro (⟨h, _⟩ | ⟨_, h⟩)
        · exact hne h.symm
        · exact hyL h
      · intro u hu v hv huv
        show rbit (cut2 rows a x) u v = true
        rw [cut_iff g hab]
        refine ⟨huv, ?_⟩
        rintro (⟨_, h⟩ | ⟨h, _⟩)
        · exact hxn (h ▸ hv)
        · exact hxn (h ▸ hu)
  · rintro ⟨hch, h2, h1⟩
    have k1 := (head_get (l := l) (b := b) (by omega)).mpr h2
    have k2 := (last_get h3 (l := l) (a := a) hl).mpr h1
    refine ⟨⟨⟨chn_nodup (cut_sym g hab) hch k1 k2 (fun m hm => hmin m (by omega)), ?_⟩, h1⟩, h2⟩
    have hr : chn (rr rows) l := chn_congr (fun x _ y _ h => ((cut_iff g hab x y).mp h).1) hch
    have e1 : l.take 1 = [b] := by
      cases l with
      | nil => simp at k1
      | cons x l => simpa using k1
    rw [e1]
    have e2 : l = l.dropLast ++ [a] := (snoc_last k2).symm
    rw [e2] at hr ⊢
    have := (chn_snoc (r := rr rows) a b l.dropLast).mpr ⟨hr, hab⟩
    simpa using this

/-- Shortest cycles through an edge. -/
def cyE (rows : List Int) (n L a b : Nat) : Int := if arF rows a b = L then wkN (cut2 rows a b) n a (L - 1) b else 0
include hL
theorem cyE_tup {a b : Nat} (hab : rbit rows a b = true) : cyE rows n L a b = cn (fun l => (Cyc (rr rows) l ∧ l.getD (L - 1) 0 = a) ∧ l.getD 0 0 = b) (tup n L) := by
  obtain ⟨ha, hb⟩ := rbit_lt g.rok hab
  obtain ⟨R2, _⟩ := cut_rok g ha hb hab
  have hmin : ∀ m, m + 1 < L → ¬ Wk (cut2 rows a b) m a b := by
    intro m hm hw
    obtain ⟨d, d1, d2⟩ := Wk.dst m hw
    have := far_of R2 ha d2
    have h4 := hL a b hab
    unfold arF at h4
    rw [this] at h4
    omega
  have e1 : cn (fun l => (Cyc (rr rows) l ∧ l.getD (L - 1) 0 = a) ∧ l.getD 0 0 = b) (tup n L) = cn (fun l => chn (rr (cut2 rows a b)) l ∧ l.getD 0 0 = b ∧ l.getD (L - 1) 0 = a) (tup n L) :=
    cn_congr (fun l hl => cyc_edge g h3 hab hmin (mem_tup.mp hl).1)
  rw [e1]
  have e2 := wkN_tup (rows := cut2 rows a b) (n := n) (a := a) (cut_sym g hab) (L - 1) b hb
  have e3 : L - 1 + 1 = L := by omega
  rw [e3] at e2
  rw [← e2]
  unfold cyE
  by_cases c : arF rows a b = L
  · rw [if_pos c]
  · rw [if_neg c, wkN_none]
    intro hw
    obtain ⟨d, d1, d2⟩ := Wk.dst _ hw
    have := far_of R2 ha d2
    have h4 := hL a b hab
    unfold arF at h4 c
    rw [this] at h4 c
    omega
/-- The sum over all edges is a multiple of the length. -/
theorem cyE_div : ∃ M : Int, sumF (fun a => sumF (fun b => if a < b ∧ rbit rows a b = true then cyE rows n L a b else 0) n) n = L * M := by
  obtain ⟨M, hM⟩ := cyc_div (r := rr rows) (fun _ _ h => g.sym' h) n L h3
  refine ⟨M, ?_⟩
  rw [← hM]
  have key : ∀ l ∈ tup n L, ∀ i, i < L → l.getD i 0 < n := by
    intro l hl i hi
    obtain ⟨h1, h2⟩ := mem_tup.mp hl
    rw [List.getD_eq_getElem?_getD, List.getElem?_eq_getElem (show i < l.length by omega)]
    exact h2 _ (List.getElem_mem _)
  rw [← cn_key _ (fun l => l.getD (L - 1) 0) n (tup n L) (fun l hl _ => key l hl _ (by omega))]
  apply sumF_congr
  intro a ha
  rw [← cn_key _ (fun l => l.getD 0 0) n (tup n L) (fun l hl _ => key l hl _ (by omega))]
  apply sumF_congr
  intro b hb
  by_cases c : a < b ∧ rbit rows a b = true
  · rw [if_pos c, cyE_tup g h3 hL c.2]
    apply cn_congr
    intro l _
    constructor
    · rintro ⟨⟨h1, h2⟩, h5⟩; exact ⟨⟨⟨h1, by omega⟩, h2⟩, h5⟩
    · rintro ⟨⟨⟨h1, _⟩, h2⟩, h5⟩; exact ⟨⟨h1, h2⟩, h5⟩
  · rw [if_neg c]
    symm
    apply cn_none
    rintro l hl ⟨⟨⟨h1, h4⟩, h2⟩, h5⟩
    have hl2 := (mem_tup.mp hl).1
    refine c ⟨by omega, ?_⟩
    have hch := h1.ch
    have k1 := (head_get (l := l) (b := b) (by omega)).mpr h5
    have k2 := (last_get h3 (l := l) (a := a) hl2).mpr h2
    have e1 : l.take 1 = [b] := by
      cases l with
      | nil => simp at k1
      | cons x l => simpa using k1
    rw [e1] at hch
    have e2 : l = l.dropLast ++ [a] := (snoc_last k2).symm
    rw [e2] at hch
    exact ((chn_snoc (r := rr rows) a b l.dropLast).mp (by simpa using hch)).2
end
end Go.Proofs.YtghondlbkjponaaDoor.Zv

/- Lists of lists in new memory. -/
namespace Go.Proofs.YtghondlbkjponaaDoor.Zv
open Go
variable {nro : Nat}

/-- Where nothing is handed on that is new, a cleaning drops all that is new, or nothing. -/
theorem cleanup_old {h0 h : VH} {vs : List Value} (hv : ∀ v ∈ vs, Old h0.length v) : kclean h0 vs h = (vs, h) ∨ (okT h0.length h0 (h.take h0.length) ∧ kclean h0 vs h = (vs, h.take h0.length)) := by
  unfold kclean cleanup
  rw [keepL_nil hv]
  by_cases hc : okT h0.length h0 (h.take h0.length) ∧ flatL h0.length [] h
  · rw [if_pos hc]
    refine .inr ⟨hc.1, ?_⟩
    simp only [List.filterMap_nil, List.append_nil, Prod.mk.injEq, and_true]
    have : ∀ v ∈ vs, tren (renOf h0.length []) v = v := fun v h => tren_old (hv v h) fun i hi => by simp only [renOf, if_pos hi]
    exact (List.map_congr_left this).trans (by simp)
  · rw [if_neg hc]
    exact .inl rfl

/-- A list of lists in new memory from n on: each inner list in an object of its own. -/
structure EI (n : Nat) (vs : List Value) (G : VH) (ess : List (List Int)) : Prop where
  len : vs.length = ess.length
  at_ : ∀ i : Nat, i < ess.length → ∃ k, vs[i]? = some (.slice (some ⟨n + k, 0, none⟩) (ess.getD i []).length (ess.getD i []).length) ∧ G[k]? = some ⟨1, ints (ess.getD i [])⟩
  nd : (vs.flatMap arefs).Nodup

theorem EI.nil (n : Nat) (G : VH) : EI n [] G [] := ⟨rfl, fun i hi => by simp at hi, by simp⟩
theorem EI.more {n : Nat} {vs : List Value} {G : VH} {ess : List (List Int)} (e : EI n vs G ess) (L : VH) : EI n vs (G ++ L) ess := by
  refine ⟨e.len, fun i hi => ?_, e.nd⟩
  obtain ⟨k, h1, h2⟩ := e.at_ i hi
  exact ⟨k, h1, by rw [List.getElem?_append_left (List.getElem?_eq_some_iff.mp h2).1]; exact h2⟩
theorem EI.lt {n : Nat} {vs : List Value} {G : VH} {ess : List (List Int)} (e : EI n vs G ess) {r : Nat} (hr : r ∈ vs.flatMap arefs) : n ≤ r ∧ r < n + G.length := by
  obtain ⟨v, hv, hr⟩ := List.mem_flatMap.mp hr
  obtain ⟨i, hi, rfl⟩ := List.mem_iff_getElem.mp hv
  have hl := e.len
  obtain ⟨k, h1, h2⟩ := e.at_ i (by omega)
  have h3 := (List.getElem?_eq_some_iff.mp h1).2
  have h4 := (List.getElem?_eq_some_iff.mp h2).1
  rw [h3] at hr
  simp [arefs] at hr
  omega
theorem EI.push {n : Nat} {vs : List Value} {G : VH} {ess : List (List Int)} (e : EI n vs G ess) (xs : List Int) (L : VH) : EI n (vs ++ [.slice (some ⟨n + G.length, 0, none⟩) xs.length xs.length]) (G ++ ⟨1, ints xs⟩ :: L) (ess ++ [xs]) := by
  have hl := e.len
  have e2 := e.more (⟨1, ints xs⟩ :: L)
  refine ⟨by simp [hl], fun i hi => ?_, ?_⟩
  · by_cases h : i < ess.length
    · obtain ⟨k', h1, h2⟩ := e2.at_ i h
      have e1 : (ess ++ [xs]).getD i [] = ess.getD i [] := by simp only [List.getD_eq_getElem?_getD]; rw [List.getElem?_append_left h]
      rw [e1]
      exact ⟨k', by rw [List.getElem?_append_left (by omega)]; exact h1, h2⟩
    · have hi2 : i = ess.length := by simp at hi; omega
      subst hi2
      have e1 : (ess ++ [xs]).getD ess.length [] = xs := by simp [List.getD_eq_getElem?_getD]
      rw [e1]
      exact ⟨G.length, by rw [← hl]; simp, by simp⟩
  · rw [List.flatMap_append]
    refine List.nodup_append.mpr ⟨e.nd, by simp [arefs], fun a ha b hb => ?_⟩
    have := (e.lt ha).2
    simp [arefs] at hb
    omega

/-- A list of lists that a call has handed out: in memory from n on. -/
def SL2 (n : Nat) (M : VH) (v : Value) (ess : List (List Int)) : Prop := ∃ b vs, v = .slice (some ⟨n + b, 0, none⟩) ess.length ess.length ∧ M[b]? = some ⟨1, vs⟩ ∧ EI n vs M ess

theorem EI.cleanP {P0 P : VH} {vs0 vs vals : List Value} {G0 G : VH} {ess0 ess : List (List Int)} (e0 : EI (P.length + 1) vs0 G0 ess0) (e : EI (P.length + 1) vs G ess) (hP : P0.length = P.length) (hG : G0.length ≤ G.length) (hv : ∀ v ∈ vals, Old (P.length + 1 + G0.length) v) :
    ∃ G1, kclean (P0 ++ ⟨1, vs0⟩ :: G0) vals (P ++ ⟨1, vs⟩ :: G) = (vals, P ++ ⟨1, vs⟩ :: G1) ∧ EI (P.length + 1) vs G1 ess ∧ G0.length ≤ G1.length := by
  have hlen : (P0 ++ (⟨1, vs0⟩ : VO) :: G0).length = P.length + 1 + G0.length := by simp; omega
  rcases cleanup_old (h0 := P0 ++ ⟨1, vs0⟩ :: G0) (h := P ++ ⟨1, vs⟩ :: G) (vs := vals) (by rw [hlen]; exact hv) with hk | ⟨hok, hk⟩
  · exact ⟨G, hk, e, hG⟩
  · have e1 : (P ++ (⟨1, vs⟩ : VO) :: G).take (P0 ++ (⟨1, vs0⟩ : VO) :: G0).length = P ++ ⟨1, vs⟩ :: G.take G0.length := by
      rw [hlen, List.take_append, List.take_of_length_le (by omega)]
      rw [show P.length + 1 + G0.length - P.length = G0.length + 1 by omega]
      rfl
    rw [e1] at hk hok
    refine ⟨G.take G0.length, hk, ⟨e.len, fun i hi => ?_, e.nd⟩, by simp; omega⟩
    obtain ⟨k, h1, h2⟩ := e.at_ i hi
    have hk : k < G0.length := by
      have h3 := hok P.length ⟨1, vs⟩ (by rw [hget0]; rfl)
      have hmem : P.length + 1 + k ∈ orefs ⟨1, vs⟩ := by
        unfold orefs
        refine List.mem_flatMap.mpr ⟨_, List.mem_of_getElem? h1, ?_⟩
        simp [crefs, arefs]
      rcases h3 with h3 | h3
      · rw [← hP, hget0] at h3
        simp at h3
        subst h3
        have hi0 : i < ess0.length := by
          have := (List.getElem?_eq_some_iff.mp h1).1
          rw [← e0.len]; exact this
        obtain ⟨k', h4, h5⟩ := e0.at_ i hi0
        rw [h1] at h4
        simp at h4
        have : k = k' := h4.1
        subst this
        exact (List.getElem?_eq_some_iff.mp h5).1
      · have := h3 _ hmem
        rw [hlen] at this
        omega
    exact ⟨k, h1, by rw [List.getElem?_take, if_pos hk]; exact h2⟩

theorem EI.cleanP' {P0 P : VH} {vs0 vs vals : List Value} {G0 G : VH} {ess0 ess : List (List Int)} (e0 : EI (P.length + 1) vs0 G0 ess0) (e : EI (P.length + 1) vs G ess) (hP : P0.length = P.length) (hG : G0.length ≤ G.length) (hv : ∀ v ∈ vals, Old (P.length + 1 + G0.length) v) :
    ∃ G1, kclean (P0 ++ ⟨1, vs0⟩ :: G0) vals (P ++ ⟨1, vs⟩ :: G) = (vals, P ++ ⟨1, vs⟩ :: G1) ∧ EI (P.length + 1) vs G1 ess ∧ G0.length ≤ G1.length ∧ ∀ k, k < G0.length → G1[k]? = G[k]? := by
  obtain ⟨G1, h1, h2, h3⟩ := EI.cleanP e0 e hP hG hv
  refine ⟨G1, h1, h2, h3, ?_⟩
  have hlen : (P0 ++ (⟨1, vs0⟩ : VO) :: G0).length = P.length + 1 + G0.length := by simp; omega
  rcases cleanup_old (h0 := P0 ++ ⟨1, vs0⟩ :: G0) (h := P ++ ⟨1, vs⟩ :: G) (vs := vals) (by rw [hlen]; exact hv) with hk | ⟨_, hk⟩
  · rw [h1] at hk
    simp at hk
    rw [hk]
    intro k _; rfl
  · have e1 : (P ++ (⟨1, vs⟩ : VO) :: G).take (P0 ++ (⟨1, vs0⟩ : VO) :: G0).length = P ++ ⟨1, vs⟩ :: G.take G0.length := by
      rw [hlen, List.take_append, List.take_of_length_le (by omega)]
      rw [show P.length + 1 + G0.length - P.length = G0.length + 1 by omega]
      rfl
    rw [h1, e1] at hk
    simp at hk
    rw [hk]
    intro k hk2
    rw [List.getElem?_take, if_pos hk2]

/-- A function's end: a list of lists is handed out, perhaps beside something flat. -/
theorem EI.fin {h pre : VH} {vs : List Value} {G : VH} {ess : List (List Int)} (e : EI (h.length + pre.length + 1) vs G ess) (w : Value → Value) (hw1 : ∀ a n t, trefs (w (.slice (some a) n t)) = [a.block]) (hw2 : ∀ r a n t, tren r (w (.slice (some a) n t)) = w (.slice (some { a with block := r a.block }) n t)) :
    ∃ v M, kclean h [w (.slice (some ⟨h.length + pre.length, 0, none⟩) vs.length vs.length)] (h ++ (pre ++ ⟨1, vs⟩ :: G)) = ([w v], h ++ M) ∧ SL2 h.length M v ess := by
  have hl2 := e.len
  have hk : keepL h.length [w (.slice (some ⟨h.length + pre.length, 0, none⟩) vs.length vs.length)] = [h.length + pre.length] := by
    unfold keepL
    simp [hw1, dedup]
  have hget : (h ++ (pre ++ ⟨1, vs⟩ :: G))[h.length + pre.length]? = some ⟨1, vs⟩ := by rw [hgetk]; simp
  by_cases hf : flatL h.length [h.length + pre.length] (h ++ (pre ++ ⟨1, vs⟩ :: G))
  · have hvs : vs = [] := by
      obtain ⟨o, ho, hr⟩ := hf (h.length + pre.length) (by simp)
      have : o = ⟨1, vs⟩ := by rw [hget] at ho; simpa using ho.symm
      subst this
      cases hv : ess with
      | nil => rw [hv] at hl2; exact List.length_eq_zero_iff.mp hl2
      | cons x r =>
        exfalso
        obtain ⟨j, h1, _⟩ := e.at_ 0 (by rw [hv]; simp)
        have := hr (h.length + pre.length + 1 + j) (by
          unfold orefs
          refine List.mem_flatMap.mpr ⟨_, List.mem_of_getElem? h1, ?_⟩
          simp [crefs, arefs])
        omega
    subst hvs
    have hes : ess = [] := List.length_eq_zero_iff.mp hl2.symm
    rw [hes]
    refine ⟨.slice (some ⟨h.length + 0, 0, none⟩) 0 0, [⟨1, []⟩], ?_, 0, [], by simp, rfl, EI.nil _ _⟩
    rw [cleanup_keep hk hf]
    simp [hw2, renOf_one, hget]
  · refine ⟨.slice (some ⟨h.length + pre.length, 0, none⟩) vs.length vs.length, pre ++ ⟨1, vs⟩ :: G, ?_, pre.length, vs, by rw [hl2], by simp, hl2, fun i hi => ?_, e.nd⟩
    · unfold kclean cleanup
      rw [hk, if_neg (fun h => hf h.2)]
    · obtain ⟨j, h1, h2⟩ := e.at_ i hi
      exact ⟨pre.length + 1 + j, by rw [h1]; congr 4; omega, by
        rw [List.getElem?_append_right (by omega), show pre.length + 1 + j - pre.length = j + 1 by omega]
        exact h2⟩
theorem EI.fin1 {h pre : VH} {vs : List Value} {G : VH} {ess : List (List Int)} (e : EI (h.length + pre.length + 1) vs G ess) :
    ∃ v M, kclean h [.slice (some ⟨h.length + pre.length, 0, none⟩) vs.length vs.length] (h ++ (pre ++ ⟨1, vs⟩ :: G)) = ([v], h ++ M) ∧ SL2 h.length M v ess :=
  e.fin (fun v => v) (fun a n t => by simp [trefs, vrefs, crefs, arefs]) (fun r a n t => by simp [tren, vren, cren, aren])
/-- What a call has handed out is handed on. -/
theorem SL2.fwd {h pre M : VH} {q : Value} {ess : List (List Int)} (hS : SL2 (h.length + pre.length) M q ess) (w : Value → Value) (hw1 : ∀ a n t, trefs (w (.slice (some a) n t)) = [a.block]) (hw2 : ∀ r a n t, tren r (w (.slice (some a) n t)) = w (.slice (some { a with block := r a.block }) n t)) :
    ∃ v M', kclean h [w q] (h ++ (pre ++ M)) = ([w v], h ++ M') ∧ SL2 h.length M' v ess := by
  obtain ⟨b, vs, rfl, hb, e⟩ := hS
  have hk : keepL h.length [w (.slice (some ⟨h.length + pre.length + b, 0, none⟩) ess.length ess.length)] = [h.length + pre.length + b] := by
    unfold keepL
    have : h.length ≤ h.length + pre.length + b := by omega
    simp [hw1, dedup, this]
  have hget : (h ++ (pre ++ M))[h.length + pre.length + b]? = some ⟨1, vs⟩ := by
    rw [Nat.add_assoc, hgetk, List.getElem?_append_right (by omega), Nat.add_sub_cancel_left]
    exact hb
  by_cases hf : flatL h.length [h.length + pre.length + b] (h ++ (pre ++ M))
  · have hes : ess = [] := by
      obtain ⟨o, ho, hr⟩ := hf (h.length + pre.length + b) (by simp)
      have : o = ⟨1, vs⟩ := by rw [hget] at ho; simpa using ho.symm
      subst this
      cases hv : ess with
      | nil => rfl
      | cons x r =>
        exfalso
        obtain ⟨j, h1, _⟩ := e.at_ 0 (by rw [hv]; simp)
        have := hr (h.length + pre.length + j) (by
          unfold orefs
          refine List.mem_flatMap.mpr ⟨_, List.mem_of_getElem? h1, ?_⟩
          simp [crefs, arefs])
        omega
    have hvs : vs = [] := List.length_eq_zero_iff.mp (by rw [e.len, hes]; rfl)
    subst hvs hes
    refine ⟨.slice (some ⟨h.length + 0, 0, none⟩) 0 0, [⟨1, []⟩], ?_, 0, [], by simp, rfl, EI.nil _ _⟩
    rw [cleanup_keep hk hf]
    have : renOf h.length [h.length + pre.length + b] (h.length + pre.length + b) = h.length := by simp [renOf]; omega
    simp only [List.map_cons, List.map_nil, hw2, this, List.filterMap_cons, hget, List.filterMap_nil]
    rfl
  · refine ⟨.slice (some ⟨h.length + pre.length + b, 0, none⟩) ess.length ess.length, pre ++ M, ?_, pre.length + b, vs, by rw [Nat.add_assoc], by rw [List.getElem?_append_right (by omega), Nat.add_sub_cancel_left]; exact hb, e.len, fun i hi => ?_, e.nd⟩
    · unfold kclean cleanup
      rw [hk, if_neg (fun h => hf h.2)]
    · obtain ⟨j, h1, h2⟩ := e.at_ i hi
      exact ⟨pre.length + j, by rw [h1]; congr 4; omega, by rw [List.getElem?_append_right (by omega), Nat.add_sub_cancel_left]; exact h2⟩
theorem SL2.fwdC {h pre M : VH} {q : Value} {ess : List (List Int)} (hS : SL2 (h.length + pre.length) M q ess) (k : IntKind) (x : Int) :
    ∃ v M', kclean h [.tuple #[q, .int k x]] (h ++ (pre ++ M)) = ([.tuple #[v, .int k x]], h ++ M') ∧ SL2 h.length M' v ess :=
  hS.fwd (fun v => .tuple #[v, .int k x]) (fun a n t => by simp [trefs, vrefs, crefs, arefs]) (fun r a n t => by simp [tren, vren, cren, aren])

theorem SL2.shape {n : Nat} {M : VH} {v : Value} {ess : List (List Int)} (h : SL2 n M v ess) : ∃ a m, v = .slice (some a) m m := by
  obtain ⟨b, vs, rfl, _⟩ := h
  exact ⟨_, _, rfl⟩

/-! ### lists of lists that are read -/
/-- What a list of lists reads as. -/
def LL (h : VH) (v : Value) (ess : List (List Int)) : Prop := ∃ vs, vs.length = ess.length ∧ Sl h v vs ∧ ∀ (i : Nat) (hi : i < vs.length), Sli h vs[i] (ess.getD i [])
theorem LL.app {h : VH} {v : Value} {ess : List (List Int)} (hl : LL h v ess) (L : VH) : LL (h ++ L) v ess := by
  obtain ⟨vs, h1, h2, h3⟩ := hl
  exact ⟨vs, h1, h2.app L, fun i hi => (h3 i hi).app L⟩
theorem LL.nil (h : VH) : LL h (.slice none 0 0) [] := ⟨[], rfl, by simp [Sl, vsrc], fun i hi => by simp at hi⟩
theorem LL.old {h : VH} {v : Value} {ess : List (List Int)} (hl : LL h v ess) : Old h.length v := by
  obtain ⟨vs, h1, h2, h3⟩ := hl
  exact h2.old
theorem SL2.read {h M L : VH} {q : Value} {es : List (List Int)} (hs : SL2 h.length M q es) : ∃ vs, vs.length = es.length ∧ Sl (h ++ M ++ L) q vs ∧ ∀ (i : Nat) (hi : i < vs.length), Sli (h ++ M ++ L) vs[i] (es.getD i []) := by
  obtain ⟨b, vs, rfl, h1, h2⟩ := hs
  have hget : ∀ k, (h ++ M ++ L)[h.length + k]? = (M ++ L)[k]? := fun k => by
    rw [List.append_assoc, List.getElem?_append_right (by simp), Nat.add_sub_cancel_left]
  refine ⟨vs, h2.len, ?_, fun i hi => ?_⟩
  · have h3 : (M ++ L)[b]? = some ⟨1, vs⟩ := by rw [List.getElem?_append_left (List.getElem?_eq_some_iff.mp h1).1]; exact h1
    unfold Sl
    rw [vsrc_ref]
    simp only [hget, h3, h2.len]
    simp [h2.len]
    rw [List.take_of_length_le (by rw [h2.len]; exact Nat.le_refl _)]
  · have hi' : i < es.length := by rw [← h2.len]; exact hi
    obtain ⟨k, k1, k2⟩ := h2.at_ i hi'
    have e : vs[i] = .slice (some ⟨h.length + k, 0, none⟩) (es.getD i []).length (es.getD i []).length := (List.getElem?_eq_some_iff.mp k1).2
    rw [e]
    refine sli_at ?_
    rw [hget, List.getElem?_append_left (List.getElem?_eq_some_iff.mp k2).1]
    exact k2

theorem SL2.ll {h M : VH} {q : Value} {es : List (List Int)} (hs : SL2 h.length M q es) : LL (h ++ M) q es := by
  obtain ⟨vs, h1, h2, h3⟩ := hs.read (L := [])
  rw [List.append_nil] at h2
  refine ⟨vs, h1, h2, fun i hi => ?_⟩
  have := h3 i hi
  rw [List.append_nil] at this
  exact this

/-! ### marks -/
def tot : List (List Int) → Nat
  | [] => 0
  | e :: es => e.length + tot es
theorem EI.set {n : Nat} {vs : List Value} {G : VH} {A : List (List Int)} {e : List Int} {B : List (List Int)} (h : EI n vs G (A ++ e :: B)) (xs : List Int) (hx : xs.length = e.length) : ∃ k, vs[A.length]? = some (.slice (some ⟨n + k, 0, none⟩) e.length e.length) ∧ G[k]? = some ⟨1, ints e⟩ ∧ EI n vs (G.set k ⟨1, ints xs⟩) (A ++ xs :: B) := by
  have hlt : A.length < (A ++ e :: B).length := by simp
  have eA : (A ++ e :: B).getD A.length [] = e := by simp [List.getD_eq_getElem?_getD]
  obtain ⟨k, h1, h2⟩ := h.at_ A.length hlt
  rw [eA] at h1 h2
  have hk := (List.getElem?_eq_some_iff.mp h2).1
  refine ⟨k, h1, h2, by rw [h.len]; simp, fun i hi => ?_, h.nd⟩
  by_cases e1 : i = A.length
  · subst e1
    have e2 : (A ++ xs :: B).getD A.length [] = xs := by simp [List.getD_eq_getElem?_getD]
    rw [e2, hx]
    exact ⟨k, h1, by simp [hk]⟩
  · have e3 : (A ++ xs :: B).getD i [] = (A ++ e :: B).getD i [] := by
      simp only [List.getD_eq_getElem?_getD, List.getElem?_append]
      split
      · rfl
      · have : i - A.length = (i - A.length - 1) + 1 := by omega
        rw [this]
        rfl
    have hi' : i < (A ++ e :: B).length := by simpa using hi
    obtain ⟨k', h3, h4⟩ := h.at_ i hi'
    rw [e3]
    refine ⟨k', h3, ?_⟩
    rw [List.getElem?_set, if_neg]
    · exact h4
    · intro e4
      subst e4
      -- two places with one object
      have hnd := h.nd
      have l1 := (List.getElem?_eq_some_iff.mp h1)
      have l3 := (List.getElem?_eq_some_iff.mp h3)
      obtain ⟨p1, q1⟩ := l1
      obtain ⟨p3, q3⟩ := l3
      have key : ∀ (us : List Value), (us.flatMap arefs).Nodup → ∀ i j (hi : i < us.length) (hj : j < us.length), i < j → ∀ r, r ∈ arefs us[i] → r ∉ arefs us[j] := by
        intro us
        induction us with
        | nil => intro _ i j hi; simp at hi
        | cons u us ih =>
          intro hn i j hi hj hij r hr hr2
          rw [List.flatMap_cons] at hn
          obtain ⟨_, n2, n3⟩ := List.nodup_append.mp hn
          cases j with
          | zero => omega
          | succ j =>
            cases i with
            | zero =>
              refine n3 r (by simpa using hr) r (List.mem_flatMap.mpr ⟨_, List.getElem_mem (by simpa using hj), by simpa using hr2⟩) rfl
            | succ i => exact ih n2 i j (by simpa using hi) (by simpa using hj) (by omega) r (by simpa using hr) (by simpa using hr2)
      rcases Nat.lt_or_gt_of_ne e1 with hlt2 | hgt
      · exact key vs hnd i A.length p3 p1 hlt2 (n + k) (by rw [q3]; simp [arefs]) (by rw [q1]; simp [arefs])
      · exact key vs hnd A.length i p1 p3 hgt (n + k) (by rw [q1]; simp [arefs]) (by rw [q3]; simp [arefs])

/-- A function's end that hands on nothing new. -/
theorem kclean_take {h H : VH} {vs : List Value} (ht : H.take h.length = h) (hv : ∀ v ∈ vs, Old h.length v) : kclean h vs H = (vs, h) := by
  have e : H = h ++ H.drop h.length := by
    conv => lhs; rw [← List.take_append_drop h.length H, ht]
  rw [e]
  exact cleanup_drop hv

end Go.Proofs.YtghondlbkjponaaDoor.Zv

