/- Part E of the proof: ZwEdge, ZwTwo, ZwTab, ZvTz, ZwTzl, ZwBfs, ZwMay, ZwFill, ZwWalk, ZwGirth, ZwFrom, ZwFrom2, ZwMoore, ZwLL, ZwSearch, ZwFound, ZwLawExch, ZwLawExch2. Conditions: none. -/
import Derived.Test.YthpgiimaadohcaaZpD
set_option linter.unusedSimpArgs false
set_option linter.unusedVariables false
/- Edges put in and taken out: PutEdge, TakeEdge. -/
namespace Go.Proofs.Ythpgiimaadohcaa.Zv
open Go
variable {nro : Nat}

/-! ### copies -/
theorem ints_nj (xs : List Int) : ∀ x ∈ ints xs, isJunk x = false := by
  intro x hx
  obtain ⟨n, _, rfl⟩ := List.mem_map.mp hx
  rfl
theorem c_spec_l01Own (s : Value) (xs : List Int) (h : VH) (hs : Sli h s xs) (hl : xs.length ≤ 1000) (hn : nro ≤ h.length) :
    vcall F nro k_spec_l01Own [s] h = some (.slice (some ⟨h.length, 0, none⟩) xs.length xs.length, h ++ [⟨1, ints xs⟩]) := by
  refine v_spec_l01Own (by simp [i_spec_l01Own]) ?_
  rw [fbody_eq]
  have hv : vsrc 1 (h ++ [⟨1, []⟩]) s = some (ints xs, (ints xs).length) := hs.app _
  have hn' := fun k => Nat.le_trans hn (Nat.le_add_right h.length k)
  have b1 : xs.length * 8 ≤ 1099511627776 := by omega
  have b2 : xs.length ≤ 1099511627776 := by omega
  simp (disch := first | assumption | omega | (simp [*] <;> omega) | fail) [i_spec_l01Own, hv, hn, hn', b1, b2]
  have hj := ints_nj xs
  unfold isJunk at hj
  exact hj

theorem Sli.neqnil {h : VH} {s : Value} {xs : List Int} (hs : Sli h s xs) (hx : xs ≠ []) (neg : Bool) : veqnilS neg h s = some (.bool neg, h) := by
  unfold Sli Sl vsrc at hs
  split at hs
  · cases xs with
    | nil => exact absurd rfl hx
    | cons x r => simp at hs
  · cases xs with
    | nil => exact absurd rfl hx
    | cons x r => simp at hs
  · rename_i a n tot
    split at hs
    · rename_i o ho
      split at hs
      · rename_i hc
        simp [ho, hc.2.1]
      · cases hs
    · cases hs
  · cases hs
theorem c_slices_Clone (s : Value) (xs : List Int) (h : VH) (hs : Sli h s xs) (hx : xs ≠ []) (hl : xs.length ≤ 1000) (hn : nro ≤ h.length) :
    vcall F nro k_slices_Clone_int64_int64 [s] h = some (.slice (some ⟨h.length, 0, none⟩) xs.length xs.length, h ++ [⟨1, ints xs⟩]) := by
  refine v_slices_Clone_int64_int64 (by simp [i_slices_Clone_int64_int64]) ?_
  rw [fbody_eq]
  have hv : vsrc 1 (h ++ [⟨1, []⟩]) s = some (ints xs, (ints xs).length) := hs.app _
  have hn' := fun k => Nat.le_trans hn (Nat.le_add_right h.length k)
  have b1 : xs.length * 8 ≤ 1099511627776 := by omega
  have b2 : xs.length ≤ 1099511627776 := by omega
  simp (disch := first | assumption | omega | (simp [*] <;> omega) | fail) [i_slices_Clone_int64_int64, hs.neqnil hx, hv, hn, hn', b1, b2]
  have hj := ints_nj xs
  unfold isJunk at hj
  exact hj

theorem c_spec_l01Copy (n : Int) (s : Value) (xs : List Int) (h : VH) (hs : Sli h s xs) (hl : xs.length ≤ 1000) (hn : nro ≤ h.length) :
    vcall F nro k_spec_l01Copy [gv n s] h = some (gv n (.slice (some ⟨h.length, 0, none⟩) xs.length xs.length), h ++ [⟨1, ints xs⟩]) := by
  refine v_spec_l01Copy (by simp [i_spec_l01Copy]) ?_
  rw [fbody_eq]
  have hc := c_spec_l01Own (nro := nro) s xs (h ++ [⟨0, [.int .i64 n, s]⟩, ⟨0, [.int .i64 0, .slice none 0 0]⟩]) (hs.app _) hl (by simp; omega)
  simp at hc
  have hn' := fun k => Nat.le_trans hn (Nat.le_add_right h.length k)
  simp (disch := first | assumption | omega | (simp [*] <;> omega) | fail) [i_spec_l01Copy, hc, fresults, fresL, fres1, hn', hn]

theorem c_impl_own (n : Int) (s : Value) (xs : List Int) (h : VH) (hs : Sli h s xs) (hx : xs ≠ []) (hl : xs.length ≤ 1000) (hn : nro ≤ h.length) :
    vcall F nro k_impl_own [gv n s] h = some (gv n (.slice (some ⟨h.length, 0, none⟩) xs.length xs.length), h ++ [⟨1, ints xs⟩]) := by
  refine v_impl_own (by simp [i_impl_own]) ?_
  rw [fbody_eq]
  have hc := c_slices_Clone (nro := nro) s xs (h ++ [⟨0, [.int .i64 n, s]⟩, ⟨0, [.int .i64 0, .slice none 0 0]⟩]) (hs.app _) hx hl (by simp; omega)
  simp at hc
  have hn' := fun k => Nat.le_trans hn (Nat.le_add_right h.length k)
  simp (disch := first | assumption | omega | (simp [*] <;> omega) | fail) [i_impl_own, hc, fresults, fresL, fres1, hn', hn]

theorem c_spec_l01Join (n a b : Int) (s : Value) (rows : List Int) (h : VH) (hs : Sli h s rows) (hn : nro ≤ h.length) (hl : rows.length ≤ 62) (ha : 0 ≤ a) (ha2 : a < rows.length) (hb : 0 ≤ b) (hb2 : b < rows.length) :
    vcall F nro k_spec_l01Join [gv n s, .int .i64 a, .int .i64 b] h = some (gv n (.slice (some ⟨h.length, 0, none⟩) rows.length rows.length), h ++ [⟨1, ints (put2 rows a b)⟩]) := by
  refine v_spec_l01Join (by simp [i_spec_l01Join]) ?_
  rw [fbody_eq]
  have hn' := fun k => Nat.le_trans hn (Nat.le_add_right h.length k)
  have hc := c_spec_l01Copy (nro := nro) n s rows (h ++ [⟨0, [.int .i64 n, s]⟩, ⟨0, [.int .i64 0, .slice none 0 0]⟩]) (hs.app _) (by omega) (by simp; omega)
  have hp := c_spec_l01Put (nro := nro) n (h.length + 2) rows.length a b rows (h ++ [⟨0, [.int .i64 n, s]⟩, ⟨0, [.int .i64 0, .slice none 0 0]⟩, ⟨1, ints rows⟩, ⟨0, [.int .i64 n, .slice (some ⟨h.length + 2, 0, none⟩) rows.length rows.length]⟩]) (by simp) rfl (by omega) ha ha2 hb hb2 hl
  simp at hc hp
  simp (disch := first | assumption | omega | (simp [*] <;> omega) | fail) [i_spec_l01Join, hc, hp, fresults, fresL, fres1, hn', hn]

/-! ### an edge less -/
theorem sub_bit {x b : Nat} (h : x.testBit b = true) : 2 ^ b ≤ x ∧ ∀ w, (x - 2 ^ b).testBit w = (x.testBit w && decide (w ≠ b)) := by
  have hx : x = 2 ^ (b + 1) * (x / 2 ^ (b + 1)) + (2 ^ b + x % 2 ^ b) := by
    have h1 := Nat.div_add_mod x (2 ^ (b + 1))
    have h2 : x % 2 ^ (b + 1) = x % 2 ^ b + 2 ^ b * (x / 2 ^ b % 2) := Nat.mod_pow_succ
    rw [Nat.testBit_eq_decide_div_mod_eq] at h
    have h3 : x / 2 ^ b % 2 = 1 := by simpa using h
    rw [h3] at h2
    omega
  have hr : x % 2 ^ b < 2 ^ b := Nat.mod_lt _ (Nat.two_pow_pos b)
  have hp : 2 ^ (b + 1) = 2 * 2 ^ b := by rw [Nat.pow_succ]; omega
  refine ⟨by omega, fun w => ?_⟩
  have e1 : x - 2 ^ b = 2 ^ (b + 1) * (x / 2 ^ (b + 1)) + x % 2 ^ b := by omega
  rw [e1]
  conv => rhs; rw [hx]
  rw [Nat.testBit_two_pow_mul_add _ (by omega), Nat.testBit_two_pow_mul_add _ (by omega)]
  by_cases hw : w < b + 1
  · rw [if_pos hw, if_pos hw]
    have e2 := Nat.testBit_two_pow_mul_add 1 hr w
    rw [Nat.mul_one] at e2
    rw [e2]
    by_cases hw2 : w < b
    · simp [hw2, Nat.ne_of_lt hw2]
    · have : w = b := by omega
      subst this
      simp
  · rw [if_neg hw, if_neg hw]
    have : w ≠ b := by omega
    simp [this]

theorem andNot_bit {x : Nat} {b : Int} (hx : x < 2 ^ 62) (h1 : b ≤ 62) (hs : x.testBit b.toNat = true) : iandNot .i64 (x : Int) (ishl .i64 1 b) = ((x - 2 ^ b.toNat : Nat) : Int) := by
  rw [ishl_one h1, iandNot_eq]
  have hp : 2 ^ b.toNat ≤ 2 ^ 62 := Nat.pow_le_pow_right (by omega) (by omega)
  have e1 : (BitVec.ofInt IntKind.i64.bits (x : Int)).toNat = x := ofInt_nat 64 x (by omega)
  have e2 : (BitVec.ofInt IntKind.i64.bits ((2 ^ b.toNat : Nat) : Int)).toNat = 2 ^ b.toNat := ofInt_nat 64 _ (by omega)
  obtain ⟨h2, h3⟩ := sub_bit hs
  have e3 : (BitVec.ofInt IntKind.i64.bits (x : Int) &&& ~~~ BitVec.ofInt IntKind.i64.bits ((2 ^ b.toNat : Nat) : Int)).toNat = x - 2 ^ b.toNat := by
    apply Nat.eq_of_testBit_eq
    intro w
    rw [h3, BitVec.testBit_toNat, BitVec.getLsbD_and, BitVec.getLsbD_not, ← BitVec.testBit_toNat, ← BitVec.testBit_toNat, e1, e2, Nat.testBit_two_pow]
    by_cases hw : w < IntKind.i64.bits
    · by_cases hb : b.toNat = w
      · simp [hb]
      · simp [hb, hw, fun h => hb (Eq.symm h)]
        intro _ h
        exact absurd h.symm hb
    · have : x.testBit w = false := Nat.testBit_lt_two_pow (Nat.lt_of_lt_of_le hx (Nat.pow_le_pow_right (by omega) (by simp [IntKind.bits] at hw; omega)))
      simp [this]
  rw [e3]
  exact wrap64 (by omega) (by omega)

/-- Bit b of row a is cleared. -/
def cut1 (r : List Int) (a b : Int) : List Int := r.set a.toNat (r.getD a.toNat 0 - 2 ^ b.toNat)
def cut2 (r : List Int) (a b : Int) : List Int := cut1 (cut1 r a b) b a
@[simp] theorem cut1_length (r : List Int) (a b : Int) : (cut1 r a b).length = r.length := by simp [cut1]
@[simp] theorem cut2_length (r : List Int) (a b : Int) : (cut2 r a b).length = r.length := by simp [cut2]

theorem IsAdj.cut1 {N : Nat} {r : List Int} {adj : Nat → Nat → Prop} (h : IsAdj N r adj) {a b : Int} (ha : 0 ≤ a) (ha2 : a < N) (hab : adj a.toNat b.toNat) :
    IsAdj N (cut1 r a b) (fun v w => adj v w ∧ ¬ (v = a.toNat ∧ w = b.toNat)) := by
  obtain ⟨hl, hr⟩ := h
  refine ⟨by simp [hl], fun v hv => ?_⟩
  obtain ⟨h1, h2, h3⟩ := hr v hv
  by_cases e : v = a.toNat
  · subst e
    have hbit := (h3 b.toNat).mpr hab
    unfold rbit at hbit
    obtain ⟨s1, s2⟩ := sub_bit hbit
    have hg : (Zv.cut1 r a b).getD a.toNat 0 = (((r.getD a.toNat 0).toNat - 2 ^ b.toNat : Nat) : Int) := by
      rw [getD_at _ (by simp; omega)]
      simp only [Zv.cut1, List.getElem_set_self]
      have hp2 : ((2 ^ b.toNat : Nat) : Int) = (2 : Int) ^ b.toNat := by simp
      rw [Int.ofNat_sub s1, hp2, Int.toNat_of_nonneg h1]
    have hsub := Nat.sub_le (r.getD a.toNat 0).toNat (2 ^ b.toNat)
    unfold rbit
    rw [hg]
    refine ⟨by omega, by omega, fun w => ?_⟩
    rw [Int.toNat_natCast, s2]
    have := h3 w
    unfold rbit at this
    simp only [Bool.and_eq_true, decide_eq_true_eq, this]
    simp
  · have hg : (Zv.cut1 r a b).getD v 0 = r.getD v 0 := by
      unfold Zv.cut1
      simp only [List.getD_eq_getElem?_getD, List.getElem?_set]
      rw [if_neg (fun h => e h.symm)]
    unfold rbit
    rw [hg]
    refine ⟨h1, h2, fun w => ?_⟩
    have := h3 w
    unfold rbit at this
    rw [this]
    simp [e]
theorem IsAdj.cut2 {N : Nat} {r : List Int} {adj : Nat → Nat → Prop} (h : IsAdj N r adj) {a b : Int} (ha : 0 ≤ a) (ha2 : a < N) (hb : 0 ≤ b) (hb2 : b < N) (hne : a ≠ b) (hab : adj a.toNat b.toNat) (hba : adj b.toNat a.toNat) :
    IsAdj N (cut2 r a b) (fun v w => adj v w ∧ ¬ ((v = a.toNat ∧ w = b.toNat) ∨ (v = b.toNat ∧ w = a.toNat))) := by
  have h1 := (h.cut1 ha ha2 hab).cut1 (a := b) (b := a) hb hb2 ⟨hba, fun h => by omega⟩
  refine h1.congr fun v w _ => ?_
  constructor
  · rintro ⟨⟨h1, h2⟩, h3⟩; exact ⟨h1, fun h => h.elim h2 h3⟩
  · rintro ⟨h1, h2⟩; exact ⟨⟨h1, fun h => h2 (.inl h)⟩, fun h => h2 (.inr h)⟩

theorem GV.isAdj {n : Int} {rows : List Int} (g : GV n rows) : IsAdj rows.length rows (fun v w => rbit rows v w = true) := by
  have hp := pow_le62 g.hi
  refine ⟨rfl, fun v hv => ?_⟩
  obtain ⟨h1, h2, _⟩ := g.row v hv
  exact ⟨h1, by omega, fun w => Iff.rfl⟩

theorem put2_same {n : Int} {rows : List Int} (g : GV n rows) {a b : Int} (ha : 0 ≤ a) (ha2 : a < rows.length) (hb : 0 ≤ b) (hb2 : b < rows.length) (h : rbit rows a.toNat b.toNat = true) : put2 rows a b = rows := by
  have hl := g.len
  have hN := g.hi
  have h1 := g.isAdj.put2 ha ha2 hb hb2 (by omega)
  have hs := g.sym a.toNat b.toNat (by omega) (by omega)
  refine (h1.congr fun v w _ => ?_).unique g.isAdj
  constructor
  · rintro (h2 | ⟨rfl, rfl⟩ | ⟨rfl, rfl⟩)
    · exact h2
    · exact h
    · rw [← hs]; exact h
  · exact .inl

theorem cut1_at {r : List Int} {a b : Int} (h : a.toNat < r.length) : cut1 r a b = r.set a.toNat (r[a.toNat] - 2 ^ b.toNat) := by
  unfold cut1
  rw [getD_at _ h]
theorem cut2_at {r : List Int} {a b : Int} (h : a.toNat < r.length) (h2 : b.toNat < (r.set a.toNat (r[a.toNat] - 2 ^ b.toNat)).length) : cut2 r a b = (r.set a.toNat (r[a.toNat] - 2 ^ b.toNat)).set b.toNat ((r.set a.toNat (r[a.toNat] - 2 ^ b.toNat))[b.toNat] - 2 ^ a.toNat) := by
  unfold cut2
  rw [cut1_at h, cut1_at h2]
theorem andNot_int {x b : Int} (h0 : 0 ≤ x) (hx : x < 4611686018427387904) (h1 : b ≤ 62) (hs : x.toNat.testBit b.toNat = true) : iandNot .i64 x (ishl .i64 1 b) = x - 2 ^ b.toNat := by
  have := andNot_bit (x := x.toNat) (b := b) (by omega) h1 hs
  rw [Int.toNat_of_nonneg h0] at this
  rw [this, Int.ofNat_sub (sub_bit hs).1, Int.toNat_of_nonneg h0]
  simp

theorem c_impl_Graph_take (n : Int) (b0 N : Nat) (a b : Int) (r : List Int) (h : VH) (hb : h[b0]? = some ⟨1, ints r⟩) (hl : r.length = N) (hn : nro ≤ b0) (ha : 0 ≤ a) (ha2 : a < N) (hb1 : 0 ≤ b) (hb2 : b < N) (hN : N ≤ 62) (hne : a ≠ b)
    (r1 : 0 ≤ r.getD a.toNat 0) (r2 : r.getD a.toNat 0 < 4611686018427387904) (r3 : rbit r a.toNat b.toNat = true) (s1 : 0 ≤ r.getD b.toNat 0) (s2 : r.getD b.toNat 0 < 4611686018427387904) (s3 : rbit r b.toNat a.toNat = true) :
    vcall F nro k_impl_Graph_take [gv n (.slice (some ⟨b0, 0, none⟩) N N), .int .i64 a, .int .i64 b] h = some (.tuple #[], h.set b0 ⟨1, ints (cut2 r a b)⟩) := by
  refine v_impl_Graph_take (by simp [i_impl_Graph_take]) ?_
  rw [fbody_eq, cut2_at (by omega) (by simp; omega)]
  have hnn : ¬ a.toNat = b.toNat := by omega
  have e1 : r.getD a.toNat 0 = r[a.toNat]'(by omega) := getD_at _ (by omega)
  have e2 : r.getD b.toNat 0 = r[b.toNat]'(by omega) := getD_at _ (by omega)
  unfold rbit at r3 s3
  rw [e1] at r1 r2 r3
  rw [e2] at s1 s2 s3
  have q1 := andNot_int r1 r2 (by omega) r3
  have q2 := andNot_int s1 s2 (by omega) s3
  simp (disch := first | assumption | omega | (simp [*] <;> omega) | fail) [i_impl_Graph_take, hget_old hb, hset_old hb, hget_set hb, hset_set hb, hl, ha2, hb2, take1_ints, splice_ints, hn, ha, hb1, q1, q2, hnn, List.getElem_set_ne]

theorem c_spec_l01Cut (n a b : Int) (s : Value) (rows : List Int) (h : VH) (hs : Sli h s rows) (hn : nro ≤ h.length) (g : GV n rows) (ha : 0 ≤ a) (ha2 : a < rows.length) (hb : 0 ≤ b) (hb2 : b < rows.length) (hne : a ≠ b) (hbit : rbit rows a.toNat b.toNat = true) :
    vcall F nro k_spec_l01Cut [gv n s, .int .i64 a, .int .i64 b] h = some (gv n (.slice (some ⟨h.length, 0, none⟩) rows.length rows.length), h ++ [⟨1, ints (cut2 rows a b)⟩]) := by
  refine v_spec_l01Cut (by simp [i_spec_l01Cut]) ?_
  have hl := g.len
  have hN := g.hi
  have hp := pow_le62 hN
  rw [fbody_eq, cut2_at (by omega) (by simp; omega)]
  have hn' := fun k => Nat.le_trans hn (Nat.le_add_right h.length k)
  have hnn : ¬ a.toNat = b.toNat := by omega
  have hc := c_spec_l01Join (nro := nro) n a b s rows (h ++ [⟨0, [.int .i64 n, s]⟩, ⟨0, [.int .i64 0, .slice none 0 0]⟩]) (hs.app _) (by simp; omega) (by omega) ha ha2 hb hb2
  rw [put2_same g ha ha2 hb hb2 hbit] at hc
  obtain ⟨r1, r2, _⟩ := g.row a.toNat (by omega)
  obtain ⟨s1, s2, _⟩ := g.row b.toNat (by omega)
  have e1 : rows.getD a.toNat 0 = rows[a.toNat]'(by omega) := getD_at _ (by omega)
  have e2 : rows.getD b.toNat 0 = rows[b.toNat]'(by omega) := getD_at _ (by omega)
  rw [e1] at r1 r2
  rw [e2] at s1 s2
  have pa := pow_le62 (n := a) (by omega)
  have pb := pow_le62 (n := b) (by omega)
  have pa1 := pow_pos2 a.toNat
  have pb1 := pow_pos2 b.toNat
  have w1 : IntKind.i64.wrap (rows[a.toNat]'(by omega) - 2 ^ b.toNat) = rows[a.toNat]'(by omega) - 2 ^ b.toNat := wrap64 (by omega) (by omega)
  have w2 : IntKind.i64.wrap (rows[b.toNat]'(by omega) - 2 ^ a.toNat) = rows[b.toNat]'(by omega) - 2 ^ a.toNat := wrap64 (by omega) (by omega)
  simp at hc
  simp (disch := first | assumption | omega | (simp [*] <;> omega) | fail) [i_spec_l01Cut, hc, ha2, hb2, take1_ints, splice_ints, hn', ha, hb, wrapu64, ishl_one', w1, w2, hnn, List.getElem_set_ne, fresults, fresL, fres1]
end Go.Proofs.Ythpgiimaadohcaa.Zv

/- Pairs of vertices that are in range. -/
namespace Go.Proofs.Ythpgiimaadohcaa.Zv
open Go
variable {nro : Nat}

open Classical in
theorem l_spec_l01Vertices (n : Int) (s t : Value) (xs : List Int) (h : VH) (ht : Sli h t xs) (hsc : ∀ k, OldC (h.length + k) s) (hl : xs.length ≤ 9223372036854775806) (h1 : 1 ≤ n) (h2 : n ≤ 62) :
    floop (vcall F nro) nro [1, 2, 5] i_spec_l01Vertices_B1 (bx h n s) [t, bp h, .int .i64 0] (bx h n s) =
      if badV n xs then some (.ret, fl [(4, .int .i64 2)], bx h n s) else some (.exit 0, fl [], bx h n s) := by
  have hto := fun k => ht.oldk (k := k)
  refine search (fun i => floop (vcall F nro) nro [1, 2, 5] i_spec_l01Vertices_B1 (bx h n s) [t, bp h, .int .i64 i] (bx h n s)) (fun i => ¬ (0 ≤ xs.getD i.toNat 0 ∧ xs.getD i.toNat 0 < n)) _ _ xs.length 0 ?_ ?_ 0 (by omega)
  · intro i hi hlt
    have e1 : xs.getD i.toNat 0 = xs[i.toNat]'(by omega) := getD_at _ (by omega)
    have hc := fun L (x a b : Int) => c_spec_l01In (nro := nro) x a b (h ++ L)
    have e2 : xs[i.toNat]'(by omega) ≤ n - 1 ↔ xs[i.toNat]'(by omega) < n := by omega
    rw [floop_at i_spec_l01Vertices_B1.eq_1, e1]
    constructor <;> intro hb
    · by_cases h0 : 0 ≤ xs[i.toNat]'(by omega)
      · have h3 : ¬ xs[i.toNat]'(by omega) < n := fun h3 => hb ⟨h0, h3⟩
        simp (disch := first | assumption | omega | (simp [*] <;> omega) | fail) [ht.vlen', ht.vidx', ht.vload', wrap64, hlt, h0, h3, hc, e2]
      · simp (disch := first | assumption | omega | (simp [*] <;> omega) | fail) [ht.vlen', ht.vidx', ht.vload', wrap64, hlt, h0, hc, e2]
    · obtain ⟨h0, h3⟩ := Classical.not_not.mp hb
      simp (disch := first | assumption | omega | (simp [*] <;> omega) | fail) [ht.vlen', ht.vidx', ht.vload', wrap64, hlt, h0, h3, hc, e2]
  · intro i hi hlt
    rw [floop_at i_spec_l01Vertices_B1.eq_1]
    simp (disch := first | assumption | omega | (simp [*] <;> omega) | fail) [ht.vlen', hlt]

theorem c_spec_l01Vertices (n : Int) (s t : Value) (rows xs : List Int) (h : VH) (hs : Sli h s rows) (ht : Sli h t xs) (hl : xs.length ≤ 9223372036854775806) :
    vcall F nro k_spec_l01Vertices [gv n s, t] h = some (.int .i64 (vtxCode n rows xs), h) := by
  refine v_spec_l01Vertices (by simp [i_spec_l01Vertices]) ?_
  rw [fbody_eq]
  have hc := c_spec_l01Is (nro := nro) n s rows (bx h n s) (hs.app _)
  unfold vtxCode
  by_cases g : GV n rows
  · have hl := l_spec_l01Vertices (nro := nro) n s t xs h ht (fun k => hs.oldCk (k := k)) hl g.lo g.hi
    by_cases b : badV n xs
    · rw [if_pos b] at hl
      simp (disch := first | assumption | omega | (simp [*] <;> omega) | fail) [i_spec_l01Vertices, hc, g, hl, b]
    · rw [if_neg b] at hl
      simp (disch := first | assumption | omega | (simp [*] <;> omega) | fail) [i_spec_l01Vertices, hc, g, hl, b]
  · simp (disch := first | assumption | omega | (simp [*] <;> omega) | fail) [i_spec_l01Vertices, hc, g]

end Go.Proofs.Ythpgiimaadohcaa.Zv

/- Lists that are told by functions; sums. -/
namespace Go.Proofs.Ythpgiimaadohcaa.Zv
open Go

/-- The list of a function's values. -/
def tbl (n : Nat) (g : Nat → Int) : List Int := (List.range n).map g
def upd (g : Nat → Int) (u : Nat) (x : Int) : Nat → Int := fun j => if j = u then x else g j
@[simp] theorem tbl_length (n : Nat) (g : Nat → Int) : (tbl n g).length = n := by simp [tbl]
theorem upd_same (g : Nat → Int) (u : Nat) (x : Int) : upd g u x u = x := by simp [upd]
theorem upd_ne {g : Nat → Int} {u j : Nat} {x : Int} (h : j ≠ u) : upd g u x j = g j := by simp [upd, h]
end Go.Proofs.Ythpgiimaadohcaa.Zv

namespace Go.Proofs.Ythpgiimaadohcaa.Zv
end Go.Proofs.Ythpgiimaadohcaa.Zv

/- The lowest bit of a word; the bits of a word, ascending. -/
namespace Go.Proofs.Ythpgiimaadohcaa.Zv
open Go

/-- The lowest bit of a word is bit i. -/
def LowAt (x i : Nat) : Prop := ∃ q, x = 2 ^ i * (2 * q + 1)
theorem LowAt.bit {x i : Nat} (h : LowAt x i) : x.testBit i = true := by
  obtain ⟨q, rfl⟩ := h
  rw [Nat.testBit_two_pow_mul]
  simp
theorem LowAt.ne {x i : Nat} (h : LowAt x i) : x ≠ 0 := by
  obtain ⟨q, rfl⟩ := h
  have := Nat.two_pow_pos i
  have := Nat.mul_pos this (show 0 < 2 * q + 1 by omega)
  omega
theorem LowAt.lt {x i n : Nat} (h : LowAt x i) (hx : x < 2 ^ n) : i < n := by
  rcases Nat.lt_or_ge i n with h1 | h1
  · exact h1
  · have h2 := Nat.testBit_lt_two_pow (Nat.lt_of_lt_of_le hx (Nat.pow_le_pow_right (by omega) h1))
    rw [h.bit] at h2
    cases h2

/-! ### the bits of a word, ascending -/
end Go.Proofs.Ythpgiimaadohcaa.Zv

/- Distances: the levels of a search, told once; the program's and the reference's search find them. -/
namespace Go.Proofs.Ythpgiimaadohcaa.Zv
open Go
variable {nro : Nat}

/-! ### words -/
/-! ### levels -/
/-- The rows of a graph on n vertices. -/
structure Rok (n : Nat) (rows : List Int) : Prop where
  len : rows.length = n
  le : n ≤ 62
  row : ∀ v, v < n → 0 ≤ rows.getD v 0 ∧ (rows.getD v 0).toNat < 2 ^ n

theorem le62 {n x : Nat} (hn : n ≤ 62) (hx : x < 2 ^ n) : x < 2 ^ 62 := Nat.lt_of_lt_of_le hx (Nat.pow_le_pow_right (by omega) hn)
/-! ### the reference -/
end Go.Proofs.Ythpgiimaadohcaa.Zv

/- May two vertices be joined: the reference's and the program's tests are one. -/
namespace Go.Proofs.Ythpgiimaadohcaa.Zv
open Go
variable {nro : Nat}

theorem has_spec (n v w : Nat) (s : Value) (rows : List Int) (h : VH) (hs : Sli h s rows) (R : Rok n rows) (hv : v < n) (hw : w < n) : vcall F nro k_spec_l01Has [gv n s, .int .i64 v, .int .i64 w] h = some (.bool (rbit rows v w), h) := by
  obtain ⟨r1, r2⟩ := R.row v hv
  have r3 := le62 R.le r2
  have hl := R.len
  have hle := R.le
  have := c_spec_l01Has' (nro := nro) n v w s rows h hs (by omega) (by omega) (by omega) (by omega) (by rw [Int.toNat_natCast]; exact r1) (by rw [Int.toNat_natCast]; omega)
  rw [Int.toNat_natCast, Int.toNat_natCast] at this
  exact this
theorem has_impl (n v w : Nat) (s : Value) (rows : List Int) (h : VH) (hs : Sli h s rows) (R : Rok n rows) (hv : v < n) (hw : w < n) : vcall F nro k_impl_Graph_has [gv n s, .int .i64 v, .int .i64 w] h = some (.bool (rbit rows v w), h) := by
  obtain ⟨r1, r2⟩ := R.row v hv
  have r3 := le62 R.le r2
  have hl := R.len
  have hle := R.le
  have := c_impl_Graph_has (nro := nro) n v w s rows h hs (by omega) (by omega) (by omega) (by omega) (by rw [Int.toNat_natCast]; exact r1) (by rw [Int.toNat_natCast]; omega)
  rw [Int.toNat_natCast, Int.toNat_natCast] at this
  exact this

end Go.Proofs.Ythpgiimaadohcaa.Zv

/- Graphs that are filled with all edges that may be. -/
namespace Go.Proofs.Ythpgiimaadohcaa.Zv
open Go
variable {nro : Nat}

theorem Rok.isAdj {n : Nat} {rows : List Int} (R : Rok n rows) : IsAdj n rows (fun v w => rbit rows v w = true) := by
  refine ⟨R.len, fun v hv => ?_⟩
  obtain ⟨r1, r2⟩ := R.row v hv
  have := le62 R.le r2
  exact ⟨r1, by omega, fun w => Iff.rfl⟩
theorem bit_lt {x n j : Nat} (h : x < 2 ^ n) (hb : x.testBit j = true) : j < n := by
  rcases Nat.lt_or_ge j n with h1 | h1
  · exact h1
  · rw [Nat.testBit_lt_two_pow (Nat.lt_of_lt_of_le h (Nat.pow_le_pow_right (by omega) h1))] at hb
    cases hb
theorem Rok.lt {n : Nat} {rows : List Int} (R : Rok n rows) {v w : Nat} (hv : v < n) (h : rbit rows v w = true) : w < n := bit_lt (R.row v hv).2 h
theorem Rok.of {n : Nat} {rows : List Int} {adj : Nat → Nat → Prop} (h : IsAdj n rows adj) (hn : n ≤ 62) (hlt : ∀ v w, v < n → adj v w → w < n) : Rok n rows := by
  refine ⟨h.1, hn, fun v hv => ?_⟩
  obtain ⟨h1, _, h3⟩ := h.2 v hv
  refine ⟨h1, Nat.lt_pow_two_of_testBit _ fun w hw => ?_⟩
  have : ¬ rbit rows v w = true := fun hb => by
    have := hlt v w hv ((h3 w).mp hb)
    omega
  unfold rbit at this
  simpa using this
theorem Rok.put2 {n : Nat} {rows : List Int} (R : Rok n rows) {v w : Nat} (hv : v < n) (hw : w < n) : Rok n (put2 rows v w) := by
  have := R.isAdj.put2 (a := (v : Int)) (b := (w : Int)) (by omega) (by omega) (by omega) (by omega) R.le
  refine Rok.of this R.le fun x y hx hxy => ?_
  rcases hxy with h | ⟨_, h⟩ | ⟨_, h⟩
  · exact R.lt hx h
  · omega
  · omega
theorem Rok.zero {n : Nat} (hn : n ≤ 62) : Rok n (List.replicate n 0) := Rok.of (IsAdj.zero n) hn fun _ _ _ h => h.elim
theorem GV.rok {n : Nat} {rows : List Int} (g : GV n rows) : Rok n rows := by
  have hl := g.len
  have hi := g.hi
  refine ⟨by omega, by omega, fun v hv => ?_⟩
  obtain ⟨h1, h2, _⟩ := g.row v (by omega)
  refine ⟨h1, ?_⟩
  rw [Int.toNat_natCast] at h2
  have e : ((2 ^ n : Nat) : Int) = (2 : Int) ^ n := by simp
  omega

end Go.Proofs.Ythpgiimaadohcaa.Zv

/- Levels are distances: the shortest walks. -/
namespace Go.Proofs.Ythpgiimaadohcaa.Zv
open Go

/-- There is a walk of k steps from a to b. -/
def Wk (rows : List Int) : Nat → Nat → Nat → Prop
  | 0, a, b => a = b
  | k + 1, a, b => ∃ c, Wk rows k a c ∧ rbit rows c b = true

theorem Wk.front {rows : List Int} : ∀ (k a b : Nat), Wk rows (k + 1) a b ↔ ∃ c, rbit rows a c = true ∧ Wk rows k c b
  | 0, a, b => by
    constructor
    · rintro ⟨c, rfl, h⟩; exact ⟨b, h, rfl⟩
    · rintro ⟨c, h, rfl⟩; exact ⟨a, rfl, h⟩
  | k + 1, a, b => by
    constructor
    · rintro ⟨c, h1, h2⟩
      obtain ⟨d, h3, h4⟩ := (Wk.front k a c).mp h1
      exact ⟨d, h3, c, h4, h2⟩
    · rintro ⟨d, h3, c, h4, h2⟩
      exact ⟨c, (Wk.front k a c).mpr ⟨d, h3, h4⟩, h2⟩
theorem Wk.symm {rows : List Int} (hs : ∀ v w, rbit rows v w = true → rbit rows w v = true) : ∀ (k a b : Nat), Wk rows k a b → Wk rows k b a
  | 0, _, _, h => Eq.symm h
  | k + 1, a, b, h => by
    obtain ⟨c, h1, h2⟩ := h
    exact (Wk.front k b a).mpr ⟨c, hs _ _ h2, Wk.symm hs k a c h1⟩
theorem Wk.add {rows : List Int} (d a : Nat) : ∀ (m b : Nat), Wk rows (d + m) a b → ∃ c, Wk rows d a c ∧ Wk rows m c b
  | 0, b, h => ⟨b, h, rfl⟩
  | m + 1, b, h => by
    obtain ⟨c, h1, h2⟩ := h
    obtain ⟨e, h3, h4⟩ := Wk.add d a m c h1
    exact ⟨e, h3, c, h4, h2⟩
theorem Wk.comp {rows : List Int} {k a c : Nat} (h : Wk rows k a c) : ∀ (m b : Nat), Wk rows m c b → Wk rows (k + m) a b
  | 0, b, h2 => by cases h2; exact h
  | m + 1, b, h2 => by
    obtain ⟨e, h3, h4⟩ := h2
    exact ⟨e, Wk.comp h m e h3, h4⟩

/-- The shortest walk from a to b has d steps. -/
def Dst (rows : List Int) (d a b : Nat) : Prop := Wk rows d a b ∧ ∀ e, e < d → ¬ Wk rows e a b
theorem Dst.unique {rows : List Int} {d d' a b : Nat} (h : Dst rows d a b) (h' : Dst rows d' a b) : d = d' := by
  rcases Nat.lt_trichotomy d d' with h1 | h1 | h1
  · exact absurd h.1 (h'.2 d h1)
  · exact h1
  · exact absurd h'.1 (h.2 d' h1)
theorem Wk.dst {rows : List Int} {a b : Nat} : ∀ (k : Nat), Wk rows k a b → ∃ d, d ≤ k ∧ Dst rows d a b := by
  intro k
  induction k using Nat.strongRecOn with
  | ind k ih =>
    intro h
    by_cases h1 : ∃ e, e < k ∧ Wk rows e a b
    · obtain ⟨e, h2, h3⟩ := h1
      obtain ⟨d, h4, h5⟩ := ih e h2 h3
      exact ⟨d, by omega, h5⟩
    · exact ⟨k, Nat.le_refl _, h, fun e he hw => h1 ⟨e, he, hw⟩⟩
theorem Dst.before {rows : List Int} {d m a b : Nat} (h : Dst rows (d + m) a b) : ∃ c, Dst rows d a c := by
  obtain ⟨c, h1, h2⟩ := Wk.add d a m b h.1
  refine ⟨c, h1, fun e he hw => ?_⟩
  exact h.2 (e + m) (by omega) (hw.comp m b h2)

/-- What a number and its sign tell. -/
def IsDist (rows : List Int) (a b : Nat) (x : Int) : Prop := (x = -1 ∧ ∀ e, ¬ Wk rows e a b) ∨ ∃ d : Nat, x = d ∧ Dst rows d a b
theorem IsDist.unique {rows rows' : List Int} {a b a' b' : Nat} {x x' : Int} (h : IsDist rows a b x) (h' : IsDist rows' a' b' x') (e : ∀ k, Wk rows k a b ↔ Wk rows' k a' b') : x = x' := by
  rcases h with ⟨rfl, h⟩ | ⟨d, rfl, h⟩ <;> rcases h' with ⟨rfl, h'⟩ | ⟨d', rfl, h'⟩
  · rfl
  · exact absurd ((e d').mpr h'.1) (h d')
  · exact absurd ((e d).mp h.1) (h' d)
  · have : Dst rows d' a b := ⟨(e d').mpr h'.1, fun k hk hw => h'.2 k hk ((e k).mp hw)⟩
    rw [h.unique this]

end Go.Proofs.Ythpgiimaadohcaa.Zv

/- Girths: the least length of a cycle with an edge, at a vertex, of all. -/
namespace Go.Proofs.Ythpgiimaadohcaa.Zv
open Go
variable {nro : Nat}

theorem rbit_lt {n : Nat} {rows : List Int} (R : Rok n rows) {v w : Nat} (h : rbit rows v w = true) : v < n ∧ w < n := by
  have hv : v < n := by
    rcases Nat.lt_or_ge v n with h1 | h1
    · exact h1
    · have hl := R.len
      unfold rbit at h
      rw [List.getD_eq_getElem?_getD, List.getElem?_eq_none (by omega)] at h
      simp at h
  exact ⟨hv, R.lt hv h⟩
theorem rbit_of_not {rows : List Int} {v w : Nat} (h : ¬ rbit rows v w = true) : rbit rows v w = false := by simpa using h

/-- A graph without one of its edges. -/
theorem cut_rok {n : Nat} {rows : List Int} (g : GV n rows) {a b : Nat} (ha : a < n) (hb : b < n) (hab : rbit rows a b = true) :
    Rok n (cut2 rows a b) ∧ ∀ v w, rbit (cut2 rows a b) v w = true ↔ rbit rows v w = true ∧ ¬ ((v = a ∧ w = b) ∨ (v = b ∧ w = a)) := by
  have R := g.rok
  have hl := g.len
  have hba : rbit rows b a = true := by rw [g.sym b a (by omega) (by omega)]; exact hab
  have hne : (a : Int) ≠ b := by
    intro e
    have e : a = b := by omega
    subst e
    obtain ⟨_, _, h⟩ := g.row a (by omega)
    rw [h] at hab
    cases hab
  have := R.isAdj.cut2 (a := (a : Int)) (b := (b : Int)) (by omega) (by omega) (by omega) (by omega) hne (by simpa using hab) (by simpa using hba)
  simp only [Int.toNat_natCast] at this
  have R2 : Rok n (cut2 rows a b) := Rok.of this R.le fun v w hv h => R.lt hv h.1
  refine ⟨R2, fun v w => ?_⟩
  by_cases hv : v < n
  · exact (this.2 v hv).2.2 w
  · constructor
    · intro h; exact absurd (rbit_lt R2 h).1 hv
    · intro h; exact absurd (rbit_lt R h.1).1 hv

theorem GV.sym' {n : Nat} {rows : List Int} (g : GV n rows) {v w : Nat} (h : rbit rows v w = true) : rbit rows w v = true := by
  have hl := g.len
  obtain ⟨h1, h2⟩ := rbit_lt g.rok h
  rw [g.sym w v (by omega) (by omega)]
  exact h
theorem GV.ne {n : Nat} {rows : List Int} (g : GV n rows) {v w : Nat} (h : rbit rows v w = true) : v ≠ w := by
  rintro rfl
  have hl := g.len
  obtain ⟨h1, _⟩ := rbit_lt g.rok h
  obtain ⟨_, _, h2⟩ := g.row v (by omega)
  rw [h2] at h
  cases h
/-! ### the least of lengths -/
end Go.Proofs.Ythpgiimaadohcaa.Zv

/- The reference's search for distances: a queue. -/
namespace Go.Proofs.Ythpgiimaadohcaa.Zv
open Go
variable {nro : Nat}

/-! ### the search, without memory -/
/-- How many vertices are not met. -/
def unm (g : Nat → Int) : Nat → Nat
  | 0 => 0
  | k + 1 => unm g k + if g k < 0 then 1 else 0
theorem unm_upd {g : Nat → Int} {y : Nat} {e : Int} (hy : g y < 0) (he : 0 ≤ e) : ∀ {n : Nat}, y < n → unm (upd g y e) n + 1 = unm g n
  | 0, h => by omega
  | n + 1, h => by
    rw [unm, unm]
    by_cases c : y = n
    · subst c
      have : ∀ m, m ≤ y → unm (upd g y e) m = unm g m := by
        intro m
        induction m with
        | zero => intro _; rfl
        | succ m ih => intro hm; rw [unm, unm, ih (by omega), upd_ne (by omega)]
      rw [this y (Nat.le_refl _), upd_same, if_pos hy, if_neg (by omega)]
    · rw [← unm_upd hy he (n := n) (by omega), upd_ne (g := g) (u := y) (j := n) (x := e) (fun e => c e.symm)]
      omega
theorem unm_const : ∀ n, unm (fun _ => -1) n = n
  | 0 => rfl
  | n + 1 => by rw [unm, unm_const n]; rfl

/-- What holds all the while. -/
structure BI (n : Nat) (s : (Nat → Int) × List Int) : Prop where
  q : ∀ j, j < s.2.length → 0 ≤ s.2.getD j 0 ∧ s.2.getD j 0 < n ∧ 0 ≤ s.1 (s.2.getD j 0).toNat
  cnt : s.2.length + unm s.1 n = n
  lo : ∀ w, -1 ≤ s.1 w
  hi : ∀ w, s.1 w < s.2.length
theorem BI.len {n : Nat} {s : (Nat → Int) × List Int} (h : BI n s) : s.2.length ≤ n := by have := h.cnt; omega
/-! ### the code -/
/-- The start. -/
def b0 (v : Nat) : (Nat → Int) × List Int := (upd (fun _ => -1) v 0, [(v : Int)])
theorem BI.b0 {n v : Nat} (hv : v < n) : BI n (b0 v) := by
  refine ⟨fun j hj => ?_, ?_, fun w => ?_, fun w => ?_⟩
  · have : j = 0 := by simpa [Zv.b0] using hj
    subst this
    simp [Zv.b0, upd, hv]
  · have h1 := unm_upd (g := fun _ => -1) (y := v) (e := 0) (by decide) (by omega) hv
    rw [unm_const] at h1
    simp only [Zv.b0, List.length_singleton]
    omega
  · simp only [Zv.b0, upd]; split <;> omega
  · simp only [Zv.b0, upd, List.length_singleton]; split <;> omega
end Go.Proofs.Ythpgiimaadohcaa.Zv

/- The reference's distances are the program's. -/
namespace Go.Proofs.Ythpgiimaadohcaa.Zv
open Go
variable {nro : Nat}

/-- What holds of a search up to place i of the queue. -/
structure CI (rows : List Int) (n v i : Nat) (s : (Nat → Int) × List Int) : Prop where
  vis : ∀ w, w < n → 0 ≤ s.1 w → ∃ j, j < s.2.length ∧ s.2.getD j 0 = w
  sorted : ∀ j k, j ≤ k → k < s.2.length → s.1 (s.2.getD j 0).toNat ≤ s.1 (s.2.getD k 0).toNat
  walk : ∀ w, 0 ≤ s.1 w → Wk rows (s.1 w).toNat v w
  closed : ∀ j, j < i → j < s.2.length → ∀ y, rbit rows (s.2.getD j 0).toNat y = true → 0 ≤ s.1 y ∧ s.1 y ≤ s.1 (s.2.getD j 0).toNat + 1
  bound : i < s.2.length → ∀ k, k < s.2.length → s.1 (s.2.getD k 0).toNat ≤ s.1 (s.2.getD i 0).toNat + 1
  start : s.1 v = 0

end Go.Proofs.Ythpgiimaadohcaa.Zv

/- A regular graph without short cycles has many vertices. -/
namespace Go.Proofs.Ythpgiimaadohcaa.Zv
open Go
open Classical

/-- Reached in at most so many steps. -/
def Rch (rows : List Int) (S : Nat → Prop) : Nat → Nat → Prop
  | 0, x => S x
  | i + 1, x => Rch rows S i x ∨ ∃ y, Rch rows S i y ∧ rbit rows y x = true
section
variable {n : Nat} {rows : List Int} (g : GV n rows)
include g

theorem cut_iff {p q : Nat} (h : rbit rows p q = true) (v w : Nat) : rbit (cut2 rows p q) v w = true ↔ rbit rows v w = true ∧ ¬ ((v = p ∧ w = q) ∨ (v = q ∧ w = p)) := by
  obtain ⟨h1, h2⟩ := rbit_lt g.rok h
  exact (cut_rok g h1 h2 h).2 v w
theorem cut_sym {p q : Nat} (h : rbit rows p q = true) (v w : Nat) (h2 : rbit (cut2 rows p q) v w = true) : rbit (cut2 rows p q) w v = true := by
  rw [cut_iff g h] at h2 ⊢
  refine ⟨g.sym' h2.1, fun h3 => h2.2 ?_⟩
  rcases h3 with ⟨a, b⟩ | ⟨a, b⟩
  · exact .inr ⟨b, a⟩
  · exact .inl ⟨b, a⟩

omit g in
theorem Rch.zero {rows : List Int} {S : Nat → Prop} {x : Nat} (h : S x) : ∀ j, Rch rows S j x
  | 0 => h
  | j + 1 => .inl (Rch.zero h j)

end

/-! ### counts -/
end Go.Proofs.Ythpgiimaadohcaa.Zv

/- Lists of lists in new memory. -/
namespace Go.Proofs.Ythpgiimaadohcaa.Zv
open Go
variable {nro : Nat}

/-- A list of lists in new memory from n on: each inner list in an object of its own. -/
structure EI (n : Nat) (vs : List Value) (G : VH) (ess : List (List Int)) : Prop where
  len : vs.length = ess.length
  at_ : ∀ i : Nat, i < ess.length → ∃ k, vs[i]? = some (.slice (some ⟨n + k, 0, none⟩) (ess.getD i []).length (ess.getD i []).length) ∧ G[k]? = some ⟨1, ints (ess.getD i [])⟩
  nd : (vs.flatMap arefs).Nodup

theorem EI.nil (n : Nat) (G : VH) : EI n [] G [] := ⟨rfl, fun i hi => by simp at hi, by simp⟩
theorem EI.more {n : Nat} {vs : List Value} {G : VH} {ess : List (List Int)} (e : EI n vs G ess) (L : VH) : EI n vs (G ++ L) ess := by
  refine ⟨e.len, fun i hi => ?_, e.nd⟩
  obtain ⟨k, h1, h2⟩ := e.at_ i hi
  exact ⟨k, h1, by rw [List.getElem?_append_left (List.getElem?_eq_some_iff.mp h2).1]; exact h2⟩
theorem EI.lt {n : Nat} {vs : List Value} {G : VH} {ess : List (List Int)} (e : EI n vs G ess) {r : Nat} (hr : r ∈ vs.flatMap arefs) : n ≤ r ∧ r < n + G.length := by
  obtain ⟨v, hv, hr⟩ := List.mem_flatMap.mp hr
  obtain ⟨i, hi, rfl⟩ := List.mem_iff_getElem.mp hv
  have hl := e.len
  obtain ⟨k, h1, h2⟩ := e.at_ i (by omega)
  have h3 := (List.getElem?_eq_some_iff.mp h1).2
  have h4 := (List.getElem?_eq_some_iff.mp h2).1
  rw [h3] at hr
  simp [arefs] at hr
  omega
theorem EI.push {n : Nat} {vs : List Value} {G : VH} {ess : List (List Int)} (e : EI n vs G ess) (xs : List Int) (L : VH) : EI n (vs ++ [.slice (some ⟨n + G.length, 0, none⟩) xs.length xs.length]) (G ++ ⟨1, ints xs⟩ :: L) (ess ++ [xs]) := by
  have hl := e.len
  have e2 := e.more (⟨1, ints xs⟩ :: L)
  refine ⟨by simp [hl], fun i hi => ?_, ?_⟩
  · by_cases h : i < ess.length
    · obtain ⟨k', h1, h2⟩ := e2.at_ i h
      have e1 : (ess ++ [xs]).getD i [] = ess.getD i [] := by simp only [List.getD_eq_getElem?_getD]; rw [List.getElem?_append_left h]
      rw [e1]
      exact ⟨k', by rw [List.getElem?_append_left (by omega)]; exact h1, h2⟩
    · have hi2 : i = ess.length := by simp at hi; omega
      subst hi2
      have e1 : (ess ++ [xs]).getD ess.length [] = xs := by simp [List.getD_eq_getElem?_getD]
      rw [e1]
      exact ⟨G.length, by rw [← hl]; simp, by simp⟩
  · rw [List.flatMap_append]
    refine List.nodup_append.mpr ⟨e.nd, by simp [arefs], fun a ha b hb => ?_⟩
    have := (e.lt ha).2
    simp [arefs] at hb
    omega

/-- A list of lists that a call has handed out: in memory from n on. -/
def SL2 (n : Nat) (M : VH) (v : Value) (ess : List (List Int)) : Prop := ∃ b vs, v = .slice (some ⟨n + b, 0, none⟩) ess.length ess.length ∧ M[b]? = some ⟨1, vs⟩ ∧ EI n vs M ess

/-- A function's end: a list of lists is handed out, perhaps beside something flat. -/
theorem EI.fin {h pre : VH} {vs : List Value} {G : VH} {ess : List (List Int)} (e : EI (h.length + pre.length + 1) vs G ess) (w : Value → Value) (hw1 : ∀ a n t, trefs (w (.slice (some a) n t)) = [a.block]) (hw2 : ∀ r a n t, tren r (w (.slice (some a) n t)) = w (.slice (some { a with block := r a.block }) n t)) :
    ∃ v M, kclean h [w (.slice (some ⟨h.length + pre.length, 0, none⟩) vs.length vs.length)] (h ++ (pre ++ ⟨1, vs⟩ :: G)) = ([w v], h ++ M) ∧ SL2 h.length M v ess := by
  have hl2 := e.len
  have hk : keepL h.length [w (.slice (some ⟨h.length + pre.length, 0, none⟩) vs.length vs.length)] = [h.length + pre.length] := by
    unfold keepL
    simp [hw1, dedup]
  have hget : (h ++ (pre ++ ⟨1, vs⟩ :: G))[h.length + pre.length]? = some ⟨1, vs⟩ := by rw [hgetk]; simp
  by_cases hf : flatL h.length [h.length + pre.length] (h ++ (pre ++ ⟨1, vs⟩ :: G))
  · have hvs : vs = [] := by
      obtain ⟨o, ho, hr⟩ := hf (h.length + pre.length) (by simp)
      have : o = ⟨1, vs⟩ := by rw [hget] at ho; simpa using ho.symm
      subst this
      cases hv : ess with
      | nil => rw [hv] at hl2; exact List.length_eq_zero_iff.mp hl2
      | cons x r =>
        exfalso
        obtain ⟨j, h1, _⟩ := e.at_ 0 (by rw [hv]; simp)
        have := hr (h.length + pre.length + 1 + j) (by
          unfold orefs
          refine List.mem_flatMap.mpr ⟨_, List.mem_of_getElem? h1, ?_⟩
          simp [crefs, arefs])
        omega
    subst hvs
    have hes : ess = [] := List.length_eq_zero_iff.mp hl2.symm
    rw [hes]
    refine ⟨.slice (some ⟨h.length + 0, 0, none⟩) 0 0, [⟨1, []⟩], ?_, 0, [], by simp, rfl, EI.nil _ _⟩
    rw [cleanup_keep hk hf]
    simp [hw2, renOf_one, hget]
  · refine ⟨.slice (some ⟨h.length + pre.length, 0, none⟩) vs.length vs.length, pre ++ ⟨1, vs⟩ :: G, ?_, pre.length, vs, by rw [hl2], by simp, hl2, fun i hi => ?_, e.nd⟩
    · unfold kclean cleanup
      rw [hk, if_neg (fun h => hf h.2)]
    · obtain ⟨j, h1, h2⟩ := e.at_ i hi
      exact ⟨pre.length + 1 + j, by rw [h1]; congr 4; omega, by
        rw [List.getElem?_append_right (by omega), show pre.length + 1 + j - pre.length = j + 1 by omega]
        exact h2⟩
/-! ### lists of lists that are read -/
/-- What a list of lists reads as. -/
def LL (h : VH) (v : Value) (ess : List (List Int)) : Prop := ∃ vs, vs.length = ess.length ∧ Sl h v vs ∧ ∀ (i : Nat) (hi : i < vs.length), Sli h vs[i] (ess.getD i [])
theorem LL.app {h : VH} {v : Value} {ess : List (List Int)} (hl : LL h v ess) (L : VH) : LL (h ++ L) v ess := by
  obtain ⟨vs, h1, h2, h3⟩ := hl
  exact ⟨vs, h1, h2.app L, fun i hi => (h3 i hi).app L⟩
theorem LL.nil (h : VH) : LL h (.slice none 0 0) [] := ⟨[], rfl, by simp [Sl, vsrc], fun i hi => by simp at hi⟩
theorem LL.old {h : VH} {v : Value} {ess : List (List Int)} (hl : LL h v ess) : Old h.length v := by
  obtain ⟨vs, h1, h2, h3⟩ := hl
  exact h2.old
theorem SL2.read {h M L : VH} {q : Value} {es : List (List Int)} (hs : SL2 h.length M q es) : ∃ vs, vs.length = es.length ∧ Sl (h ++ M ++ L) q vs ∧ ∀ (i : Nat) (hi : i < vs.length), Sli (h ++ M ++ L) vs[i] (es.getD i []) := by
  obtain ⟨b, vs, rfl, h1, h2⟩ := hs
  have hget : ∀ k, (h ++ M ++ L)[h.length + k]? = (M ++ L)[k]? := fun k => by
    rw [List.append_assoc, List.getElem?_append_right (by simp), Nat.add_sub_cancel_left]
  refine ⟨vs, h2.len, ?_, fun i hi => ?_⟩
  · have h3 : (M ++ L)[b]? = some ⟨1, vs⟩ := by rw [List.getElem?_append_left (List.getElem?_eq_some_iff.mp h1).1]; exact h1
    unfold Sl
    rw [vsrc_ref]
    simp only [hget, h3, h2.len]
    simp [h2.len]
    rw [List.take_of_length_le (by rw [h2.len]; exact Nat.le_refl _)]
  · have hi' : i < es.length := by rw [← h2.len]; exact hi
    obtain ⟨k, k1, k2⟩ := h2.at_ i hi'
    have e : vs[i] = .slice (some ⟨h.length + k, 0, none⟩) (es.getD i []).length (es.getD i []).length := (List.getElem?_eq_some_iff.mp k1).2
    rw [e]
    refine sli_at ?_
    rw [hget, List.getElem?_append_left (List.getElem?_eq_some_iff.mp k2).1]
    exact k2

/-! ### marks -/
def tot : List (List Int) → Nat
  | [] => 0
  | e :: es => e.length + tot es
theorem EI.set {n : Nat} {vs : List Value} {G : VH} {A : List (List Int)} {e : List Int} {B : List (List Int)} (h : EI n vs G (A ++ e :: B)) (xs : List Int) (hx : xs.length = e.length) : ∃ k, vs[A.length]? = some (.slice (some ⟨n + k, 0, none⟩) e.length e.length) ∧ G[k]? = some ⟨1, ints e⟩ ∧ EI n vs (G.set k ⟨1, ints xs⟩) (A ++ xs :: B) := by
  have hlt : A.length < (A ++ e :: B).length := by simp
  have eA : (A ++ e :: B).getD A.length [] = e := by simp [List.getD_eq_getElem?_getD]
  obtain ⟨k, h1, h2⟩ := h.at_ A.length hlt
  rw [eA] at h1 h2
  have hk := (List.getElem?_eq_some_iff.mp h2).1
  refine ⟨k, h1, h2, by rw [h.len]; simp, fun i hi => ?_, h.nd⟩
  by_cases e1 : i = A.length
  · subst e1
    have e2 : (A ++ xs :: B).getD A.length [] = xs := by simp [List.getD_eq_getElem?_getD]
    rw [e2, hx]
    exact ⟨k, h1, by simp [hk]⟩
  · have e3 : (A ++ xs :: B).getD i [] = (A ++ e :: B).getD i [] := by
      simp only [List.getD_eq_getElem?_getD, List.getElem?_append]
      split
      · rfl
      · have : i - A.length = (i - A.length - 1) + 1 := by omega
        rw [this]
        rfl
    have hi' : i < (A ++ e :: B).length := by simpa using hi
    obtain ⟨k', h3, h4⟩ := h.at_ i hi'
    rw [e3]
    refine ⟨k', h3, ?_⟩
    rw [List.getElem?_set, if_neg]
    · exact h4
    · intro e4
      subst e4
      -- two places with one object
      have hnd := h.nd
      have l1 := (List.getElem?_eq_some_iff.mp h1)
      have l3 := (List.getElem?_eq_some_iff.mp h3)
      obtain ⟨p1, q1⟩ := l1
      obtain ⟨p3, q3⟩ := l3
      have key : ∀ (us : List Value), (us.flatMap arefs).Nodup → ∀ i j (hi : i < us.length) (hj : j < us.length), i < j → ∀ r, r ∈ arefs us[i] → r ∉ arefs us[j] := by
        intro us
        induction us with
        | nil => intro _ i j hi; simp at hi
        | cons u us ih =>
          intro hn i j hi hj hij r hr hr2
          rw [List.flatMap_cons] at hn
          obtain ⟨_, n2, n3⟩ := List.nodup_append.mp hn
          cases j with
          | zero => omega
          | succ j =>
            cases i with
            | zero =>
              refine n3 r (by simpa using hr) r (List.mem_flatMap.mpr ⟨_, List.getElem_mem (by simpa using hj), by simpa using hr2⟩) rfl
            | succ i => exact ih n2 i j (by simpa using hi) (by simpa using hj) (by omega) r (by simpa using hr) (by simpa using hr2)
      rcases Nat.lt_or_gt_of_ne e1 with hlt2 | hgt
      · exact key vs hnd i A.length p3 p1 hlt2 (n + k) (by rw [q3]; simp [arefs]) (by rw [q1]; simp [arefs])
      · exact key vs hnd A.length i p1 p3 hgt (n + k) (by rw [q1]; simp [arefs]) (by rw [q3]; simp [arefs])

end Go.Proofs.Ythpgiimaadohcaa.Zv

/- The search for regular graphs: both searches are one. -/
namespace Go.Proofs.Ythpgiimaadohcaa.Zv
open Go
variable {nro : Nat}

theorem GV.put2 {n : Nat} {r : List Int} (g : GV n r) {v w : Nat} (hv : v < n) (hw : w < n) (hne : v ≠ w) : GV n (put2 r v w) := by
  have hlo := g.lo
  have R := g.rok
  have h := R.isAdj.put2 (a := (v : Int)) (b := (w : Int)) (by omega) (by omega) (by omega) (by omega) R.le
  simp only [Int.toNat_natCast] at h
  have R2 := R.put2 hv hw
  refine ⟨by omega, g.hi, by rw [h.1], fun x hx => ?_, fun x y hx hy => ?_⟩
  · rw [h.1] at hx
    obtain ⟨r1, r2⟩ := R2.row x hx
    refine ⟨r1, ?_, ?_⟩
    · have e : ((2 ^ n : Nat) : Int) = (2 : Int) ^ ((n : Int).toNat) := by simp
      rw [← e]; omega
    · have := (h.2 x hx).2.2 x
      cases hb : rbit (Zv.put2 r v w) x x
      · rfl
      · rcases this.mp hb with h1 | ⟨h1, h2⟩ | ⟨h1, h2⟩
        · exact absurd rfl (g.ne h1)
        · omega
        · omega
  · rw [h.1] at hx hy
    have a := (h.2 x hx).2.2 y
    have b := (h.2 y hy).2.2 x
    rw [Bool.eq_iff_iff, a, b]
    constructor
    · rintro (h1 | ⟨h1, h2⟩ | ⟨h1, h2⟩)
      · exact .inl (g.sym' h1)
      · exact .inr (.inr ⟨h2, h1⟩)
      · exact .inr (.inl ⟨h2, h1⟩)
    · rintro (h1 | ⟨h1, h2⟩ | ⟨h1, h2⟩)
      · exact .inl (g.sym' h1)
      · exact .inr (.inr ⟨h2, h1⟩)
      · exact .inr (.inl ⟨h2, h1⟩)
/-- What the search leaves behind. -/
def lefto (r : List Int) (o : Option (List Int)) : List Int := o.getD r
@[simp] theorem lefto_some (r r' : List Int) : lefto r (some r') = r' := rfl
@[simp] theorem lefto_none (r : List Int) : lefto r none = r := rfl

end Go.Proofs.Ythpgiimaadohcaa.Zv

/- What the search finds is regular and has no short cycle. -/
namespace Go.Proofs.Ythpgiimaadohcaa.Zv
open Go

section
variable {n : Nat} {r : List Int} (g : GV n r)
include g
omit g in
theorem Wk.mono {rows rows' : List Int} (h : ∀ x y, rbit rows x y = true → rbit rows' x y = true) : ∀ {k a b : Nat}, Wk rows k a b → Wk rows' k a b
  | 0, _, _, e => e
  | _ + 1, _, _, ⟨c, h1, h2⟩ => ⟨c, Wk.mono h h1, h _ _ h2⟩

end

end Go.Proofs.Ythpgiimaadohcaa.Zv

/- The law of ExchangeEdges. -/
namespace Go.Proofs.Ythpgiimaadohcaa.Zv
open Go
variable {nro : Nat}

theorem GV.cut2 {n : Nat} {rows : List Int} (g : GV n rows) {a b : Nat} (hab : rbit rows a b = true) : GV n (cut2 rows a b) := by
  obtain ⟨ha, hb⟩ := rbit_lt g.rok hab
  obtain ⟨R, hi⟩ := cut_rok g ha hb hab
  have hlo := g.lo
  have hl := R.len
  refine ⟨by omega, g.hi, by omega, fun v hv => ?_, fun v w hv hw => ?_⟩
  · obtain ⟨r1, r2⟩ := R.row v (by omega)
    refine ⟨r1, ?_, ?_⟩
    · have e : ((2 ^ n : Nat) : Int) = (2 : Int) ^ ((n : Int).toNat) := by simp
      rw [← e]; omega
    · cases h : rbit (Zv.cut2 rows a b) v v
      · rfl
      · exact absurd rfl (g.ne ((hi v v).mp h).1)
  · rw [Bool.eq_iff_iff]
    exact ⟨cut_sym g hab v w, cut_sym g hab w v⟩

open Classical in
noncomputable def exchAns (n : Int) (rows : List Int) (a b c d : Int) : GAns :=
  if vtxCode n rows [a, b, c, d] ≠ 0 then .inr (vtxCode n rows [a, b, c, d]) else if ¬ [a, b, c, d].Nodup then .inr 2
  else if rbit rows a.toNat b.toNat = true ∧ rbit rows c.toNat d.toNat = true ∧ rbit rows a.toNat c.toNat = false ∧ rbit rows b.toNat d.toNat = false then .inl (n, put2 (put2 (cut2 (cut2 rows a b) c d) a c) b d) else .inr 5

theorem vtx4 {n : Int} {rows : List Int} {a b c d : Int} (h : vtxCode n rows [a, b, c, d] = 0) : GV n rows ∧ (0 ≤ a ∧ a < n) ∧ (0 ≤ b ∧ b < n) ∧ (0 ≤ c ∧ c < n) ∧ (0 ≤ d ∧ d < n) := by
  unfold vtxCode at h
  split at h
  · rename_i g
    split at h
    · cases h
    · rename_i hb
      have one : ∀ j : Nat, j < 4 → 0 ≤ [a, b, c, d].getD j 0 ∧ [a, b, c, d].getD j 0 < n := fun j hj => by
        apply Classical.byContradiction
        intro h2
        exact hb ⟨j, by omega, by simp; omega, by simpa using h2⟩
      exact ⟨g, by simpa using one 0 (by omega), by simpa using one 1 (by omega), by simpa using one 2 (by omega), by simpa using one 3 (by omega)⟩
  · cases h

/-- The four edges, one after the other. -/
theorem exch_steps {n : Nat} {rows : List Int} (g : GV n rows) {a b c d : Nat} (hnd : [(a : Int), b, c, d].Nodup) (h1 : rbit rows a b = true) (h2 : rbit rows c d = true) :
    GV n (cut2 rows a b) ∧ rbit (cut2 rows a b) c d = true ∧ GV n (cut2 (cut2 rows a b) c d) := by
  have g1 := g.cut2 h1
  have h3 : rbit (cut2 rows a b) c d = true := by
    rw [cut_iff g h1]
    refine ⟨h2, ?_⟩
    simp at hnd
    omega
  exact ⟨g1, h3, g1.cut2 h3⟩

theorem c_spec_ExchangeEdges (n a b c d : Int) (s : Value) (rows : List Int) (h : VH) (hs : Sli h s rows) (hn : nro ≤ h.length) :
    vcall F nro k_spec_ExchangeEdges [gv n s, .int .i64 a, .int .i64 b, .int .i64 c, .int .i64 d] h = some (gres h (exchAns n rows a b c d)) := by
  refine v_spec_ExchangeEdges (by simp [i_spec_ExchangeEdges]) ?_
  rw [fbody_eq]
  have hn' := fun k => Nat.le_trans hn (Nat.le_add_right h.length k)
  have hso := fun k => hs.oldCk (k := k)
  obtain ⟨L, hL⟩ : ∃ L : VH, L = [⟨0, [.int .i64 n, s]⟩, ⟨0, [.int .i64 0, .slice none 0 0]⟩, ⟨1, [.int .i64 a, .int .i64 b, .int .i64 c, .int .i64 d]⟩] := ⟨_, rfl⟩
  have hLl : L.length = 3 := by rw [hL]; rfl
  have hc := c_spec_l01Vertices (nro := nro) n s (.slice (some ⟨h.length + 2, 0, none⟩) 4 4) rows [a, b, c, d] (h ++ L) (hs.app _) (sli_at (xs := [a, b, c, d]) (by rw [hL]; simp [ints])) (by simp)
  unfold exchAns
  by_cases hz : vtxCode n rows [a, b, c, d] = 0
  · rw [if_neg (fun e => e hz)]
    obtain ⟨g, ha, hb, hcc, hd⟩ := vtx4 hz
    rw [hz] at hc
    by_cases hnd : [a, b, c, d].Nodup
    · rw [if_neg (fun e => e hnd)]
      obtain ⟨N, rfl⟩ : ∃ N : Nat, n = N := ⟨n.toNat, by omega⟩
      obtain ⟨a, rfl⟩ : ∃ a' : Nat, a = a' := ⟨a.toNat, by omega⟩
      obtain ⟨b, rfl⟩ : ∃ a' : Nat, b = a' := ⟨b.toNat, by omega⟩
      obtain ⟨c, rfl⟩ : ∃ a' : Nat, c = a' := ⟨c.toNat, by omega⟩
      obtain ⟨d, rfl⟩ : ∃ a' : Nat, d = a' := ⟨d.toNat, by omega⟩
      have R := g.rok
      have hlen := R.len
      have hle := R.le
      have q1 := has_spec (nro := nro) N a b s rows (h ++ L) (hs.app _) R (by omega) (by omega)
      have q2 := has_spec (nro := nro) N c d s rows (h ++ L) (hs.app _) R (by omega) (by omega)
      have q3 := has_spec (nro := nro) N a c s rows (h ++ L) (hs.app _) R (by omega) (by omega)
      have q4 := has_spec (nro := nro) N b d s rows (h ++ L) (hs.app _) R (by omega) (by omega)
      simp only [Int.toNat_natCast]
      have hnd' := hnd
      simp at hnd'
      obtain ⟨⟨n1, n2, n3⟩, ⟨n4, n5⟩, n6⟩ := hnd'
      by_cases b1 : rbit rows a b = true
      · by_cases b2 : rbit rows c d = true
        · by_cases b3 : rbit rows a c = true
          · rw [if_neg (fun e => by rw [b3] at e; simp at e)]
            rw [b1] at q1
            rw [b2] at q2
            rw [b3] at q3
            rw [hL] at hc q1 q2 q3
            clear hL hLl hs hz hnd g R hlen hle ha hb hcc hd
            simp (disch := first | assumption | omega | (simp [*] <;> omega) | fail) [i_spec_ExchangeEdges, hc, q1, q2, q3, n1, n2, n3, n4, n5, n6, fresults, fresL, fres1, hn', hn, hso]
          · have b3' := rbit_of_not b3
            by_cases b4 : rbit rows b d = true
            · rw [if_neg (fun e => by rw [b4] at e; simp at e)]
              rw [b1] at q1
              rw [b2] at q2
              rw [b3'] at q3
              rw [b4] at q4
              rw [hL] at hc q1 q2 q3 q4
              clear hL hLl hs hz hnd g R hlen hle ha hb hcc hd
              simp (disch := first | assumption | omega | (simp [*] <;> omega) | fail) [i_spec_ExchangeEdges, hc, q1, q2, q3, q4, n1, n2, n3, n4, n5, n6, fresults, fresL, fres1, hn', hn, hso]
            · have b4' := rbit_of_not b4
              rw [if_pos ⟨b1, b2, b3', b4'⟩]
              rw [b1] at q1
              rw [b2] at q2
              rw [b3'] at q3
              rw [b4'] at q4
              obtain ⟨g1, b5, g2⟩ := exch_steps g hnd b1 b2
              have l1 := g1.rok.len
              have l2 := g2.rok.len
              have e1 := c_spec_l01Cut (nro := nro) N a b s rows (h ++ L) (hs.app _) (by simp; omega) g (by omega) (by omega) (by omega) (by omega) (by omega) (by simpa using b1)
              obtain ⟨r1, hr1⟩ : ∃ r, r = cut2 rows a b := ⟨_, rfl⟩
              rw [← hr1] at e1 g1 b5 g2 l1 l2 ⊢
              have e2 := c_spec_l01Cut (nro := nro) N c d _ r1 (h ++ L ++ ([⟨1, ints r1⟩] : VH)) (sli_at (b := (h ++ L).length) (by simp)) (by simp; omega) g1 (by omega) (by omega) (by omega) (by omega) (by omega) (by simpa using b5)
              obtain ⟨r2, hr2⟩ : ∃ r, r = cut2 r1 c d := ⟨_, rfl⟩
              rw [← hr2] at e2 g2 l2 ⊢
              have e3 := c_spec_l01Join (nro := nro) N a c _ r2 (h ++ L ++ ([⟨1, ints r1⟩] : VH) ++ ([⟨1, ints r2⟩] : VH)) (sli_at (b := (h ++ L ++ ([⟨1, ints r1⟩] : VH)).length) (by simp)) (by simp; omega) (by omega) (by omega) (by omega) (by omega) (by omega)
              obtain ⟨r3, hr3⟩ : ∃ r, r = put2 r2 a c := ⟨_, rfl⟩
              have l3 : r3.length = N := by rw [hr3]; simp; exact l2
              rw [← hr3] at e3 ⊢
              have e4 := c_spec_l01Join (nro := nro) N b d _ r3 (h ++ L ++ ([⟨1, ints r1⟩] : VH) ++ ([⟨1, ints r2⟩] : VH) ++ ([⟨1, ints r3⟩] : VH)) (sli_at (b := (h ++ L ++ ([⟨1, ints r1⟩] : VH) ++ ([⟨1, ints r2⟩] : VH)).length) (by simp)) (by simp; omega) (by omega) (by omega) (by omega) (by omega) (by omega)
              obtain ⟨r4, hr4⟩ : ∃ r, r = put2 r3 b d := ⟨_, rfl⟩
              have l4 : r4.length = N := by rw [hr4]; simp; exact l3
              rw [← hr4] at e4 ⊢
              rw [hlen] at e1
              rw [l1] at e2
              rw [l2] at e3
              rw [l3] at e4
              rw [hL] at hc q1 q2 q3 q4 e1 e2 e3 e4
              simp at e1 e2 e3 e4
              clear hr1 hr2 hr3 hr4 g1 g2 b5 hz hnd hL hLl hs g R hlen hle ha hb hcc hd l1 l2 l3
              simp (disch := first | assumption | omega | (simp [*] <;> omega) | fail) [i_spec_ExchangeEdges, hc, q1, q2, q3, q4, e1, e2, e3, e4, l4, n1, n2, n3, n4, n5, n6, fresults, fresL, fres1, hn', hn, hso]
        · rw [if_neg (fun e => b2 e.2.1)]
          rw [b1] at q1
          rw [rbit_of_not b2] at q2
          rw [hL] at hc q1 q2
          clear hL hLl hs hz hnd g R hlen hle ha hb hcc hd
          simp (disch := first | assumption | omega | (simp [*] <;> omega) | fail) [i_spec_ExchangeEdges, hc, q1, q2, n1, n2, n3, n4, n5, n6, fresults, fresL, fres1, hn', hn, hso]
      · rw [if_neg (fun e => b1 e.1)]
        rw [rbit_of_not b1] at q1
        rw [hL] at hc q1
        clear hL hLl hs hz hnd g R hlen hle ha hb hcc hd
        simp (disch := first | assumption | omega | (simp [*] <;> omega) | fail) [i_spec_ExchangeEdges, hc, q1, n1, n2, n3, n4, n5, n6, fresults, fresL, fres1, hn', hn, hso]
    · rw [if_pos hnd]
      rw [hL] at hc
      clear hs hLl g
      have hnd2 : a = b ∨ a = c ∨ a = d ∨ b = c ∨ b = d ∨ c = d := by
        simp at hnd
        omega
      by_cases m1 : a = b
      · subst m1
        simp (disch := first | assumption | omega | (simp [*] <;> omega) | fail) [i_spec_ExchangeEdges, hc, fresults, fresL, fres1, hn', hn, hso]
      · by_cases m2 : a = c
        · subst m2
          simp (disch := first | assumption | omega | (simp [*] <;> omega) | fail) [i_spec_ExchangeEdges, hc, m1, fresults, fresL, fres1, hn', hn, hso]
        · by_cases m3 : a = d
          · subst m3
            simp (disch := first | assumption | omega | (simp [*] <;> omega) | fail) [i_spec_ExchangeEdges, hc, m1, m2, fresults, fresL, fres1, hn', hn, hso]
          · by_cases m4 : b = c
            · subst m4
              simp (disch := first | assumption | omega | (simp [*] <;> omega) | fail) [i_spec_ExchangeEdges, hc, m1, m2, m3, fresults, fresL, fres1, hn', hn, hso]
            · by_cases m5 : b = d
              · subst m5
                simp (disch := first | assumption | omega | (simp [*] <;> omega) | fail) [i_spec_ExchangeEdges, hc, m1, m2, m3, m4, fresults, fresL, fres1, hn', hn, hso]
              · have m6 : c = d := by omega
                subst m6
                simp (disch := first | assumption | omega | (simp [*] <;> omega) | fail) [i_spec_ExchangeEdges, hc, m1, m2, m3, m4, m5, fresults, fresL, fres1, hn', hn, hso]
  · rw [if_pos hz]
    rw [hL] at hc
    obtain ⟨q, hq⟩ : ∃ q, q = vtxCode n rows [a, b, c, d] := ⟨_, rfl⟩
    rw [← hq] at hc hz ⊢
    simp (disch := first | assumption | omega | (simp [*] <;> omega) | fail) [i_spec_ExchangeEdges, hc, hz, fresults, fresL, fres1, hn', hn, hso]
end Go.Proofs.Ythpgiimaadohcaa.Zv

/- The law of ExchangeEdges: the program. -/
namespace Go.Proofs.Ythpgiimaadohcaa.Zv
open Go
variable {nro : Nat}

theorem c_impl_ExchangeEdges (n a b c d : Int) (s : Value) (rows : List Int) (h : VH) (hs : Sli h s rows) (hn : nro ≤ h.length) :
    vcall F nro k_impl_ExchangeEdges [gv n s, .int .i64 a, .int .i64 b, .int .i64 c, .int .i64 d] h = some (gres h (exchAns n rows a b c d)) := by
  refine v_impl_ExchangeEdges (by simp [i_impl_ExchangeEdges]) ?_
  rw [fbody_eq]
  have hn' := fun k => Nat.le_trans hn (Nat.le_add_right h.length k)
  have hso := fun k => hs.oldCk (k := k)
  obtain ⟨L, hL⟩ : ∃ L : VH, L = [⟨0, [.int .i64 n, s]⟩, ⟨0, [.int .i64 0, .slice none 0 0]⟩, ⟨1, [.int .i64 a, .int .i64 b, .int .i64 c, .int .i64 d]⟩] := ⟨_, rfl⟩
  have hLl : L.length = 3 := by rw [hL]; rfl
  have hc := c_impl_graphCode (nro := nro) n s (.slice (some ⟨h.length + 2, 0, none⟩) 4 4) rows [a, b, c, d] (h ++ L) (hs.app _) (sli_at (xs := [a, b, c, d]) (by rw [hL]; simp [ints])) (by simp)
  unfold exchAns
  by_cases hz : vtxCode n rows [a, b, c, d] = 0
  · rw [if_neg (fun e => e hz)]
    obtain ⟨g, ha, hb, hcc, hd⟩ := vtx4 hz
    rw [hz] at hc
    have t1 := c_Sort12 (nro := nro) (G := h ++ L ++ ([⟨1, ints [a, b, c, d]⟩] : VH)) (blk := h.length + 3) (xs := [a, b, c, d]) (by rw [← hLl, ← List.length_append, hget0]; rfl) (by omega) (by simp)
    have hp := insS_perm (a := 0) (b := 4) (xs := [a, b, c, d]) (by simp)
    have hsrt := insS_sorted (a := 0) (b := 4) (xs := [a, b, c, d]) (by simp)
    have hl4 : (insS 0 4 [a, b, c, d]).length = 4 := by simp
    rw [show [a, b, c, d].length = 4 from rfl] at t1
    have hi4 : ∀ a b c d : Int, ints [a, b, c, d] = [.int .i64 a, .int .i64 b, .int .i64 c, .int .i64 d] := fun _ _ _ _ => rfl
    obtain ⟨Q, hQ⟩ : ∃ Q, Q = insS 0 4 [a, b, c, d] := ⟨_, rfl⟩
    rw [← hQ] at t1 hp hsrt hl4
    have t2 := c_Compact (nro := nro) (G := h ++ L ++ ([⟨1, ints Q⟩] : VH)) (blk := h.length + 3) (xs := Q) (by rw [← hLl, ← List.length_append, hget0]; rfl) (by omega) (by omega) (by omega)
    rw [hl4] at t2
    have hful := ddN_full (xs := Q) (by rw [hl4]; exact hsrt)
    rw [hl4] at hful
    have hle4 := ddN_le Q 4
    have hD2 : (ddN Q 4 ++ List.replicate (4 - (ddN Q 4).length) 0).length = 4 := by simp; omega
    obtain ⟨D, hD⟩ : ∃ D, D = ddN Q 4 ++ List.replicate (4 - (ddN Q 4).length) 0 := ⟨_, rfl⟩
    rw [← hD] at t2 hD2
    obtain ⟨m, hm⟩ : ∃ m, m = (ddN Q 4).length := ⟨_, rfl⟩
    rw [← hm] at t2 hful hle4
    have hmn : m = 4 ↔ [a, b, c, d].Nodup := by rw [hful]; exact hp.nodup_iff
    clear hD hm hful hQ hp hsrt
    have hset1 : (h ++ L ++ ([⟨1, ints [a, b, c, d]⟩] : VH)).set (h.length + 3) ⟨1, ints Q⟩ = h ++ L ++ ([⟨1, ints Q⟩] : VH) := by rw [hL]; simp
    have hset2 : (h ++ L ++ ([⟨1, ints Q⟩] : VH)).set (h.length + 3) ⟨1, ints D⟩ = h ++ L ++ ([⟨1, ints D⟩] : VH) := by rw [hL]; simp
    rw [hset1] at t1
    rw [hset2] at t2
    by_cases hnd : [a, b, c, d].Nodup
    · rw [if_neg (fun e => e hnd)]
      have hm4 : m = 4 := hmn.mpr hnd
      subst hm4
      obtain ⟨N, rfl⟩ : ∃ N : Nat, n = N := ⟨n.toNat, by omega⟩
      obtain ⟨a, rfl⟩ : ∃ a' : Nat, a = a' := ⟨a.toNat, by omega⟩
      obtain ⟨b, rfl⟩ : ∃ a' : Nat, b = a' := ⟨b.toNat, by omega⟩
      obtain ⟨c, rfl⟩ : ∃ a' : Nat, c = a' := ⟨c.toNat, by omega⟩
      obtain ⟨d, rfl⟩ : ∃ a' : Nat, d = a' := ⟨d.toNat, by omega⟩
      have R := g.rok
      have hlen := R.len
      have hle := R.le
      have q1 := has_impl (nro := nro) N a b s rows (h ++ L ++ ([⟨1, ints D⟩] : VH)) ((hs.app _).app _) R (by omega) (by omega)
      have q2 := has_impl (nro := nro) N c d s rows (h ++ L ++ ([⟨1, ints D⟩] : VH)) ((hs.app _).app _) R (by omega) (by omega)
      have q3 := has_impl (nro := nro) N a c s rows (h ++ L ++ ([⟨1, ints D⟩] : VH)) ((hs.app _).app _) R (by omega) (by omega)
      have q4 := has_impl (nro := nro) N b d s rows (h ++ L ++ ([⟨1, ints D⟩] : VH)) ((hs.app _).app _) R (by omega) (by omega)
      simp only [Int.toNat_natCast]
      have hnd' := hnd
      simp at hnd'
      obtain ⟨⟨n1, n2, n3⟩, ⟨n4, n5⟩, n6⟩ := hnd'
      by_cases b1 : rbit rows a b = true
      · by_cases b2 : rbit rows c d = true
        · by_cases b3 : rbit rows a c = true
          · rw [if_neg (fun e => by rw [b3] at e; simp at e)]
            rw [b1] at q1
            rw [b2] at q2
            rw [b3] at q3
            rw [hL] at hc t1 t2 q1 q2 q3
            rw [hi4] at t1
            simp at hc t1 t2 q1 q2 q3
            clear hset1 hset2 hL hmn hz hs hLl g hnd R hlen hle hle4 hl4
            simp (disch := first | assumption | omega | (simp [*] <;> omega) | fail) [i_impl_ExchangeEdges, hc, t1, t2, q1, q2, q3, hD2, fresults, fresL, fres1, hn', hn, hso]
          · have b3' := rbit_of_not b3
            by_cases b4 : rbit rows b d = true
            · rw [if_neg (fun e => by rw [b4] at e; simp at e)]
              rw [b1] at q1
              rw [b2] at q2
              rw [b3'] at q3
              rw [b4] at q4
              rw [hL] at hc t1 t2 q1 q2 q3 q4
              rw [hi4] at t1
              simp at hc t1 t2 q1 q2 q3 q4
              clear hset1 hset2 hL hmn hz hs hLl g hnd R hlen hle hle4 hl4
              simp (disch := first | assumption | omega | (simp [*] <;> omega) | fail) [i_impl_ExchangeEdges, hc, t1, t2, q1, q2, q3, q4, hD2, fresults, fresL, fres1, hn', hn, hso]
            · have b4' := rbit_of_not b4
              rw [if_pos ⟨b1, b2, b3', b4'⟩]
              rw [b1] at q1
              rw [b2] at q2
              rw [b3'] at q3
              rw [b4'] at q4
              obtain ⟨g1, b5, g2⟩ := exch_steps g hnd b1 b2
              have l1 := g1.rok.len
              have l2 := g2.rok.len
              have e0 := c_impl_own (nro := nro) N s rows (h ++ L ++ ([⟨1, ints D⟩] : VH)) ((hs.app _).app _) (by intro e; rw [e] at hlen; simp at hlen; omega) (by omega) (by simp; omega)
              rw [hlen] at e0
              have hG : ∀ r : List Int, (h ++ L ++ ([⟨1, ints D⟩, ⟨1, ints r⟩, ⟨0, [.int .i64 N, .slice (some ⟨h.length + 4, 0, none⟩) N N]⟩] : VH))[h.length + 4]? = some ⟨1, ints r⟩ := fun r => by
                rw [show h.length + 4 = (h ++ L).length + 1 by simp; omega, hgetk]; rfl
              have hS : ∀ r r' : List Int, (h ++ L ++ ([⟨1, ints D⟩, ⟨1, ints r⟩, ⟨0, [.int .i64 N, .slice (some ⟨h.length + 4, 0, none⟩) N N]⟩] : VH)).set (h.length + 4) ⟨1, ints r'⟩ = h ++ L ++ ([⟨1, ints D⟩, ⟨1, ints r'⟩, ⟨0, [.int .i64 N, .slice (some ⟨h.length + 4, 0, none⟩) N N]⟩] : VH) := fun r r' => by
                rw [show h.length + 4 = (h ++ L).length + 1 by simp; omega, hsetk]; rfl
              obtain ⟨ra1, ra2⟩ := R.row a (by omega)
              obtain ⟨rb1, rb2⟩ := R.row b (by omega)
              have ra3 := le62 hle ra2
              have rb3 := le62 hle rb2
              have e1 := c_impl_Graph_take (nro := nro) N (h.length + 4) N a b rows _ (hG rows) hlen (by omega) (by omega) (by omega) (by omega) (by omega) (by omega) (by omega)
                (by rw [Int.toNat_natCast]; exact ra1) (by rw [Int.toNat_natCast]; omega) (by rw [Int.toNat_natCast, Int.toNat_natCast]; exact b1) (by rw [Int.toNat_natCast]; exact rb1) (by rw [Int.toNat_natCast]; omega) (by rw [Int.toNat_natCast, Int.toNat_natCast]; exact g.sym' b1)
              rw [hS] at e1
              obtain ⟨r1, hr1⟩ : ∃ r, r = cut2 rows a b := ⟨_, rfl⟩
              rw [← hr1] at e1 g1 b5 g2 l1 l2 ⊢
              obtain ⟨rc1, rc2⟩ := g1.rok.row c (by omega)
              obtain ⟨rd1, rd2⟩ := g1.rok.row d (by omega)
              have rc3 := le62 hle rc2
              have rd3 := le62 hle rd2
              have e2 := c_impl_Graph_take (nro := nro) N (h.length + 4) N c d r1 _ (hG r1) l1 (by omega) (by omega) (by omega) (by omega) (by omega) (by omega) (by omega)
                (by rw [Int.toNat_natCast]; exact rc1) (by rw [Int.toNat_natCast]; omega) (by rw [Int.toNat_natCast, Int.toNat_natCast]; exact b5) (by rw [Int.toNat_natCast]; exact rd1) (by rw [Int.toNat_natCast]; omega) (by rw [Int.toNat_natCast, Int.toNat_natCast]; exact g1.sym' b5)
              rw [hS] at e2
              obtain ⟨r2, hr2⟩ : ∃ r, r = cut2 r1 c d := ⟨_, rfl⟩
              rw [← hr2] at e2 g2 l2 ⊢
              have e3 := c_impl_Graph_put (nro := nro) N (h.length + 4) N a c r2 _ (hG r2) l2 (by omega) (by omega) (by omega) (by omega) (by omega) (by omega)
              rw [if_neg (by omega), hS] at e3
              obtain ⟨r3, hr3⟩ : ∃ r, r = put2 r2 a c := ⟨_, rfl⟩
              have l3 : r3.length = N := by rw [hr3]; simp; exact l2
              rw [← hr3] at e3 ⊢
              have e4 := c_impl_Graph_put (nro := nro) N (h.length + 4) N b d r3 _ (hG r3) l3 (by omega) (by omega) (by omega) (by omega) (by omega) (by omega)
              rw [if_neg (by omega), hS] at e4
              obtain ⟨r4, hr4⟩ : ∃ r, r = put2 r3 b d := ⟨_, rfl⟩
              have l4 : r4.length = N := by rw [hr4]; simp; exact l3
              rw [← hr4] at e4 ⊢
              rw [hL] at hc t1 t2 q1 q2 q3 q4 e0 e1 e2 e3 e4
              rw [hi4] at t1
              simp at hc t1 t2 q1 q2 q3 q4
              simp at e0 e1 e2 e3 e4
              clear hset1 hset2 hL hmn hz hs hLl g hnd R hlen hle hle4 hl4 hG hS g1 g2 b5 l1 l2 l3 hr1 hr2 hr3 hr4 ra1 ra2 ra3 rb1 rb2 rb3 rc1 rc2 rc3 rd1 rd2 rd3
              simp (disch := first | assumption | omega | (simp [*] <;> omega) | fail) [i_impl_ExchangeEdges, hc, t1, t2, q1, q2, q3, q4, e0, e1, e2, e3, e4, hD2, l4, fresults, fresL, fres1, hn', hn, hso]
        · rw [if_neg (fun e => b2 e.2.1)]
          rw [b1] at q1
          rw [rbit_of_not b2] at q2
          rw [hL] at hc t1 t2 q1 q2
          rw [hi4] at t1
          simp at hc t1 t2 q1 q2
          clear hset1 hset2 hL hmn hz hs hLl g hnd R hlen hle hle4 hl4
          simp (disch := first | assumption | omega | (simp [*] <;> omega) | fail) [i_impl_ExchangeEdges, hc, t1, t2, q1, q2, hD2, fresults, fresL, fres1, hn', hn, hso]
      · rw [if_neg (fun e => b1 e.1)]
        rw [rbit_of_not b1] at q1
        rw [hL] at hc t1 t2 q1
        rw [hi4] at t1
        simp at hc t1 t2 q1
        clear hset1 hset2 hL hmn hz hs hLl g hnd R hlen hle hle4 hl4
        simp (disch := first | assumption | omega | (simp [*] <;> omega) | fail) [i_impl_ExchangeEdges, hc, t1, t2, q1, hD2, fresults, fresL, fres1, hn', hn, hso]
    · rw [if_pos hnd]
      have hm4 : (m : Int) < 4 := by
        have : m ≠ 4 := fun e => hnd (hmn.mp e)
        omega
      rw [hL] at hc t1 t2
      rw [hi4] at t1
      simp at hc t1 t2
      clear hs hLl g hmn hnd hz hset1 hset2 hL hl4
      simp (disch := first | assumption | omega | (simp [*] <;> omega) | fail) [i_impl_ExchangeEdges, hc, t1, t2, hm4, hD2, hle4, fresults, fresL, fres1, hn', hn, hso]
  · rw [if_pos hz]
    rw [hL] at hc
    obtain ⟨q, hq⟩ : ∃ q, q = vtxCode n rows [a, b, c, d] := ⟨_, rfl⟩
    rw [← hq] at hc hz ⊢
    clear hq
    simp (disch := first | assumption | omega | (simp [*] <;> omega) | fail) [i_impl_ExchangeEdges, hc, hz, fresults, fresL, fres1, hn', hn, hso]

theorem exchAns_len {n : Int} {rows : List Int} {a b c d m : Int} {r : List Int} (e : exchAns n rows a b c d = .inl (m, r)) : r.length ≤ 62 := by
  unfold exchAns at e
  split at e
  · cases e
  · rename_i hz
    obtain ⟨g, _⟩ := vtx4 (Classical.not_not.mp hz)
    have h1 := g.len
    have h2 := g.hi
    split at e
    · cases e
    · split at e
      · cases e
        simp; omega
      · cases e
theorem r_spec_ExchangeEdges (n a b c d : Int) (s : Value) (h : VH) (hs : isSli h s) (hn : nro ≤ h.length) : vcall F nro k_spec_ExchangeEdges [gv n s, .int .i64 a, .int .i64 b, .int .i64 c, .int .i64 d] h = some (gres h (exchAns n (rd h s) a b c d)) := c_spec_ExchangeEdges n a b c d s _ h hs.sli hn
theorem r_impl_ExchangeEdges (n a b c d : Int) (s : Value) (h : VH) (hs : isSli h s) (hn : nro ≤ h.length) : vcall F nro k_impl_ExchangeEdges [gv n s, .int .i64 a, .int .i64 b, .int .i64 c, .int .i64 d] h = some (gres h (exchAns n (rd h s) a b c d)) := c_impl_ExchangeEdges n a b c d s _ h hs.sli hn

theorem law_ExchangeEdges (n : Int) (s : Value) (rows : List Int) (a b c d : Int) (h : VH) (hs : Sli h s rows) (h3 : rows.length ≤ 9223372036854775807) (_ : -9223372036854775808 ≤ a) (_ : a ≤ 9223372036854775807) (_ : -9223372036854775808 ≤ b) (_ : b ≤ 9223372036854775807) (_ : -9223372036854775808 ≤ c) (_ : c ≤ 9223372036854775807) (_ : -9223372036854775808 ≤ d) (_ : d ≤ 9223372036854775807) (hn : nro ≤ h.length) :
    vcall F nro k_laws_FnExactExchangeEdges [gv n s, .int .i64 a, .int .i64 b, .int .i64 c, .int .i64 d] h = some (.bool true, h) := by
  refine v_laws_FnExactExchangeEdges (by simp [i_laws_FnExactExchangeEdges]) ?_
  rw [fbody_eq]
  have hc1 := c_laws_szGraph (nro := nro) n s rows 1048576 (bx h n s) (hs.app _) (by omega) (by omega) h3
  by_cases hr : 1048576 < (rows.length : Int)
  · rw [if_pos hr] at hc1
    simp (disch := first | assumption | omega | (simp [*] <;> omega) | fail) [i_laws_FnExactExchangeEdges, hc1]
  · rw [if_neg hr] at hc1
    have hr2 : ¬ (1048576 - (rows.length : Int) < 0) := by omega
    have h5 : rows.length ≤ 1048576 := by omega
    have p1 : ∀ k : Nat, (0 : Int) ≤ 1 + k := fun k => by omega
    have p2 : ∀ k : Nat, ¬ (1 + k : Int) < 0 := fun k => by omega
    have hn' := fun k => Nat.le_trans hn (Nat.le_add_right h.length k)
    have hsi := fun L => hs.is' (L := L)
    have hsr := fun L => hs.rd' (L := L)
    clear hs
    cases hp : exchAns n rows a b c d with
    | inl q =>
      obtain ⟨m, r⟩ := q
      have hl := exchAns_len hp
      simp (disch := first | assumption | omega | (simp [*] <;> omega) | fail) [i_laws_FnExactExchangeEdges, hc1, hr2, r_laws_toGraph, r_spec_ExchangeEdges, r_impl_ExchangeEdges, r_laws_eqGraph, r_laws_markGraph, r_laws_heldGraph, hp, hsi, hsr, hn', hn, h5, hl, p1, p2]
    | inr c =>
      simp (disch := first | assumption | omega | (simp [*] <;> omega) | fail) [i_laws_FnExactExchangeEdges, hc1, hr2, r_laws_toGraph, r_spec_ExchangeEdges, r_impl_ExchangeEdges, r_laws_eqGraph, r_laws_markGraph, r_laws_markGraph_nil, r_laws_heldGraph, hp, hsi, hsr, hn', hn, h5, p1, p2]
end Go.Proofs.Ythpgiimaadohcaa.Zv

