/- Edges put in and taken out: PutEdge, TakeEdge. -/
import Derived.Test.YthpgiimaadohcaaDoorZwCover
import Derived.Test.YthpgiimaadohcaaDoorZwMark
namespace Go.Proofs.YthpgiimaadohcaaDoor.Zv
open Go
variable {nro : Nat}

/-! ### copies -/
theorem ints_nj (xs : List Int) : ∀ x ∈ ints xs, isJunk x = false := by
  intro x hx
  obtain ⟨n, _, rfl⟩ := List.mem_map.mp hx
  rfl
theorem c_spec_l01Own (s : Value) (xs : List Int) (h : VH) (hs : Sli h s xs) (hl : xs.length ≤ 1000) (hn : nro ≤ h.length) :
    vcall F nro k_spec_l01Own [s] h = some (.slice (some ⟨h.length, 0, none⟩) xs.length xs.length, h ++ [⟨1, ints xs⟩]) := by
  refine v_spec_l01Own (by simp [i_spec_l01Own]) ?_
  rw [fbody_eq]
  have hv : vsrc 1 (h ++ [⟨1, []⟩]) s = some (ints xs, (ints xs).length) := hs.app _
  have hn' := fun k => Nat.le_trans hn (Nat.le_add_right h.length k)
  have b1 : xs.length * 8 ≤ 1099511627776 := by omega
  have b2 : xs.length ≤ 1099511627776 := by omega
  simp (disch := first | assumption | omega | (simp [*] <;> omega) | fail) [i_spec_l01Own, hv, hn, hn', b1, b2]
  have hj := ints_nj xs
  unfold isJunk at hj
  exact hj

theorem Sli.neqnil {h : VH} {s : Value} {xs : List Int} (hs : Sli h s xs) (hx : xs ≠ []) (neg : Bool) : veqnilS neg h s = some (.bool neg, h) := by
  unfold Sli Sl vsrc at hs
  split at hs
  · cases xs with
    | nil => exact absurd rfl hx
    | cons x r => simp at hs
  · cases xs with
    | nil => exact absurd rfl hx
    | cons x r => simp at hs
  · rename_i a n tot
    split at hs
    · rename_i o ho
      split at hs
      · rename_i hc
        simp [ho, hc.2.1]
      · cases hs
    · cases hs
  · cases hs
theorem c_slices_Clone (s : Value) (xs : List Int) (h : VH) (hs : Sli h s xs) (hx : xs ≠ []) (hl : xs.length ≤ 1000) (hn : nro ≤ h.length) :
    vcall F nro k_slices_Clone_int64_int64 [s] h = some (.slice (some ⟨h.length, 0, none⟩) xs.length xs.length, h ++ [⟨1, ints xs⟩]) := by
  refine v_slices_Clone_int64_int64 (by simp [i_slices_Clone_int64_int64]) ?_
  rw [fbody_eq]
  have hv : vsrc 1 (h ++ [⟨1, []⟩]) s = some (ints xs, (ints xs).length) := hs.app _
  have hn' := fun k => Nat.le_trans hn (Nat.le_add_right h.length k)
  have b1 : xs.length * 8 ≤ 1099511627776 := by omega
  have b2 : xs.length ≤ 1099511627776 := by omega
  simp (disch := first | assumption | omega | (simp [*] <;> omega) | fail) [i_slices_Clone_int64_int64, hs.neqnil hx, hv, hn, hn', b1, b2]
  have hj := ints_nj xs
  unfold isJunk at hj
  exact hj

theorem c_spec_l01Copy (n : Int) (s : Value) (xs : List Int) (h : VH) (hs : Sli h s xs) (hl : xs.length ≤ 1000) (hn : nro ≤ h.length) :
    vcall F nro k_spec_l01Copy [gv n s] h = some (gv n (.slice (some ⟨h.length, 0, none⟩) xs.length xs.length), h ++ [⟨1, ints xs⟩]) := by
  refine v_spec_l01Copy (by simp [i_spec_l01Copy]) ?_
  rw [fbody_eq]
  have hc := c_spec_l01Own (nro := nro) s xs (h ++ [⟨0, [.int .i64 n, s]⟩, ⟨0, [.int .i64 0, .slice none 0 0]⟩]) (hs.app _) hl (by simp; omega)
  simp at hc
  have hn' := fun k => Nat.le_trans hn (Nat.le_add_right h.length k)
  simp (disch := first | assumption | omega | (simp [*] <;> omega) | fail) [i_spec_l01Copy, hc, fresults, fresL, fres1, hn', hn]

theorem c_impl_own (n : Int) (s : Value) (xs : List Int) (h : VH) (hs : Sli h s xs) (hx : xs ≠ []) (hl : xs.length ≤ 1000) (hn : nro ≤ h.length) :
    vcall F nro k_impl_own [gv n s] h = some (gv n (.slice (some ⟨h.length, 0, none⟩) xs.length xs.length), h ++ [⟨1, ints xs⟩]) := by
  refine v_impl_own (by simp [i_impl_own]) ?_
  rw [fbody_eq]
  have hc := c_slices_Clone (nro := nro) s xs (h ++ [⟨0, [.int .i64 n, s]⟩, ⟨0, [.int .i64 0, .slice none 0 0]⟩]) (hs.app _) hx hl (by simp; omega)
  simp at hc
  have hn' := fun k => Nat.le_trans hn (Nat.le_add_right h.length k)
  simp (disch := first | assumption | omega | (simp [*] <;> omega) | fail) [i_impl_own, hc, fresults, fresL, fres1, hn', hn]

theorem c_spec_l01Join (n a b : Int) (s : Value) (rows : List Int) (h : VH) (hs : Sli h s rows) (hn : nro ≤ h.length) (hl : rows.length ≤ 62) (ha : 0 ≤ a) (ha2 : a < rows.length) (hb : 0 ≤ b) (hb2 : b < rows.length) :
    vcall F nro k_spec_l01Join [gv n s, .int .i64 a, .int .i64 b] h = some (gv n (.slice (some ⟨h.length, 0, none⟩) rows.length rows.length), h ++ [⟨1, ints (put2 rows a b)⟩]) := by
  refine v_spec_l01Join (by simp [i_spec_l01Join]) ?_
  rw [fbody_eq]
  have hn' := fun k => Nat.le_trans hn (Nat.le_add_right h.length k)
  have hc := c_spec_l01Copy (nro := nro) n s rows (h ++ [⟨0, [.int .i64 n, s]⟩, ⟨0, [.int .i64 0, .slice none 0 0]⟩]) (hs.app _) (by omega) (by simp; omega)
  have hp := c_spec_l01Put (nro := nro) n (h.length + 2) rows.length a b rows (h ++ [⟨0, [.int .i64 n, s]⟩, ⟨0, [.int .i64 0, .slice none 0 0]⟩, ⟨1, ints rows⟩, ⟨0, [.int .i64 n, .slice (some ⟨h.length + 2, 0, none⟩) rows.length rows.length]⟩]) (by simp) rfl (by omega) ha ha2 hb hb2 hl
  simp at hc hp
  simp (disch := first | assumption | omega | (simp [*] <;> omega) | fail) [i_spec_l01Join, hc, hp, fresults, fresL, fres1, hn', hn]

/-! ### an edge less -/
theorem sub_bit {x b : Nat} (h : x.testBit b = true) : 2 ^ b ≤ x ∧ ∀ w, (x - 2 ^ b).testBit w = (x.testBit w && decide (w ≠ b)) := by
  have hx : x = 2 ^ (b + 1) * (x / 2 ^ (b + 1)) + (2 ^ b + x % 2 ^ b) := by
    have h1 := Nat.div_add_mod x (2 ^ (b + 1))
    have h2 : x % 2 ^ (b + 1) = x % 2 ^ b + 2 ^ b * (x / 2 ^ b % 2) := Nat.mod_pow_succ
    rw [Nat.testBit_eq_decide_div_mod_eq] at h
    have h3 : x / 2 ^ b % 2 = 1 := by simpa using h
    rw [h3] at h2
    omega
  have hr : x % 2 ^ b < 2 ^ b := Nat.mod_lt _ (Nat.two_pow_pos b)
  have hp : 2 ^ (b + 1) = 2 * 2 ^ b := by rw [Nat.pow_succ]; omega
  refine ⟨by omega, fun w => ?_⟩
  have e1 : x - 2 ^ b = 2 ^ (b + 1) * (x / 2 ^ (b + 1)) + x % 2 ^ b := by omega
  rw [e1]
  conv => rhs; rw [hx]
  rw [Nat.testBit_two_pow_mul_add _ (by omega), Nat.testBit_two_pow_mul_add _ (by omega)]
  by_cases hw : w < b + 1
  · rw [if_pos hw, if_pos hw]
    have e2 := Nat.testBit_two_pow_mul_add 1 hr w
    rw [Nat.mul_one] at e2
    rw [e2]
    by_cases hw2 : w < b
    · simp [hw2, Nat.ne_of_lt hw2]
    · have : w = b := by omega
      subst this
      simp
  · rw [if_neg hw, if_neg hw]
    have : w ≠ b := by omega
    simp [this]

theorem andNot_bit {x : Nat} {b : Int} (hx : x < 2 ^ 62) (h1 : b ≤ 62) (hs : x.testBit b.toNat = true) : iandNot .i64 (x : Int) (ishl .i64 1 b) = ((x - 2 ^ b.toNat : Nat) : Int) := by
  rw [ishl_one h1, iandNot_eq]
  have hp : 2 ^ b.toNat ≤ 2 ^ 62 := Nat.pow_le_pow_right (by omega) (by omega)
  have e1 : (BitVec.ofInt IntKind.i64.bits (x : Int)).toNat = x := ofInt_nat 64 x (by omega)
  have e2 : (BitVec.ofInt IntKind.i64.bits ((2 ^ b.toNat : Nat) : Int)).toNat = 2 ^ b.toNat := ofInt_nat 64 _ (by omega)
  obtain ⟨h2, h3⟩ := sub_bit hs
  have e3 : (BitVec.ofInt IntKind.i64.bits (x : Int) &&& ~~~ BitVec.ofInt IntKind.i64.bits ((2 ^ b.toNat : Nat) : Int)).toNat = x - 2 ^ b.toNat := by
    apply Nat.eq_of_testBit_eq
    intro w
    rw [h3, BitVec.testBit_toNat, BitVec.getLsbD_and, BitVec.getLsbD_not, ← BitVec.testBit_toNat, ← BitVec.testBit_toNat, e1, e2, Nat.testBit_two_pow]
    by_cases hw : w < IntKind.i64.bits
    · by_cases hb : b.toNat = w
      · simp [hb]
      · simp [hb, hw, fun h => hb (Eq.symm h)]
        intro _ h
        exact absurd h.symm hb
    · have : x.testBit w = false := Nat.testBit_lt_two_pow (Nat.lt_of_lt_of_le hx (Nat.pow_le_pow_right (by omega) (by simp [IntKind.bits] at hw; omega)))
      simp [this]
  rw [e3]
  exact wrap64 (by omega) (by omega)

/-- Bit b of row a is cleared. -/
def cut1 (r : List Int) (a b : Int) : List Int := r.set a.toNat (r.getD a.toNat 0 - 2 ^ b.toNat)
def cut2 (r : List Int) (a b : Int) : List Int := cut1 (cut1 r a b) b a
@[simp] theorem cut1_length (r : List Int) (a b : Int) : (cut1 r a b).length = r.length := by simp [cut1]
@[simp] theorem cut2_length (r : List Int) (a b : Int) : (cut2 r a b).length = r.length := by simp [cut2]

theorem IsAdj.cut1 {N : Nat} {r : List Int} {adj : Nat → Nat → Prop} (h : IsAdj N r adj) {a b : Int} (ha : 0 ≤ a) (ha2 : a < N) (hab : adj a.toNat b.toNat) :
    IsAdj N (cut1 r a b) (fun v w => adj v w ∧ ¬ (v = a.toNat ∧ w = b.toNat)) := by
  obtain ⟨hl, hr⟩ := h
  refine ⟨by simp [hl], fun v hv => ?_⟩
  obtain ⟨h1, h2, h3⟩ := hr v hv
  by_cases e : v = a.toNat
  · subst e
    have hbit := (h3 b.toNat).mpr hab
    unfold rbit at hbit
    obtain ⟨s1, s2⟩ := sub_bit hbit
    have hg : (Zv.cut1 r a b).getD a.toNat 0 = (((r.getD a.toNat 0).toNat - 2 ^ b.toNat : Nat) : Int) := by
      rw [getD_at _ (by simp; omega)]
      simp only [Zv.cut1, List.getElem_set_self]
      have hp2 : ((2 ^ b.toNat : Nat) : Int) = (2 : Int) ^ b.toNat := by simp
      rw [Int.ofNat_sub s1, hp2, Int.toNat_of_nonneg h1]
    have hsub := Nat.sub_le (r.getD a.toNat 0).toNat (2 ^ b.toNat)
    unfold rbit
    rw [hg]
    refine ⟨by omega, by omega, fun w => ?_⟩
    rw [Int.toNat_natCast, s2]
    have := h3 w
    unfold rbit at this
    simp only [Bool.and_eq_true, decide_eq_true_eq, this]
    simp
  · have hg : (Zv.cut1 r a b).getD v 0 = r.getD v 0 := by
      unfold Zv.cut1
      simp only [List.getD_eq_getElem?_getD, List.getElem?_set]
      rw [if_neg (fun h => e h.symm)]
    unfold rbit
    rw [hg]
    refine ⟨h1, h2, fun w => ?_⟩
    have := h3 w
    unfold rbit at this
    rw [this]
    simp [e]
theorem IsAdj.cut2 {N : Nat} {r : List Int} {adj : Nat → Nat → Prop} (h : IsAdj N r adj) {a b : Int} (ha : 0 ≤ a) (ha2 : a < N) (hb : 0 ≤ b) (hb2 : b < N) (hne : a ≠ b) (hab : adj a.toNat b.toNat) (hba : adj b.toNat a.toNat) :
    IsAdj N (cut2 r a b) (fun v w => adj v w ∧ ¬ ((v = a.toNat ∧ w = b.toNat) ∨ (v = b.toNat ∧ w = a.toNat))) := by
  have h1 := (h.cut1 ha ha2 hab).cut1 (a := b) (b := a) hb hb2 ⟨hba, fun h => by omega⟩
  refine h1.congr fun v w _ => ?_
  constructor
  · rintro ⟨⟨h1, h2⟩, h3⟩; exact ⟨h1, fun h => h.elim h2 h3⟩
  · rintro ⟨h1, h2⟩; exact ⟨⟨h1, fun h => h2 (.inl h)⟩, fun h => h2 (.inr h)⟩

theorem GV.isAdj {n : Int} {rows : List Int} (g : GV n rows) : IsAdj rows.length rows (fun v w => rbit rows v w = true) := by
  have hp := pow_le62 g.hi
  refine ⟨rfl, fun v hv => ?_⟩
  obtain ⟨h1, h2, _⟩ := g.row v hv
  exact ⟨h1, by omega, fun w => Iff.rfl⟩

theorem put2_same {n : Int} {rows : List Int} (g : GV n rows) {a b : Int} (ha : 0 ≤ a) (ha2 : a < rows.length) (hb : 0 ≤ b) (hb2 : b < rows.length) (h : rbit rows a.toNat b.toNat = true) : put2 rows a b = rows := by
  have hl := g.len
  have hN := g.hi
  have h1 := g.isAdj.put2 ha ha2 hb hb2 (by omega)
  have hs := g.sym a.toNat b.toNat (by omega) (by omega)
  refine (h1.congr fun v w _ => ?_).unique g.isAdj
  constructor
  · rintro (h2 | ⟨rfl, rfl⟩ | ⟨rfl, rfl⟩)
    · exact h2
    · exact h
    · rw [← hs]; exact h
  · exact .inl

theorem cut1_at {r : List Int} {a b : Int} (h : a.toNat < r.length) : cut1 r a b = r.set a.toNat (r[a.toNat] - 2 ^ b.toNat) := by
  unfold cut1
  rw [getD_at _ h]
theorem cut2_at {r : List Int} {a b : Int} (h : a.toNat < r.length) (h2 : b.toNat < (r.set a.toNat (r[a.toNat] - 2 ^ b.toNat)).length) : cut2 r a b = (r.set a.toNat (r[a.toNat] - 2 ^ b.toNat)).set b.toNat ((r.set a.toNat (r[a.toNat] - 2 ^ b.toNat))[b.toNat] - 2 ^ a.toNat) := by
  unfold cut2
  rw [cut1_at h, cut1_at h2]
theorem andNot_int {x b : Int} (h0 : 0 ≤ x) (hx : x < 4611686018427387904) (h1 : b ≤ 62) (hs : x.toNat.testBit b.toNat = true) : iandNot .i64 x (ishl .i64 1 b) = x - 2 ^ b.toNat := by
  have := andNot_bit (x := x.toNat) (b := b) (by omega) h1 hs
  rw [Int.toNat_of_nonneg h0] at this
  rw [this, Int.ofNat_sub (sub_bit hs).1, Int.toNat_of_nonneg h0]
  simp

theorem c_impl_Graph_take (n : Int) (b0 N : Nat) (a b : Int) (r : List Int) (h : VH) (hb : h[b0]? = some ⟨1, ints r⟩) (hl : r.length = N) (hn : nro ≤ b0) (ha : 0 ≤ a) (ha2 : a < N) (hb1 : 0 ≤ b) (hb2 : b < N) (hN : N ≤ 62) (hne : a ≠ b)
    (r1 : 0 ≤ r.getD a.toNat 0) (r2 : r.getD a.toNat 0 < 4611686018427387904) (r3 : rbit r a.toNat b.toNat = true) (s1 : 0 ≤ r.getD b.toNat 0) (s2 : r.getD b.toNat 0 < 4611686018427387904) (s3 : rbit r b.toNat a.toNat = true) :
    vcall F nro k_impl_Graph_take [gv n (.slice (some ⟨b0, 0, none⟩) N N), .int .i64 a, .int .i64 b] h = some (.tuple #[], h.set b0 ⟨1, ints (cut2 r a b)⟩) := by
  refine v_impl_Graph_take (by simp [i_impl_Graph_take]) ?_
  rw [fbody_eq, cut2_at (by omega) (by simp; omega)]
  have hnn : ¬ a.toNat = b.toNat := by omega
  have e1 : r.getD a.toNat 0 = r[a.toNat]'(by omega) := getD_at _ (by omega)
  have e2 : r.getD b.toNat 0 = r[b.toNat]'(by omega) := getD_at _ (by omega)
  unfold rbit at r3 s3
  rw [e1] at r1 r2 r3
  rw [e2] at s1 s2 s3
  have q1 := andNot_int r1 r2 (by omega) r3
  have q2 := andNot_int s1 s2 (by omega) s3
  simp (disch := first | assumption | omega | (simp [*] <;> omega) | fail) [i_impl_Graph_take, hget_old hb, hset_old hb, hget_set hb, hset_set hb, hl, ha2, hb2, take1_ints, splice_ints, hn, ha, hb1, q1, q2, hnn, List.getElem_set_ne]

theorem c_spec_l01Cut (n a b : Int) (s : Value) (rows : List Int) (h : VH) (hs : Sli h s rows) (hn : nro ≤ h.length) (g : GV n rows) (ha : 0 ≤ a) (ha2 : a < rows.length) (hb : 0 ≤ b) (hb2 : b < rows.length) (hne : a ≠ b) (hbit : rbit rows a.toNat b.toNat = true) :
    vcall F nro k_spec_l01Cut [gv n s, .int .i64 a, .int .i64 b] h = some (gv n (.slice (some ⟨h.length, 0, none⟩) rows.length rows.length), h ++ [⟨1, ints (cut2 rows a b)⟩]) := by
  refine v_spec_l01Cut (by simp [i_spec_l01Cut]) ?_
  have hl := g.len
  have hN := g.hi
  have hp := pow_le62 hN
  rw [fbody_eq, cut2_at (by omega) (by simp; omega)]
  have hn' := fun k => Nat.le_trans hn (Nat.le_add_right h.length k)
  have hnn : ¬ a.toNat = b.toNat := by omega
  have hc := c_spec_l01Join (nro := nro) n a b s rows (h ++ [⟨0, [.int .i64 n, s]⟩, ⟨0, [.int .i64 0, .slice none 0 0]⟩]) (hs.app _) (by simp; omega) (by omega) ha ha2 hb hb2
  rw [put2_same g ha ha2 hb hb2 hbit] at hc
  obtain ⟨r1, r2, _⟩ := g.row a.toNat (by omega)
  obtain ⟨s1, s2, _⟩ := g.row b.toNat (by omega)
  have e1 : rows.getD a.toNat 0 = rows[a.toNat]'(by omega) := getD_at _ (by omega)
  have e2 : rows.getD b.toNat 0 = rows[b.toNat]'(by omega) := getD_at _ (by omega)
  rw [e1] at r1 r2
  rw [e2] at s1 s2
  have pa := pow_le62 (n := a) (by omega)
  have pb := pow_le62 (n := b) (by omega)
  have pa1 := pow_pos2 a.toNat
  have pb1 := pow_pos2 b.toNat
  have w1 : IntKind.i64.wrap (rows[a.toNat]'(by omega) - 2 ^ b.toNat) = rows[a.toNat]'(by omega) - 2 ^ b.toNat := wrap64 (by omega) (by omega)
  have w2 : IntKind.i64.wrap (rows[b.toNat]'(by omega) - 2 ^ a.toNat) = rows[b.toNat]'(by omega) - 2 ^ a.toNat := wrap64 (by omega) (by omega)
  simp at hc
  simp (disch := first | assumption | omega | (simp [*] <;> omega) | fail) [i_spec_l01Cut, hc, ha2, hb2, take1_ints, splice_ints, hn', ha, hb, wrapu64, ishl_one', w1, w2, hnn, List.getElem_set_ne, fresults, fresL, fres1]
end Go.Proofs.YthpgiimaadohcaaDoor.Zv
