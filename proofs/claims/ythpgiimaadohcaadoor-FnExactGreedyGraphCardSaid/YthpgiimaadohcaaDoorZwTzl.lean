/- The lowest bit of a word; the bits of a word, ascending. -/
import Derived.Test.YthpgiimaadohcaaDoorZvTz
import Derived.Test.YthpgiimaadohcaaDoorZwU
namespace Go.Proofs.YthpgiimaadohcaaDoor.Zv
open Go

theorem low_form : ∀ (x : Nat), x ≠ 0 → ∃ i q, x = 2 ^ i * (2 * q + 1) := by
  intro x
  induction x using Nat.strongRecOn with
  | ind x ih =>
    intro hx
    by_cases h : x % 2 = 1
    · exact ⟨0, x / 2, by simp; omega⟩
    · obtain ⟨i, q, e⟩ := ih (x / 2) (by omega) (by omega)
      refine ⟨i + 1, q, ?_⟩
      have e2 : x = 2 * (x / 2) := by omega
      rw [Nat.pow_succ, Nat.mul_comm (2 ^ i) 2, Nat.mul_assoc, ← e]
      exact e2

/-- The lowest bit of a word is bit i. -/
def LowAt (x i : Nat) : Prop := ∃ q, x = 2 ^ i * (2 * q + 1)
theorem LowAt.bit {x i : Nat} (h : LowAt x i) : x.testBit i = true := by
  obtain ⟨q, rfl⟩ := h
  rw [Nat.testBit_two_pow_mul]
  simp
theorem LowAt.low {x i : Nat} (h : LowAt x i) {j : Nat} (hj : j < i) : x.testBit j = false := by
  obtain ⟨q, rfl⟩ := h
  rw [Nat.testBit_two_pow_mul]
  simp
  omega
theorem LowAt.ne {x i : Nat} (h : LowAt x i) : x ≠ 0 := by
  obtain ⟨q, rfl⟩ := h
  have := Nat.two_pow_pos i
  have := Nat.mul_pos this (show 0 < 2 * q + 1 by omega)
  omega
theorem LowAt.pred {x i : Nat} (h : LowAt x i) (j : Nat) : (x - 1).testBit j = if j < i then true else if j = i then false else x.testBit j := by
  obtain ⟨q, rfl⟩ := h
  have hp := Nat.two_pow_pos i
  have e : 2 ^ i * (2 * q + 1) - 1 = 2 ^ i * (2 * q) + (2 ^ i - 1) := by
    rw [Nat.mul_add, Nat.mul_one]
    omega
  rw [e, Nat.testBit_two_pow_mul_add _ (by omega)]
  by_cases h1 : j < i
  · rw [if_pos h1, if_pos h1, Nat.testBit_two_pow_sub_one]
    simpa using h1
  · rw [if_neg h1, if_neg h1]
    by_cases h2 : j = i
    · subst h2
      simp
    · rw [if_neg h2, Nat.testBit_two_pow_mul]
      obtain ⟨k, hk⟩ : ∃ k, j - i = k + 1 := ⟨j - i - 1, by omega⟩
      rw [hk, Nat.testBit_succ, Nat.testBit_succ]
      have e1 : 2 * q / 2 = q := by omega
      have e2 : (2 * q + 1) / 2 = q := by omega
      rw [e1, e2]
      have : (decide (j ≥ i)) = true := by simp; omega
      rw [this, Bool.true_and]
theorem LowAt.lt {x i n : Nat} (h : LowAt x i) (hx : x < 2 ^ n) : i < n := by
  rcases Nat.lt_or_ge i n with h1 | h1
  · exact h1
  · have h2 := Nat.testBit_lt_two_pow (Nat.lt_of_lt_of_le hx (Nat.pow_le_pow_right (by omega) h1))
    rw [h.bit] at h2
    cases h2

theorem and_pred_bit {x i : Nat} (h : LowAt x i) (j : Nat) : (x &&& (x - 1)).testBit j = (x.testBit j && decide (j ≠ i)) := by
  rw [Nat.testBit_and, h.pred j]
  by_cases h1 : j < i
  · rw [h.low h1]; simp
  · rw [if_neg h1]
    by_cases h2 : j = i
    · subst h2; simp
    · rw [if_neg h2]; simp [h2]
theorem and_pred_lt {x : Nat} (h : x ≠ 0) : x &&& (x - 1) < x := by
  have := Nat.and_le_right (n := x) (m := x - 1)
  omega

theorem low_word {x i : Nat} (h : LowAt x i) (hx : x < 2 ^ 64) : x &&& (2 ^ 64 - x) = 2 ^ i := by
  apply Nat.eq_of_testBit_eq
  intro j
  have h0 := h.ne
  have hi := h.lt hx
  have e : 2 ^ 64 - x = 2 ^ 64 - ((x - 1) + 1) := by omega
  rw [Nat.testBit_and, e, Nat.testBit_two_pow_sub_succ (by omega), h.pred j, Nat.testBit_two_pow]
  by_cases h1 : j < i
  · rw [h.low h1]
    simp
    omega
  · by_cases h2 : j = i
    · subst h2
      rw [h.bit]
      simp [hi]
    · rw [if_neg h1, if_neg h2]
      have : decide (i = j) = false := by simp; omega
      rw [this]
      cases x.testBit j <;> simp

theorem tz_table : ∀ i : Nat, i < 64 → tzTab.getD (2 ^ i * 285870213051353865 % 18446744073709551616 / 288230376151711744) 0 = (i : Int) := by decide +kernel

theorem tz_low {x i : Nat} (h : LowAt x i) (hx : x < 2 ^ 64) : tzv (x : Int) = (i : Int) := by
  have h0 := h.ne
  have hi := h.lt hx
  have e0 : ¬ (x : Int) = 0 := by omega
  unfold tzv
  rw [if_neg e0]
  have e1 : IntKind.u64.wrap (-(x : Int)) = ((2 ^ 64 - x : Nat) : Int) := by
    unfold IntKind.wrap
    simp [IntKind.signed, IntKind.bits]
    omega
  have e2 : bits BinOp.and IntKind.u64 (x : Int) ((2 ^ 64 - x : Nat) : Int) = ((2 ^ i : Nat) : Int) := by
    have := and_u64 (a := x) (b := 2 ^ 64 - x) hx (by omega)
    rw [iand_eq, low_word h hx] at this
    exact this
  have hp : 2 ^ i < 2 ^ 64 := Nat.pow_lt_pow_right (by omega) hi
  have e3 : (tzIdx (x : Int)).toNat = 2 ^ i * 285870213051353865 % 18446744073709551616 / 288230376151711744 := by
    unfold tzIdx
    rw [e1, e2]
    unfold IntKind.wrap
    simp only [IntKind.signed, IntKind.bits, Bool.false_and]
    rw [show (285870213051353865 : Int) = ((285870213051353865 : Nat) : Int) from rfl, ← Int.natCast_mul]
    generalize 2 ^ i * 285870213051353865 = y
    simp
    omega
  rw [e3]
  exact tz_table i hi

/-! ### the bits of a word, ascending -/
def bitF (x n w : Nat) : List Int := if h : w < n then (if x.testBit w = true then [(w : Int)] else []) ++ bitF x n (w + 1) else []
 termination_by n - w
theorem bitF_end {x n w : Nat} (h : ¬ w < n) : bitF x n w = [] := by rw [bitF, dif_neg h]
theorem bitF_step {x n w : Nat} (h : w < n) : bitF x n w = (if x.testBit w = true then [(w : Int)] else []) ++ bitF x n (w + 1) := by rw [bitF, dif_pos h]
theorem bitF_congr {x y n w : Nat} (h : ∀ j, w ≤ j → x.testBit j = y.testBit j) : bitF x n w = bitF y n w := by
  by_cases hw : w < n
  · rw [bitF_step hw, bitF_step hw, h w (Nat.le_refl _), bitF_congr fun j hj => h j (by omega)]
  · rw [bitF_end hw, bitF_end hw]
 termination_by n - w
theorem bitF_low {x i n : Nat} (h : LowAt x i) (w : Nat) (hw : w ≤ i) (hi : i < n) : bitF x n w = (i : Int) :: bitF (x &&& (x - 1)) n w := by
  have hwn : w < n := by omega
  rw [bitF_step hwn, bitF_step (x := x &&& (x - 1)) hwn, and_pred_bit h w]
  by_cases h1 : w = i
  · subst h1
    rw [h.bit, bitF_congr (x := x &&& (x - 1)) (y := x)]
    · simp
    · intro j hj
      rw [and_pred_bit h j]
      have : decide (j ≠ w) = true := by simp; omega
      rw [this, Bool.and_true]
  · rw [h.low (by omega), bitF_low h (w + 1) (by omega) hi]
    simp
 termination_by i - w
theorem bitF_zero (n w : Nat) : bitF 0 n w = [] := by
  by_cases h : w < n
  · rw [bitF_step h, bitF_zero n (w + 1)]
    simp
  · exact bitF_end h
 termination_by n - w
theorem bitF_mem (x n w : Nat) (y : Int) : y ∈ bitF x n w ↔ (w : Int) ≤ y ∧ y < n ∧ x.testBit y.toNat = true := by
  by_cases h : w < n
  · rw [bitF_step h, List.mem_append, bitF_mem x n (w + 1) y]
    by_cases hb : x.testBit w = true
    · rw [if_pos hb]
      simp
      constructor
      · rintro (rfl | ⟨h1, h2, h3⟩)
        · exact ⟨by omega, by omega, by simpa using hb⟩
        · exact ⟨by omega, h2, h3⟩
      · rintro ⟨h1, h2, h3⟩
        by_cases e : y = w
        · exact .inl e
        · exact .inr ⟨by omega, h2, h3⟩
    · rw [if_neg hb]
      simp
      intro h2 h3
      constructor
      · intro h1; omega
      · intro h1
        have : y ≠ w := by
          rintro rfl
          exact hb (by simpa using h3)
        omega
  · rw [bitF_end h]
    simp
    intro h1 h2
    omega
 termination_by n - w
theorem bitF_len (x n w : Nat) (hw : w ≤ n) : (bitF x n w).length ≤ n - w := by
  by_cases h : w < n
  · have := bitF_len x n (w + 1) h
    rw [bitF_step h, List.length_append]
    split <;> simp <;> omega
  · rw [bitF_end h]; simp
 termination_by n - w
/-- All bits of a word below 2^62. -/
def bitL (x : Nat) : List Int := bitF x 62 0
theorem bitL_zero : bitL 0 = [] := bitF_zero 62 0
theorem bitL_low {x i : Nat} (h : LowAt x i) (hx : x < 2 ^ 62) : bitL x = (i : Int) :: bitL (x &&& (x - 1)) := bitF_low h 0 (Nat.zero_le _) (h.lt hx)
theorem bitL_len (x : Nat) : (bitL x).length ≤ 62 := bitF_len x 62 0 (by omega)
theorem bitL_mem (x : Nat) (y : Int) : y ∈ bitL x ↔ 0 ≤ y ∧ y < 62 ∧ x.testBit y.toNat = true := bitF_mem x 62 0 y
end Go.Proofs.YthpgiimaadohcaaDoor.Zv
