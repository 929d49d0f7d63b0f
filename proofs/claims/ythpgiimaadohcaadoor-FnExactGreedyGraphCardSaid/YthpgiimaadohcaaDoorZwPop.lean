/- How many bits are set: the library's way with masks tells it. -/
import Derived.Test.YthpgiimaadohcaaDoorZwLaws
namespace Go.Proofs.YthpgiimaadohcaaDoor.Zv
open Go

/-- The number of bits that are set. -/
def pc (x : Nat) : Nat := if h : x = 0 then 0 else x % 2 + pc (x / 2)
 termination_by x
 decreasing_by omega

theorem pc_zero : pc 0 = 0 := by rw [pc]; simp
theorem pc_step (x : Nat) : pc x = x % 2 + pc (x / 2) := by
  by_cases h : x = 0
  · subst h; simp [pc_zero]
  · conv => lhs; rw [pc]
    simp [h]

/-- A number by its digits, the lowest one first. -/
def dig (b : Nat) : List Nat → Nat
  | [] => 0
  | d :: r => d + b * dig b r
/-- The lowest m bits. -/
def bitsL (x : Nat) : Nat → List Nat
  | 0 => []
  | m + 1 => x % 2 :: bitsL (x / 2) m
theorem bitsL_length (x m : Nat) : (bitsL x m).length = m := by
  induction m generalizing x with
  | zero => rfl
  | succ m ih => simp [bitsL, ih]
theorem bitsL_dig (x m : Nat) (h : x < 2 ^ m) : dig 2 (bitsL x m) = x := by
  induction m generalizing x with
  | zero => simp at h; simp [bitsL, dig, h]
  | succ m ih =>
    simp only [bitsL, dig]
    rw [ih (x / 2) (by rw [Nat.pow_succ] at h; omega)]
    omega
theorem bitsL_sum (x m : Nat) (h : x < 2 ^ m) : (bitsL x m).sum = pc x := by
  induction m generalizing x with
  | zero => simp at h; simp [bitsL, h, pc_zero]
  | succ m ih =>
    simp only [bitsL, List.sum_cons]
    rw [ih (x / 2) (by rw [Nat.pow_succ] at h; omega), ← pc_step]
theorem bitsL_le (x m : Nat) : ∀ d ∈ bitsL x m, d ≤ 1 := by
  induction m generalizing x with
  | zero => simp [bitsL]
  | succ m ih =>
    simp only [bitsL, List.mem_cons]
    rintro d (rfl | h)
    · omega
    · exact ih _ _ h

theorem and_split {a l r l' r' : Nat} (h : l < 2 ^ a) (h' : l' < 2 ^ a) : (l + 2 ^ a * r) &&& (l' + 2 ^ a * r') = (l &&& l') + 2 ^ a * (r &&& r') := by
  have hl : l &&& l' < 2 ^ a := Nat.and_lt_two_pow _ h'
  rw [Nat.add_comm l, Nat.add_comm l', Nat.add_comm (l &&& l')]
  apply Nat.eq_of_testBit_eq
  intro i
  rw [Nat.testBit_and, Nat.testBit_two_pow_mul_add _ h, Nat.testBit_two_pow_mul_add _ h', Nat.testBit_two_pow_mul_add _ hl]
  split <;> simp [Nat.testBit_and]

def msk (w : Nat) : Nat → Nat
  | 0 => 0
  | m + 1 => (2 ^ w - 1) + 2 ^ (2 * w) * msk w m

/-- Pairs of digits, added. -/
def pairs : List Nat → List Nat
  | a :: b :: r => (a + b) :: pairs r
  | _ => []
def evens : List Nat → List Nat
  | a :: _ :: r => a :: evens r
  | _ => []
def odds : List Nat → List Nat
  | _ :: b :: r => b :: odds r
  | _ => []

theorem two_w (w : Nat) : 2 ^ (2 * w) = 2 ^ w * 2 ^ w := by rw [Nat.two_mul, Nat.pow_add]
theorem mask_low {w d e : Nat} (h : d < 2 ^ w) : (d + 2 ^ w * e) &&& (2 ^ w - 1) = d := by
  rw [Nat.and_two_pow_sub_one_eq_mod, Nat.add_mul_mod_self_left, Nat.mod_eq_of_lt h]

theorem and_even (w : Nat) : ∀ (m : Nat) (ds : List Nat), ds.length = 2 * m → (∀ d ∈ ds, d < 2 ^ w) → dig (2 ^ w) ds &&& msk w m = dig (2 ^ (2 * w)) (evens ds)
  | 0, ds, hl, _ => by
    have : ds = [] := List.length_eq_zero_iff.mp (by omega)
    subst this; simp [dig, evens, msk]
  | m + 1, a :: b :: r, hl, hd => by
    have ha := hd a (by simp)
    have hb := hd b (by simp)
    have ih := and_even w m r (by simp at hl; omega) fun d h => hd d (by simp [h])
    have hp : 0 < 2 ^ w := Nat.two_pow_pos w
    have e : dig (2 ^ w) (a :: b :: r) = (a + 2 ^ w * b) + 2 ^ (2 * w) * dig (2 ^ w) r := by
      simp only [dig]
      rw [two_w, Nat.mul_add, Nat.mul_assoc, Nat.add_assoc]
    have hlt : a + 2 ^ w * b < 2 ^ (2 * w) := by
      rw [two_w]
      have : 2 ^ w * b + 2 ^ w ≤ 2 ^ w * 2 ^ w := by
        rw [← Nat.mul_succ]; exact Nat.mul_le_mul_left _ hb
      omega
    have hm : 2 ^ w - 1 < 2 ^ (2 * w) := by
      have : 2 ^ w ≤ 2 ^ (2 * w) := Nat.pow_le_pow_right (by omega) (by omega)
      omega
    rw [e, msk, and_split hlt hm, ih, mask_low ha]
    simp [evens, dig]
  | m + 1, [], hl, _ => by simp at hl
  | m + 1, [a], hl, _ => by simp at hl; omega

theorem dig_div (b : Nat) (hb : 0 < b) (d : Nat) (r : List Nat) (hd : d < b) : dig b (d :: r) / b = dig b r := by
  simp only [dig]
  rw [Nat.add_mul_div_left _ _ hb, Nat.div_eq_of_lt hd, Nat.zero_add]

theorem dig_append0 (b : Nat) (r : List Nat) : dig b (r ++ [0]) = dig b r := by
  induction r with
  | nil => simp [dig]
  | cons a r ih => simp [dig, ih]

theorem evens_tail : ∀ (ds : List Nat), ds.length % 2 = 0 → evens (ds.tail ++ [0]) = odds ds
  | [], _ => by simp [evens, odds]
  | [a], h => by simp at h
  | [a, b], _ => by simp [evens, odds]
  | a :: b :: c :: r, h => by
    have := evens_tail (c :: r) (by simp at h ⊢; omega)
    simp only [List.tail_cons, List.cons_append, evens, odds] at this ⊢
    rw [this]

theorem and_odd (w : Nat) (m : Nat) (ds : List Nat) (hl : ds.length = 2 * m) (hd : ∀ d ∈ ds, d < 2 ^ w) : (dig (2 ^ w) ds / 2 ^ w) &&& msk w m = dig (2 ^ (2 * w)) (odds ds) := by
  have hp : 0 < 2 ^ w := Nat.two_pow_pos w
  cases ds with
  | nil =>
    have : m = 0 := by simp at hl; omega
    subst this; simp [dig, odds, msk]
  | cons a r =>
    rw [dig_div _ hp _ _ (hd a (by simp)), ← dig_append0, and_even w m (r ++ [0]) (by simp at hl ⊢; omega) (by
      intro d h
      simp only [List.mem_append, List.mem_singleton] at h
      rcases h with h | rfl
      · exact hd d (by simp [h])
      · exact hp)]
    have := evens_tail (a :: r) (by omega)
    simp only [List.tail_cons] at this
    rw [this]

theorem eo_pairs (b : Nat) : ∀ (ds : List Nat), dig b (odds ds) + dig b (evens ds) = dig b (pairs ds)
  | [] => by simp [odds, evens, pairs, dig]
  | [a] => by simp [odds, evens, pairs, dig]
  | a :: c :: r => by
    have := eo_pairs b r
    simp only [odds, evens, pairs, dig]
    rw [← this, Nat.mul_add]
    omega
theorem pairs_sum : ∀ (ds : List Nat), ds.length % 2 = 0 → (pairs ds).sum = ds.sum
  | [], _ => rfl
  | [a], h => by simp at h
  | a :: b :: r, h => by
    have := pairs_sum r (by simp at h; omega)
    simp only [pairs, List.sum_cons, this]
    omega
theorem pairs_length : ∀ (ds : List Nat), (pairs ds).length = ds.length / 2
  | [] => rfl
  | [a] => by simp [pairs]
  | a :: b :: r => by
    have := pairs_length r
    simp only [pairs, List.length_cons, this]
    omega
theorem pairs_le (k : Nat) : ∀ (ds : List Nat), (∀ d ∈ ds, d ≤ k) → ∀ d ∈ pairs ds, d ≤ 2 * k
  | [], _ => by simp [pairs]
  | [a], _ => by simp [pairs]
  | a :: b :: r, h => by
    have h1 := h a (by simp)
    have h2 := h b (by simp)
    have ih := pairs_le k r fun d hd => h d (by simp [hd])
    simp only [pairs, List.mem_cons]
    rintro d (rfl | hd)
    · omega
    · exact ih d hd

/-- A step with masks: pairs of digits are added. -/
theorem mask_step (w m : Nat) (ds : List Nat) (hl : ds.length = 2 * m) (hd : ∀ d ∈ ds, d < 2 ^ w) : ((dig (2 ^ w) ds / 2 ^ w) &&& msk w m) + (dig (2 ^ w) ds &&& msk w m) = dig (2 ^ (2 * w)) (pairs ds) := by
  rw [and_odd w m ds hl hd, and_even w m ds hl hd, eo_pairs]

def neigh : List Nat → List Nat
  | a :: b :: r => (a + b) :: neigh (b :: r)
  | l => l
theorem neigh_length : ∀ (ds : List Nat), (neigh ds).length = ds.length
  | [] => rfl
  | [a] => rfl
  | a :: b :: r => by simp [neigh, neigh_length (b :: r)]
theorem neigh_le (k : Nat) : ∀ (ds : List Nat), (∀ d ∈ ds, d ≤ k) → ∀ d ∈ neigh ds, d ≤ 2 * k
  | [], _ => by simp [neigh]
  | [a], h => by simp only [neigh, List.mem_singleton]; rintro d rfl; have := h d (by simp); omega
  | a :: b :: r, h => by
    have h1 := h a (by simp)
    have h2 := h b (by simp)
    have ih := neigh_le k (b :: r) fun d hd => h d (List.mem_cons_of_mem _ hd)
    simp only [neigh, List.mem_cons]
    rintro d (rfl | hd)
    · omega
    · exact ih d hd
theorem neigh_dig (b : Nat) (hb : 0 < b) : ∀ (ds : List Nat), (∀ d ∈ ds, d < b) → dig b ds / b + dig b ds = dig b (neigh ds)
  | [], _ => by simp [dig, neigh]
  | [a], h => by
    rw [dig_div b hb a [] (h a (by simp))]
    simp [dig, neigh]
  | a :: c :: r, h => by
    have ih := neigh_dig b hb (c :: r) fun d hd => h d (List.mem_cons_of_mem _ hd)
    rw [dig_div b hb c r (h c (by simp))] at ih
    rw [dig_div b hb a (c :: r) (h a (by simp))]
    have e1 : dig b (a :: c :: r) = a + b * dig b (c :: r) := rfl
    have e2 : dig b (neigh (a :: c :: r)) = (a + c) + b * dig b (neigh (c :: r)) := rfl
    rw [e1, e2, ← ih, Nat.mul_add]
    have e3 : dig b (c :: r) = c + b * dig b r := rfl
    omega
theorem neigh_evens : ∀ (ds : List Nat), ds.length % 2 = 0 → evens (neigh ds) = pairs ds
  | [], _ => rfl
  | [a], h => by simp at h
  | [a, b], _ => rfl
  | a :: b :: c :: r, h => by
    have := neigh_evens (c :: r) (by simp at h ⊢; omega)
    have e : neigh (a :: b :: c :: r) = (a + b) :: (b + c) :: neigh (c :: r) := rfl
    rw [e]
    simp only [evens, pairs, this]

def addL : List Nat → List Nat → List Nat
  | a :: r, b :: s => (a + b) :: addL r s
  | [], s => s
  | r, [] => r
theorem addL_dig (b : Nat) : ∀ (r s : List Nat), dig b (addL r s) = dig b r + dig b s
  | [], s => by simp [addL, dig]
  | a :: r, [] => by simp [addL, dig]
  | a :: r, c :: s => by
    simp only [addL, dig]
    rw [addL_dig b r s, Nat.mul_add]
    omega
theorem dig_drop (b : Nat) (hb : 0 < b) : ∀ (k : Nat) (ds : List Nat), (∀ d ∈ ds, d < b) → dig b ds / b ^ k = dig b (ds.drop k)
  | 0, ds, _ => by simp
  | k + 1, [], _ => by simp [dig]
  | k + 1, d :: r, h => by
    rw [Nat.pow_succ, Nat.mul_comm, ← Nat.div_div_eq_div_mul, dig_div b hb d r (h d (by simp)), dig_drop b hb k r fun d hd => h d (List.mem_cons_of_mem _ hd)]
    rfl
theorem dig_lt (b : Nat) : ∀ (ds : List Nat), (∀ d ∈ ds, d + 1 ≤ b) → dig b ds + 1 ≤ b ^ ds.length
  | [], _ => by simp [dig]
  | d :: r, h => by
    have h1 := dig_lt b r fun d hd => h d (List.mem_cons_of_mem _ hd)
    have h2 := h d (by simp)
    simp only [dig, List.length_cons]
    have h3 : b * (dig b r + 1) ≤ b * b ^ r.length := Nat.mul_le_mul_left _ h1
    rw [Nat.mul_add] at h3
    rw [Nat.pow_succ, Nat.mul_comm (b ^ r.length)]
    omega

theorem dig_snoc (b : Nat) (t : Nat) : ∀ (r : List Nat), dig b (r ++ [t]) = dig b r + b ^ r.length * t
  | [] => by simp [dig]
  | a :: r => by
    simp only [List.cons_append, dig, List.length_cons]
    rw [dig_snoc b t r, Nat.mul_add, Nat.pow_succ, Nat.mul_comm (b ^ r.length) b, Nat.mul_assoc]
    omega

/-- The last steps: eight digits are added up. -/
theorem last_step (ds : List Nat) (hl : ds.length = 8) (hd : ∀ d ∈ ds, d ≤ 8) (x y z u : Nat) (hx : x = dig 256 ds) (hy : y = x + x / 2 ^ 8) (hz : z = y + y / 2 ^ 16) (hu : u = z + z / 2 ^ 32) : u % 128 = ds.sum ∧ u < 2 ^ 63 ∧ z < 2 ^ 64 ∧ y < 2 ^ 64 := by
  match ds, hl with
  | [a, b, c, d, e, f, g, h], _ =>
    have h1 := hd a (by simp)
    have h2 := hd b (by simp)
    have h3 := hd c (by simp)
    have h4 := hd d (by simp)
    have h5 := hd e (by simp)
    have h6 := hd f (by simp)
    have h7 := hd g (by simp)
    have h8 := hd h (by simp)
    clear hd
    have y0 : y = dig 256 [a + b, b + c, c + d, d + e, e + f, f + g, g + h, h] := by
      rw [hy, hx, show (2 : Nat) ^ 8 = 256 ^ 1 from rfl, dig_drop 256 (by omega) 1 _ (by simp; omega), ← addL_dig]
      rfl
    have z0 : z = dig 256 [a + b + (c + d), b + c + (d + e), c + d + (e + f), d + e + (f + g), e + f + (g + h), f + g + h, g + h, h] := by
      rw [hz, y0, show (2 : Nat) ^ 16 = 256 ^ 2 from rfl, dig_drop 256 (by omega) 2 _ (by simp; omega), ← addL_dig]
      rfl
    have u0 : u = dig 256 [a + b + (c + d) + (e + f + (g + h)), b + c + (d + e) + (f + g + h), c + d + (e + f) + (g + h), d + e + (f + g) + h, e + f + (g + h), f + g + h, g + h, h] := by
      rw [hu, z0, show (2 : Nat) ^ 32 = 256 ^ 4 from rfl, dig_drop 256 (by omega) 4 _ (by simp; omega), ← addL_dig]
      rfl
    refine ⟨?_, ?_, ?_, ?_⟩
    · rw [u0, dig]
      generalize dig 256 _ = R
      simp only [List.sum_cons, List.sum_nil]
      clear hx hy hz hu y0 z0 u0
      omega
    · have es := dig_snoc 256 h [a + b + (c + d) + (e + f + (g + h)), b + c + (d + e) + (f + g + h), c + d + (e + f) + (g + h), d + e + (f + g) + h, e + f + (g + h), f + g + h, g + h]
      have l := dig_lt 256 [a + b + (c + d) + (e + f + (g + h)), b + c + (d + e) + (f + g + h), c + d + (e + f) + (g + h), d + e + (f + g) + h, e + f + (g + h), f + g + h, g + h] (by simp; omega)
      simp only [List.cons_append, List.nil_append] at es
      rw [u0, es]
      generalize dig 256 _ = R at l ⊢
      simp only [List.length_cons, List.length_nil] at l ⊢
      clear hx hy hz hu y0 z0 u0 es
      omega
    · rw [z0]
      exact Nat.lt_of_lt_of_le (Nat.lt_of_succ_le (dig_lt 256 _ (by simp; omega))) (by simp)
    · rw [y0]
      exact Nat.lt_of_lt_of_le (Nat.lt_of_succ_le (dig_lt 256 _ (by simp; omega))) (by simp)

theorem msk1 : msk 1 32 = 6148914691236517205 := by decide +kernel
theorem msk2 : msk 2 16 = 3689348814741910323 := by decide +kernel
theorem msk4 : msk 4 8 = 1085102592571150095 := by decide +kernel

/-- All steps. -/
theorem pop_all (x : Nat) (hx : x < 2 ^ 64) (a b c d e f : Nat) (ha : a = ((x / 2 ^ 1) &&& 6148914691236517205) + (x &&& 6148914691236517205)) (hb : b = ((a / 2 ^ 2) &&& 3689348814741910323) + (a &&& 3689348814741910323)) (hc : c = (b / 2 ^ 4 + b) &&& 1085102592571150095) (hd : d = c + c / 2 ^ 8) (he : e = d + d / 2 ^ 16) (hf : f = e + e / 2 ^ 32) :
    f % 128 = pc x ∧ a < 2 ^ 64 ∧ b < 2 ^ 64 ∧ b / 2 ^ 4 + b < 2 ^ 64 ∧ c < 2 ^ 64 ∧ d < 2 ^ 64 ∧ e < 2 ^ 64 ∧ f < 2 ^ 63 := by
  have q0 := bitsL_length x 64
  have q1 := bitsL_le x 64
  have e0 := bitsL_dig x 64 hx
  have s0 := bitsL_sum x 64 hx
  generalize bitsL x 64 = l0 at q0 q1 e0 s0
  have a1 : a = dig (2 ^ 2) (pairs l0) := by
    rw [ha, ← msk1, ← e0]
    exact mask_step 1 32 l0 q0 fun d h => by have := q1 d h; omega
  have q2 := pairs_length l0
  have q3 := pairs_le 1 l0 q1
  have s1 := pairs_sum l0 (by omega)
  generalize pairs l0 = l1 at a1 q2 q3 s1
  have b1 : b = dig (2 ^ 4) (pairs l1) := by
    rw [hb, ← msk2, a1]
    exact mask_step 2 16 l1 (by omega) fun d h => by have := q3 d h; omega
  have q4 := pairs_length l1
  have q5 := pairs_le 2 l1 q3
  have s2 := pairs_sum l1 (by omega)
  have a2 : a < 2 ^ 64 := by
    have := dig_lt (2 ^ 2) l1 fun d h => by have := q3 d h; omega
    rw [q2, q0] at this
    rw [a1]
    omega
  generalize pairs l1 = l2 at b1 q4 q5 s2
  have b2 : b < 2 ^ 64 := by
    have := dig_lt (2 ^ 4) l2 fun d h => by have := q5 d h; omega
    rw [q4, q2, q0] at this
    rw [b1]
    omega
  have n1 : b / 2 ^ 4 + b = dig (2 ^ 4) (neigh l2) := by
    rw [b1]
    exact neigh_dig (2 ^ 4) (by omega) l2 fun d h => by have := q5 d h; omega
  have n2 := neigh_length l2
  have n3 := neigh_le 4 l2 q5
  have n4 := neigh_evens l2 (by omega)
  have b3 : b / 2 ^ 4 + b < 2 ^ 64 := by
    have := dig_lt (2 ^ 4) (neigh l2) fun d h => by have := n3 d h; omega
    rw [n2, q4, q2, q0] at this
    rw [n1]
    omega
  have c1 : c = dig (2 ^ 8) (pairs l2) := by
    rw [hc, ← msk4, n1, and_even 4 8 (neigh l2) (by omega) (fun d h => by have := n3 d h; omega), n4]
  have q6 := pairs_length l2
  have q7 := pairs_le 4 l2 q5
  have s3 := pairs_sum l2 (by omega)
  generalize pairs l2 = l3 at c1 q6 q7 s3
  have c2 : c < 2 ^ 64 := by
    have := dig_lt (2 ^ 8) l3 fun d h => by have := q7 d h; omega
    rw [q6, q4, q2, q0] at this
    rw [c1]
    omega
  obtain ⟨r1, r2, r3, r4⟩ := last_step l3 (by omega) q7 c d e f c1 hd he hf
  exact ⟨by omega, a2, b2, b3, c2, r4, r3, r2⟩
end Go.Proofs.YthpgiimaadohcaaDoor.Zv
