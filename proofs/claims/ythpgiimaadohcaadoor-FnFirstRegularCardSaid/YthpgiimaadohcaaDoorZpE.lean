/- Part E of the proof: ZwCover, ZwMark, ZwEdge, ZwDist, ZwDist2, ZwMay, ZwFill, ZwWalk, ZwGirth, ZwFrom, ZwFrom2, ZwWays2, ZwBound, ZwMoore, ZwMoore2, ZwLL, ZwLawGreedy, ZwFits, ZwSearch, ZwFound, ZwSearch2, ZwFirst. Conditions: none. -/
import Derived.Test.YthpgiimaadohcaaDoorZpD
set_option linter.unusedSimpArgs false
set_option linter.unusedVariables false
/- Neighbours, vertices that are in range, covers. -/
namespace Go.Proofs.YthpgiimaadohcaaDoor.Zv
open Go
variable {nro : Nat}

/-! ### how many bits -/
theorem and_127 {a : Nat} (ha : a < 2 ^ 63) : iand .i64 (a : Int) 127 = ((a % 128 : Nat) : Int) := by
  have := iand_nat (a := a) (b := 127) ha (by omega)
  rw [show (127 : Nat) = 2 ^ 7 - 1 from rfl, Nat.and_two_pow_sub_one_eq_mod] at this
  exact this

theorem c_math_bits_OnesCount64 (x : Nat) (h : VH) (hx : x < 2 ^ 63) : vcall F nro k_math_bits_OnesCount64 [.int .u64 x] h = some (.int .i64 (pc x), h) := by
  refine v_math_bits_OnesCount64 (by simp [i_math_bits_OnesCount64]) ?_
  rw [fbody_eq]
  obtain ⟨a, ha⟩ : ∃ a, a = ((x / 2 ^ 1) &&& 6148914691236517205) + (x &&& 6148914691236517205) := ⟨_, rfl⟩
  obtain ⟨b, hb⟩ : ∃ b, b = ((a / 2 ^ 2) &&& 3689348814741910323) + (a &&& 3689348814741910323) := ⟨_, rfl⟩
  obtain ⟨c, hc⟩ : ∃ c, c = (b / 2 ^ 4 + b) &&& 1085102592571150095 := ⟨_, rfl⟩
  obtain ⟨d, hd⟩ : ∃ d, d = c + c / 2 ^ 8 := ⟨_, rfl⟩
  obtain ⟨e, he⟩ : ∃ e, e = d + d / 2 ^ 16 := ⟨_, rfl⟩
  obtain ⟨f, hf⟩ : ∃ f, f = e + e / 2 ^ 32 := ⟨_, rfl⟩
  obtain ⟨r1, r2, r3, r4, r5, r6, r7, r8⟩ := pop_all x (by omega) a b c d e f ha hb hc hd he hf
  have q1 : ∀ y : Nat, ishr .u64 (y : Int) 1 = ((y / 2 ^ 1 : Nat) : Int) := fun y => shr_u64 (a := y) (b := 1) (by omega)
  have q2 : ∀ y : Nat, ishr .u64 (y : Int) 2 = ((y / 2 ^ 2 : Nat) : Int) := fun y => shr_u64 (a := y) (b := 2) (by omega)
  have q4 : ∀ y : Nat, ishr .u64 (y : Int) 4 = ((y / 2 ^ 4 : Nat) : Int) := fun y => shr_u64 (a := y) (b := 4) (by omega)
  have q8 : ∀ y : Nat, ishr .u64 (y : Int) 8 = ((y / 2 ^ 8 : Nat) : Int) := fun y => shr_u64 (a := y) (b := 8) (by omega)
  have q16 : ∀ y : Nat, ishr .u64 (y : Int) 16 = ((y / 2 ^ 16 : Nat) : Int) := fun y => shr_u64 (a := y) (b := 16) (by omega)
  have q32 : ∀ y : Nat, ishr .u64 (y : Int) 32 = ((y / 2 ^ 32 : Nat) : Int) := fun y => shr_u64 (a := y) (b := 32) (by omega)
  have w : ∀ y : Nat, y < 2 ^ 64 → IntKind.u64.wrap (y : Int) = (y : Int) := fun y hy => wrapu64 (by omega) (by omega)
  have s1 : IntKind.u64.wrap (iand .u64 (ishr .u64 (x : Int) 1) 6148914691236517205 + iand .u64 (x : Int) 6148914691236517205) = (a : Int) := by
    rw [q1, show (6148914691236517205 : Int) = ((6148914691236517205 : Nat) : Int) from rfl, and_u64 (by omega) (by omega), and_u64 (by omega) (by omega), ← Int.natCast_add, ← ha]
    exact w a r2
  have s2 : IntKind.u64.wrap (iand .u64 (ishr .u64 (a : Int) 2) 3689348814741910323 + iand .u64 (a : Int) 3689348814741910323) = (b : Int) := by
    rw [q2, show (3689348814741910323 : Int) = ((3689348814741910323 : Nat) : Int) from rfl, and_u64 (by omega) (by omega), and_u64 (by omega) (by omega), ← Int.natCast_add, ← hb]
    exact w b r3
  have s3 : iand .u64 (IntKind.u64.wrap (ishr .u64 (b : Int) 4 + (b : Int))) 1085102592571150095 = (c : Int) := by
    rw [q4, ← Int.natCast_add, w _ r4, show (1085102592571150095 : Int) = ((1085102592571150095 : Nat) : Int) from rfl, and_u64 r4 (by omega), ← hc]
  have s4 : IntKind.u64.wrap ((c : Int) + ishr .u64 (c : Int) 8) = (d : Int) := by
    rw [q8, ← Int.natCast_add, ← hd, w _ r6]
  have s5 : IntKind.u64.wrap ((d : Int) + ishr .u64 (d : Int) 16) = (e : Int) := by
    rw [q16, ← Int.natCast_add, ← he, w _ r7]
  have s6 : IntKind.u64.wrap ((e : Int) + ishr .u64 (e : Int) 32) = (f : Int) := by
    rw [q32, ← Int.natCast_add, ← hf, w _ (by omega)]
  have s7 : iand .i64 (IntKind.i64.wrap (f : Int)) 127 = (pc x : Int) := by
    rw [wrap64 (by omega) (by omega), and_127 r8, r1]
  clear r1 r2 r3 r4 r5 r6 r7 r8 ha hb hc hd he hf q1 q2 q4 q8 q16 q32 w
  simp (disch := first | assumption | omega | (simp [*] <;> omega) | fail) [i_math_bits_OnesCount64, s1, s2, s3, s4, s5, s6, s7]

theorem pc_le (x m : Nat) (h : x < 2 ^ m) : pc x ≤ m := by
  rw [← bitsL_sum x m h]
  have h1 := bitsL_le x m
  have h2 := bitsL_length x m
  generalize bitsL x m = l at h1 h2
  subst h2
  clear h
  induction l with
  | nil => simp
  | cons a r ih =>
    have := ih fun d hd => h1 d (by simp [hd])
    have := h1 a (by simp)
    simp
    omega

theorem c_impl_size (x : Int) (h : VH) (h0 : 0 ≤ x) (hx : x < 4611686018427387904) : vcall F nro k_impl_size [.int .i64 x] h = some (.int .i64 (pc x.toNat), h) := by
  refine v_impl_size (by simp [i_impl_size]) ?_
  rw [fbody_eq]
  have hc := c_math_bits_OnesCount64 (nro := nro) x.toNat h (by omega)
  rw [Int.toNat_of_nonneg h0] at hc
  simp (disch := first | assumption | omega | (simp [*] <;> omega) | fail) [i_impl_size, wrapu64, hc]

theorem c_impl_Graph_degree (n v : Int) (s : Value) (rows : List Int) (h : VH) (hs : Sli h s rows) (h1 : 0 ≤ v) (h2 : v < rows.length) (h5 : 0 ≤ rows.getD v.toNat 0) (h6 : rows.getD v.toNat 0 < 4611686018427387904) :
    vcall F nro k_impl_Graph_degree [gv n s, .int .i64 v] h = some (.int .i64 (pc (rows.getD v.toNat 0).toNat), h) := by
  refine v_impl_Graph_degree (by simp [i_impl_Graph_degree]) ?_
  rw [fbody_eq]
  have hc := c_impl_size (nro := nro) (rows.getD v.toNat 0) (bx h n s) h5 h6
  rw [getD_at rows (by omega)] at hc ⊢
  simp (disch := first | assumption | omega | (simp [*] <;> omega) | fail) [i_impl_Graph_degree, hs.vidx', hs.vload', hc]

theorem sli_at {h : VH} {b : Nat} {xs : List Int} (hb : h[b]? = some ⟨1, ints xs⟩) : Sli h (.slice (some ⟨b, 0, none⟩) xs.length xs.length) xs := by simp [Sli, Sl, hb]

/-! ### vertices in range -/
/-! ### neighbours -/
theorem ints_snoc (ys : List Int) (w : Int) : ints ys ++ [Value.int .i64 w] = ints (ys ++ [w]) := by simp [ints]
end Go.Proofs.YthpgiimaadohcaaDoor.Zv

/- Marks: what is written into a graph's rows, and what is held there. -/
namespace Go.Proofs.YthpgiimaadohcaaDoor.Zv
open Go
variable {nro : Nat}

/-- k, k + 1, .. -/
def cnt (k : Int) (n : Nat) : List Int := (List.range n).map fun (i : Nat) => k + (i : Int)
@[simp] theorem cnt_length (k : Int) (n : Nat) : (cnt k n).length = n := by simp [cnt]
@[simp] theorem take_cnt (k : Int) (n : Nat) : List.take n (ints (cnt k n)) = ints (cnt k n) := List.take_of_length_le (by simp)

@[simp] theorem cnt_zero (k : Int) : cnt k 0 = [] := rfl

end Go.Proofs.YthpgiimaadohcaaDoor.Zv

/- Edges put in and taken out: PutEdge, TakeEdge. -/
namespace Go.Proofs.YthpgiimaadohcaaDoor.Zv
open Go
variable {nro : Nat}

/-! ### copies -/
theorem ints_nj (xs : List Int) : ∀ x ∈ ints xs, isJunk x = false := by
  intro x hx
  obtain ⟨n, _, rfl⟩ := List.mem_map.mp hx
  rfl
theorem Sli.neqnil {h : VH} {s : Value} {xs : List Int} (hs : Sli h s xs) (hx : xs ≠ []) (neg : Bool) : veqnilS neg h s = some (.bool neg, h) := by
  unfold Sli Sl vsrc at hs
  split at hs
  · cases xs with
    | nil => exact absurd rfl hx
    | cons x r => simp at hs
  · cases xs with
    | nil => exact absurd rfl hx
    | cons x r => simp at hs
  · rename_i a n tot
    split at hs
    · rename_i o ho
      split at hs
      · rename_i hc
        simp [ho, hc.2.1]
      · cases hs
    · cases hs
  · cases hs
theorem c_slices_Clone (s : Value) (xs : List Int) (h : VH) (hs : Sli h s xs) (hx : xs ≠ []) (hl : xs.length ≤ 1000) (hn : nro ≤ h.length) :
    vcall F nro k_slices_Clone_int64_int64 [s] h = some (.slice (some ⟨h.length, 0, none⟩) xs.length xs.length, h ++ [⟨1, ints xs⟩]) := by
  refine v_slices_Clone_int64_int64 (by simp [i_slices_Clone_int64_int64]) ?_
  rw [fbody_eq]
  have hv : vsrc 1 (h ++ [⟨1, []⟩]) s = some (ints xs, (ints xs).length) := hs.app _
  have hn' := fun k => Nat.le_trans hn (Nat.le_add_right h.length k)
  have b1 : xs.length * 8 ≤ 1099511627776 := by omega
  have b2 : xs.length ≤ 1099511627776 := by omega
  simp (disch := first | assumption | omega | (simp [*] <;> omega) | fail) [i_slices_Clone_int64_int64, hs.neqnil hx, hv, hn, hn', b1, b2]
  have hj := ints_nj xs
  unfold isJunk at hj
  exact hj

theorem c_impl_own (n : Int) (s : Value) (xs : List Int) (h : VH) (hs : Sli h s xs) (hx : xs ≠ []) (hl : xs.length ≤ 1000) (hn : nro ≤ h.length) :
    vcall F nro k_impl_own [gv n s] h = some (gv n (.slice (some ⟨h.length, 0, none⟩) xs.length xs.length), h ++ [⟨1, ints xs⟩]) := by
  refine v_impl_own (by simp [i_impl_own]) ?_
  rw [fbody_eq]
  have hc := c_slices_Clone (nro := nro) s xs (h ++ [⟨0, [.int .i64 n, s]⟩, ⟨0, [.int .i64 0, .slice none 0 0]⟩]) (hs.app _) hx hl (by simp; omega)
  simp at hc
  have hn' := fun k => Nat.le_trans hn (Nat.le_add_right h.length k)
  simp (disch := first | assumption | omega | (simp [*] <;> omega) | fail) [i_impl_own, hc, fresults, fresL, fres1, hn', hn]

/-! ### an edge less -/
theorem sub_bit {x b : Nat} (h : x.testBit b = true) : 2 ^ b ≤ x ∧ ∀ w, (x - 2 ^ b).testBit w = (x.testBit w && decide (w ≠ b)) := by
  have hx : x = 2 ^ (b + 1) * (x / 2 ^ (b + 1)) + (2 ^ b + x % 2 ^ b) := by
    have h1 := Nat.div_add_mod x (2 ^ (b + 1))
    have h2 : x % 2 ^ (b + 1) = x % 2 ^ b + 2 ^ b * (x / 2 ^ b % 2) := Nat.mod_pow_succ
    rw [Nat.testBit_eq_decide_div_mod_eq] at h
    have h3 : x / 2 ^ b % 2 = 1 := by simpa using h
    rw [h3] at h2
    omega
  have hr : x % 2 ^ b < 2 ^ b := Nat.mod_lt _ (Nat.two_pow_pos b)
  have hp : 2 ^ (b + 1) = 2 * 2 ^ b := by rw [Nat.pow_succ]; omega
  refine ⟨by omega, fun w => ?_⟩
  have e1 : x - 2 ^ b = 2 ^ (b + 1) * (x / 2 ^ (b + 1)) + x % 2 ^ b := by omega
  rw [e1]
  conv => rhs; rw [hx]
  rw [Nat.testBit_two_pow_mul_add _ (by omega), Nat.testBit_two_pow_mul_add _ (by omega)]
  by_cases hw : w < b + 1
  · rw [if_pos hw, if_pos hw]
    have e2 := Nat.testBit_two_pow_mul_add 1 hr w
    rw [Nat.mul_one] at e2
    rw [e2]
    by_cases hw2 : w < b
    · simp [hw2, Nat.ne_of_lt hw2]
    · have : w = b := by omega
      subst this
      simp
  · rw [if_neg hw, if_neg hw]
    have : w ≠ b := by omega
    simp [this]

theorem andNot_bit {x : Nat} {b : Int} (hx : x < 2 ^ 62) (h1 : b ≤ 62) (hs : x.testBit b.toNat = true) : iandNot .i64 (x : Int) (ishl .i64 1 b) = ((x - 2 ^ b.toNat : Nat) : Int) := by
  rw [ishl_one h1, iandNot_eq]
  have hp : 2 ^ b.toNat ≤ 2 ^ 62 := Nat.pow_le_pow_right (by omega) (by omega)
  have e1 : (BitVec.ofInt IntKind.i64.bits (x : Int)).toNat = x := ofInt_nat 64 x (by omega)
  have e2 : (BitVec.ofInt IntKind.i64.bits ((2 ^ b.toNat : Nat) : Int)).toNat = 2 ^ b.toNat := ofInt_nat 64 _ (by omega)
  obtain ⟨h2, h3⟩ := sub_bit hs
  have e3 : (BitVec.ofInt IntKind.i64.bits (x : Int) &&& ~~~ BitVec.ofInt IntKind.i64.bits ((2 ^ b.toNat : Nat) : Int)).toNat = x - 2 ^ b.toNat := by
    apply Nat.eq_of_testBit_eq
    intro w
    rw [h3, BitVec.testBit_toNat, BitVec.getLsbD_and, BitVec.getLsbD_not, ← BitVec.testBit_toNat, ← BitVec.testBit_toNat, e1, e2, Nat.testBit_two_pow]
    by_cases hw : w < IntKind.i64.bits
    · by_cases hb : b.toNat = w
      · simp [hb]
      · simp [hb, hw, fun h => hb (Eq.symm h)]
        intro _ h
        exact absurd h.symm hb
    · have : x.testBit w = false := Nat.testBit_lt_two_pow (Nat.lt_of_lt_of_le hx (Nat.pow_le_pow_right (by omega) (by simp [IntKind.bits] at hw; omega)))
      simp [this]
  rw [e3]
  exact wrap64 (by omega) (by omega)

/-- Bit b of row a is cleared. -/
def cut1 (r : List Int) (a b : Int) : List Int := r.set a.toNat (r.getD a.toNat 0 - 2 ^ b.toNat)
def cut2 (r : List Int) (a b : Int) : List Int := cut1 (cut1 r a b) b a
@[simp] theorem cut1_length (r : List Int) (a b : Int) : (cut1 r a b).length = r.length := by simp [cut1]
@[simp] theorem cut2_length (r : List Int) (a b : Int) : (cut2 r a b).length = r.length := by simp [cut2]

theorem IsAdj.cut1 {N : Nat} {r : List Int} {adj : Nat → Nat → Prop} (h : IsAdj N r adj) {a b : Int} (ha : 0 ≤ a) (ha2 : a < N) (hab : adj a.toNat b.toNat) :
    IsAdj N (cut1 r a b) (fun v w => adj v w ∧ ¬ (v = a.toNat ∧ w = b.toNat)) := by
  obtain ⟨hl, hr⟩ := h
  refine ⟨by simp [hl], fun v hv => ?_⟩
  obtain ⟨h1, h2, h3⟩ := hr v hv
  by_cases e : v = a.toNat
  · subst e
    have hbit := (h3 b.toNat).mpr hab
    unfold rbit at hbit
    obtain ⟨s1, s2⟩ := sub_bit hbit
    have hg : (Zv.cut1 r a b).getD a.toNat 0 = (((r.getD a.toNat 0).toNat - 2 ^ b.toNat : Nat) : Int) := by
      rw [getD_at _ (by simp; omega)]
      simp only [Zv.cut1, List.getElem_set_self]
      have hp2 : ((2 ^ b.toNat : Nat) : Int) = (2 : Int) ^ b.toNat := by simp
      rw [Int.ofNat_sub s1, hp2, Int.toNat_of_nonneg h1]
    have hsub := Nat.sub_le (r.getD a.toNat 0).toNat (2 ^ b.toNat)
    unfold rbit
    rw [hg]
    refine ⟨by omega, by omega, fun w => ?_⟩
    rw [Int.toNat_natCast, s2]
    have := h3 w
    unfold rbit at this
    simp only [Bool.and_eq_true, decide_eq_true_eq, this]
    simp
  · have hg : (Zv.cut1 r a b).getD v 0 = r.getD v 0 := by
      unfold Zv.cut1
      simp only [List.getD_eq_getElem?_getD, List.getElem?_set]
      rw [if_neg (fun h => e h.symm)]
    unfold rbit
    rw [hg]
    refine ⟨h1, h2, fun w => ?_⟩
    have := h3 w
    unfold rbit at this
    rw [this]
    simp [e]
theorem IsAdj.cut2 {N : Nat} {r : List Int} {adj : Nat → Nat → Prop} (h : IsAdj N r adj) {a b : Int} (ha : 0 ≤ a) (ha2 : a < N) (hb : 0 ≤ b) (hb2 : b < N) (hne : a ≠ b) (hab : adj a.toNat b.toNat) (hba : adj b.toNat a.toNat) :
    IsAdj N (cut2 r a b) (fun v w => adj v w ∧ ¬ ((v = a.toNat ∧ w = b.toNat) ∨ (v = b.toNat ∧ w = a.toNat))) := by
  have h1 := (h.cut1 ha ha2 hab).cut1 (a := b) (b := a) hb hb2 ⟨hba, fun h => by omega⟩
  refine h1.congr fun v w _ => ?_
  constructor
  · rintro ⟨⟨h1, h2⟩, h3⟩; exact ⟨h1, fun h => h.elim h2 h3⟩
  · rintro ⟨h1, h2⟩; exact ⟨⟨h1, fun h => h2 (.inl h)⟩, fun h => h2 (.inr h)⟩

theorem GV.isAdj {n : Int} {rows : List Int} (g : GV n rows) : IsAdj rows.length rows (fun v w => rbit rows v w = true) := by
  have hp := pow_le62 g.hi
  refine ⟨rfl, fun v hv => ?_⟩
  obtain ⟨h1, h2, _⟩ := g.row v hv
  exact ⟨h1, by omega, fun w => Iff.rfl⟩

theorem cut1_at {r : List Int} {a b : Int} (h : a.toNat < r.length) : cut1 r a b = r.set a.toNat (r[a.toNat] - 2 ^ b.toNat) := by
  unfold cut1
  rw [getD_at _ h]
theorem cut2_at {r : List Int} {a b : Int} (h : a.toNat < r.length) (h2 : b.toNat < (r.set a.toNat (r[a.toNat] - 2 ^ b.toNat)).length) : cut2 r a b = (r.set a.toNat (r[a.toNat] - 2 ^ b.toNat)).set b.toNat ((r.set a.toNat (r[a.toNat] - 2 ^ b.toNat))[b.toNat] - 2 ^ a.toNat) := by
  unfold cut2
  rw [cut1_at h, cut1_at h2]
theorem andNot_int {x b : Int} (h0 : 0 ≤ x) (hx : x < 4611686018427387904) (h1 : b ≤ 62) (hs : x.toNat.testBit b.toNat = true) : iandNot .i64 x (ishl .i64 1 b) = x - 2 ^ b.toNat := by
  have := andNot_bit (x := x.toNat) (b := b) (by omega) h1 hs
  rw [Int.toNat_of_nonneg h0] at this
  rw [this, Int.ofNat_sub (sub_bit hs).1, Int.toNat_of_nonneg h0]
  simp

theorem c_impl_Graph_take (n : Int) (b0 N : Nat) (a b : Int) (r : List Int) (h : VH) (hb : h[b0]? = some ⟨1, ints r⟩) (hl : r.length = N) (hn : nro ≤ b0) (ha : 0 ≤ a) (ha2 : a < N) (hb1 : 0 ≤ b) (hb2 : b < N) (hN : N ≤ 62) (hne : a ≠ b)
    (r1 : 0 ≤ r.getD a.toNat 0) (r2 : r.getD a.toNat 0 < 4611686018427387904) (r3 : rbit r a.toNat b.toNat = true) (s1 : 0 ≤ r.getD b.toNat 0) (s2 : r.getD b.toNat 0 < 4611686018427387904) (s3 : rbit r b.toNat a.toNat = true) :
    vcall F nro k_impl_Graph_take [gv n (.slice (some ⟨b0, 0, none⟩) N N), .int .i64 a, .int .i64 b] h = some (.tuple #[], h.set b0 ⟨1, ints (cut2 r a b)⟩) := by
  refine v_impl_Graph_take (by simp [i_impl_Graph_take]) ?_
  rw [fbody_eq, cut2_at (by omega) (by simp; omega)]
  have hnn : ¬ a.toNat = b.toNat := by omega
  have e1 : r.getD a.toNat 0 = r[a.toNat]'(by omega) := getD_at _ (by omega)
  have e2 : r.getD b.toNat 0 = r[b.toNat]'(by omega) := getD_at _ (by omega)
  unfold rbit at r3 s3
  rw [e1] at r1 r2 r3
  rw [e2] at s1 s2 s3
  have q1 := andNot_int r1 r2 (by omega) r3
  have q2 := andNot_int s1 s2 (by omega) s3
  simp (disch := first | assumption | omega | (simp [*] <;> omega) | fail) [i_impl_Graph_take, hget_old hb, hset_old hb, hget_set hb, hset_set hb, hl, ha2, hb2, take1_ints, splice_ints, hn, ha, hb1, q1, q2, hnn, List.getElem_set_ne]

end Go.Proofs.YthpgiimaadohcaaDoor.Zv

/- The program's distances from a vertex. -/
namespace Go.Proofs.YthpgiimaadohcaaDoor.Zv
open Go
variable {nro : Nat}

/-! ### a slice of one number, repeated -/
theorem c_math_bits_Mul (n : Nat) (hn : n ≤ 1000) (h : VH) : vcall F nro k_math_bits_Mul [.int .u64 1, .int .u64 n] h = some (.tuple #[.int .u64 0, .int .u64 n], h) := by
  have a1 : iand .u64 1 4294967295 = 1 := by have := and_u64 (a := 1) (b := 4294967295) (by omega) (by omega); simpa using this
  have a2 : ishr .u64 1 32 = 0 := by have := shr_u64 (a := 1) (b := 32) (by omega); simpa using this
  have a3 : iand .u64 (n : Int) 4294967295 = n := by
    have := and_u64 (a := n) (b := 4294967295) (by omega) (by omega)
    rw [show (4294967295 : Nat) = 2 ^ 32 - 1 from rfl, Nat.and_two_pow_sub_one_eq_mod, Nat.mod_eq_of_lt (by omega)] at this
    exact this
  have a4 : ishr .u64 (n : Int) 32 = 0 := by
    have := shr_u64 (a := n) (b := 32) (by omega)
    rw [Nat.div_eq_of_lt (by omega)] at this
    exact this
  have a5 : iand .u64 0 4294967295 = 0 := by have := and_u64 (a := 0) (b := 4294967295) (by omega) (by omega); simpa using this
  have a6 : ishr .u64 0 32 = 0 := by have := shr_u64 (a := 0) (b := 32) (by omega); simpa using this
  have w0 : IntKind.u64.wrap 0 = 0 := wrapu64 (by omega) (by omega)
  have wn : IntKind.u64.wrap (n : Int) = n := wrapu64 (by omega) (by omega)
  have hc : vcall F nro k_math_bits_Mul64 [.int .u64 1, .int .u64 n] h = some (.tuple #[.int .u64 0, .int .u64 n], h) := by
    refine v_math_bits_Mul64 (by simp [i_math_bits_Mul64]) ?_
    rw [fbody_eq]
    simp (disch := first | assumption | omega | (simp [*] <;> omega) | fail) [i_math_bits_Mul64, a1, a2, a3, a4, a5, a6, w0, wn, fresults, fresL, fres1]
  refine v_math_bits_Mul (by simp [i_math_bits_Mul]) ?_
  rw [fbody_eq]
  simp (disch := first | assumption | omega | (simp [*] <;> omega) | fail) [i_math_bits_Mul, hc, fresults, fresL, fres1]

theorem vcopy_ints {h : VH} {b : Nat} {xs ys : List Int} {y : Value} (hb : h[b]? = some ⟨1, ints xs⟩) (hy : vsrc 1 h y = some (ints ys, ys.length)) {o1 n1 : Nat} (h1 : o1 + n1 ≤ xs.length) (hn : nro ≤ b) (hk : 0 < min ys.length n1) :
    vcopy nro 1 h (.slice (some ⟨b, o1, none⟩) n1 xs.length) y = some (.int .i64 ((min ys.length n1 : Nat) : Int), h.set b ⟨1, ints (xs.take o1 ++ ys.take (min ys.length n1) ++ xs.drop (o1 + min ys.length n1))⟩) := by
  have hl : (ints xs).length = xs.length := by simp
  unfold vcopy
  simp only [hy, hb, hl]
  rw [if_pos (by simp), if_neg (by omega)]
  have hj : (ints ys).all (fun v => !isJunk v) = true := by
    simp only [List.all_eq_true]
    intro v hv
    rw [ints_nj _ v hv]
    rfl
  rw [if_pos ⟨hn, by omega, by omega, hj⟩]
  have e3 : List.take (min ys.length n1 * 1) (ints ys) = ints (ys.take (min ys.length n1)) := by
    simp only [ints, Nat.mul_one, ← List.map_take]
  have e4 : splice o1 (ints (ys.take (min ys.length n1))) (ints xs) = ints (xs.take o1 ++ ys.take (min ys.length n1) ++ xs.drop (o1 + min ys.length n1)) := by
    unfold splice
    have : (ints (ys.take (min ys.length n1))).length = min ys.length n1 := by simp
    rw [this]
    simp [ints]
  rw [e3, e4]

/-- Half done. -/
def rep (n m : Nat) : List Int := List.replicate m (-1) ++ List.replicate (n - m) 0
theorem rep_len {n m : Nat} (h : m ≤ n) : (rep n m).length = n := by simp [rep]; omega

theorem l_slices_Repeat (h : VH) (hn : nro ≤ h.length) (n : Nat) (hn2 : n ≤ 1000) (m0 m : Nat) (hm1 : 1 ≤ m) (hm0 : m0 ≤ n) (hm : m ≤ n) :
    floop (vcall F nro) nro [7, 8] i_slices_Repeat_int64_int64_B1 (h ++ [⟨1, ints (rep n m0)⟩]) [.slice (some ⟨h.length, 0, none⟩) n n, .int .i64 m] (h ++ [⟨1, ints (rep n m)⟩]) =
      some (.exit 0, fl [(7, .slice (some ⟨h.length, 0, none⟩) n n)], h ++ [⟨1, ints (List.replicate n (-1))⟩]) := by
  have hn' := fun k => Nat.le_trans hn (Nat.le_add_right h.length k)
  have hrl := rep_len hm
  rw [floop_at i_slices_Repeat_int64_int64_B1.eq_1]
  by_cases hlt : m < n
  · have hy : vsrc 1 (h ++ [⟨1, ints (rep n m)⟩]) (.slice (some ⟨h.length, 0, none⟩) m n) = some (ints (List.replicate m (-1)), (List.replicate m (-1 : Int)).length) := by
      rw [vsrc_ref]
      have e : List.take m (ints (rep n m)) = ints (List.replicate m (-1)) := by
        unfold rep ints
        rw [List.map_append]
        exact List.take_left' (by simp)
      simp [hrl, hm, e]
    have hc := vcopy_ints (nro := nro) (h := h ++ [⟨1, ints (rep n m)⟩]) (b := h.length) (xs := rep n m) (by simp) hy (o1 := m) (n1 := n - m) (by omega) hn (by simp; omega)
    rw [List.length_replicate] at hc
    have e : (rep n m).take m ++ (List.replicate m (-1 : Int)).take (min m (n - m)) ++ (rep n m).drop (m + min m (n - m)) = rep n (m + min m (n - m)) := by
      unfold rep
      obtain ⟨k, hk⟩ : ∃ k, k = min m (n - m) := ⟨_, rfl⟩
      rw [← hk]
      have h1 : k ≤ m := by omega
      have h2 : k ≤ n - m := by omega
      have e1 : List.take m (List.replicate m (-1 : Int) ++ List.replicate (n - m) 0) = List.replicate m (-1) := List.take_left' (by simp)
      have e2 : List.take k (List.replicate m (-1 : Int)) = List.replicate k (-1) := by
        rw [List.take_replicate]
        congr 1
        omega
      have e3 : List.drop (m + k) (List.replicate m (-1 : Int) ++ List.replicate (n - m) 0) = List.replicate (n - (m + k)) 0 := by
        rw [List.drop_append, List.drop_eq_nil_of_le (by simp), List.nil_append, List.drop_replicate]
        congr 1
        simp
        omega
      rw [e1, e2, e3, List.replicate_append_replicate]
    rw [e, hrl] at hc
    simp at hc
    have ih := l_slices_Repeat h hn n hn2 m0 (m + min m (n - m)) (by omega) hm0 (by omega)
    have hlt' : (m : Int) < n := by omega
    have hmn : (m : Int) ≤ n := by omega
    obtain ⟨k, hk⟩ : ∃ k, k = min m (n - m) := ⟨_, rfl⟩
    rw [← hk] at hc ih
    have wk : IntKind.i64.wrap ((m : Int) + k) = (m : Int) + k := wrap64 (by omega) (by omega)
    simp only [Int.natCast_add] at ih
    have hrl2 := rep_len (n := n) (m := m + k) (by omega)
    simp (disch := first | assumption | omega | (simp [*] <;> omega) | fail) [hlt', hmn, hrl, hc, wk, ih, hn, hn', hrl2, vslice]
  · have hlt' : ¬ (m : Int) < n := by omega
    have e : m = n := by omega
    subst e
    have e2 : rep m m = List.replicate m (-1) := by simp [rep]
    rw [e2] at hrl ⊢
    simp (disch := first | assumption | omega | (simp [*] <;> omega) | fail) [hlt', hrl]
 termination_by n - m

theorem c_slices_Repeat (s : Value) (n : Nat) (h : VH) (hs : Sli h s [-1]) (h1 : 1 ≤ n) (h2 : n ≤ 1000) (hn : nro ≤ h.length) :
    vcall F nro k_slices_Repeat_int64_int64 [s, .int .i64 n] h = some (.slice (some ⟨h.length, 0, none⟩) n n, h ++ [⟨1, ints (List.replicate n (-1))⟩]) := by
  refine v_slices_Repeat_int64_int64 (by simp [i_slices_Repeat_int64_int64]) ?_
  rw [fbody_eq]
  have hc := c_math_bits_Mul (nro := nro) n h2 h
  have lp := l_slices_Repeat (nro := nro) h hn n h2 1 1 (by omega) h1 h1
  have hv : vsrc 1 (h ++ [⟨1, ints (List.replicate n 0)⟩]) s = some (ints [-1], (ints [-1]).length) := hs.app _
  have hcp : vcopy nro 1 (h ++ [⟨1, ints (List.replicate n 0)⟩]) (.slice (some ⟨h.length, 0, none⟩) n n) s = some (.int .i64 1, h ++ [⟨1, ints (rep n 1)⟩]) := by
    have := vcopy_ints (nro := nro) (h := h ++ [⟨1, ints (List.replicate n 0)⟩]) (b := h.length) (xs := List.replicate n 0) (by simp) (by rw [hv, ints_length]) (o1 := 0) (n1 := n) (by simp) hn (by simp; omega)
    have e1 : min 1 n = 1 := by omega
    simp [e1] at this
    rw [this]
    simp [rep]
  have w1 : IntKind.u64.wrap (n : Int) = n := wrapu64 (by omega) (by omega)
  have w2 : IntKind.i64.wrap (n : Int) = n := wrap64 (by omega) (by omega)
  have w3 : IntKind.u64.wrap 1 = 1 := wrapu64 (by omega) (by omega)
  have b0 : ¬ (n : Int) < 0 := by omega
  have b1 : ¬ (9223372036854775807 : Int) < n := by omega
  have b2 : 8 * (n : Int) ≤ 140737488355328 := by omega
  have b3 : (n : Int) ≤ 140737488355328 := by omega
  simp only [Int.natCast_one] at lp
  simp (disch := first | assumption | omega | (simp [*] <;> omega) | fail) [i_slices_Repeat_int64_int64, hs.vlen, hc, w1, w2, w3, b0, b1, b2, b3, hcp, lp, hn]
end Go.Proofs.YthpgiimaadohcaaDoor.Zv

/- The program's distances from a vertex. -/
namespace Go.Proofs.YthpgiimaadohcaaDoor.Zv
open Go
variable {nro : Nat}

/-- The number d at some places. -/
def setAll (o : List Int) (d : Nat) : List Int → List Int
  | [] => o
  | y :: l => setAll (o.set y.toNat d) d l
theorem setAll_len (d : Nat) : ∀ (l : List Int) (o : List Int), (setAll o d l).length = o.length
  | [], _ => rfl
  | y :: l, o => by simp [setAll, setAll_len d l]
theorem setAll_get (d b : Nat) : ∀ (l : List Int) (o : List Int), b < o.length → (∀ y ∈ l, 0 ≤ y) → (setAll o d l).getD b 0 = if (b : Int) ∈ l then (d : Int) else o.getD b 0
  | [], o, _, _ => by simp [setAll]
  | y :: l, o, hb, h0 => by
    have h1 := h0 y (List.mem_cons_self ..)
    rw [setAll, setAll_get d b l _ (by simpa using hb) fun z hz => h0 z (List.mem_cons_of_mem _ hz)]
    by_cases h2 : (b : Int) ∈ l
    · rw [if_pos h2, if_pos (List.mem_cons_of_mem _ h2)]
    · rw [if_neg h2]
      by_cases h3 : (b : Int) = y
      · rw [if_pos (by rw [h3]; exact List.mem_cons_self ..)]
        have : y.toNat = b := by omega
        rw [this, List.getD_eq_getElem?_getD, List.getElem?_set_self hb]
        rfl
      · rw [if_neg (by simp [h3, h2])]
        rw [List.getD_eq_getElem?_getD, List.getElem?_set_ne (by omega), ← List.getD_eq_getElem?_getD]

/-- The heap of the search: the graph, the number -1 that was repeated, the distances. -/
def dh (h : VH) (n : Nat) (s : Value) (o : List Int) : VH := h ++ [⟨0, [.int .i64 n, s]⟩, ⟨1, [.int .i64 (-1)]⟩, ⟨1, ints o⟩]

theorem l_impl_Graph_distances_1 (h : VH) (n : Nat) (s : Value) (rows : List Int) (hs : Sli h s rows) (R : Rok n rows) (hn : nro ≤ h.length) (met d : Nat) (L : List Int) (hL : ∀ y ∈ L, 0 ≤ y ∧ y < n) (hLl : L.length ≤ 62) (o0 : List Int)
    (k j : Nat) (hk : k = L.length - j) (hj : j ≤ L.length) (o : List Int) (ho : o.length = n) (acc : Nat) (ha : acc < 2 ^ 62) :
    floop (vcall F nro) nro [2, 5, 6, 8, 9, 25, 26, 27] i_impl_Graph_distances_B1 (dh h n s o0 ++ [⟨1, ints L⟩]) [bp h, .slice (some ⟨h.length + 2, 0, none⟩) n n, .int .i64 met, .int .i64 d, .int .i64 acc, .slice (some ⟨h.length + 3, 0, none⟩) L.length L.length, .int .i64 L.length, .int .i64 j] (dh h n s o ++ [⟨1, ints L⟩]) =
      some (.exit 2, fl [(2, bp h), (5, .slice (some ⟨h.length + 2, 0, none⟩) n n), (6, .int .i64 met), (8, .int .i64 d), (9, .int .i64 ((acc ||| orL rows (L.drop j) : Nat) : Int))], dh h n s (setAll o d (L.drop j)) ++ [⟨1, ints L⟩]) := by
  have hn' := fun k => Nat.le_trans hn (Nat.le_add_right h.length k)
  have hsc := fun k => hs.oldCk (k := k)
  have hle := R.le
  have hlen := R.len
  unfold dh
  rw [floop_at i_impl_Graph_distances_B1.eq_1]
  by_cases hlt : j < L.length
  · obtain ⟨y, hy⟩ : ∃ y : Nat, L[j] = (y : Int) := by
      have := hL L[j] (List.getElem_mem hlt)
      exact ⟨L[j].toNat, by omega⟩
    have hyn : y < n := by
      have := hL L[j] (List.getElem_mem hlt)
      omega
    have hyr : y < rows.length := by omega
    have hyo : y < o.length := by omega
    obtain ⟨r1, r2⟩ := R.row y hyn
    have r3 := le62 hle r2
    have hor := ior_nat (a := acc) (b := (rows.getD y 0).toNat) (by omega) (by omega)
    have e1 : (((rows.getD y 0).toNat : Nat) : Int) = rows[y]'hyr := by rw [getD_at rows hyr] at r1 ⊢; omega
    rw [e1] at hor
    have vx := fun L => (hs.app L).vidx (k := .i64) (j := (y : Int)) (by omega) (by omega)
    have vl := fun L => (hs.app L).vload hyr
    have hlt' : (j : Int) < L.length := by omega
    have ih := l_impl_Graph_distances_1 h n s rows hs R hn met d L hL hLl o0 (k - 1) (j + 1) (by omega) hlt (o.set y d) (by simpa using ho) (acc ||| (rows.getD y 0).toNat) (Nat.or_lt_two_pow ha r3)
    rw [show ((j + 1 : Nat) : Int) = (j : Int) + 1 by omega] at ih
    rw [List.drop_eq_getElem_cons hlt, hy]
    simp only [orL, setAll, Int.toNat_natCast]
    rw [← Nat.or_assoc]
    obtain ⟨a2, ha2⟩ : ∃ a2, a2 = acc ||| (rows.getD y 0).toNat := ⟨_, rfl⟩
    rw [← ha2] at ih hor ⊢
    obtain ⟨q, hq⟩ : ∃ q, q = orL rows (L.drop (j + 1)) := ⟨_, rfl⟩
    rw [← hq] at ih ⊢
    obtain ⟨q2, hq2⟩ : ∃ q2, q2 = setAll (o.set y d) d (L.drop (j + 1)) := ⟨_, rfl⟩
    rw [← hq2] at ih ⊢
    unfold dh at ih
    simp at ih
    have hyn' : (y : Int) < n := by omega
    have sp := splice_ints (v := (d : Int)) hyo
    have t1 := take1_ints (xs := L) hlt
    rw [hy] at t1
    clear ha2 hq hq2 r1 r2 r3 e1 hL hk
    simp (disch := first | assumption | omega | (simp [*] <;> omega) | fail) [wrap64, hlt', hlt, vx, vl, hor, hsc, ih, hn', hn, hyn', hyn, ho, hyo, sp, t1, hy]
  · have hlt' : ¬ (j : Int) < L.length := by omega
    rw [List.drop_eq_nil_of_le (by omega)]
    simp only [orL, setAll, Nat.or_zero]
    simp (disch := first | assumption | omega | (simp [*] <;> omega) | fail) [hlt']
 termination_by k
 decreasing_by omega

/-- The list of the levels. -/
def dl (rows : List Int) (met f d : Nat) (o : List Int) : List Int :=
  if f = 0 then o else
    if h : met < (met ||| nxt rows f) ∧ (met ||| nxt rows f) < 2 ^ 62 then dl rows (met ||| nxt rows f) (nand (nxt rows f) met) (d + 1) (setAll o d (bitL f)) else setAll o d (bitL f)
 termination_by 2 ^ 62 - met
 decreasing_by omega
theorem dl_zero {rows : List Int} {met d : Nat} {o : List Int} : dl rows met 0 d o = o := by rw [dl, if_pos rfl]
theorem dl_step {n : Nat} {rows : List Int} (R : Rok n rows) {met f d : Nat} {o : List Int} (hm : met < 2 ^ n) (hf : f < 2 ^ n) (h0 : ¬ f = 0) :
    dl rows met f d o = dl rows (met ||| nxt rows f) (nand (nxt rows f) met) (d + 1) (setAll o d (bitL f)) := by
  have h2 := le62 R.le (Nat.or_lt_two_pow hm (nxt_lt R hf))
  by_cases h1 : met < met ||| nxt rows f
  · conv => lhs; rw [dl]
    rw [if_neg h0, dif_pos ⟨h1, h2⟩]
  · conv => lhs; rw [dl]
    rw [if_neg h0, dif_neg (fun h => h1 h.1), or_or_zero (rows := rows) h1, dl_zero]
theorem dl_len {rows : List Int} {met f d : Nat} {o : List Int} : (dl rows met f d o).length = o.length := by
  rw [dl]
  split
  · rfl
  · split
    · rw [dl_len, setAll_len]
    · rw [setAll_len]
 termination_by 2 ^ 62 - met
 decreasing_by omega

/-- What is met already and not in front keeps its number. -/
theorem dl_old {n : Nat} {rows : List Int} (R : Rok n rows) (b : Nat) (hb : b < n) (met f d : Nat) (o : List Int) (ho : o.length = n) (hm : met < 2 ^ n) (hf : f < 2 ^ n) (h1 : met.testBit b = true) (h2 : f.testBit b = false) :
    (dl rows met f d o).getD b 0 = o.getD b 0 := by
  by_cases h0 : f = 0
  · subst h0; rw [dl_zero]
  · have hx := nxt_lt R hf
    have hnl := nand_le (nxt rows f) met
    have hs : (setAll o d (bitL f)).getD b 0 = o.getD b 0 := by
      rw [setAll_get d b _ _ (by omega) fun y hy => (bitL_lt hf y hy).1, if_neg]
      intro h
      have := (bitL_mem f b).mp h
      rw [Int.toNat_natCast] at this
      rw [h2] at this
      exact Bool.noConfusion this.2.2
    by_cases h3 : met < met ||| nxt rows f
    · have := dl_old R b hb (met ||| nxt rows f) (nand (nxt rows f) met) (d + 1) (setAll o d (bitL f)) (by rw [setAll_len]; exact ho) (Nat.or_lt_two_pow hm hx) (by omega) (by rw [Nat.testBit_or, h1]; rfl) (by rw [nand_bit, h1]; simp)
      rw [dl_step R hm hf h0, this, hs]
    · rw [dl_step R hm hf h0, or_or_zero (rows := rows) h3, dl_zero, hs]
 termination_by 2 ^ n - met
 decreasing_by
  have := Nat.or_lt_two_pow hm hx
  omega

theorem dl_get {n : Nat} {rows : List Int} (R : Rok n rows) (b : Nat) (hb : b < n) (met f d : Nat) (o : List Int) (ho : o.length = n) (hm : met < 2 ^ n) (hf : f < 2 ^ n) (hfm : ∀ j, f.testBit j = true → met.testBit j = true) :
    (dl rows met f d o).getD b 0 = if lev rows met f d b < 0 then o.getD b 0 else lev rows met f d b := by
  by_cases h0 : f = 0
  · subst h0; rw [dl_zero, lev_zero]; rfl
  · have hx := nxt_lt R hf
    have hnl := nand_le (nxt rows f) met
    have hs : (setAll o d (bitL f)).getD b 0 = if f.testBit b = true then (d : Int) else o.getD b 0 := by
      rw [setAll_get d b _ _ (by omega) fun y hy => (bitL_lt hf y hy).1]
      have hl := R.le
      have e : ((b : Int) ∈ bitL f) ↔ f.testBit b = true := by
        rw [bitL_mem, Int.toNat_natCast]
        exact ⟨fun h => h.2.2, fun h => ⟨by omega, by omega, h⟩⟩
      simp only [e]
    rw [dl_step R hm hf h0]
    by_cases hbb : f.testBit b = true
    · rw [lev_bit hbb, if_neg (by omega), dl_old R b hb _ _ _ _ (by rw [setAll_len]; exact ho) (Nat.or_lt_two_pow hm hx) (by omega) (by rw [Nat.testBit_or, hfm b hbb]; rfl) (by rw [nand_bit, hfm b hbb]; simp), hs, if_pos hbb]
    · have hbb' : f.testBit b = false := by simpa using hbb
      rw [lev_step R hm hf h0 hbb']
      rw [if_neg hbb] at hs
      by_cases h3 : met < met ||| nxt rows f
      · rw [dl_get R b hb (met ||| nxt rows f) (nand (nxt rows f) met) (d + 1) (setAll o d (bitL f)) (by rw [setAll_len]; exact ho) (Nat.or_lt_two_pow hm hx) (by omega) (by
          intro j hj
          rw [nand_bit] at hj
          simp at hj
          rw [Nat.testBit_or, hj.1]
          simp), hs]
      · rw [or_or_zero (rows := rows) h3, dl_zero, lev_zero, hs]
        rfl
 termination_by 2 ^ n - met
 decreasing_by
  have := Nat.or_lt_two_pow hm hx
  omega

theorem l_impl_Graph_distances_2 (h : VH) (n : Nat) (s : Value) (rows : List Int) (hs : Sli h s rows) (R : Rok n rows) (hn : nro ≤ h.length) (o0 : List Int) (met f d : Nat) (hm : met < 2 ^ n) (hf : f < 2 ^ n) (hd : ¬ f = 0 → d ≤ met) (o : List Int) (ho : o.length = n) :
    floop (vcall F nro) nro [2, 5, 6, 7, 8] i_impl_Graph_distances_B2 (dh h n s o0) [bp h, .slice (some ⟨h.length + 2, 0, none⟩) n n, .int .i64 met, .int .i64 f, .int .i64 d] (dh h n s o) =
      some (.exit 0, fl [(5, .slice (some ⟨h.length + 2, 0, none⟩) n n)], dh h n s (dl rows met f d o)) := by
  have hn' := fun k => Nat.le_trans hn (Nat.le_add_right h.length k)
  have hsc := fun k => hs.oldCk (k := k)
  have hle := R.le
  have hm62 := le62 hle hm
  have hf62 := le62 hle hf
  rw [floop_at i_impl_Graph_distances_B2.eq_1]
  by_cases h0 : f = 0
  · subst h0
    rw [dl_zero]
    unfold dh
    simp (disch := first | assumption | omega | (simp [*] <;> omega) | fail) [hn, hn']
  · have h0' : ¬ (f : Int) = 0 := by omega
    have hdm := hd h0
    rw [dl_step R hm hf h0]
    have hx := nxt_lt R hf
    have hx62 := le62 hle hx
    have hnl := nand_le (nxt rows f) met
    have hc := c_impl_list (nro := nro) f hf62 (dh h n s o) (by unfold dh; simp; omega)
    have hlL := bitL_len f
    have lp := l_impl_Graph_distances_1 (nro := nro) h n s rows hs R hn met d (bitL f) (bitL_lt hf) hlL o (bitL f).length 0 (by omega) (Nat.zero_le _) o ho 0 (by omega)
    rw [List.drop_zero, Nat.zero_or, show orL rows (bitL f) = nxt rows f from rfl] at lp
    have hih := l_impl_Graph_distances_2 h n s rows hs R hn o0 (met ||| nxt rows f) (nand (nxt rows f) met) (d + 1) (Nat.or_lt_two_pow hm hx) (by omega) (by
      intro hne
      rcases Nat.lt_or_ge met (met ||| nxt rows f) with h1 | h1
      · omega
      · exact absurd (or_or_zero (rows := rows) (by omega)) hne) (setAll o d (bitL f)) (by rw [setAll_len]; exact ho)
    have a1 := iandNot_nat (a := nxt rows f) (b := met) hx62 hm62
    have a2 := ior_nat (a := met) (b := nxt rows f) (by omega) (by omega)
    have a6 : IntKind.i64.wrap ((d : Int) + 1) = (d : Int) + 1 := wrap64 (by omega) (by omega)
    rw [show ((d + 1 : Nat) : Int) = (d : Int) + 1 by omega] at hih
    obtain ⟨x, hxx⟩ : ∃ x, x = nxt rows f := ⟨_, rfl⟩
    rw [← hxx] at lp hih a1 a2 ⊢
    obtain ⟨z, hz⟩ : ∃ z, z = nand x met := ⟨_, rfl⟩
    rw [← hz] at a1 hih ⊢
    obtain ⟨m2, hm2⟩ : ∃ m2, m2 = met ||| x := ⟨_, rfl⟩
    rw [← hm2] at a2 hih ⊢
    obtain ⟨q, hq⟩ : ∃ q, q = dl rows m2 z (d + 1) (setAll o d (bitL f)) := ⟨_, rfl⟩
    rw [← hq] at hih ⊢
    have hsl := setAll_len d (bitL f) o
    obtain ⟨q2, hq2⟩ : ∃ q2, q2 = setAll o d (bitL f) := ⟨_, rfl⟩
    rw [← hq2] at hih lp hsl
    obtain ⟨Lf, hLf⟩ : ∃ Lf, Lf = bitL f := ⟨_, rfl⟩
    rw [← hLf] at hc lp hlL
    simp only [Int.natCast_zero] at lp
    unfold dh at hc lp hih ⊢
    simp at hc lp hih
    clear hxx hz hm2 hq hq2 hLf hnl hm hf hx hd hx62
    simp (disch := first | assumption | omega | (simp [*] <;> omega) | fail) [h0, h0', hc, lp, a1, a2, a6, hih, hn, hn', hsc]
 termination_by (if f = 0 then 0 else 2 ^ 62 - met + 1)
 decreasing_by
  rw [if_neg h0]
  split
  · omega
  · rename_i hne
    rcases Nat.lt_or_ge met (met ||| nxt rows f) with h1 | h1
    · omega
    · exact absurd (or_or_zero (rows := rows) (by omega)) hne

/-- The distances of all vertices from a. -/
def dists (rows : List Int) (n a : Nat) : List Int := dl rows (2 ^ a) (2 ^ a) 0 (List.replicate n (-1))
theorem dists_len (rows : List Int) (n a : Nat) : (dists rows n a).length = n := by
  unfold dists
  rw [dl_len, List.length_replicate]
theorem dists_get {n : Nat} {rows : List Int} (R : Rok n rows) {a b : Nat} (ha : a < n) (hb : b < n) : (dists rows n a).getD b 0 = far rows a b := by
  have hp : 2 ^ a < 2 ^ n := Nat.pow_lt_pow_right (by omega) ha
  unfold dists far
  rw [dl_get R b hb _ _ _ _ (by simp) hp hp (fun _ h => h)]
  have hg := lev_ge rows (2 ^ a) (2 ^ a) 0 b
  split
  · rw [List.getD_eq_getElem?_getD, List.getElem?_replicate, if_pos hb]
    simp
    omega
  · rfl

theorem c_impl_Graph_distances (n a : Nat) (s : Value) (rows : List Int) (h : VH) (hs : Sli h s rows) (R : Rok n rows) (ha : a < n) (hn : nro ≤ h.length) :
    vcall F nro k_impl_Graph_distances [gv n s, .int .i64 a] h = some (.slice (some ⟨h.length, 0, none⟩) n n, h ++ [⟨1, ints (dists rows n a)⟩]) := by
  have hn' := fun k => Nat.le_trans hn (Nat.le_add_right h.length k)
  refine v_impl_Graph_distances (by simp [i_impl_Graph_distances]) ?_
  rw [fbody_eq]
  have hle := R.le
  have hp : 2 ^ a < 2 ^ n := Nat.pow_lt_pow_right (by omega) ha
  have lp := l_impl_Graph_distances_2 (nro := nro) h n s rows hs R hn (List.replicate n (-1)) (2 ^ a) (2 ^ a) 0 hp hp (fun _ => Nat.zero_le _) (List.replicate n (-1)) (by simp)
  have w2 : ishl .i64 1 (a : Int) = ((2 ^ a : Nat) : Int) := by
    have := ishl_one (b := (a : Int)) (by omega)
    rwa [Int.toNat_natCast] at this
  have hr := c_slices_Repeat (nro := nro) (.slice (some ⟨h.length + 1, 0, none⟩) 1 1) n (h ++ [⟨0, [.int .i64 n, s]⟩, ⟨1, [.int .i64 (-1)]⟩]) (by simp [Sli, Sl, vsrc, ints]) (by omega) (by omega) (by simp; omega)
  have hdl := dists_len rows n a
  rw [show dl rows (2 ^ a) (2 ^ a) 0 (List.replicate n (-1)) = dists rows n a from rfl] at lp
  obtain ⟨q, hq⟩ : ∃ q, q = dists rows n a := ⟨_, rfl⟩
  rw [← hq] at lp hdl ⊢
  obtain ⟨p, hpp⟩ : ∃ p, p = 2 ^ a := ⟨_, rfl⟩
  rw [← hpp] at lp w2
  simp only [Int.natCast_zero] at lp
  unfold dh at lp
  simp at lp hr
  clear hpp hp hq
  simp (disch := first | assumption | omega | (simp [*] <;> omega) | fail) [i_impl_Graph_distances, hr, w2, lp, hn, hn', hdl]
end Go.Proofs.YthpgiimaadohcaaDoor.Zv

/- May two vertices be joined: the reference's and the program's tests are one. -/
namespace Go.Proofs.YthpgiimaadohcaaDoor.Zv
open Go
variable {nro : Nat}

theorem l_spec_l01Bits (h : VH) (x : Nat) (hx : x < 2 ^ 63) (c : Nat) (hc : c + pc x ≤ 1000) :
    floop (vcall F nro) nro [0, 3] i_spec_l01Bits_B1 h [.int .i64 x, .int .i64 c] h = some (.exit 0, fl [(3, .int .i64 ((c + pc x : Nat) : Int))], h) := by
  rw [floop_at i_spec_l01Bits_B1.eq_1]
  by_cases h0 : x = 0
  · subst h0
    rw [pc_zero]
    simp (disch := first | assumption | omega | (simp [*] <;> omega) | fail) []
  · have e := pc_step x
    have ih := l_spec_l01Bits h (x / 2) (by omega) (c + x % 2) (by omega)
    have h0' : (0 : Int) < x := by omega
    have h0'' : 0 < x := by omega
    have e1 : (x : Int).tmod 2 = ((x % 2 : Nat) : Int) := (Int.ofNat_tmod x 2).symm
    have e2 : (x : Int).tdiv 2 = ((x / 2 : Nat) : Int) := (Int.ofNat_tdiv x 2).symm
    have e3 : c + x % 2 + pc (x / 2) = c + pc x := by omega
    rw [e3] at ih
    obtain ⟨y, hy⟩ : ∃ y, y = x / 2 := ⟨_, rfl⟩
    obtain ⟨z, hz⟩ : ∃ z, z = x % 2 := ⟨_, rfl⟩
    have w1 : IntKind.i64.wrap (y : Int) = y := wrap64 (by omega) (by omega)
    have w2 : IntKind.i64.wrap ((c : Int) + z) = (c : Int) + z := wrap64 (by omega) (by omega)
    rw [← hy] at e2 ih
    rw [← hz] at e1 ih
    simp only [Int.natCast_add] at ih ⊢
    clear e e3 hy hz hc
    simp (disch := first | assumption | omega | (simp [*] <;> omega) | fail) [h0, h0', h0'', e1, e2, w1, w2, ih]
 termination_by x
 decreasing_by omega

theorem c_spec_l01Bits (x : Nat) (hx : x < 2 ^ 62) (h : VH) : vcall F nro k_spec_l01Bits [.int .i64 x] h = some (.int .i64 (pc x), h) := by
  refine v_spec_l01Bits (by simp [i_spec_l01Bits]) ?_
  rw [fbody_eq]
  have hp := pc_le x 62 hx
  have lp := l_spec_l01Bits (nro := nro) h x (by omega) 0 (by omega)
  rw [Nat.zero_add] at lp
  simp only [Int.natCast_zero] at lp
  simp (disch := first | assumption | omega | (simp [*] <;> omega) | fail) [i_spec_l01Bits, lp]

/-- The degree of a vertex. -/
def deg (rows : List Int) (v : Nat) : Nat := pc (rows.getD v 0).toNat

theorem c_spec_l01Degree (n v : Nat) (s : Value) (rows : List Int) (h : VH) (hs : Sli h s rows) (R : Rok n rows) (hv : v < n) :
    vcall F nro k_spec_l01Degree [gv n s, .int .i64 v] h = some (.int .i64 (deg rows v), h) := by
  refine v_spec_l01Degree (by simp [i_spec_l01Degree]) ?_
  rw [fbody_eq]
  obtain ⟨r1, r2⟩ := R.row v hv
  have r3 := le62 R.le r2
  have hl := R.len
  have hc := c_spec_l01Bits (nro := nro) (rows.getD v 0).toNat r3 (bx h n s)
  have hvl : v < rows.length := by omega
  have e1 : (((rows.getD v 0).toNat : Nat) : Int) = rows[v]'hvl := by rw [getD_at rows hvl] at r1 ⊢; omega
  rw [e1] at hc
  unfold deg
  have vx := fun L => (hs.app L).vidx (k := .i64) (j := (v : Int)) (by omega) (by omega)
  have vl := fun L => (hs.app L).vload hvl
  obtain ⟨p, hp⟩ : ∃ p, p = pc (rows.getD v 0).toNat := ⟨_, rfl⟩
  rw [← hp] at hc ⊢
  clear hp e1 r1 r2 r3
  simp (disch := first | assumption | omega | (simp [*] <;> omega) | fail) [i_spec_l01Degree, vx, vl, hc]

theorem c_impl_degree (n v : Nat) (s : Value) (rows : List Int) (h : VH) (hs : Sli h s rows) (R : Rok n rows) (hv : v < n) :
    vcall F nro k_impl_Graph_degree [gv n s, .int .i64 v] h = some (.int .i64 (deg rows v), h) := by
  obtain ⟨r1, r2⟩ := R.row v hv
  have r3 := le62 R.le r2
  have hl := R.len
  have := c_impl_Graph_degree (nro := nro) n v s rows h hs (by omega) (by omega) (by rw [Int.toNat_natCast]; exact r1) (by rw [Int.toNat_natCast]; omega)
  rw [Int.toNat_natCast] at this
  exact this

theorem lev_le {n : Nat} {rows : List Int} (R : Rok n rows) (met f d b : Nat) (hm : met < 2 ^ n) (hf : f < 2 ^ n) (hd : ¬ f = 0 → d ≤ met) : lev rows met f d b ≤ 4611686018427387904 := by
  have hm62 := le62 R.le hm
  by_cases h0 : f = 0
  · subst h0; rw [lev_zero]; omega
  · by_cases hb : f.testBit b = true
    · rw [lev_bit hb]
      have := hd h0
      omega
    · rw [lev_step R hm hf h0 (by simpa using hb)]
      have hx := nxt_lt R hf
      have hnl := nand_le (nxt rows f) met
      by_cases h3 : met < met ||| nxt rows f
      · have := hd h0
        exact lev_le R (met ||| nxt rows f) (nand (nxt rows f) met) (d + 1) b (Nat.or_lt_two_pow hm hx) (by omega) (fun _ => by omega)
      · rw [or_or_zero (rows := rows) h3, lev_zero]; omega
 termination_by 2 ^ n - met
 decreasing_by
  have := Nat.or_lt_two_pow hm hx
  omega
theorem far_le {n : Nat} {rows : List Int} (R : Rok n rows) {a : Nat} (ha : a < n) (b : Nat) : far rows a b ≤ 4611686018427387904 := by
  have hp : 2 ^ a < 2 ^ n := Nat.pow_lt_pow_right (by omega) ha
  exact lev_le R _ _ _ b hp hp (fun _ => Nat.zero_le _)
theorem far_ge (rows : List Int) (a b : Nat) : -1 ≤ far rows a b := lev_ge ..

/-- May two vertices be joined? -/
def mayB (rows : List Int) (k c : Int) (v w : Nat) : Bool :=
  !(rbit rows v w || decide (k ≤ deg rows v) || decide (k ≤ deg rows w)) && (decide (far rows v w < 0) || decide (c ≤ far rows v w + 1))

theorem has_spec (n v w : Nat) (s : Value) (rows : List Int) (h : VH) (hs : Sli h s rows) (R : Rok n rows) (hv : v < n) (hw : w < n) : vcall F nro k_spec_l01Has [gv n s, .int .i64 v, .int .i64 w] h = some (.bool (rbit rows v w), h) := by
  obtain ⟨r1, r2⟩ := R.row v hv
  have r3 := le62 R.le r2
  have hl := R.len
  have hle := R.le
  have := c_spec_l01Has' (nro := nro) n v w s rows h hs (by omega) (by omega) (by omega) (by omega) (by rw [Int.toNat_natCast]; exact r1) (by rw [Int.toNat_natCast]; omega)
  rw [Int.toNat_natCast, Int.toNat_natCast] at this
  exact this
theorem has_impl (n v w : Nat) (s : Value) (rows : List Int) (h : VH) (hs : Sli h s rows) (R : Rok n rows) (hv : v < n) (hw : w < n) : vcall F nro k_impl_Graph_has [gv n s, .int .i64 v, .int .i64 w] h = some (.bool (rbit rows v w), h) := by
  obtain ⟨r1, r2⟩ := R.row v hv
  have r3 := le62 R.le r2
  have hl := R.len
  have hle := R.le
  have := c_impl_Graph_has (nro := nro) n v w s rows h hs (by omega) (by omega) (by omega) (by omega) (by rw [Int.toNat_natCast]; exact r1) (by rw [Int.toNat_natCast]; omega)
  rw [Int.toNat_natCast, Int.toNat_natCast] at this
  exact this

theorem c_spec_l07May (n v w : Nat) (k c : Int) (s : Value) (rows : List Int) (h : VH) (hs : Sli h s rows) (R : Rok n rows) (hv : v < n) (hw : w < n) (hne : v ≠ w) :
    vcall F nro k_spec_l07May [gv n s, .int .i64 k, .int .i64 c, .int .i64 v, .int .i64 w] h = some (.bool (mayB rows k c v w), h) := by
  refine v_spec_l07May (by simp [i_spec_l07May]) ?_
  rw [fbody_eq]
  have h1 := has_spec (nro := nro) n v w s rows (bx h n s) (hs.app _) R hv hw
  have h2 := c_spec_l01Degree (nro := nro) n v s rows (bx h n s) (hs.app _) R hv
  have h3 := c_spec_l01Degree (nro := nro) n w s rows (bx h n s) (hs.app _) R hw
  have h4 := c_spec_l07Far (nro := nro) n v w s rows (bx h n s) (hs.app _) R hv hw
  have f1 := far_le R hv w
  have f2 := far_ge rows v w
  have hne' : ¬ (v : Int) = w := by omega
  unfold mayB
  obtain ⟨x, hx⟩ : ∃ x, x = far rows v w := ⟨_, rfl⟩
  rw [← hx] at h4 f1 f2 ⊢
  obtain ⟨b, hb⟩ : ∃ b, b = rbit rows v w := ⟨_, rfl⟩
  rw [← hb] at h1 ⊢
  obtain ⟨d1, hd1⟩ : ∃ d, d = deg rows v := ⟨_, rfl⟩
  rw [← hd1] at h2 ⊢
  obtain ⟨d2, hd2⟩ : ∃ d, d = deg rows w := ⟨_, rfl⟩
  rw [← hd2] at h3 ⊢
  clear hx hb hd1 hd2
  have w1 : IntKind.i64.wrap (x + 1) = x + 1 := wrap64 (by omega) (by omega)
  cases b
  · by_cases k1 : k ≤ d1
    · simp (disch := first | assumption | omega | (simp [*] <;> omega) | fail) [i_spec_l07May, h1, h2, hne, hne', k1]
    · by_cases k2 : k ≤ d2
      · simp (disch := first | assumption | omega | (simp [*] <;> omega) | fail) [i_spec_l07May, h1, h2, h3, hne, hne', k1, k2]
      · by_cases k3 : x < 0
        · simp (disch := first | assumption | omega | (simp [*] <;> omega) | fail) [i_spec_l07May, h1, h2, h3, h4, hne, hne', k1, k2, k3]
        · simp (disch := first | assumption | omega | (simp [*] <;> omega) | fail) [i_spec_l07May, h1, h2, h3, h4, hne, hne', k1, k2, k3, w1]
  · simp (disch := first | assumption | omega | (simp [*] <;> omega) | fail) [i_spec_l07May, h1, hne, hne']

theorem c_impl_Graph_mayJoin (n v w : Nat) (k c : Int) (s : Value) (rows : List Int) (h : VH) (hs : Sli h s rows) (R : Rok n rows) (hv : v < n) (hw : w < n) (hn : nro ≤ h.length) :
    vcall F nro k_impl_Graph_mayJoin [gv n s, .int .i64 v, .int .i64 w, .int .i64 k, .int .i64 c] h = some (.bool (mayB rows k c v w), h) := by
  refine v_impl_Graph_mayJoin (by simp [i_impl_Graph_mayJoin]) ?_
  rw [fbody_eq]
  have hn' := fun k => Nat.le_trans hn (Nat.le_add_right h.length k)
  have h1 := has_impl (nro := nro) n v w s rows (bx h n s) (hs.app _) R hv hw
  have h2 := c_impl_degree (nro := nro) n v s rows (bx h n s) (hs.app _) R hv
  have h3 := c_impl_degree (nro := nro) n w s rows (bx h n s) (hs.app _) R hw
  have h4 := c_impl_Graph_distances (nro := nro) n v s rows (bx h n s) (hs.app _) R hv (by simp; omega)
  have f1 := far_le R hv w
  have f2 := far_ge rows v w
  have f3 := dists_get R hv hw
  have f4 := dists_len rows n v
  unfold mayB
  obtain ⟨x, hx⟩ : ∃ x, x = far rows v w := ⟨_, rfl⟩
  rw [← hx] at f1 f2 f3 ⊢
  obtain ⟨D, hD⟩ : ∃ D, D = dists rows n v := ⟨_, rfl⟩
  rw [← hD] at h4 f3 f4
  obtain ⟨b, hb⟩ : ∃ b, b = rbit rows v w := ⟨_, rfl⟩
  rw [← hb] at h1 ⊢
  obtain ⟨d1, hd1⟩ : ∃ d, d = deg rows v := ⟨_, rfl⟩
  rw [← hd1] at h2 ⊢
  obtain ⟨d2, hd2⟩ : ∃ d, d = deg rows w := ⟨_, rfl⟩
  rw [← hd2] at h3 ⊢
  clear hx hb hd1 hd2 hD
  have hwD : w < D.length := by omega
  rw [getD_at D hwD] at f3
  have w1 : IntKind.i64.wrap (x + 1) = x + 1 := wrap64 (by omega) (by omega)
  have hw' : (w : Int) < n := by omega
  have t1 := take1_ints hwD
  rw [f3] at t1
  simp at h4
  cases b
  · by_cases k1 : k ≤ d1
    · simp (disch := first | assumption | omega | (simp [*] <;> omega) | fail) [i_impl_Graph_mayJoin, h1, h2, k1]
    · by_cases k2 : k ≤ d2
      · simp (disch := first | assumption | omega | (simp [*] <;> omega) | fail) [i_impl_Graph_mayJoin, h1, h2, h3, k1, k2]
      · by_cases k3 : x < 0
        · simp (disch := first | assumption | omega | (simp [*] <;> omega) | fail) [i_impl_Graph_mayJoin, h1, h2, h3, h4, k1, k2, k3, hw, hw', f4, t1, hn, hn']
        · simp (disch := first | assumption | omega | (simp [*] <;> omega) | fail) [i_impl_Graph_mayJoin, h1, h2, h3, h4, k1, k2, k3, w1, hw, hw', f4, t1, hn, hn']
  · simp (disch := first | assumption | omega | (simp [*] <;> omega) | fail) [i_impl_Graph_mayJoin, h1]
end Go.Proofs.YthpgiimaadohcaaDoor.Zv

/- Graphs that are filled with all edges that may be. -/
namespace Go.Proofs.YthpgiimaadohcaaDoor.Zv
open Go
variable {nro : Nat}

theorem Rok.isAdj {n : Nat} {rows : List Int} (R : Rok n rows) : IsAdj n rows (fun v w => rbit rows v w = true) := by
  refine ⟨R.len, fun v hv => ?_⟩
  obtain ⟨r1, r2⟩ := R.row v hv
  have := le62 R.le r2
  exact ⟨r1, by omega, fun w => Iff.rfl⟩
theorem bit_lt {x n j : Nat} (h : x < 2 ^ n) (hb : x.testBit j = true) : j < n := by
  rcases Nat.lt_or_ge j n with h1 | h1
  · exact h1
  · rw [Nat.testBit_lt_two_pow (Nat.lt_of_lt_of_le h (Nat.pow_le_pow_right (by omega) h1))] at hb
    cases hb
theorem Rok.lt {n : Nat} {rows : List Int} (R : Rok n rows) {v w : Nat} (hv : v < n) (h : rbit rows v w = true) : w < n := bit_lt (R.row v hv).2 h
theorem Rok.of {n : Nat} {rows : List Int} {adj : Nat → Nat → Prop} (h : IsAdj n rows adj) (hn : n ≤ 62) (hlt : ∀ v w, v < n → adj v w → w < n) : Rok n rows := by
  refine ⟨h.1, hn, fun v hv => ?_⟩
  obtain ⟨h1, _, h3⟩ := h.2 v hv
  refine ⟨h1, Nat.lt_pow_two_of_testBit _ fun w hw => ?_⟩
  have : ¬ rbit rows v w = true := fun hb => by
    have := hlt v w hv ((h3 w).mp hb)
    omega
  unfold rbit at this
  simpa using this
theorem Rok.put2 {n : Nat} {rows : List Int} (R : Rok n rows) {v w : Nat} (hv : v < n) (hw : w < n) : Rok n (put2 rows v w) := by
  have := R.isAdj.put2 (a := (v : Int)) (b := (w : Int)) (by omega) (by omega) (by omega) (by omega) R.le
  refine Rok.of this R.le fun x y hx hxy => ?_
  rcases hxy with h | ⟨_, h⟩ | ⟨_, h⟩
  · exact R.lt hx h
  · omega
  · omega
theorem Rok.zero {n : Nat} (hn : n ≤ 62) : Rok n (List.replicate n 0) := Rok.of (IsAdj.zero n) hn fun _ _ _ h => h.elim
theorem GV.rok {n : Nat} {rows : List Int} (g : GV n rows) : Rok n rows := by
  have hl := g.len
  have hi := g.hi
  refine ⟨by omega, by omega, fun v hv => ?_⟩
  obtain ⟨h1, h2, _⟩ := g.row v (by omega)
  refine ⟨h1, ?_⟩
  rw [Int.toNat_natCast] at h2
  have e : ((2 ^ n : Nat) : Int) = (2 : Int) ^ n := by simp
  omega

/-- The heap of the filling: the graph, the result's place, the rows, the graph that is filled. -/
def fh (h : VH) (n : Nat) (s : Value) (q : List Int) : VH := h ++ [⟨0, [.int .i64 n, s]⟩, ⟨0, [.int .i64 0, .slice none 0 0]⟩, ⟨1, ints q⟩, ⟨0, [.int .i64 n, .slice (some ⟨h.length + 2, 0, none⟩) n n]⟩]

end Go.Proofs.YthpgiimaadohcaaDoor.Zv

/- Levels are distances: the shortest walks. -/
namespace Go.Proofs.YthpgiimaadohcaaDoor.Zv
open Go

/-- There is a walk of k steps from a to b. -/
def Wk (rows : List Int) : Nat → Nat → Nat → Prop
  | 0, a, b => a = b
  | k + 1, a, b => ∃ c, Wk rows k a c ∧ rbit rows c b = true

theorem Wk.front {rows : List Int} : ∀ (k a b : Nat), Wk rows (k + 1) a b ↔ ∃ c, rbit rows a c = true ∧ Wk rows k c b
  | 0, a, b => by
    constructor
    · rintro ⟨c, rfl, h⟩; exact ⟨b, h, rfl⟩
    · rintro ⟨c, h, rfl⟩; exact ⟨a, rfl, h⟩
  | k + 1, a, b => by
    constructor
    · rintro ⟨c, h1, h2⟩
      obtain ⟨d, h3, h4⟩ := (Wk.front k a c).mp h1
      exact ⟨d, h3, c, h4, h2⟩
    · rintro ⟨d, h3, c, h4, h2⟩
      exact ⟨c, (Wk.front k a c).mpr ⟨d, h3, h4⟩, h2⟩
theorem Wk.symm {rows : List Int} (hs : ∀ v w, rbit rows v w = true → rbit rows w v = true) : ∀ (k a b : Nat), Wk rows k a b → Wk rows k b a
  | 0, _, _, h => Eq.symm h
  | k + 1, a, b, h => by
    obtain ⟨c, h1, h2⟩ := h
    exact (Wk.front k b a).mpr ⟨c, hs _ _ h2, Wk.symm hs k a c h1⟩
theorem Wk.add {rows : List Int} (d a : Nat) : ∀ (m b : Nat), Wk rows (d + m) a b → ∃ c, Wk rows d a c ∧ Wk rows m c b
  | 0, b, h => ⟨b, h, rfl⟩
  | m + 1, b, h => by
    obtain ⟨c, h1, h2⟩ := h
    obtain ⟨e, h3, h4⟩ := Wk.add d a m c h1
    exact ⟨e, h3, c, h4, h2⟩
theorem Wk.comp {rows : List Int} {k a c : Nat} (h : Wk rows k a c) : ∀ (m b : Nat), Wk rows m c b → Wk rows (k + m) a b
  | 0, b, h2 => by cases h2; exact h
  | m + 1, b, h2 => by
    obtain ⟨e, h3, h4⟩ := h2
    exact ⟨e, Wk.comp h m e h3, h4⟩

/-- The shortest walk from a to b has d steps. -/
def Dst (rows : List Int) (d a b : Nat) : Prop := Wk rows d a b ∧ ∀ e, e < d → ¬ Wk rows e a b
theorem Dst.unique {rows : List Int} {d d' a b : Nat} (h : Dst rows d a b) (h' : Dst rows d' a b) : d = d' := by
  rcases Nat.lt_trichotomy d d' with h1 | h1 | h1
  · exact absurd h.1 (h'.2 d h1)
  · exact h1
  · exact absurd h'.1 (h.2 d' h1)
theorem Wk.dst {rows : List Int} {a b : Nat} : ∀ (k : Nat), Wk rows k a b → ∃ d, d ≤ k ∧ Dst rows d a b := by
  intro k
  induction k using Nat.strongRecOn with
  | ind k ih =>
    intro h
    by_cases h1 : ∃ e, e < k ∧ Wk rows e a b
    · obtain ⟨e, h2, h3⟩ := h1
      obtain ⟨d, h4, h5⟩ := ih e h2 h3
      exact ⟨d, by omega, h5⟩
    · exact ⟨k, Nat.le_refl _, h, fun e he hw => h1 ⟨e, he, hw⟩⟩
theorem Dst.before {rows : List Int} {d m a b : Nat} (h : Dst rows (d + m) a b) : ∃ c, Dst rows d a c := by
  obtain ⟨c, h1, h2⟩ := Wk.add d a m b h.1
  refine ⟨c, h1, fun e he hw => ?_⟩
  exact h.2 (e + m) (by omega) (hw.comp m b h2)

theorem orL_bit (rows : List Int) (j : Nat) : ∀ (l : List Int), (orL rows l).testBit j = true ↔ ∃ y ∈ l, rbit rows y.toNat j = true
  | [] => by simp [orL]
  | y :: l => by
    rw [orL, Nat.testBit_or, Bool.or_eq_true, orL_bit rows j l]
    simp [rbit]
theorem nxt_bit {n : Nat} {rows : List Int} {f : Nat} (hf : f < 2 ^ n) (hn : n ≤ 62) (j : Nat) : (nxt rows f).testBit j = true ↔ ∃ i, f.testBit i = true ∧ rbit rows i j = true := by
  unfold nxt
  rw [orL_bit]
  constructor
  · rintro ⟨y, h1, h2⟩
    exact ⟨y.toNat, ((bitL_mem f y).mp h1).2.2, h2⟩
  · rintro ⟨i, h1, h2⟩
    have := bit_lt hf h1
    exact ⟨i, (bitL_mem f i).mpr ⟨by omega, by omega, by rw [Int.toNat_natCast]; exact h1⟩, by rw [Int.toNat_natCast]; exact h2⟩

/-- What a number and its sign tell. -/
def IsDist (rows : List Int) (a b : Nat) (x : Int) : Prop := (x = -1 ∧ ∀ e, ¬ Wk rows e a b) ∨ ∃ d : Nat, x = d ∧ Dst rows d a b
theorem IsDist.unique {rows rows' : List Int} {a b a' b' : Nat} {x x' : Int} (h : IsDist rows a b x) (h' : IsDist rows' a' b' x') (e : ∀ k, Wk rows k a b ↔ Wk rows' k a' b') : x = x' := by
  rcases h with ⟨rfl, h⟩ | ⟨d, rfl, h⟩ <;> rcases h' with ⟨rfl, h'⟩ | ⟨d', rfl, h'⟩
  · rfl
  · exact absurd ((e d').mpr h'.1) (h d')
  · exact absurd ((e d).mp h.1) (h' d)
  · have : Dst rows d' a b := ⟨(e d').mpr h'.1, fun k hk hw => h'.2 k hk ((e k).mp hw)⟩
    rw [h.unique this]

theorem lev_dist {n : Nat} {rows : List Int} (R : Rok n rows) (a b met f d : Nat) (hm : met < 2 ^ n) (hf : f < 2 ^ n) (h1 : ∀ j, met.testBit j = true ↔ ∃ e, e ≤ d ∧ Wk rows e a j) (h2 : ∀ j, f.testBit j = true ↔ Dst rows d a j) (h3 : ∀ e, e < d → ¬ Wk rows e a b) :
    IsDist rows a b (lev rows met f d b) := by
  by_cases h0 : f = 0
  · subst h0
    rw [lev_zero]
    refine .inl ⟨rfl, fun e hw => ?_⟩
    obtain ⟨k, hk, hd⟩ := Wk.dst e hw
    rcases Nat.lt_or_ge k d with hlt | hge
    · exact h3 k hlt hd.1
    · obtain ⟨m, rfl⟩ : ∃ m, k = d + m := ⟨k - d, by omega⟩
      obtain ⟨c, hc⟩ := hd.before
      have := (h2 c).mpr hc
      simp at this
  · by_cases hb : f.testBit b = true
    · rw [lev_bit hb]
      exact .inr ⟨d, rfl, (h2 b).mp hb⟩
    · rw [lev_step R hm hf h0 (by simpa using hb)]
      have hx := nxt_lt R hf
      have hnl := nand_le (nxt rows f) met
      have n1 := nxt_bit (rows := rows) hf R.le
      have n2 : ∀ j, (met ||| nxt rows f).testBit j = true ↔ ∃ e, e ≤ d + 1 ∧ Wk rows e a j := by
        intro j
        rw [Nat.testBit_or, Bool.or_eq_true, h1, n1]
        constructor
        · rintro (⟨e, he, hw⟩ | ⟨i, hi, hij⟩)
          · exact ⟨e, by omega, hw⟩
          · exact ⟨d + 1, Nat.le_refl _, i, ((h2 i).mp hi).1, hij⟩
        · rintro ⟨e, he, hw⟩
          rcases Nat.lt_or_ge d e with hlt | hge
          · have : e = d + 1 := by omega
            subst this
            obtain ⟨c, hc, hcj⟩ := hw
            by_cases hmin : ∃ k, k < d ∧ Wk rows k a c
            · obtain ⟨k, hk, hkw⟩ := hmin
              exact .inl ⟨k + 1, by omega, c, hkw, hcj⟩
            · exact .inr ⟨c, (h2 c).mpr ⟨hc, fun k hk hw => hmin ⟨k, hk, hw⟩⟩, hcj⟩
          · exact .inl ⟨e, hge, hw⟩
      have n3 : ∀ j, (nand (nxt rows f) met).testBit j = true ↔ Dst rows (d + 1) a j := by
        intro j
        rw [nand_bit, Bool.and_eq_true, n1, Bool.not_eq_true', ← Bool.not_eq_true, h1]
        constructor
        · rintro ⟨⟨i, hi, hij⟩, hno⟩
          exact ⟨⟨i, ((h2 i).mp hi).1, hij⟩, fun e he hw => hno ⟨e, by omega, hw⟩⟩
        · rintro ⟨⟨c, hc, hcj⟩, hmin⟩
          refine ⟨⟨c, (h2 c).mpr ⟨hc, fun k hk hw => ?_⟩, hcj⟩, fun ⟨e, he, hw⟩ => hmin e (by omega) hw⟩
          exact hmin (k + 1) (by omega) ⟨c, hw, hcj⟩
      have n4 : ∀ e, e < d + 1 → ¬ Wk rows e a b := by
        intro e he hw
        rcases Nat.lt_or_ge e d with hlt | hge
        · exact h3 e hlt hw
        · have : e = d := by omega
          subst this
          exact hb ((h2 b).mpr ⟨hw, h3⟩)
      by_cases h5 : met < met ||| nxt rows f
      · exact lev_dist R a b _ _ (d + 1) (Nat.or_lt_two_pow hm hx) (by omega) n2 n3 n4
      · rw [or_or_zero (rows := rows) h5] at n3 ⊢
        rw [lev_zero]
        refine .inl ⟨rfl, fun e hw => ?_⟩
        obtain ⟨k, hk, hd⟩ := Wk.dst e hw
        rcases Nat.lt_or_ge k (d + 1) with hlt | hge
        · exact n4 k hlt hd.1
        · obtain ⟨m, rfl⟩ : ∃ m, k = d + 1 + m := ⟨k - (d + 1), by omega⟩
          obtain ⟨c, hc⟩ := hd.before
          have := (n3 c).mpr hc
          simp at this
 termination_by 2 ^ n - met
 decreasing_by
  have := Nat.or_lt_two_pow hm hx
  omega

theorem far_dist {n : Nat} {rows : List Int} (R : Rok n rows) {a : Nat} (ha : a < n) (b : Nat) : IsDist rows a b (far rows a b) := by
  have hp : 2 ^ a < 2 ^ n := Nat.pow_lt_pow_right (by omega) ha
  refine lev_dist R a b _ _ 0 hp hp (fun j => ?_) (fun j => ?_) (fun e he => by omega)
  · rw [Nat.testBit_two_pow, decide_eq_true_eq]
    constructor
    · intro h; exact ⟨0, Nat.le_refl _, h⟩
    · rintro ⟨e, he, hw⟩
      have : e = 0 := by omega
      subst this
      exact hw
  · rw [Nat.testBit_two_pow, decide_eq_true_eq]
    constructor
    · intro h; exact ⟨h, fun e he => by omega⟩
    · intro h; exact h.1

/-- Two graphs in which walks go alike. -/
theorem far_same {n : Nat} {rows rows' : List Int} (R : Rok n rows) (R' : Rok n rows') {a b : Nat} (ha : a < n) (hb : b < n) (hs : ∀ v w, rbit rows v w = true → rbit rows w v = true) (e : ∀ v w, rbit rows v w = true ↔ rbit rows' v w = true) : far rows a b = far rows' b a := by
  refine (far_dist R ha b).unique (far_dist R' hb a) fun k => ?_
  have e2 : ∀ (k v w : Nat), Wk rows k v w ↔ Wk rows' k v w := by
    intro k
    induction k with
    | zero => intro v w; exact Iff.rfl
    | succ k ih =>
      intro v w
      constructor
      · rintro ⟨c, h1, h2⟩; exact ⟨c, (ih v c).mp h1, (e c w).mp h2⟩
      · rintro ⟨c, h1, h2⟩; exact ⟨c, (ih v c).mpr h1, (e c w).mpr h2⟩
  exact ⟨fun h => (e2 k b a).mp (h.symm hs), fun h => Wk.symm hs k b a ((e2 k b a).mpr h)⟩
end Go.Proofs.YthpgiimaadohcaaDoor.Zv

/- Girths: the least length of a cycle with an edge, at a vertex, of all. -/
namespace Go.Proofs.YthpgiimaadohcaaDoor.Zv
open Go
variable {nro : Nat}

theorem rbit_lt {n : Nat} {rows : List Int} (R : Rok n rows) {v w : Nat} (h : rbit rows v w = true) : v < n ∧ w < n := by
  have hv : v < n := by
    rcases Nat.lt_or_ge v n with h1 | h1
    · exact h1
    · have hl := R.len
      unfold rbit at h
      rw [List.getD_eq_getElem?_getD, List.getElem?_eq_none (by omega)] at h
      simp at h
  exact ⟨hv, R.lt hv h⟩
/-- A graph without one of its edges. -/
theorem cut_rok {n : Nat} {rows : List Int} (g : GV n rows) {a b : Nat} (ha : a < n) (hb : b < n) (hab : rbit rows a b = true) :
    Rok n (cut2 rows a b) ∧ ∀ v w, rbit (cut2 rows a b) v w = true ↔ rbit rows v w = true ∧ ¬ ((v = a ∧ w = b) ∨ (v = b ∧ w = a)) := by
  have R := g.rok
  have hl := g.len
  have hba : rbit rows b a = true := by rw [g.sym b a (by omega) (by omega)]; exact hab
  have hne : (a : Int) ≠ b := by
    intro e
    have e : a = b := by omega
    subst e
    obtain ⟨_, _, h⟩ := g.row a (by omega)
    rw [h] at hab
    cases hab
  have := R.isAdj.cut2 (a := (a : Int)) (b := (b : Int)) (by omega) (by omega) (by omega) (by omega) hne (by simpa using hab) (by simpa using hba)
  simp only [Int.toNat_natCast] at this
  have R2 : Rok n (cut2 rows a b) := Rok.of this R.le fun v w hv h => R.lt hv h.1
  refine ⟨R2, fun v w => ?_⟩
  by_cases hv : v < n
  · exact (this.2 v hv).2.2 w
  · constructor
    · intro h; exact absurd (rbit_lt R2 h).1 hv
    · intro h; exact absurd (rbit_lt R h.1).1 hv

/-- The least length of a cycle with an edge; 0 without one. -/
def arF (rows : List Int) (a b : Nat) : Int := far (cut2 rows a b) a b + 1
theorem GV.sym' {n : Nat} {rows : List Int} (g : GV n rows) {v w : Nat} (h : rbit rows v w = true) : rbit rows w v = true := by
  have hl := g.len
  obtain ⟨h1, h2⟩ := rbit_lt g.rok h
  rw [g.sym w v (by omega) (by omega)]
  exact h
theorem GV.ne {n : Nat} {rows : List Int} (g : GV n rows) {v w : Nat} (h : rbit rows v w = true) : v ≠ w := by
  rintro rfl
  have hl := g.len
  obtain ⟨h1, _⟩ := rbit_lt g.rok h
  obtain ⟨_, _, h2⟩ := g.row v (by omega)
  rw [h2] at h
  cases h
theorem arF_symm {n : Nat} {rows : List Int} (g : GV n rows) {a b : Nat} (hab : rbit rows a b = true) : arF rows a b = arF rows b a := by
  obtain ⟨ha, hb⟩ := rbit_lt g.rok hab
  obtain ⟨R1, e1⟩ := cut_rok g ha hb hab
  obtain ⟨R2, e2⟩ := cut_rok g hb ha (g.sym' hab)
  unfold arF
  rw [far_same R1 R2 ha hb (fun v w h => ?_) (fun v w => ?_)]
  · rw [e1] at h ⊢
    exact ⟨g.sym' h.1, fun h2 => h.2 (by omega)⟩
  · rw [e1, e2]
    constructor <;> (rintro ⟨h1, h2⟩; exact ⟨h1, fun h3 => h2 (by omega)⟩)
theorem arF_ge {n : Nat} {rows : List Int} (a b : Nat) : 0 ≤ arF rows a b := by
  have := far_ge (cut2 rows a b) a b
  unfold arF
  omega
theorem c_impl_Graph_around (n a b : Nat) (s : Value) (rows : List Int) (h : VH) (hs : Sli h s rows) (g : GV n rows) (hab : rbit rows a b = true) (hn : nro ≤ h.length) :
    vcall F nro k_impl_Graph_around [gv n s, .int .i64 a, .int .i64 b] h = some (.int .i64 (arF rows a b), h) := by
  refine v_impl_Graph_around (by simp [i_impl_Graph_around]) ?_
  rw [fbody_eq]
  have hn' := fun k => Nat.le_trans hn (Nat.le_add_right h.length k)
  obtain ⟨ha, hb⟩ := rbit_lt g.rok hab
  obtain ⟨R2, _⟩ := cut_rok g ha hb hab
  have R := g.rok
  have hl := R.len
  have hle := R.le
  have hne := g.ne hab
  have ho := c_impl_own (nro := nro) n s rows (h ++ [⟨0, [.int .i64 n, s]⟩]) (hs.app _) (by intro e; rw [e] at hl; simp at hl; omega) (by omega) (by simp; omega)
  obtain ⟨r1, r2⟩ := R.row a ha
  obtain ⟨q1, q2⟩ := R.row b hb
  have r3 := le62 hle r2
  have q3 := le62 hle q2
  have ht := c_impl_Graph_take (nro := nro) n (h.length + 1) n a b rows (h ++ [⟨0, [.int .i64 n, s]⟩, ⟨1, ints rows⟩, ⟨0, [.int .i64 n, .slice (some ⟨h.length + 1, 0, none⟩) n n]⟩]) (by simp) hl (by omega) (by omega) (by omega) (by omega) (by omega) hle (by omega)
    (by rw [Int.toNat_natCast]; exact r1) (by rw [Int.toNat_natCast]; omega) (by rw [Int.toNat_natCast, Int.toNat_natCast]; exact hab) (by rw [Int.toNat_natCast]; exact q1) (by rw [Int.toNat_natCast]; omega) (by rw [Int.toNat_natCast, Int.toNat_natCast]; exact g.sym' hab)
  have hl2 := R2.len
  have hd := c_impl_Graph_distances (nro := nro) n a (.slice (some ⟨h.length + 1, 0, none⟩) n n) (cut2 rows a b) (h ++ [⟨0, [.int .i64 n, s]⟩, ⟨1, ints (cut2 rows a b)⟩, ⟨0, [.int .i64 n, .slice (some ⟨h.length + 1, 0, none⟩) n n]⟩]) (by
    have := sli_at (h := h ++ [⟨0, [.int .i64 n, s]⟩, ⟨1, ints (cut2 rows a b)⟩, ⟨0, [.int .i64 n, .slice (some ⟨h.length + 1, 0, none⟩) n n]⟩]) (b := h.length + 1) (xs := cut2 rows a b) (by simp)
    rw [hl2] at this
    exact this) R2 ha (by simp; omega)
  have f1 := far_le R2 ha b
  have f2 := far_ge (cut2 rows a b) a b
  have f3 := dists_get R2 ha hb
  have f4 := dists_len (cut2 rows a b) n a
  unfold arF
  obtain ⟨x, hx⟩ : ∃ x, x = far (cut2 rows a b) a b := ⟨_, rfl⟩
  rw [← hx] at f1 f2 f3 ⊢
  obtain ⟨D, hD⟩ : ∃ D, D = dists (cut2 rows a b) n a := ⟨_, rfl⟩
  rw [← hD] at hd f3 f4
  obtain ⟨c, hc⟩ : ∃ c, c = cut2 rows a b := ⟨_, rfl⟩
  rw [← hc] at ht hd
  have hbD : b < D.length := by omega
  rw [getD_at D hbD] at f3
  have t1 := take1_ints hbD
  rw [f3] at t1
  have hb' : (b : Int) < n := by omega
  have w1 : IntKind.i64.wrap (x + 1) = x + 1 := wrap64 (by omega) (by omega)
  simp at ht hd
  rw [hl] at ho
  simp at ho
  clear hx hD hc R2 hl2
  simp (disch := first | assumption | omega | (simp [*] <;> omega) | fail) [i_impl_Graph_around, ho, ht, hd, hn, hn', f4, hb, hb', t1, w1]

/-! ### the least of lengths -/
/-- The lesser one of two lengths; 0 stands for none. -/
def minP (best n : Int) : Int := if 0 < n ∧ (best = 0 ∨ n < best) then n else best
theorem minP_ok {best n c : Int} (hb : 0 ≤ best) (hc : 1 ≤ c) : (minP best n = 0 ∨ c ≤ minP best n) ↔ (best = 0 ∨ c ≤ best) ∧ (n ≤ 0 ∨ c ≤ n) := by
  unfold minP
  split <;> omega
theorem minP_ge {best n : Int} (hb : 0 ≤ best) : 0 ≤ minP best n := by
  unfold minP
  split <;> omega
/-- The least length at v with the vertices of a list. -/
def gaL (rows : List Int) (v : Nat) (best : Int) : List Int → Int
  | [] => best
  | y :: l => gaL rows v (minP best (arF rows v y.toNat)) l
theorem gaL_ge {rows : List Int} {v : Nat} : ∀ (l : List Int) (best : Int), 0 ≤ best → 0 ≤ gaL rows v best l
  | [], _, h => h
  | y :: l, best, h => gaL_ge l _ (minP_ge h)
theorem gaL_ok {rows : List Int} {v : Nat} {c : Int} (hc : 1 ≤ c) : ∀ (l : List Int) (best : Int), 0 ≤ best → ((gaL rows v best l = 0 ∨ c ≤ gaL rows v best l) ↔ (best = 0 ∨ c ≤ best) ∧ ∀ y ∈ l, arF rows v y.toNat ≤ 0 ∨ c ≤ arF rows v y.toNat)
  | [], best, h => by simp [gaL]
  | y :: l, best, h => by
    rw [gaL, gaL_ok hc l _ (minP_ge h), minP_ok h hc]
    simp only [List.mem_cons, forall_eq_or_imp]
    exact ⟨fun ⟨⟨a, b⟩, c⟩ => ⟨a, b, c⟩, fun ⟨a, b, c⟩ => ⟨⟨a, b⟩, c⟩⟩
/-- The neighbours of v. -/
def nbL (rows : List Int) (v : Nat) : List Int := bitL (rows.getD v 0).toNat
theorem nbL_mem (rows : List Int) (v : Nat) (y : Int) : y ∈ nbL rows v ↔ 0 ≤ y ∧ y < 62 ∧ rbit rows v y.toNat = true := bitL_mem _ y
theorem nbL_nat {rows : List Int} {v j : Nat} (hj : j < (nbL rows v).length) : ∃ y : Nat, (nbL rows v)[j] = (y : Int) ∧ rbit rows v y = true := by
  have h := (nbL_mem rows v (nbL rows v)[j]).mp (List.getElem_mem hj)
  exact ⟨((nbL rows v)[j]).toNat, by omega, h.2.2⟩

theorem c_impl_listRow (n v : Nat) (rows : List Int) (R : Rok n rows) (hv : v < n) (h : VH) (hn : nro ≤ h.length) :
    vcall F nro k_impl_list [.int .i64 (rows[v]'(by have := R.len; omega))] h = some (.slice (some ⟨h.length, 0, none⟩) (nbL rows v).length (nbL rows v).length, h ++ [⟨1, ints (nbL rows v)⟩]) := by
  have hl := R.len
  obtain ⟨r1, r2⟩ := R.row v hv
  have := c_impl_list (nro := nro) (rows.getD v 0).toNat (le62 R.le r2) h hn
  rw [Int.toNat_of_nonneg r1] at this
  rw [← getD_at rows (by omega)]
  exact this

theorem l_impl_Graph_girthAt (h : VH) (n v : Nat) (s : Value) (rows : List Int) (hs : Sli h s rows) (g : GV n rows) (hn : nro ≤ h.length) (k j : Nat) (hk : k = (nbL rows v).length - j) (hj : j ≤ (nbL rows v).length) (best : Int) (hb : 0 ≤ best) :
    floop (vcall F nro) nro [1, 2, 5, 14, 15, 16] i_impl_Graph_girthAt_B1 (h ++ [⟨0, [.int .i64 n, s]⟩, ⟨1, ints (nbL rows v)⟩]) [.int .i64 v, bp h, .int .i64 best, .slice (some ⟨h.length + 1, 0, none⟩) (nbL rows v).length (nbL rows v).length, .int .i64 (nbL rows v).length, .int .i64 j] (h ++ [⟨0, [.int .i64 n, s]⟩, ⟨1, ints (nbL rows v)⟩]) =
      some (.exit 0, fl [(5, .int .i64 (gaL rows v best ((nbL rows v).drop j)))], h ++ [⟨0, [.int .i64 n, s]⟩, ⟨1, ints (nbL rows v)⟩]) := by
  have hn' := fun k => Nat.le_trans hn (Nat.le_add_right h.length k)
  have hsc := fun k => hs.oldCk (k := k)
  rw [floop_at i_impl_Graph_girthAt_B1.eq_1]
  by_cases hlt : j < (nbL rows v).length
  · obtain ⟨y, hy, hvy⟩ := nbL_nat hlt
    have hc := c_impl_Graph_around (nro := nro) n v y s rows (h ++ [⟨0, [.int .i64 n, s]⟩, ⟨1, ints (nbL rows v)⟩]) (hs.app _) g hvy (by simp; omega)
    have a1 := arF_ge (n := n) (rows := rows) v y
    have ih := l_impl_Graph_girthAt h n v s rows hs g hn (k - 1) (j + 1) (by omega) hlt (minP best (arF rows v y)) (minP_ge hb)
    rw [show ((j + 1 : Nat) : Int) = (j : Int) + 1 by omega] at ih
    rw [List.drop_eq_getElem_cons hlt, hy, gaL, Int.toNat_natCast]
    have hll : (nbL rows v).length ≤ 62 := bitL_len _
    have t1 := take1_ints hlt
    rw [hy] at t1
    obtain ⟨q, hq⟩ : ∃ q, q = gaL rows v (minP best (arF rows v y)) ((nbL rows v).drop (j + 1)) := ⟨_, rfl⟩
    rw [← hq] at ih ⊢
    obtain ⟨x, hx⟩ : ∃ x, x = arF rows v y := ⟨_, rfl⟩
    rw [← hx] at hc a1 ih
    have hlt' : (j : Int) < (nbL rows v).length := by omega
    clear hq hx hk
    unfold minP at ih
    by_cases c1 : 0 < x
    · by_cases c2 : best = 0
      · rw [if_pos ⟨c1, .inl c2⟩] at ih
        simp (disch := first | assumption | omega | (simp [*] <;> omega) | fail) [wrap64, hlt', hlt, hc, c1, c2, ih, hsc, t1, hy]
      · by_cases c3 : x < best
        · rw [if_pos ⟨c1, .inr c3⟩] at ih
          simp (disch := first | assumption | omega | (simp [*] <;> omega) | fail) [wrap64, hlt', hlt, hc, c1, c2, c3, ih, hsc, t1, hy]
        · rw [if_neg (by omega)] at ih
          simp (disch := first | assumption | omega | (simp [*] <;> omega) | fail) [wrap64, hlt', hlt, hc, c1, c2, c3, ih, hsc, t1, hy]
    · rw [if_neg (fun h => c1 h.1)] at ih
      simp (disch := first | assumption | omega | (simp [*] <;> omega) | fail) [wrap64, hlt', hlt, hc, c1, ih, hsc, t1, hy]
  · have hlt' : ¬ (j : Int) < (nbL rows v).length := by omega
    rw [List.drop_eq_nil_of_le (by omega), gaL]
    simp (disch := first | assumption | omega | (simp [*] <;> omega) | fail) [hlt', hlt]
 termination_by k
 decreasing_by omega

theorem c_impl_Graph_girthAt (n v : Nat) (s : Value) (rows : List Int) (h : VH) (hs : Sli h s rows) (g : GV n rows) (hv : v < n) (hn : nro ≤ h.length) :
    vcall F nro k_impl_Graph_girthAt [gv n s, .int .i64 v] h = some (.int .i64 (gaL rows v 0 (nbL rows v)), h) := by
  refine v_impl_Graph_girthAt (by simp [i_impl_Graph_girthAt]) ?_
  rw [fbody_eq]
  have hn' := fun k => Nat.le_trans hn (Nat.le_add_right h.length k)
  have R := g.rok
  have hl := R.len
  have hvl : v < rows.length := by omega
  have hL := c_impl_listRow (nro := nro) n v rows R hv (h ++ [⟨0, [.int .i64 n, s]⟩]) (by simp; omega)
  have lp := l_impl_Graph_girthAt (nro := nro) h n v s rows hs g hn (nbL rows v).length 0 (by omega) (Nat.zero_le _) 0 (by omega)
  rw [List.drop_zero] at lp
  have vx := fun L => (hs.app L).vidx (k := .i64) (j := (v : Int)) (by omega) (by omega)
  have vl := fun L => (hs.app L).vload hvl
  obtain ⟨q, hq⟩ : ∃ q, q = gaL rows v 0 (nbL rows v) := ⟨_, rfl⟩
  rw [← hq] at lp ⊢
  clear hq
  simp only [Int.natCast_zero] at lp
  simp at hL
  simp (disch := first | assumption | omega | (simp [*] <;> omega) | fail) [i_impl_Graph_girthAt, vx, vl, hL, lp, hn, hn']

/-- The girth, from v on. -/
def girF (rows : List Int) (n : Nat) (best : Int) (v : Nat) : Int := if h : v < n then girF rows n (minP best (gaL rows v 0 (nbL rows v))) (v + 1) else best
 termination_by n - v
theorem girF_end {rows : List Int} {n v : Nat} {best : Int} (h : ¬ v < n) : girF rows n best v = best := by rw [girF, dif_neg h]
theorem girF_step {rows : List Int} {n v : Nat} {best : Int} (h : v < n) : girF rows n best v = girF rows n (minP best (gaL rows v 0 (nbL rows v))) (v + 1) := by rw [girF, dif_pos h]
theorem girF_ok {rows : List Int} {n : Nat} {c : Int} (hc : 1 ≤ c) (v : Nat) (best : Int) (hb : 0 ≤ best) : (girF rows n best v = 0 ∨ c ≤ girF rows n best v) ↔ (best = 0 ∨ c ≤ best) ∧ ∀ u, v ≤ u → u < n → ∀ y ∈ nbL rows u, arF rows u y.toNat ≤ 0 ∨ c ≤ arF rows u y.toNat := by
  by_cases h : v < n
  · rw [girF_step h, girF_ok hc (v + 1) _ (minP_ge hb), minP_ok hb hc]
    have h1 := gaL_ok (rows := rows) (v := v) hc (nbL rows v) 0 (by omega)
    have h2 := gaL_ge (rows := rows) (v := v) (nbL rows v) 0 (by omega)
    constructor
    · rintro ⟨⟨a, b⟩, c'⟩
      refine ⟨a, fun u hu hun => ?_⟩
      by_cases e : u = v
      · subst e
        exact (h1.mp (by omega)).2
      · exact c' u (by omega) hun
    · rintro ⟨a, b⟩
      refine ⟨⟨a, ?_⟩, fun u hu hun => b u (by omega) hun⟩
      have := h1.mpr ⟨.inl rfl, b v (Nat.le_refl _) h⟩
      omega
  · rw [girF_end h]
    constructor
    · intro h1; exact ⟨h1, fun u hu hun => by omega⟩
    · intro h1; exact h1.1
 termination_by n - v

theorem l_impl_Graph_girth (h : VH) (n : Nat) (s : Value) (rows : List Int) (hs : Sli h s rows) (g : GV n rows) (hn : nro ≤ h.length) (v : Nat) (best : Int) (hb : 0 ≤ best) :
    floop (vcall F nro) nro [1, 3, 7, 8] i_impl_Graph_girth_B1 (bx h n s) [bp h, .int .i64 best, .int .i64 n, .int .i64 v] (bx h n s) =
      some (.exit 0, fl [(3, .int .i64 (girF rows n best v))], bx h n s) := by
  have hn' := fun k => Nat.le_trans hn (Nat.le_add_right h.length k)
  have hsc := fun k => hs.oldCk (k := k)
  have hle := g.rok.le
  rw [floop_at i_impl_Graph_girth_B1.eq_1]
  by_cases hlt : v < n
  · have hlt' : (v : Int) < n := by omega
    have hc := c_impl_Graph_girthAt (nro := nro) n v s rows (bx h n s) (hs.app _) g hlt (by simp; omega)
    have ih := l_impl_Graph_girth h n s rows hs g hn (v + 1) (minP best (gaL rows v 0 (nbL rows v))) (minP_ge hb)
    rw [show ((v + 1 : Nat) : Int) = (v : Int) + 1 by omega] at ih
    rw [girF_step hlt]
    obtain ⟨q, hq⟩ : ∃ q, q = girF rows n (minP best (gaL rows v 0 (nbL rows v))) (v + 1) := ⟨_, rfl⟩
    rw [← hq] at ih ⊢
    obtain ⟨x, hx⟩ : ∃ x, x = gaL rows v 0 (nbL rows v) := ⟨_, rfl⟩
    rw [← hx] at hc ih
    clear hq hx
    unfold minP at ih
    by_cases c1 : 0 < x
    · by_cases c2 : best = 0
      · rw [if_pos ⟨c1, .inl c2⟩] at ih
        simp (disch := first | assumption | omega | (simp [*] <;> omega) | fail) [wrap64, hlt', hlt, hc, c1, c2, ih, hsc]
      · by_cases c3 : x < best
        · rw [if_pos ⟨c1, .inr c3⟩] at ih
          simp (disch := first | assumption | omega | (simp [*] <;> omega) | fail) [wrap64, hlt', hlt, hc, c1, c2, c3, ih, hsc]
        · rw [if_neg (by omega)] at ih
          simp (disch := first | assumption | omega | (simp [*] <;> omega) | fail) [wrap64, hlt', hlt, hc, c1, c2, c3, ih, hsc]
    · rw [if_neg (fun h => c1 h.1)] at ih
      simp (disch := first | assumption | omega | (simp [*] <;> omega) | fail) [wrap64, hlt', hlt, hc, c1, ih, hsc]
  · have hlt' : ¬ (v : Int) < n := by omega
    rw [girF_end hlt]
    simp (disch := first | assumption | omega | (simp [*] <;> omega) | fail) [hlt', hlt]
 termination_by n - v

theorem c_impl_Graph_girth (n : Nat) (s : Value) (rows : List Int) (h : VH) (hs : Sli h s rows) (g : GV n rows) (hn : nro ≤ h.length) :
    vcall F nro k_impl_Graph_girth [gv n s] h = some (.int .i64 (girF rows n 0 0), h) := by
  refine v_impl_Graph_girth (by simp [i_impl_Graph_girth]) ?_
  rw [fbody_eq]
  have lp := l_impl_Graph_girth (nro := nro) h n s rows hs g hn 0 0 (by omega)
  obtain ⟨q, hq⟩ : ∃ q, q = girF rows n 0 0 := ⟨_, rfl⟩
  rw [← hq] at lp ⊢
  clear hq
  simp only [Int.natCast_zero] at lp
  simp (disch := first | assumption | omega | (simp [*] <;> omega) | fail) [i_impl_Graph_girth, lp]
end Go.Proofs.YthpgiimaadohcaaDoor.Zv

/- The reference's search for distances: a queue. -/
namespace Go.Proofs.YthpgiimaadohcaaDoor.Zv
open Go
variable {nro : Nat}

/-! ### the search, without memory -/
/-- How many vertices are not met. -/
def unm (g : Nat → Int) : Nat → Nat
  | 0 => 0
  | k + 1 => unm g k + if g k < 0 then 1 else 0
theorem unm_upd {g : Nat → Int} {y : Nat} {e : Int} (hy : g y < 0) (he : 0 ≤ e) : ∀ {n : Nat}, y < n → unm (upd g y e) n + 1 = unm g n
  | 0, h => by omega
  | n + 1, h => by
    rw [unm, unm]
    by_cases c : y = n
    · subst c
      have : ∀ m, m ≤ y → unm (upd g y e) m = unm g m := by
        intro m
        induction m with
        | zero => intro _; rfl
        | succ m ih => intro hm; rw [unm, unm, ih (by omega), upd_ne (by omega)]
      rw [this y (Nat.le_refl _), upd_same, if_pos hy, if_neg (by omega)]
    · rw [← unm_upd hy he (n := n) (by omega), upd_ne (g := g) (u := y) (j := n) (x := e) (fun e => c e.symm)]
      omega
theorem unm_const : ∀ n, unm (fun _ => -1) n = n
  | 0 => rfl
  | n + 1 => by rw [unm, unm_const n]; rfl

/-- What holds all the while. -/
structure BI (n : Nat) (s : (Nat → Int) × List Int) : Prop where
  q : ∀ j, j < s.2.length → 0 ≤ s.2.getD j 0 ∧ s.2.getD j 0 < n ∧ 0 ≤ s.1 (s.2.getD j 0).toNat
  cnt : s.2.length + unm s.1 n = n
  lo : ∀ w, -1 ≤ s.1 w
  hi : ∀ w, s.1 w < s.2.length
theorem BI.len {n : Nat} {s : (Nat → Int) × List Int} (h : BI n s) : s.2.length ≤ n := by have := h.cnt; omega
/-! ### the code -/
/-- The start. -/
def b0 (v : Nat) : (Nat → Int) × List Int := (upd (fun _ => -1) v 0, [(v : Int)])
theorem BI.b0 {n v : Nat} (hv : v < n) : BI n (b0 v) := by
  refine ⟨fun j hj => ?_, ?_, fun w => ?_, fun w => ?_⟩
  · have : j = 0 := by simpa [Zv.b0] using hj
    subst this
    simp [Zv.b0, upd, hv]
  · have h1 := unm_upd (g := fun _ => -1) (y := v) (e := 0) (by decide) (by omega) hv
    rw [unm_const] at h1
    simp only [Zv.b0, List.length_singleton]
    omega
  · simp only [Zv.b0, upd]; split <;> omega
  · simp only [Zv.b0, upd, List.length_singleton]; split <;> omega
end Go.Proofs.YthpgiimaadohcaaDoor.Zv

/- The reference's distances are the program's. -/
namespace Go.Proofs.YthpgiimaadohcaaDoor.Zv
open Go
variable {nro : Nat}

/-- What holds of a search up to place i of the queue. -/
structure CI (rows : List Int) (n v i : Nat) (s : (Nat → Int) × List Int) : Prop where
  vis : ∀ w, w < n → 0 ≤ s.1 w → ∃ j, j < s.2.length ∧ s.2.getD j 0 = w
  sorted : ∀ j k, j ≤ k → k < s.2.length → s.1 (s.2.getD j 0).toNat ≤ s.1 (s.2.getD k 0).toNat
  walk : ∀ w, 0 ≤ s.1 w → Wk rows (s.1 w).toNat v w
  closed : ∀ j, j < i → j < s.2.length → ∀ y, rbit rows (s.2.getD j 0).toNat y = true → 0 ≤ s.1 y ∧ s.1 y ≤ s.1 (s.2.getD j 0).toNat + 1
  bound : i < s.2.length → ∀ k, k < s.2.length → s.1 (s.2.getD k 0).toNat ≤ s.1 (s.2.getD i 0).toNat + 1
  start : s.1 v = 0

end Go.Proofs.YthpgiimaadohcaaDoor.Zv

/- Layers and walks count alike; the least length of a cycle with an edge, and how many there are. -/
namespace Go.Proofs.YthpgiimaadohcaaDoor.Zv
open Go
variable {nro : Nat}

theorem far_of {rows : List Int} {n a : Nat} (R : Rok n rows) (ha : a < n) {y d : Nat} (h : Dst rows d a y) : far rows a y = d := by
  rcases far_dist R ha y with ⟨_, h2⟩ | ⟨e, h1, h2⟩
  · exact absurd h.1 (h2 d)
  · rw [h1, h2.unique h]

/-! ### the girth of the reference -/
end Go.Proofs.YthpgiimaadohcaaDoor.Zv

/- The sums of powers, and the girth bound. -/
namespace Go.Proofs.YthpgiimaadohcaaDoor.Zv
open Go
variable {nro : Nat}

/-- The powers, and their sums, as far as they are told. -/
def pw (q : Int) : Nat → Int
  | 0 => 1
  | i + 1 => min (pw q i * q) 1000000000001
def pS (q : Int) : Nat → Int
  | 0 => 0
  | i + 1 => min (pS q i + pw q i) 1000000000001
/-- The least number of vertices. -/
def gB (k : Int) (c : Nat) : Int := if c % 2 = 1 then 1 + k * pS (k - 1) ((c - 1) / 2) else 2 * pS (k - 1) (c / 2)
theorem pw_ok {q : Int} (h0 : 0 ≤ q) : ∀ i, 0 ≤ pw q i ∧ pw q i ≤ 1000000000001
  | 0 => by simp [pw]
  | i + 1 => by
    have := Int.mul_nonneg (pw_ok h0 i).1 h0
    rw [pw]; omega
theorem pS_ok {q : Int} (h0 : 0 ≤ q) : ∀ i, 0 ≤ pS q i ∧ pS q i ≤ 1000000000001
  | 0 => by simp [pS]
  | i + 1 => by
    have := pw_ok h0 i
    have := pS_ok h0 i
    rw [pS]; omega

theorem min_if (x : Int) : min x 1000000000001 = if 1000000000001 < x then 1000000000001 else x := by split <;> omega

theorem c_impl_powers (q : Int) (n : Nat) (h : VH) (h0 : 0 ≤ q) (h1 : q ≤ 100) (hn : n ≤ 100) :
    vcall F nro k_impl_powers [.int .i64 q, .int .i64 n] h = some (.int .i64 (pS q n), h) := by
  have key : floop (vcall F nro) nro [0, 5, 6, 7, 8] i_impl_powers_B1 h [.int .i64 q, .int .i64 0, .int .i64 1, .int .i64 n, .int .i64 0] h = some (.exit 0, fl [(5, .int .i64 (pS q n))], h) := by
    refine (for_up (call := vcall F nro) (nro := nro) (live := [0, 5, 6, 7, 8]) (c := i_impl_powers_B1) (h0 := h) (n := n) (fun i (_ : Unit) => [.int .i64 q, .int .i64 (pS q i), .int .i64 (pw q i), .int .i64 n, .int .i64 i]) (fun _ _ => h) (fun _ u => u) (fun _ _ => True)
      (fun _ => some (.exit 0, fl [(5, .int .i64 (pS q n))], h)) ?_ ?_ 0 () (Nat.zero_le _) trivial).1
    · intro i _ hi hi2 _
      refine ⟨trivial, ?_⟩
      obtain ⟨a1, a2⟩ := pw_ok h0 i
      obtain ⟨b1, b2⟩ := pS_ok h0 i
      have c1 : 0 ≤ pw q i * q := Int.mul_nonneg a1 h0
      have c2 : pw q i * q ≤ 1000000000001 * 100 := Int.mul_le_mul a2 h1 h0 (by omega)
      have e1 : pS q (i + 1) = min (pS q i + pw q i) 1000000000001 := rfl
      have e2 : pw q (i + 1) = min (pw q i * q) 1000000000001 := rfl
      rw [e1, e2]
      generalize pS q i = S at *
      have d1 : IntKind.i64.wrap (pw q i * q) = pw q i * q := wrap64 (by omega) (by omega)
      generalize pw q i = P at *
      have d2 : IntKind.i64.wrap (S + P) = S + P := wrap64 (by omega) (by omega)
      have d3 : IntKind.i64.wrap ((i : Int) + 1) = (i : Int) + 1 := wrap64 (by omega) (by omega)
      rw [floop_at i_impl_powers_B1.eq_1]
      simp (disch := first | assumption | omega | (simp [*] <;> omega) | fail) [hi, hi2, d1, d2, d3, min_if]
    · intro _ _
      rw [floop_at i_impl_powers_B1.eq_1]
      simp (disch := first | assumption | omega | (simp [*] <;> omega) | fail) []
  refine v_impl_powers (by simp [i_impl_powers]) ?_
  rw [fbody_eq]
  obtain ⟨x, hx⟩ : ∃ x, x = pS q n := ⟨_, rfl⟩
  rw [← hx] at key ⊢
  clear hx
  simp (disch := first | assumption | omega | (simp [*] <;> omega) | fail) [i_impl_powers, key]

theorem c_impl_girthBound (k : Int) (c : Nat) (h : VH) (h0 : 1 ≤ k) (h1 : k ≤ 100) (hc0 : 1 ≤ c) (hc : c ≤ 200) :
    vcall F nro k_impl_girthBound [.int .i64 k, .int .i64 c] h = some (.int .i64 (gB k c), h) := by
  refine v_impl_girthBound (by simp [i_impl_girthBound]) ?_
  rw [fbody_eq]
  have wq : IntKind.i64.wrap (k - 1) = k - 1 := wrap64 (by omega) (by omega)
  have wc : IntKind.i64.wrap ((c : Int) - 1) = ((c - 1 : Nat) : Int) := by rw [wrap64 (by omega) (by omega)]; omega
  by_cases ho : c % 2 = 1
  · have e1 := c_impl_powers (nro := nro) (k - 1) ((c - 1) / 2) h (by omega) (by omega) (by omega)
    obtain ⟨b1, b2⟩ := pS_ok (q := k - 1) (by omega) ((c - 1) / 2)
    have t1 : ((c : Int)).tmod 2 = 1 := by rw [Int.tmod_eq_emod_of_nonneg (by omega)]; omega
    have e : gB k c = 1 + k * pS (k - 1) ((c - 1) / 2) := by rw [gB, if_pos ho]
    rw [e]
    generalize pS (k - 1) ((c - 1) / 2) = S at *
    have c1 : 0 ≤ k * S := Int.mul_nonneg (by omega) b1
    have c2 : k * S ≤ 100 * 1000000000001 := Int.mul_le_mul h1 b2 b1 (by omega)
    have w1 : IntKind.i64.wrap (k * S) = k * S := wrap64 (by omega) (by omega)
    have w2 : IntKind.i64.wrap (1 + k * S) = 1 + k * S := wrap64 (by omega) (by omega)
    have w3 : IntKind.i64.wrap (((c - 1 : Nat) : Int) / 2) = (((c - 1) / 2 : Nat) : Int) := by rw [wrap64 (by omega) (by omega)]; omega
    generalize (((c - 1) / 2 : Nat) : Int) = m at *
    clear e
    simp (disch := first | assumption | omega | (simp [*] <;> omega) | fail) [i_impl_girthBound, t1, wq, wc, e1, w1, w2, w3]
  · have e1 := c_impl_powers (nro := nro) (k - 1) (c / 2) h (by omega) (by omega) (by omega)
    obtain ⟨b1, b2⟩ := pS_ok (q := k - 1) (by omega) (c / 2)
    have t1 : ((c : Int)).tmod 2 = 0 := by rw [Int.tmod_eq_emod_of_nonneg (by omega)]; omega
    have e : gB k c = 2 * pS (k - 1) (c / 2) := by rw [gB, if_neg ho]
    rw [e]
    generalize pS (k - 1) (c / 2) = S at *
    have w1 : IntKind.i64.wrap (2 * S) = 2 * S := wrap64 (by omega) (by omega)
    have w3 : IntKind.i64.wrap ((c : Int) / 2) = ((c / 2 : Nat) : Int) := by rw [wrap64 (by omega) (by omega)]; omega
    generalize ((c / 2 : Nat) : Int) = m at *
    clear e
    simp (disch := first | assumption | omega | (simp [*] <;> omega) | fail) [i_impl_girthBound, t1, wq, e1, w1, w3]

end Go.Proofs.YthpgiimaadohcaaDoor.Zv

/- A regular graph without short cycles has many vertices. -/
namespace Go.Proofs.YthpgiimaadohcaaDoor.Zv
open Go
open Classical

/-- Reached in at most so many steps. -/
def Rch (rows : List Int) (S : Nat → Prop) : Nat → Nat → Prop
  | 0, x => S x
  | i + 1, x => Rch rows S i x ∨ ∃ y, Rch rows S i y ∧ rbit rows y x = true
/-- Reached in just so many steps. -/
def Lvl (rows : List Int) (S : Nat → Prop) : Nat → Nat → Prop
  | 0, x => S x
  | i + 1, x => Rch rows S (i + 1) x ∧ ¬ Rch rows S i x
theorem Lvl.rch {rows : List Int} {S : Nat → Prop} : ∀ {i x : Nat}, Lvl rows S i x → Rch rows S i x
  | 0, _, h => h
  | _ + 1, _, h => h.1

section
variable {n : Nat} {rows : List Int} (g : GV n rows)
include g

theorem cut_iff {p q : Nat} (h : rbit rows p q = true) (v w : Nat) : rbit (cut2 rows p q) v w = true ↔ rbit rows v w = true ∧ ¬ ((v = p ∧ w = q) ∨ (v = q ∧ w = p)) := by
  obtain ⟨h1, h2⟩ := rbit_lt g.rok h
  exact (cut_rok g h1 h2 h).2 v w
theorem cut_sym {p q : Nat} (h : rbit rows p q = true) (v w : Nat) (h2 : rbit (cut2 rows p q) v w = true) : rbit (cut2 rows p q) w v = true := by
  rw [cut_iff g h] at h2 ⊢
  refine ⟨g.sym' h2.1, fun h3 => h2.2 ?_⟩
  rcases h3 with ⟨a, b⟩ | ⟨a, b⟩
  · exact .inr ⟨b, a⟩
  · exact .inl ⟨b, a⟩

theorem rch_walk {S : Nat → Prop} {p q : Nat} (hpq : rbit rows p q = true) : ∀ (j x : Nat), Rch rows S j x → ¬ (Rch rows S j p ∧ Rch rows S j q) → ∃ s m, S s ∧ m ≤ j ∧ Wk (cut2 rows p q) m s x
  | 0, x, h, _ => ⟨x, 0, h, Nat.le_refl _, rfl⟩
  | j + 1, x, h, hn => by
    have hn' : ¬ (Rch rows S j p ∧ Rch rows S j q) := fun e => hn ⟨.inl e.1, .inl e.2⟩
    rcases h with h | ⟨y, h1, h2⟩
    · obtain ⟨s, m, e1, e2, e3⟩ := rch_walk hpq j x h hn'
      exact ⟨s, m, e1, by omega, e3⟩
    · obtain ⟨s, m, e1, e2, e3⟩ := rch_walk hpq j y h1 hn'
      refine ⟨s, m + 1, e1, by omega, y, e3, ?_⟩
      rw [cut_iff g hpq]
      refine ⟨h2, ?_⟩
      have hx : Rch rows S (j + 1) x := .inr ⟨y, h1, h2⟩
      have hy : Rch rows S (j + 1) y := .inl h1
      rintro (⟨rfl, rfl⟩ | ⟨rfl, rfl⟩)
      · exact hn ⟨hy, hx⟩
      · exact hn ⟨hx, hy⟩

/-- No cycle is shorter. -/
def NoSh (rows : List Int) (c : Nat) : Prop := ∀ p q, rbit rows p q = true → ∀ m, Wk (cut2 rows p q) m p q → c ≤ m + 1
/-- What the start is. -/
structure St (rows : List Int) (S : Nat → Prop) (e : Nat) : Prop where
  con : ∀ s s' p q, S s → S s' → rbit rows p q = true → ¬ (S p ∧ S q) → ∃ m, m ≤ e ∧ Wk (cut2 rows p q) m s s'
omit g in
theorem Rch.zero {rows : List Int} {S : Nat → Prop} {x : Nat} (h : S x) : ∀ j, Rch rows S j x
  | 0 => h
  | j + 1 => .inl (Rch.zero h j)

theorem no_two {S : Nat → Prop} {e c : Nat} (hc : NoSh rows c) (hS : St rows S e) {j x y y' : Nat} (h1 : 2 * (j + 1) + e < c) (hx : ¬ Rch rows S j x) (hy : Rch rows S j y) (hy' : Rch rows S j y') (hne : y ≠ y') (e1 : rbit rows x y = true) (e2 : rbit rows x y' = true) : False := by
  have hn : ¬ (Rch rows S j x ∧ Rch rows S j y) := fun e => hx e.1
  obtain ⟨s, m, a1, a2, a3⟩ := rch_walk g e1 j y hy hn
  obtain ⟨s', m', b1, b2, b3⟩ := rch_walk g e1 j y' hy' hn
  obtain ⟨m'', c1, c2⟩ := hS.con s' s x y b1 a1 e1 (fun e => hx (Rch.zero e.1 j))
  have hne2 := g.ne e1
  have w1 : Wk (cut2 rows x y) 1 x y' := ⟨x, rfl, by
    rw [cut_iff g e1]
    exact ⟨e2, by rintro (⟨_, h⟩ | ⟨h, _⟩); exact hne h.symm; exact hne2 h⟩⟩
  have w2 := w1.comp m' s' (Wk.symm (cut_sym g e1) _ _ _ b3)
  have w3 := w2.comp m'' s c2
  have w4 := w3.comp m y a3
  have := hc x y e1 _ w4
  omega

theorem no_side {S : Nat → Prop} {e c : Nat} (hc : NoSh rows c) (hS : St rows S e) {j x y : Nat} (h1 : 2 * (j + 1) + 1 + e < c) (hx : Lvl rows S (j + 1) x) (hy : Lvl rows S (j + 1) y) (e1 : rbit rows x y = true) : False := by
  have hn : ¬ (Rch rows S j x ∧ Rch rows S j y) := fun e => hx.2 e.1
  have one : ∀ z, Lvl rows S (j + 1) z → ∃ s m, S s ∧ m ≤ j + 1 ∧ Wk (cut2 rows x y) m s z := by
    intro z hz
    rcases hz.1 with h | ⟨z', h2, h3⟩
    · exact absurd h hz.2
    · obtain ⟨s, m, a1, a2, a3⟩ := rch_walk g e1 j z' h2 hn
      refine ⟨s, m + 1, a1, by omega, z', a3, ?_⟩
      rw [cut_iff g e1]
      refine ⟨h3, ?_⟩
      rintro (⟨rfl, _⟩ | ⟨rfl, _⟩)
      · exact hx.2 h2
      · exact hy.2 h2
  obtain ⟨s, m, a1, a2, a3⟩ := one x hx
  obtain ⟨s', m', b1, b2, b3⟩ := one y hy
  obtain ⟨m'', c1, c2⟩ := hS.con s s' x y a1 b1 e1 (fun e => hx.2 (Rch.zero e.1 j))
  have w1 := Wk.symm (cut_sym g e1) _ _ _ a3
  have w3 := w1.comp m'' s' c2
  have w4 := w3.comp m' y b3
  have := hc x y e1 _ w4
  omega
end

/-! ### counts -/
noncomputable def oneIf (p : Prop) : Int := if p then 1 else 0
theorem one_nonneg (p : Prop) : 0 ≤ oneIf p := by unfold oneIf; split <;> omega
theorem one_pos {p : Prop} (h : p) : oneIf p = 1 := if_pos h
theorem one_neg {p : Prop} (h : ¬ p) : oneIf p = 0 := if_neg h
theorem one_le (p : Prop) : oneIf p ≤ 1 := by unfold oneIf; split <;> omega
theorem one_imp {p q : Prop} (h : p → q) : oneIf p ≤ oneIf q := by
  by_cases hp : p
  · rw [one_pos hp, one_pos (h hp)]; omega
  · rw [one_neg hp]; exact one_nonneg q
/-- At most one. -/
theorem sumF_most {P : Nat → Prop} : ∀ {n : Nat}, (∀ i j, i < n → j < n → P i → P j → i = j) → sumF (fun i => oneIf (P i)) n ≤ 1
  | 0, _ => by simp [sumF]
  | n + 1, h => by
    rw [sumF]
    by_cases hp : P n
    · have : sumF (fun i => oneIf (P i)) n = sumF (fun _ => 0) n := sumF_congr fun i hi => one_neg fun hi2 => by
        have := h i n (by omega) (by omega) hi2 hp
        omega
      rw [this, sumF_zero]
      have := one_le (P n)
      omega
    · rw [one_neg hp]
      have := sumF_most (P := P) (n := n) fun i j hi hj => h i j (by omega) (by omega)
      omega
theorem sumF_front (f : Nat → Int) : ∀ n, sumF f (n + 1) = f 0 + sumF (fun i => f (i + 1)) n
  | 0 => by simp [sumF]
  | n + 1 => by rw [sumF, sumF_front f n, sumF]; omega
theorem pc_sum : ∀ (n x : Nat), x < 2 ^ n → (pc x : Int) = sumF (fun i => oneIf (x.testBit i = true)) n
  | 0, x, h => by
    have : x = 0 := by omega
    subst this
    simp [sumF, pc_zero]
  | n + 1, x, h => by
    rw [sumF_front, pc_step]
    have h2 := pc_sum n (x / 2) (by rw [Nat.pow_succ] at h; omega)
    have e : sumF (fun i => oneIf (x.testBit (i + 1) = true)) n = sumF (fun i => oneIf ((x / 2).testBit i = true)) n := sumF_congr fun i _ => by rw [Nat.testBit_succ]
    rw [e, ← h2]
    have h3 : oneIf (x.testBit 0 = true) = ((x % 2 : Nat) : Int) := by
      rw [Nat.testBit_zero]
      rcases Nat.mod_two_eq_zero_or_one x with h | h <;> rw [h] <;> simp [oneIf]
    rw [h3]; omega
theorem deg_sum {n : Nat} {rows : List Int} (R : Rok n rows) {v : Nat} (hv : v < n) : (deg rows v : Int) = sumF (fun w => oneIf (rbit rows v w = true)) n := pc_sum n _ (R.row v hv).2
end Go.Proofs.YthpgiimaadohcaaDoor.Zv

/- A regular graph without short cycles has many vertices: the count. -/
namespace Go.Proofs.YthpgiimaadohcaaDoor.Zv
open Go
open Classical

noncomputable def nL (rows : List Int) (S : Nat → Prop) (n i : Nat) : Int := sumF (fun x => oneIf (Lvl rows S i x)) n
noncomputable def nR (rows : List Int) (S : Nat → Prop) (n i : Nat) : Int := sumF (fun x => oneIf (Rch rows S i x)) n
theorem nR_le (rows : List Int) (S : Nat → Prop) (n i : Nat) : nR rows S n i ≤ n := by
  have h : ∀ m : Nat, sumF (fun _ => 1) m = m := by
    intro m
    induction m with
    | zero => rfl
    | succ m ih => rw [sumF, ih]; omega
  rw [← h n]
  exact sumF_le fun x _ => one_le _
theorem nR_zero (rows : List Int) (S : Nat → Prop) (n : Nat) : nR rows S n 0 = nL rows S n 0 := rfl
theorem nR_succ (rows : List Int) (S : Nat → Prop) (n i : Nat) : nR rows S n (i + 1) = nR rows S n i + nL rows S n (i + 1) := by
  unfold nR nL
  rw [← sumF_add]
  apply sumF_congr
  intro x _
  by_cases h : Rch rows S i x
  · rw [one_pos h, one_neg (fun e : Lvl rows S (i + 1) x => e.2 h), one_pos (show Rch rows S (i + 1) x from .inl h)]; omega
  · rw [one_neg h]
    by_cases h2 : Rch rows S (i + 1) x
    · rw [one_pos h2, one_pos (show Lvl rows S (i + 1) x from ⟨h2, h⟩)]; omega
    · rw [one_neg h2, one_neg (fun e : Lvl rows S (i + 1) x => h2 e.1)]; omega

section
variable {n : Nat} {rows : List Int} (g : GV n rows)
include g

theorem nL_step {S : Nat → Prop} {e c : Nat} (hc : NoSh rows c) (hS : St rows S e) {i : Nat} (h1 : 2 * (i + 1) + e < c) {k : Int} (hk : ∀ x, x < n → Lvl rows S i x → k ≤ sumF (fun y => oneIf (rbit rows x y = true ∧ Lvl rows S (i + 1) y)) n) :
    k * nL rows S n i ≤ nL rows S n (i + 1) := by
  unfold nL
  rw [← sumF_mul]
  have a1 : sumF (fun x => k * oneIf (Lvl rows S i x)) n ≤ sumF (fun x => sumF (fun y => oneIf (Lvl rows S i x ∧ rbit rows x y = true ∧ Lvl rows S (i + 1) y)) n) n := by
    apply sumF_le
    intro x hx
    by_cases h : Lvl rows S i x
    · rw [one_pos h]
      have h2 := hk x hx h
      have h3 : sumF (fun y => oneIf (Lvl rows S i x ∧ rbit rows x y = true ∧ Lvl rows S (i + 1) y)) n = sumF (fun y => oneIf (rbit rows x y = true ∧ Lvl rows S (i + 1) y)) n := sumF_congr fun y _ => by simp only [h, true_and]
      rw [h3]; omega
    · rw [one_neg h]
      have := sumF_nonneg (f := fun y => oneIf (Lvl rows S i x ∧ rbit rows x y = true ∧ Lvl rows S (i + 1) y)) (n := n) fun y _ => one_nonneg _
      omega
  refine Int.le_trans a1 ?_
  rw [sumF_swap]
  apply sumF_le
  intro y _
  by_cases h : Lvl rows S (i + 1) y
  · rw [one_pos h]
    apply sumF_most
    intro x x' _ _ hx hx'
    rcases Classical.em (x = x') with h2 | h2
    · exact h2
    · exact (no_two g hc hS h1 h.2 hx.1.rch hx'.1.rch h2 (g.sym' hx.2.1) (g.sym' hx'.2.1)).elim
  · rw [one_neg h]
    have : sumF (fun x => oneIf (Lvl rows S i x ∧ rbit rows x y = true ∧ Lvl rows S (i + 1) y)) n = sumF (fun _ => 0) n := sumF_congr fun x _ => one_neg fun e => h e.2.2
    rw [this, sumF_zero]; omega

theorem nL_many {S : Nat → Prop} {e c : Nat} (hc : NoSh rows c) (hS : St rows S e) {j : Nat} (h1 : 2 * (j + 1) + 1 + e < c) {k : Int} (hk : ∀ v, v < n → (deg rows v : Int) = k) :
    ∀ x, x < n → Lvl rows S (j + 1) x → k - 1 ≤ sumF (fun y => oneIf (rbit rows x y = true ∧ Lvl rows S (j + 1 + 1) y)) n := by
  intro x hx hl
  have d := hk x hx
  rw [deg_sum g.rok hx] at d
  have a1 : sumF (fun y => oneIf (rbit rows x y = true)) n ≤ sumF (fun y => oneIf (rbit rows x y = true ∧ Rch rows S j y) + oneIf (rbit rows x y = true ∧ Lvl rows S (j + 1 + 1) y)) n := by
    apply sumF_le
    intro y _
    have b1 := one_nonneg (rbit rows x y = true ∧ Rch rows S j y)
    have b2 := one_nonneg (rbit rows x y = true ∧ Lvl rows S (j + 1 + 1) y)
    by_cases h : rbit rows x y = true
    · rw [one_pos h]
      by_cases h2 : Rch rows S j y
      · rw [one_pos ⟨h, h2⟩]; omega
      · by_cases h3 : Rch rows S (j + 1) y
        · exact (no_side g hc hS h1 hl ⟨h3, h2⟩ h).elim
        · rw [one_pos (show rbit rows x y = true ∧ Lvl rows S (j + 1 + 1) y from ⟨h, .inr ⟨x, hl.rch, h⟩, h3⟩)]; omega
    · rw [one_neg h]; omega
  rw [sumF_add] at a1
  have a2 : sumF (fun y => oneIf (rbit rows x y = true ∧ Rch rows S j y)) n ≤ 1 := by
    apply sumF_most
    intro y y' _ _ hy hy'
    rcases Classical.em (y = y') with h2 | h2
    · exact h2
    · exact (no_two g hc hS (by omega) hl.2 hy.2 hy'.2 h2 hy.1 hy'.1).elim
  omega

/-- From a vertex. -/
theorem moore_odd {c : Nat} (hc : NoSh rows c) {k : Int} (hk : ∀ v, v < n → (deg rows v : Int) = k) (hk1 : 1 ≤ k) (D : Nat) (hD : 2 * D < c) : 1 + k * pS (k - 1) D ≤ n := by
  have hn0 : 0 < n := by have := g.lo; omega
  have hS : St rows (fun x => x = 0) 0 := ⟨fun s s' p q h1 h2 _ _ => ⟨0, Nat.le_refl _, by rw [h1, h2]; rfl⟩⟩
  have z : nL rows (fun x => x = 0) n 0 = 1 := by
    have : nL rows (fun x => x = 0) n 0 = oneIf ((0 : Nat) = 0) := sumF_one (f := fun x => oneIf (Lvl rows (fun x => x = 0) 0 x)) hn0 fun i _ hne => one_neg hne
    rw [this, one_pos rfl]
  have up : ∀ i, i + 1 ≤ D → k * pw (k - 1) i ≤ nL rows (fun x => x = 0) n (i + 1) := by
    intro i
    induction i with
    | zero =>
      intro h
      have := nL_step g hc hS (i := 0) (k := k) (by omega) fun x hx hl => by
        have hl : x = 0 := hl
        subst hl
        have d := hk 0 hx
        rw [deg_sum g.rok hx] at d
        rw [← d]
        refine sumF_le fun y _ => one_imp fun e => ⟨e, .inr ⟨0, rfl, e⟩, fun e2 => ?_⟩
        exact g.ne e (Eq.symm e2)
      rw [z] at this
      rw [pw]; exact this
    | succ i ih =>
      intro h
      have h1 := ih (by omega)
      have := nL_step g hc hS (i := i + 1) (k := k - 1) (by omega) (nL_many g hc hS (by omega) hk)
      refine Int.le_trans ?_ this
      have h2 := Int.mul_le_mul_of_nonneg_left h1 (show 0 ≤ k - 1 by omega)
      refine Int.le_trans ?_ h2
      have h3 : pw (k - 1) (i + 1) ≤ pw (k - 1) i * (k - 1) := by rw [pw]; omega
      have h4 := Int.mul_le_mul_of_nonneg_left h3 (show 0 ≤ k by omega)
      have e : (k - 1) * (k * pw (k - 1) i) = k * (pw (k - 1) i * (k - 1)) := by rw [Int.mul_left_comm, Int.mul_comm (k - 1)]
      rw [e]; exact h4
  have tot : ∀ i, i ≤ D → 1 + k * pS (k - 1) i ≤ nR rows (fun x => x = 0) n i := by
    intro i
    induction i with
    | zero => intro _; rw [nR_zero, z, pS]; omega
    | succ i ih =>
      intro h
      have h1 := ih (by omega)
      have h2 := up i h
      rw [nR_succ]
      have h3 : pS (k - 1) (i + 1) ≤ pS (k - 1) i + pw (k - 1) i := by rw [pS]; omega
      have h4 := Int.mul_le_mul_of_nonneg_left h3 (show 0 ≤ k by omega)
      rw [Int.mul_add] at h4
      omega
  exact Int.le_trans (tot D (Nat.le_refl _)) (nR_le ..)

/-- From an edge. -/
theorem moore_even {c : Nat} (hc : NoSh rows c) {k : Int} (hk : ∀ v, v < n → (deg rows v : Int) = k) (hk1 : 1 ≤ k) (D : Nat) (hD : 2 * D + 1 < c) : 2 * pS (k - 1) (D + 1) ≤ n := by
  have hn0 : 0 < n := by have := g.lo; omega
  obtain ⟨b, hb, hab⟩ : ∃ b, b < n ∧ rbit rows 0 b = true := by
    apply Classical.byContradiction
    intro h
    have d := hk 0 hn0
    rw [deg_sum g.rok hn0] at d
    have : sumF (fun w => oneIf (rbit rows 0 w = true)) n = sumF (fun _ => 0) n := sumF_congr fun w hw => one_neg fun e => h ⟨w, hw, e⟩
    rw [this, sumF_zero] at d
    omega
  have hne : (0 : Nat) ≠ b := g.ne hab
  obtain ⟨S, hSd⟩ : ∃ S : Nat → Prop, S = fun x => x = 0 ∨ x = b := ⟨_, rfl⟩
  have hS : St rows S 1 := by
    rw [hSd]
    refine ⟨fun s s' p q h1 h2 hpq hn => ?_⟩
    have hs : ∀ u v, rbit rows u v = true → (u = 0 ∨ u = b) → (v = 0 ∨ v = b) → Wk (cut2 rows p q) 1 u v := by
      intro u v huv hu hv
      refine ⟨u, rfl, ?_⟩
      rw [cut_iff g hpq]
      refine ⟨huv, ?_⟩
      rintro (⟨rfl, rfl⟩ | ⟨rfl, rfl⟩)
      · exact hn ⟨hu, hv⟩
      · exact hn ⟨hv, hu⟩
    by_cases e : s = s'
    · exact ⟨0, by omega, e⟩
    · refine ⟨1, Nat.le_refl _, hs s s' ?_ h1 h2⟩
      rcases h1 with rfl | rfl <;> rcases h2 with rfl | rfl
      · exact absurd rfl e
      · exact hab
      · exact g.sym' hab
      · exact absurd rfl e
  have z : nL rows S n 0 = 2 := by
    have e : nL rows S n 0 = sumF (fun x => oneIf (x = 0) + oneIf (x = b)) n := sumF_congr fun x _ => by
      subst hSd
      by_cases h1 : x = 0
      · have h2 : ¬ x = b := fun h => hne (h1 ▸ h)
        rw [one_pos h1, one_neg h2, one_pos (show Lvl rows (fun x => x = 0 ∨ x = b) 0 x from .inl h1)]; omega
      · by_cases h2 : x = b
        · rw [one_neg h1, one_pos h2, one_pos (show Lvl rows (fun x => x = 0 ∨ x = b) 0 x from .inr h2)]; omega
        · rw [one_neg h1, one_neg h2, one_neg (fun h : Lvl rows (fun x => x = 0 ∨ x = b) 0 x => h.elim h1 h2)]; omega
    rw [e, sumF_add, sumF_one (f := fun x => oneIf (x = 0)) hn0 fun i _ hne => one_neg hne, sumF_one (f := fun x => oneIf (x = b)) hb fun i _ hne => one_neg hne, one_pos rfl, one_pos rfl]
    rfl
  have up : ∀ i, i ≤ D → 2 * pw (k - 1) i ≤ nL rows S n i := by
    intro i
    induction i with
    | zero => intro _; rw [z, pw]; omega
    | succ i ih =>
      intro h
      have h1 := ih (by omega)
      have key : (k - 1) * nL rows S n i ≤ nL rows S n (i + 1) := by
        cases i with
        | zero =>
          refine nL_step g hc hS (i := 0) (by omega) fun x hx hl => ?_
          have d := hk x hx
          rw [deg_sum g.rok hx] at d
          obtain ⟨o, ho⟩ : ∃ o, o = if x = 0 then b else 0 := ⟨_, rfl⟩
          have hSo : ∀ y, S y → rbit rows x y = true → y = o := by
            intro y hy hxy
            subst hSd
            have hl : x = 0 ∨ x = b := hl
            have hy : y = 0 ∨ y = b := hy
            have hxn := g.ne hxy
            rw [ho]
            rcases hl with rfl | rfl
            · rw [if_pos rfl]
              rcases hy with rfl | rfl
              · exact absurd rfl hxn
              · rfl
            · rw [if_neg (fun e => hne e.symm)]
              rcases hy with rfl | rfl
              · rfl
              · exact absurd rfl hxn
          have a1 : sumF (fun y => oneIf (rbit rows x y = true)) n ≤ sumF (fun y => oneIf (y = o) + oneIf (rbit rows x y = true ∧ Lvl rows S (0 + 1) y)) n := by
            apply sumF_le
            intro y _
            have b1 := one_nonneg (y = o)
            have b2 := one_nonneg (rbit rows x y = true ∧ Lvl rows S (0 + 1) y)
            by_cases h : rbit rows x y = true
            · rw [one_pos h]
              by_cases h2 : S y
              · rw [one_pos (hSo y h2 h)]; omega
              · rw [one_pos (show rbit rows x y = true ∧ Lvl rows S (0 + 1) y from ⟨h, .inr ⟨x, hl, h⟩, h2⟩)]; omega
            · rw [one_neg h]; omega
          rw [sumF_add] at a1
          have a2 : sumF (fun y => oneIf (y = o)) n ≤ 1 := sumF_most fun i j _ _ h1 h2 => h1.trans h2.symm
          omega
        | succ i => exact nL_step g hc hS (i := i + 1) (by omega) (nL_many g hc hS (by omega) hk)
      refine Int.le_trans ?_ key
      have h2 := Int.mul_le_mul_of_nonneg_left h1 (show 0 ≤ k - 1 by omega)
      refine Int.le_trans ?_ h2
      have h3 : pw (k - 1) (i + 1) ≤ pw (k - 1) i * (k - 1) := by rw [pw]; omega
      have e : (k - 1) * (2 * pw (k - 1) i) = 2 * (pw (k - 1) i * (k - 1)) := by rw [Int.mul_left_comm, Int.mul_comm (k - 1)]
      rw [e]; omega
  have tot : ∀ i, i ≤ D → 2 * pS (k - 1) (i + 1) ≤ nR rows S n i := by
    intro i
    induction i with
    | zero => intro _; rw [nR_zero, z, pS, pS, pw]; omega
    | succ i ih =>
      intro h
      have h1 := ih (by omega)
      have h2 := up (i + 1) h
      rw [nR_succ]
      have h3 : pS (k - 1) (i + 1 + 1) ≤ pS (k - 1) (i + 1) + pw (k - 1) (i + 1) := by rw [pS]; omega
      omega
  exact Int.le_trans (tot D (Nat.le_refl _)) (nR_le ..)

/-- The girth bound. -/
theorem moore {c : Nat} (hc : NoSh rows c) {k : Int} (hk : ∀ v, v < n → (deg rows v : Int) = k) (hk1 : 1 ≤ k) (h2 : 2 ≤ c) : gB k c ≤ n := by
  unfold gB
  split
  · exact moore_odd g hc hk hk1 _ (by omega)
  · have := moore_even g hc hk hk1 (c / 2 - 1) (by omega)
    rwa [show c / 2 - 1 + 1 = c / 2 by omega] at this
theorem noSh {c : Int} (h : ∀ p q, rbit rows p q = true → arF rows p q ≤ 0 ∨ c ≤ arF rows p q) : NoSh rows c.toNat := by
  intro p q hpq m hw
  obtain ⟨hp, hq⟩ := rbit_lt g.rok hpq
  have hR := (cut_rok g hp hq hpq).1
  obtain ⟨d, hd, hdst⟩ := Wk.dst m hw
  have := far_of hR hp hdst
  have h2 := h p q hpq
  unfold arF at h2
  omega
end
end Go.Proofs.YthpgiimaadohcaaDoor.Zv

/- Lists of lists in new memory. -/
namespace Go.Proofs.YthpgiimaadohcaaDoor.Zv
open Go
variable {nro : Nat}

/-- A list of lists in new memory from n on: each inner list in an object of its own. -/
structure EI (n : Nat) (vs : List Value) (G : VH) (ess : List (List Int)) : Prop where
  len : vs.length = ess.length
  at_ : ∀ i : Nat, i < ess.length → ∃ k, vs[i]? = some (.slice (some ⟨n + k, 0, none⟩) (ess.getD i []).length (ess.getD i []).length) ∧ G[k]? = some ⟨1, ints (ess.getD i [])⟩
  nd : (vs.flatMap arefs).Nodup

theorem EI.nil (n : Nat) (G : VH) : EI n [] G [] := ⟨rfl, fun i hi => by simp at hi, by simp⟩
theorem EI.more {n : Nat} {vs : List Value} {G : VH} {ess : List (List Int)} (e : EI n vs G ess) (L : VH) : EI n vs (G ++ L) ess := by
  refine ⟨e.len, fun i hi => ?_, e.nd⟩
  obtain ⟨k, h1, h2⟩ := e.at_ i hi
  exact ⟨k, h1, by rw [List.getElem?_append_left (List.getElem?_eq_some_iff.mp h2).1]; exact h2⟩
theorem EI.lt {n : Nat} {vs : List Value} {G : VH} {ess : List (List Int)} (e : EI n vs G ess) {r : Nat} (hr : r ∈ vs.flatMap arefs) : n ≤ r ∧ r < n + G.length := by
  obtain ⟨v, hv, hr⟩ := List.mem_flatMap.mp hr
  obtain ⟨i, hi, rfl⟩ := List.mem_iff_getElem.mp hv
  have hl := e.len
  obtain ⟨k, h1, h2⟩ := e.at_ i (by omega)
  have h3 := (List.getElem?_eq_some_iff.mp h1).2
  have h4 := (List.getElem?_eq_some_iff.mp h2).1
  rw [h3] at hr
  simp [arefs] at hr
  omega
theorem EI.push {n : Nat} {vs : List Value} {G : VH} {ess : List (List Int)} (e : EI n vs G ess) (xs : List Int) (L : VH) : EI n (vs ++ [.slice (some ⟨n + G.length, 0, none⟩) xs.length xs.length]) (G ++ ⟨1, ints xs⟩ :: L) (ess ++ [xs]) := by
  have hl := e.len
  have e2 := e.more (⟨1, ints xs⟩ :: L)
  refine ⟨by simp [hl], fun i hi => ?_, ?_⟩
  · by_cases h : i < ess.length
    · obtain ⟨k', h1, h2⟩ := e2.at_ i h
      have e1 : (ess ++ [xs]).getD i [] = ess.getD i [] := by simp only [List.getD_eq_getElem?_getD]; rw [List.getElem?_append_left h]
      rw [e1]
      exact ⟨k', by rw [List.getElem?_append_left (by omega)]; exact h1, h2⟩
    · have hi2 : i = ess.length := by simp at hi; omega
      subst hi2
      have e1 : (ess ++ [xs]).getD ess.length [] = xs := by simp [List.getD_eq_getElem?_getD]
      rw [e1]
      exact ⟨G.length, by rw [← hl]; simp, by simp⟩
  · rw [List.flatMap_append]
    refine List.nodup_append.mpr ⟨e.nd, by simp [arefs], fun a ha b hb => ?_⟩
    have := (e.lt ha).2
    simp [arefs] at hb
    omega

/-- A list of lists that a call has handed out: in memory from n on. -/
def SL2 (n : Nat) (M : VH) (v : Value) (ess : List (List Int)) : Prop := ∃ b vs, v = .slice (some ⟨n + b, 0, none⟩) ess.length ess.length ∧ M[b]? = some ⟨1, vs⟩ ∧ EI n vs M ess

/-- A function's end: a list of lists is handed out, perhaps beside something flat. -/
theorem EI.fin {h pre : VH} {vs : List Value} {G : VH} {ess : List (List Int)} (e : EI (h.length + pre.length + 1) vs G ess) (w : Value → Value) (hw1 : ∀ a n t, trefs (w (.slice (some a) n t)) = [a.block]) (hw2 : ∀ r a n t, tren r (w (.slice (some a) n t)) = w (.slice (some { a with block := r a.block }) n t)) :
    ∃ v M, kclean h [w (.slice (some ⟨h.length + pre.length, 0, none⟩) vs.length vs.length)] (h ++ (pre ++ ⟨1, vs⟩ :: G)) = ([w v], h ++ M) ∧ SL2 h.length M v ess := by
  have hl2 := e.len
  have hk : keepL h.length [w (.slice (some ⟨h.length + pre.length, 0, none⟩) vs.length vs.length)] = [h.length + pre.length] := by
    unfold keepL
    simp [hw1, dedup]
  have hget : (h ++ (pre ++ ⟨1, vs⟩ :: G))[h.length + pre.length]? = some ⟨1, vs⟩ := by rw [hgetk]; simp
  by_cases hf : flatL h.length [h.length + pre.length] (h ++ (pre ++ ⟨1, vs⟩ :: G))
  · have hvs : vs = [] := by
      obtain ⟨o, ho, hr⟩ := hf (h.length + pre.length) (by simp)
      have : o = ⟨1, vs⟩ := by rw [hget] at ho; simpa using ho.symm
      subst this
      cases hv : ess with
      | nil => rw [hv] at hl2; exact List.length_eq_zero_iff.mp hl2
      | cons x r =>
        exfalso
        obtain ⟨j, h1, _⟩ := e.at_ 0 (by rw [hv]; simp)
        have := hr (h.length + pre.length + 1 + j) (by
          unfold orefs
          refine List.mem_flatMap.mpr ⟨_, List.mem_of_getElem? h1, ?_⟩
          simp [crefs, arefs])
        omega
    subst hvs
    have hes : ess = [] := List.length_eq_zero_iff.mp hl2.symm
    rw [hes]
    refine ⟨.slice (some ⟨h.length + 0, 0, none⟩) 0 0, [⟨1, []⟩], ?_, 0, [], by simp, rfl, EI.nil _ _⟩
    rw [cleanup_keep hk hf]
    simp [hw2, renOf_one, hget]
  · refine ⟨.slice (some ⟨h.length + pre.length, 0, none⟩) vs.length vs.length, pre ++ ⟨1, vs⟩ :: G, ?_, pre.length, vs, by rw [hl2], by simp, hl2, fun i hi => ?_, e.nd⟩
    · unfold kclean cleanup
      rw [hk, if_neg (fun h => hf h.2)]
    · obtain ⟨j, h1, h2⟩ := e.at_ i hi
      exact ⟨pre.length + 1 + j, by rw [h1]; congr 4; omega, by
        rw [List.getElem?_append_right (by omega), show pre.length + 1 + j - pre.length = j + 1 by omega]
        exact h2⟩
/-! ### lists of lists that are read -/
/-- What a list of lists reads as. -/
def LL (h : VH) (v : Value) (ess : List (List Int)) : Prop := ∃ vs, vs.length = ess.length ∧ Sl h v vs ∧ ∀ (i : Nat) (hi : i < vs.length), Sli h vs[i] (ess.getD i [])
theorem LL.app {h : VH} {v : Value} {ess : List (List Int)} (hl : LL h v ess) (L : VH) : LL (h ++ L) v ess := by
  obtain ⟨vs, h1, h2, h3⟩ := hl
  exact ⟨vs, h1, h2.app L, fun i hi => (h3 i hi).app L⟩
theorem LL.nil (h : VH) : LL h (.slice none 0 0) [] := ⟨[], rfl, by simp [Sl, vsrc], fun i hi => by simp at hi⟩
theorem LL.old {h : VH} {v : Value} {ess : List (List Int)} (hl : LL h v ess) : Old h.length v := by
  obtain ⟨vs, h1, h2, h3⟩ := hl
  exact h2.old
theorem SL2.read {h M L : VH} {q : Value} {es : List (List Int)} (hs : SL2 h.length M q es) : ∃ vs, vs.length = es.length ∧ Sl (h ++ M ++ L) q vs ∧ ∀ (i : Nat) (hi : i < vs.length), Sli (h ++ M ++ L) vs[i] (es.getD i []) := by
  obtain ⟨b, vs, rfl, h1, h2⟩ := hs
  have hget : ∀ k, (h ++ M ++ L)[h.length + k]? = (M ++ L)[k]? := fun k => by
    rw [List.append_assoc, List.getElem?_append_right (by simp), Nat.add_sub_cancel_left]
  refine ⟨vs, h2.len, ?_, fun i hi => ?_⟩
  · have h3 : (M ++ L)[b]? = some ⟨1, vs⟩ := by rw [List.getElem?_append_left (List.getElem?_eq_some_iff.mp h1).1]; exact h1
    unfold Sl
    rw [vsrc_ref]
    simp only [hget, h3, h2.len]
    simp [h2.len]
    rw [List.take_of_length_le (by rw [h2.len]; exact Nat.le_refl _)]
  · have hi' : i < es.length := by rw [← h2.len]; exact hi
    obtain ⟨k, k1, k2⟩ := h2.at_ i hi'
    have e : vs[i] = .slice (some ⟨h.length + k, 0, none⟩) (es.getD i []).length (es.getD i []).length := (List.getElem?_eq_some_iff.mp k1).2
    rw [e]
    refine sli_at ?_
    rw [hget, List.getElem?_append_left (List.getElem?_eq_some_iff.mp k2).1]
    exact k2

/-! ### marks -/
def tot : List (List Int) → Nat
  | [] => 0
  | e :: es => e.length + tot es
theorem EI.set {n : Nat} {vs : List Value} {G : VH} {A : List (List Int)} {e : List Int} {B : List (List Int)} (h : EI n vs G (A ++ e :: B)) (xs : List Int) (hx : xs.length = e.length) : ∃ k, vs[A.length]? = some (.slice (some ⟨n + k, 0, none⟩) e.length e.length) ∧ G[k]? = some ⟨1, ints e⟩ ∧ EI n vs (G.set k ⟨1, ints xs⟩) (A ++ xs :: B) := by
  have hlt : A.length < (A ++ e :: B).length := by simp
  have eA : (A ++ e :: B).getD A.length [] = e := by simp [List.getD_eq_getElem?_getD]
  obtain ⟨k, h1, h2⟩ := h.at_ A.length hlt
  rw [eA] at h1 h2
  have hk := (List.getElem?_eq_some_iff.mp h2).1
  refine ⟨k, h1, h2, by rw [h.len]; simp, fun i hi => ?_, h.nd⟩
  by_cases e1 : i = A.length
  · subst e1
    have e2 : (A ++ xs :: B).getD A.length [] = xs := by simp [List.getD_eq_getElem?_getD]
    rw [e2, hx]
    exact ⟨k, h1, by simp [hk]⟩
  · have e3 : (A ++ xs :: B).getD i [] = (A ++ e :: B).getD i [] := by
      simp only [List.getD_eq_getElem?_getD, List.getElem?_append]
      split
      · rfl
      · have : i - A.length = (i - A.length - 1) + 1 := by omega
        rw [this]
        rfl
    have hi' : i < (A ++ e :: B).length := by simpa using hi
    obtain ⟨k', h3, h4⟩ := h.at_ i hi'
    rw [e3]
    refine ⟨k', h3, ?_⟩
    rw [List.getElem?_set, if_neg]
    · exact h4
    · intro e4
      subst e4
      -- two places with one object
      have hnd := h.nd
      have l1 := (List.getElem?_eq_some_iff.mp h1)
      have l3 := (List.getElem?_eq_some_iff.mp h3)
      obtain ⟨p1, q1⟩ := l1
      obtain ⟨p3, q3⟩ := l3
      have key : ∀ (us : List Value), (us.flatMap arefs).Nodup → ∀ i j (hi : i < us.length) (hj : j < us.length), i < j → ∀ r, r ∈ arefs us[i] → r ∉ arefs us[j] := by
        intro us
        induction us with
        | nil => intro _ i j hi; simp at hi
        | cons u us ih =>
          intro hn i j hi hj hij r hr hr2
          rw [List.flatMap_cons] at hn
          obtain ⟨_, n2, n3⟩ := List.nodup_append.mp hn
          cases j with
          | zero => omega
          | succ j =>
            cases i with
            | zero =>
              refine n3 r (by simpa using hr) r (List.mem_flatMap.mpr ⟨_, List.getElem_mem (by simpa using hj), by simpa using hr2⟩) rfl
            | succ i => exact ih n2 i j (by simpa using hi) (by simpa using hj) (by omega) r (by simpa using hr) (by simpa using hr2)
      rcases Nat.lt_or_gt_of_ne e1 with hlt2 | hgt
      · exact key vs hnd i A.length p3 p1 hlt2 (n + k) (by rw [q3]; simp [arefs]) (by rw [q1]; simp [arefs])
      · exact key vs hnd A.length i p1 p3 hgt (n + k) (by rw [q1]; simp [arefs]) (by rw [q3]; simp [arefs])

end Go.Proofs.YthpgiimaadohcaaDoor.Zv

/- The law of GreedyGraph. -/
namespace Go.Proofs.YthpgiimaadohcaaDoor.Zv
open Go
variable {nro : Nat}

/-- k and c are as told. -/
def kcB (k c : Int) : Bool := decide (1 ≤ k ∧ k ≤ 6) && decide (3 ≤ c ∧ c ≤ 12)
theorem c_spec_l07Numbers (k c : Int) (h : VH) : vcall F nro k_spec_l07Numbers [.int .i64 k, .int .i64 c] h = some (.bool (kcB k c), h) := by
  refine v_spec_l07Numbers (by simp [i_spec_l07Numbers]) ?_
  rw [fbody_eq]
  have h1 := c_spec_l01In (nro := nro) k 1 6 h
  have h2 := c_spec_l01In (nro := nro) c 3 12 h
  unfold kcB
  by_cases g : 1 ≤ k ∧ k ≤ 6
  · rw [decide_eq_true g] at h1 ⊢
    simp (disch := first | assumption | omega | (simp [*] <;> omega) | fail) [i_spec_l07Numbers, h1, h2]
  · rw [decide_eq_false g] at h1 ⊢
    simp (disch := first | assumption | omega | (simp [*] <;> omega) | fail) [i_spec_l07Numbers, h1]
theorem c_impl_isBoth (k c : Int) (h : VH) : vcall F nro k_impl_isBoth [.int .i64 k, .int .i64 c] h = some (.bool (kcB k c), h) := by
  refine v_impl_isBoth (by simp [i_impl_isBoth]) ?_
  rw [fbody_eq]
  unfold kcB
  by_cases g1 : 1 ≤ k
  · by_cases g2 : k ≤ 6
    · by_cases g3 : 3 ≤ c
      · by_cases g4 : c ≤ 12
        · simp (disch := first | assumption | omega | (simp [*] <;> omega) | fail) [i_impl_isBoth, g1, g2, g3, g4]
        · simp (disch := first | assumption | omega | (simp [*] <;> omega) | fail) [i_impl_isBoth, g1, g2, g3, g4]
      · simp (disch := first | assumption | omega | (simp [*] <;> omega) | fail) [i_impl_isBoth, g1, g2, g3]
    · simp (disch := first | assumption | omega | (simp [*] <;> omega) | fail) [i_impl_isBoth, g1, g2]
  · simp (disch := first | assumption | omega | (simp [*] <;> omega) | fail) [i_impl_isBoth, g1]

end Go.Proofs.YthpgiimaadohcaaDoor.Zv

/- Does a graph fit k and c: the program's test and the reference's are one. -/
namespace Go.Proofs.YthpgiimaadohcaaDoor.Zv
open Go
variable {nro : Nat}

/-! ### degrees, the greatest of numbers -/
def degF (rows : List Int) (n v : Nat) : List Int := if h : v < n then (deg rows v : Int) :: degF rows n (v + 1) else []
 termination_by n - v
theorem degF_end {rows : List Int} {n v : Nat} (h : ¬ v < n) : degF rows n v = [] := by rw [degF, dif_neg h]
theorem degF_step {rows : List Int} {n v : Nat} (h : v < n) : degF rows n v = (deg rows v : Int) :: degF rows n (v + 1) := by rw [degF, dif_pos h]
theorem degF_len (rows : List Int) (n v : Nat) : (degF rows n v).length = n - v := by
  by_cases h : v < n
  · rw [degF_step h, List.length_cons, degF_len rows n (v + 1)]; omega
  · rw [degF_end h]; simp; omega
 termination_by n - v
theorem degF_all (rows : List Int) (n v : Nat) (k : Int) : (∀ x ∈ degF rows n v, x ≤ k) ↔ ∀ u, v ≤ u → u < n → (deg rows u : Int) ≤ k := by
  by_cases h : v < n
  · rw [degF_step h]
    simp only [List.mem_cons, forall_eq_or_imp]
    rw [degF_all rows n (v + 1) k]
    constructor
    · rintro ⟨a, b⟩ u hu hun
      by_cases e : u = v
      · subst e; exact a
      · exact b u (by omega) hun
    · intro a
      exact ⟨a v (Nat.le_refl _) h, fun u hu hun => a u (by omega) hun⟩
  · rw [degF_end h]
    simp
    intro u hu hun
    omega
 termination_by n - v

theorem l_impl_Graph_degrees (h : VH) (n : Nat) (s : Value) (rows : List Int) (hs : Sli h s rows) (R : Rok n rows) (hn : nro ≤ h.length) (y0 : List Int) (v : Nat) (hv : v ≤ n) (ys : List Int) (hy : ys.length ≤ v) :
    floop (vcall F nro) nro [1, 3, 7, 8] i_impl_Graph_degrees_B1 (bx h n s ++ [⟨1, ints y0⟩]) [bp h, .slice (some ⟨h.length + 1, 0, none⟩) ys.length ys.length, .int .i64 n, .int .i64 v] (bx h n s ++ [⟨1, ints ys⟩]) =
      some (.exit 0, fl [(3, .slice (some ⟨h.length + 1, 0, none⟩) (ys ++ degF rows n v).length (ys ++ degF rows n v).length)], bx h n s ++ [⟨1, ints (ys ++ degF rows n v)⟩]) := by
  have hn' := fun k => Nat.le_trans hn (Nat.le_add_right h.length k)
  have hsc := fun k => hs.oldCk (k := k)
  have hle := R.le
  rw [floop_at i_impl_Graph_degrees_B1.eq_1]
  by_cases hlt : v < n
  · have hlt' : (v : Int) < n := by omega
    have hc := c_impl_degree (nro := nro) n v s rows (bx h n s ++ [⟨1, ints ys⟩]) ((hs.app _).app _) R hlt
    have ih := l_impl_Graph_degrees h n s rows hs R hn y0 (v + 1) (by omega) (ys ++ [(deg rows v : Int)]) (by simp; omega)
    rw [show ((v + 1 : Nat) : Int) = (v : Int) + 1 by omega] at ih
    rw [degF_step hlt]
    obtain ⟨d, hd⟩ : ∃ d, d = deg rows v := ⟨_, rfl⟩
    rw [← hd] at hc ih ⊢
    clear hd
    simp at ih hc
    have b1 : (ys.length + 1) * 8 ≤ 1099511627776 := by omega
    have b2 : ys.length < 1099511627776 := by omega
    simp (disch := first | assumption | omega | (simp [*] <;> omega) | fail) [wrap64, hlt', hlt, hc, hn', ih, hsc, b1, b2, ints_snoc]
  · have hlt' : ¬ (v : Int) < n := by omega
    rw [degF_end hlt]
    simp (disch := first | assumption | omega | (simp [*] <;> omega) | fail) [hlt', hlt]
 termination_by n - v

theorem c_impl_Graph_degrees (n : Nat) (s : Value) (rows : List Int) (h : VH) (hs : Sli h s rows) (R : Rok n rows) (hn : nro ≤ h.length) :
    vcall F nro k_impl_Graph_degrees [gv n s] h = some (.slice (some ⟨h.length, 0, none⟩) n n, h ++ [⟨1, ints (degF rows n 0)⟩]) := by
  refine v_impl_Graph_degrees (by simp [i_impl_Graph_degrees]) ?_
  rw [fbody_eq]
  have lp := l_impl_Graph_degrees (nro := nro) h n s rows hs R hn [] 0 (by omega) [] (by simp)
  have hdl := degF_len rows n 0
  simp at lp
  rw [hdl, Nat.sub_zero] at lp
  simp (disch := first | assumption | omega | (simp [*] <;> omega) | fail) [i_impl_Graph_degrees, lp, hdl]

def mxL (m : Int) : List Int → Int
  | [] => m
  | x :: l => mxL (if m < x then x else m) l
theorem mxL_le (k : Int) : ∀ (l : List Int) (m : Int), mxL m l ≤ k ↔ m ≤ k ∧ ∀ x ∈ l, x ≤ k
  | [], m => by simp [mxL]
  | x :: l, m => by
    rw [mxL, mxL_le k l]
    simp only [List.mem_cons, forall_eq_or_imp]
    by_cases h : m < x
    · rw [if_pos h]
      exact ⟨fun ⟨a, b⟩ => ⟨by omega, a, b⟩, fun ⟨_, a, b⟩ => ⟨a, b⟩⟩
    · rw [if_neg h]
      exact ⟨fun ⟨a, b⟩ => ⟨a, by omega, b⟩, fun ⟨a, _, b⟩ => ⟨a, b⟩⟩

theorem l_slices_Max (h : VH) (s : Value) (xs : List Int) (hs : Sli h s xs) (hl : xs.length ≤ 1000) (k j : Nat) (hk : k = xs.length - j) (hj : j ≤ xs.length) (m : Int) :
    floop (vcall F nro) nro [0, 3, 4] i_slices_Max_int64_int64_B1 h [s, .int .i64 m, .int .i64 j] h = some (.exit 0, fl [(3, .int .i64 (mxL m (xs.drop j)))], h) := by
  have hso := hs.old
  rw [floop_at i_slices_Max_int64_int64_B1.eq_1]
  by_cases hlt : j < xs.length
  · have hlt' : (j : Int) < xs.length := by omega
    have vl := hs.vlen
    have vx := hs.vidx (k := .i64) (j := (j : Int)) (by omega) hlt'
    have vd := hs.vload hlt
    have ih := l_slices_Max h s xs hs hl (k - 1) (j + 1) (by omega) hlt (if m < xs[j] then xs[j] else m)
    rw [show ((j + 1 : Nat) : Int) = (j : Int) + 1 by omega] at ih
    rw [List.drop_eq_getElem_cons hlt, mxL]
    obtain ⟨x, hx⟩ : ∃ x, x = xs[j] := ⟨_, rfl⟩
    rw [← hx] at vd ih ⊢
    by_cases c1 : m < x
    · rw [if_pos c1] at ih ⊢
      simp (disch := first | assumption | omega | (simp [*] <;> omega) | fail) [wrap64, hlt', vl, vx, vd, ih, c1, vminmax, vminmaxL, vminmax2]
    · rw [if_neg c1] at ih ⊢
      simp (disch := first | assumption | omega | (simp [*] <;> omega) | fail) [wrap64, hlt', vl, vx, vd, ih, c1, vminmax, vminmaxL, vminmax2]
  · have hlt' : ¬ (j : Int) < xs.length := by omega
    have vl := hs.vlen
    rw [List.drop_eq_nil_of_le (by omega), mxL]
    simp (disch := first | assumption | omega | (simp [*] <;> omega) | fail) [hlt', vl]
 termination_by k
 decreasing_by omega

theorem c_slices_Max (s : Value) (x : Int) (xs : List Int) (h : VH) (hs : Sli h s (x :: xs)) (hl : xs.length ≤ 999) :
    vcall F nro k_slices_Max_int64_int64 [s] h = some (.int .i64 (mxL x xs), h) := by
  refine v_slices_Max_int64_int64 (by simp [i_slices_Max_int64_int64]) ?_
  rw [fbody_eq]
  have vl := hs.vlen
  have vx := hs.vidx (k := .i64) (j := 0) (by omega) (by simp)
  have vd := hs.vload (j := 0) (by simp)
  have lp := l_slices_Max (nro := nro) h s (x :: xs) hs (by simp; omega) xs.length 1 (by simp) (by simp) x
  rw [List.drop_succ_cons, List.drop_zero] at lp
  simp only [Int.natCast_one] at lp
  simp at vl vd
  have e : ¬ ((xs.length : Int) + 1 < 1) := by omega
  obtain ⟨q, hq⟩ : ∃ q, q = mxL x xs := ⟨_, rfl⟩
  rw [← hq] at lp ⊢
  clear hq
  simp (disch := first | assumption | omega | (simp [*] <;> omega) | fail) [i_slices_Max_int64_int64, vl, vx, vd, lp, e]

/-! ### does a graph fit -/
def FitsP (rows : List Int) (n : Nat) (k c : Int) : Prop := (∀ v, v < n → (deg rows v : Int) ≤ k) ∧ ∀ u w, rbit rows u w = true → arF rows u w ≤ 0 ∨ c ≤ arF rows u w

open Classical in
theorem c_impl_Graph_fits (n : Nat) (k c : Int) (s : Value) (rows : List Int) (h : VH) (hs : Sli h s rows) (g : GV n rows) (hc : 1 ≤ c) (hn : nro ≤ h.length) :
    vcall F nro k_impl_Graph_fits [gv n s, .int .i64 k, .int .i64 c] h = some (.bool (decide (FitsP rows n k c)), h) := by
  refine v_impl_Graph_fits (by simp [i_impl_Graph_fits]) ?_
  rw [fbody_eq]
  have R := g.rok
  have hl := R.len
  have hle := R.le
  have hlo := g.lo
  have hg := c_impl_Graph_girth (nro := nro) n s rows (bx h n s) (hs.app _) g (by simp; omega)
  have hd := c_impl_Graph_degrees (nro := nro) n s rows (bx h n s) (hs.app _) R (by simp; omega)
  have e0 : degF rows n 0 = (deg rows 0 : Int) :: degF rows n 1 := degF_step (by omega)
  have hdl := degF_len rows n 1
  have hm := c_slices_Max (nro := nro) (.slice (some ⟨h.length + 1, 0, none⟩) n n) (deg rows 0) (degF rows n 1) (bx h n s ++ [⟨1, ints (degF rows n 0)⟩]) (by
    have := sli_at (h := bx h n s ++ [⟨1, ints (degF rows n 0)⟩]) (b := h.length + 1) (xs := degF rows n 0) (by simp)
    rw [degF_len rows n 0, Nat.sub_zero] at this
    rw [← e0]
    exact this) (by omega)
  have h1 := (girF_ok (rows := rows) (n := n) (c := c) hc 0 0 (by omega))
  have h2 : mxL (deg rows 0) (degF rows n 1) ≤ k ↔ ∀ v, v < n → (deg rows v : Int) ≤ k := by
    rw [mxL_le]
    have := degF_all rows n 0 k
    rw [e0] at this
    simp only [List.mem_cons, forall_eq_or_imp] at this
    rw [this]
    exact ⟨fun h v hv => h v (Nat.zero_le _) hv, fun h v _ hv => h v hv⟩
  have h3 : (girF rows n 0 0 = 0 ∨ c ≤ girF rows n 0 0) ↔ ∀ u w, rbit rows u w = true → arF rows u w ≤ 0 ∨ c ≤ arF rows u w := by
    rw [h1]
    constructor
    · rintro ⟨_, a⟩ u w huw
      obtain ⟨hu, hw⟩ := rbit_lt R huw
      have := a u (Nat.zero_le _) hu w ((nbL_mem rows u w).mpr ⟨by omega, by omega, by rw [Int.toNat_natCast]; exact huw⟩)
      rwa [Int.toNat_natCast] at this
    · intro a
      exact ⟨.inl rfl, fun u _ _ y hy => a u y.toNat ((nbL_mem rows u y).mp hy).2.2⟩
  have h4 : decide (FitsP rows n k c) = (decide (mxL (deg rows 0) (degF rows n 1) ≤ k) && (decide (girF rows n 0 0 = 0) || decide (c ≤ girF rows n 0 0))) := by
    unfold FitsP
    rw [Bool.eq_iff_iff]
    simp only [decide_eq_true_eq, Bool.and_eq_true, Bool.or_eq_true]
    rw [← h2, ← h3]
  rw [h4]
  obtain ⟨x, hx⟩ : ∃ x, x = mxL (deg rows 0) (degF rows n 1) := ⟨_, rfl⟩
  rw [← hx] at hm ⊢
  obtain ⟨y, hy⟩ : ∃ y, y = girF rows n 0 0 := ⟨_, rfl⟩
  rw [← hy] at hg ⊢
  obtain ⟨D, hD⟩ : ∃ D, D = degF rows n 0 := ⟨_, rfl⟩
  rw [← hD] at hd hm
  clear h1 h2 h3 h4 hx hy hD e0 hdl
  simp at hd hm
  by_cases c1 : x ≤ k
  · by_cases c2 : y = 0
    · simp (disch := first | assumption | omega | (simp [*] <;> omega) | fail) [i_impl_Graph_fits, hg, hd, hm, c1, c2]
    · simp (disch := first | assumption | omega | (simp [*] <;> omega) | fail) [i_impl_Graph_fits, hg, hd, hm, c1, c2]
  · simp (disch := first | assumption | omega | (simp [*] <;> omega) | fail) [i_impl_Graph_fits, hg, hd, hm, c1]

/-! ### lists of edges -/
end Go.Proofs.YthpgiimaadohcaaDoor.Zv

/- The search for regular graphs: both searches are one. -/
namespace Go.Proofs.YthpgiimaadohcaaDoor.Zv
open Go
variable {nro : Nat}

def ms (n v w : Nat) : Nat := (n - v) * (n + 2) + (n - w)
theorem ms_step {n v w : Nat} (h : w < n) : ms n v (w + 1) < ms n v w := by unfold ms; omega
theorem ms_next {n v : Nat} (h : v + 1 < n) : ms n (v + 1) (v + 2) < ms n v n := by
  unfold ms
  have : n - v = (n - (v + 1)) + 1 := by omega
  rw [this, Nat.add_mul]
  omega
/-- The search: the first graph that completes the rows from the pair v, w on. -/
noncomputable def srch (n : Nat) (k c : Int) (r : List Int) (v w : Nat) : Option (List Int) :=
  if hw : w < n then
    if (deg r v : Int) + n - w < k then none
    else if mayB r k c v w = true then (match srch n k c (put2 r v w) v (w + 1) with
      | some r' => some r'
      | none => srch n k c r v (w + 1))
    else srch n k c r v (w + 1)
  else if (deg r v : Int) ≠ k then none else if h : v + 1 < n ∧ w = n then srch n k c r (v + 1) (v + 2) else some r
 termination_by ms n v w
 decreasing_by
  · exact ms_step hw
  · exact ms_step hw
  · exact ms_step hw
  · rw [h.2]; exact ms_next h.1
theorem srch_end {n : Nat} {k c : Int} {r : List Int} {v : Nat} : srch n k c r v n = if (deg r v : Int) ≠ k then none else if v + 1 < n then srch n k c r (v + 1) (v + 2) else some r := by
  conv => lhs; rw [srch]
  rw [dif_neg (Nat.lt_irrefl n)]
  simp
theorem srch_few {n : Nat} {k c : Int} {r : List Int} {v w : Nat} (hw : w < n) (h : (deg r v : Int) + n - w < k) : srch n k c r v w = none := by
  rw [srch, dif_pos hw, if_pos h]
theorem srch_not {n : Nat} {k c : Int} {r : List Int} {v w : Nat} (hw : w < n) (h : ¬ (deg r v : Int) + n - w < k) (hm : ¬ mayB r k c v w = true) : srch n k c r v w = srch n k c r v (w + 1) := by
  conv => lhs; rw [srch]
  rw [dif_pos hw, if_neg h, if_neg hm]
theorem srch_may {n : Nat} {k c : Int} {r : List Int} {v w : Nat} (hw : w < n) (h : ¬ (deg r v : Int) + n - w < k) (hm : mayB r k c v w = true) : srch n k c r v w = match srch n k c (put2 r v w) v (w + 1) with
      | some r' => some r'
      | none => srch n k c r v (w + 1) := by
  conv => lhs; rw [srch]
  rw [dif_pos hw, if_neg h, if_pos hm]

theorem GV.put2 {n : Nat} {r : List Int} (g : GV n r) {v w : Nat} (hv : v < n) (hw : w < n) (hne : v ≠ w) : GV n (put2 r v w) := by
  have hlo := g.lo
  have R := g.rok
  have h := R.isAdj.put2 (a := (v : Int)) (b := (w : Int)) (by omega) (by omega) (by omega) (by omega) R.le
  simp only [Int.toNat_natCast] at h
  have R2 := R.put2 hv hw
  refine ⟨by omega, g.hi, by rw [h.1], fun x hx => ?_, fun x y hx hy => ?_⟩
  · rw [h.1] at hx
    obtain ⟨r1, r2⟩ := R2.row x hx
    refine ⟨r1, ?_, ?_⟩
    · have e : ((2 ^ n : Nat) : Int) = (2 : Int) ^ ((n : Int).toNat) := by simp
      rw [← e]; omega
    · have := (h.2 x hx).2.2 x
      cases hb : rbit (Zv.put2 r v w) x x
      · rfl
      · rcases this.mp hb with h1 | ⟨h1, h2⟩ | ⟨h1, h2⟩
        · exact absurd rfl (g.ne h1)
        · omega
        · omega
  · rw [h.1] at hx hy
    have a := (h.2 x hx).2.2 y
    have b := (h.2 y hy).2.2 x
    rw [Bool.eq_iff_iff, a, b]
    constructor
    · rintro (h1 | ⟨h1, h2⟩ | ⟨h1, h2⟩)
      · exact .inl (g.sym' h1)
      · exact .inr (.inr ⟨h2, h1⟩)
      · exact .inr (.inl ⟨h2, h1⟩)
    · rintro (h1 | ⟨h1, h2⟩ | ⟨h1, h2⟩)
      · exact .inl (g.sym' h1)
      · exact .inr (.inr ⟨h2, h1⟩)
      · exact .inr (.inl ⟨h2, h1⟩)
/-- An edge put in and taken out again. -/
theorem cut_put {n : Nat} {r : List Int} (g : GV n r) {v w : Nat} (hv : v < n) (hw : w < n) (hne : v ≠ w) (hb : rbit r v w = false) : cut2 (put2 r v w) v w = r ∧ rbit (put2 r v w) v w = true ∧ rbit (put2 r v w) w v = true := by
  have R := g.rok
  have h := R.isAdj.put2 (a := (v : Int)) (b := (w : Int)) (by omega) (by omega) (by omega) (by omega) R.le
  simp only [Int.toNat_natCast] at h
  have b1 : rbit (put2 r v w) v w = true := ((h.2 v hv).2.2 w).mpr (.inr (.inl ⟨rfl, rfl⟩))
  have b2 : rbit (put2 r v w) w v = true := ((h.2 w hw).2.2 v).mpr (.inr (.inr ⟨rfl, rfl⟩))
  refine ⟨?_, b1, b2⟩
  have h2 := h.cut2 (a := (v : Int)) (b := (w : Int)) (by omega) (by omega) (by omega) (by omega) (by omega) (.inr (.inl (by simp))) (.inr (.inr (by simp)))
  simp only [Int.toNat_natCast] at h2
  refine (h2.congr fun x y hx => ?_).unique R.isAdj
  constructor
  · rintro ⟨h3 | h3, h4⟩
    · exact h3
    · exact absurd h3 h4
  · intro h3
    refine ⟨.inl h3, ?_⟩
    rintro (⟨rfl, rfl⟩ | ⟨rfl, rfl⟩)
    · rw [hb] at h3; cases h3
    · rw [g.sym' h3] at hb; cases hb
theorem mayB_not {r : List Int} {k c : Int} {v w : Nat} (h : mayB r k c v w = true) : rbit r v w = false := by
  unfold mayB at h
  cases hb : rbit r v w
  · rfl
  · rw [hb] at h; simp at h

/-- What the search leaves behind. -/
def lefto (r : List Int) (o : Option (List Int)) : List Int := o.getD r
@[simp] theorem lefto_some (r r' : List Int) : lefto r (some r') = r' := rfl
@[simp] theorem lefto_none (r : List Int) : lefto r none = r := rfl

theorem sub_pow {n : Nat} {r : List Int} (g : GV n r) {v w : Nat} (hb : rbit r v w = true) : IntKind.i64.wrap (r.getD v 0 - ((2 ^ w : Nat) : Int)) = r.getD v 0 - ((2 ^ w : Nat) : Int) := by
  obtain ⟨hv, hw⟩ := rbit_lt g.rok hb
  obtain ⟨r1, r2⟩ := g.rok.row v hv
  have r3 := le62 g.rok.le r2
  have h1 := (sub_bit hb).1
  obtain ⟨p, hp⟩ : ∃ p, p = 2 ^ w := ⟨_, rfl⟩
  rw [← hp] at h1 ⊢
  exact wrap64 (by omega) (by omega)

set_option maxHeartbeats 4000000 in
theorem c_spec_l07Search (n : Nat) (k c : Int) (b : Nat) (hn10 : n ≤ 10) (hnb : nro ≤ b) (r : List Int) (v w : Nat) (h : VH) (g : GV n r) (hv : v < n) (hvw : v < w) (hw : w ≤ n) (hb : h[b]? = some ⟨1, ints r⟩) :
    vcall F nro k_spec_l07Search [gv n (.slice (some ⟨b, 0, none⟩) n n), .int .i64 k, .int .i64 c, .int .i64 v, .int .i64 w] h = some (.bool (srch n k c r v w).isSome, h.set b ⟨1, ints (lefto r (srch n k c r v w))⟩) := by
  have R := g.rok
  have hrl := R.len
  have hbl := (List.getElem?_eq_some_iff.mp hb).1
  have hn' : ∀ k, nro ≤ h.length + k := fun k => by omega
  have ho : ∀ k, b < h.length + k := fun k => by omega
  have hS : Sli h (.slice (some ⟨b, 0, none⟩) n n) r := by
    have := sli_at (h := h) (b := b) (xs := r) hb
    rwa [hrl] at this
  have dle : ∀ u, u < n → deg r u ≤ 62 := fun u hu => by
    obtain ⟨r1, r2⟩ := R.row u hu
    exact pc_le _ 62 (le62 R.le r2)
  have hd : ∀ u, u < n → vcall F nro k_spec_l01Degree [gv n (.slice (some ⟨b, 0, none⟩) n n), .int .i64 u] (bx h n (.slice (some ⟨b, 0, none⟩) n n)) = some (.int .i64 (deg r u), bx h n (.slice (some ⟨b, 0, none⟩) n n)) := fun u hu => c_spec_l01Degree n u _ r _ (hS.app _) R hu
  -- what follows from a pair on
  have main : ∀ (v' w' : Nat), v' < n → v' < w' → w' < n → ms n v' w' ≤ ms n v w →
      (((deg r v' : Int) + n - w' < k ∧ srch n k c r v' w' = none) ∨
      (¬ (deg r v' : Int) + n - w' < k ∧ vcall F nro k_spec_l07May [gv n (.slice (some ⟨b, 0, none⟩) n n), .int .i64 k, .int .i64 c, .int .i64 v', .int .i64 w'] (bx h n (.slice (some ⟨b, 0, none⟩) n n)) = some (.bool false, bx h n (.slice (some ⟨b, 0, none⟩) n n)) ∧
        ∃ s, srch n k c r v' w' = s ∧ vcall F nro k_spec_l07Search [gv n (.slice (some ⟨b, 0, none⟩) n n), .int .i64 k, .int .i64 c, .int .i64 v', .int .i64 ((w' : Int) + 1)] (bx h n (.slice (some ⟨b, 0, none⟩) n n)) = some (.bool s.isSome, h.set b ⟨1, ints (lefto r s)⟩ ++ [⟨0, [.int .i64 n, .slice (some ⟨b, 0, none⟩) n n]⟩])) ∨
      (¬ (deg r v' : Int) + n - w' < k ∧ vcall F nro k_spec_l07May [gv n (.slice (some ⟨b, 0, none⟩) n n), .int .i64 k, .int .i64 c, .int .i64 v', .int .i64 w'] (bx h n (.slice (some ⟨b, 0, none⟩) n n)) = some (.bool true, bx h n (.slice (some ⟨b, 0, none⟩) n n)) ∧
        ∃ q, vcall F nro k_spec_l01Put [gv n (.slice (some ⟨b, 0, none⟩) n n), .int .i64 v', .int .i64 w'] (bx h n (.slice (some ⟨b, 0, none⟩) n n)) = some (.tuple #[], h.set b ⟨1, ints q⟩ ++ [⟨0, [.int .i64 n, .slice (some ⟨b, 0, none⟩) n n]⟩]) ∧
        ((∃ r', srch n k c r v' w' = some r' ∧ vcall F nro k_spec_l07Search [gv n (.slice (some ⟨b, 0, none⟩) n n), .int .i64 k, .int .i64 c, .int .i64 v', .int .i64 ((w' : Int) + 1)] (h.set b ⟨1, ints q⟩ ++ [⟨0, [.int .i64 n, .slice (some ⟨b, 0, none⟩) n n]⟩]) = some (.bool true, h.set b ⟨1, ints r'⟩ ++ [⟨0, [.int .i64 n, .slice (some ⟨b, 0, none⟩) n n]⟩])) ∨
         (∃ s, srch n k c r v' w' = s ∧ vcall F nro k_spec_l07Search [gv n (.slice (some ⟨b, 0, none⟩) n n), .int .i64 k, .int .i64 c, .int .i64 v', .int .i64 ((w' : Int) + 1)] (h.set b ⟨1, ints q⟩ ++ [⟨0, [.int .i64 n, .slice (some ⟨b, 0, none⟩) n n]⟩]) = some (.bool false, h.set b ⟨1, ints q⟩ ++ [⟨0, [.int .i64 n, .slice (some ⟨b, 0, none⟩) n n]⟩]) ∧
           vcall F nro k_spec_l07Search [gv n (.slice (some ⟨b, 0, none⟩) n n), .int .i64 k, .int .i64 c, .int .i64 v', .int .i64 ((w' : Int) + 1)] (bx h n (.slice (some ⟨b, 0, none⟩) n n)) = some (.bool s.isSome, h.set b ⟨1, ints (lefto r s)⟩ ++ [⟨0, [.int .i64 n, .slice (some ⟨b, 0, none⟩) n n]⟩]) ∧
           ∃ x y : Int, q.length = n ∧ List.take 1 (List.drop v' (ints q)) = [.int .i64 x] ∧ IntKind.i64.wrap (x - 2 ^ w') = x - 2 ^ w' ∧ List.take 1 (List.drop w' (ints (q.set v' (x - 2 ^ w')))) = [.int .i64 y] ∧ IntKind.i64.wrap (y - 2 ^ v') = y - 2 ^ v' ∧ (q.set v' (x - 2 ^ w')).set w' (y - 2 ^ v') = r)))) := by
    intro v' w' h1 h2 h3 hms
    by_cases c1 : (deg r v' : Int) + n - w' < k
    · exact .inl ⟨c1, srch_few h3 c1⟩
    · have hm := c_spec_l07May (nro := nro) n v' w' k c (.slice (some ⟨b, 0, none⟩) n n) r (bx h n (.slice (some ⟨b, 0, none⟩) n n)) (hS.app _) R h1 h3 (by omega)
      have hb1 : (bx h n (.slice (some ⟨b, 0, none⟩) n n))[b]? = some ⟨1, ints r⟩ := hget_old hb _
      have hlt := ms_step (v := v') h3
      have r2 := c_spec_l07Search n k c b hn10 hnb r v' (w' + 1) (bx h n (.slice (some ⟨b, 0, none⟩) n n)) g h1 (by omega) h3 hb1
      rw [show ((w' + 1 : Nat) : Int) = (w' : Int) + 1 by omega, hset_old hb] at r2
      by_cases c2 : mayB r k c v' w' = true
      · rw [c2] at hm
        have hp := c_spec_l01Put (nro := nro) n b n v' w' r (bx h n (.slice (some ⟨b, 0, none⟩) n n)) hb1 hrl hnb (by omega) (by omega) (by omega) (by omega) (by omega)
        rw [hset_old hb] at hp
        have gq := g.put2 h1 h3 (by omega)
        obtain ⟨cp1, cp2, cp3⟩ := cut_put g h1 h3 (by omega) (mayB_not c2)
        have hql := gq.rok.len
        have r1 := c_spec_l07Search n k c b hn10 hnb (put2 r v' w') v' (w' + 1) (h.set b ⟨1, ints (put2 r v' w')⟩ ++ [⟨0, [.int .i64 n, .slice (some ⟨b, 0, none⟩) n n]⟩]) gq h1 (by omega) h3 (hget_set hb _ _)
        rw [show ((w' + 1 : Nat) : Int) = (w' : Int) + 1 by omega, hset_set hb] at r1
        refine .inr (.inr ⟨c1, hm, put2 r v' w', hp, ?_⟩)
        have hs := srch_may h3 c1 c2
        cases ho1 : srch n k c (put2 r v' w') v' (w' + 1) with
        | some r' =>
          rw [ho1] at r1 hs
          exact .inl ⟨r', hs, r1⟩
        | none =>
          rw [ho1] at r1 hs
          refine .inr ⟨_, hs, r1, r2, ?_⟩
          obtain ⟨q, hq⟩ : ∃ q, q = put2 r (v' : Int) (w' : Int) := ⟨_, rfl⟩
          rw [← hq] at hql gq cp1 cp2 cp3 ⊢
          have e1 := sub_pow gq cp2
          have e2 := sub_pow gq cp3
          have hvq : v' < q.length := by omega
          have hwq : w' < q.length := by omega
          rw [getD_at q hvq] at e1
          rw [getD_at q hwq] at e2
          have p1 : ((2 ^ w' : Nat) : Int) = 2 ^ w' := by simp
          have p2 : ((2 ^ v' : Nat) : Int) = 2 ^ v' := by simp
          rw [p1] at e1
          rw [p2] at e2
          have hne : v' ≠ w' := by omega
          have e3 : (q.set v' (q[v'] - 2 ^ w'))[w']'(by simpa using hwq) = q[w'] := by rw [List.getElem_set_ne hne]
          refine ⟨q[v'], q[w'], hql, take1_ints hvq, e1, ?_, e2, ?_⟩
          · rw [take1_ints (by simpa using hwq), e3]
          · have := cut2_at (r := q) (a := (v' : Int)) (b := (w' : Int)) (by simpa using hvq) (by simpa using hwq)
            simp only [Int.toNat_natCast, e3] at this
            rw [← this]; exact cp1
      · have c2' : mayB r k c v' w' = false := by simpa using c2
        rw [c2'] at hm
        exact .inr (.inl ⟨c1, hm, _, srch_not h3 c1 c2, r2⟩)
  have hgb : ∀ q L, (h.set b ⟨1, ints q⟩ ++ L)[b]? = some ⟨1, ints q⟩ := fun q L => hget_set hb L _
  have hsb : ∀ q q' L, (h.set b ⟨1, ints q⟩ ++ L).set b ⟨1, ints q'⟩ = h.set b ⟨1, ints q'⟩ ++ L := fun q q' L => hset_set hb L _ _
  have hself : h.set b ⟨1, ints r⟩ = h := hset_self hb
  refine v_spec_l07Search (by simp [i_spec_l07Search]) ?_
  rw [fbody_eq]
  have dv := hd v hv
  have dvl := dle v hv
  by_cases c0 : w = n
  · subst c0
    rw [srch_end]
    obtain ⟨d, hdd⟩ : ∃ d, d = deg r v := ⟨_, rfl⟩
    rw [← hdd] at dv dvl ⊢
    by_cases c1 : (d : Int) = k
    · rw [if_neg (fun h => h c1)]
      subst c1
      by_cases c2 : v + 1 < w
      · rw [if_pos c2]
        have c2n : ¬ (v : Int) + 1 = w := by omega
        have dv2 := hd (v + 1) c2
        have dv2l := dle (v + 1) c2
        rw [show ((v + 1 : Nat) : Int) = (v : Int) + 1 by omega] at dv2
        by_cases c3 : v + 2 = w
        · have c3' : (v : Int) + 1 + 1 = w := by omega
          have es : srch w d c r (v + 1) (v + 2) = if (deg r (v + 1) : Int) ≠ d then none else some r := by
            rw [c3, srch_end]
            simp only [show ¬ (v + 1 + 1 < w) by omega, if_false]
          rw [es]
          obtain ⟨d2, hd2⟩ : ∃ d2, d2 = deg r (v + 1) := ⟨_, rfl⟩
          rw [← hd2] at dv2 ⊢
          clear main hd2 es hd dle hdd
          by_cases c4 : (d2 : Int) = d
          · have c4' : d2 = d := by omega
            subst c4'
            simp (disch := first | assumption | omega | (simp [*] <;> omega) | fail) [i_spec_l07Search, dv, dv2, c2n, c3', hself, hn', ho, wrap64]
          · have c4' : ¬ d2 = d := by omega
            simp (disch := first | assumption | omega | (simp [*] <;> omega) | fail) [i_spec_l07Search, dv, dv2, c2n, c3', c4, c4', hself, hn', ho, wrap64]
        · obtain ⟨V, hV⟩ : ∃ V, V = v + 1 := ⟨_, rfl⟩
          obtain ⟨W, hW⟩ : ∃ W, W = v + 2 := ⟨_, rfl⟩
          have hmm := main V W (by omega) (by omega) (by omega) (by rw [hV, hW]; exact Nat.le_of_lt (ms_next c2))
          have iV : (v : Int) + 1 = V := by omega
          have iW : (V : Int) + 1 = W := by omega
          rw [iV] at dv2 c2n
          rw [← hV] at dv2 dv2l ⊢
          rw [← hW]
          obtain ⟨d2, hd2⟩ : ∃ d2, d2 = deg r V := ⟨_, rfl⟩
          rw [← hd2] at dv2 dv2l hmm
          have c3' : ¬ (W : Int) = w := by omega
          have c3n : ¬ W = w := by omega
          have c2m : ¬ V = w := by omega
          have q1 : IntKind.i64.wrap ((d2 : Int) + w) = d2 + w := wrap64 (by omega) (by omega)
          have q2 : IntKind.i64.wrap ((d2 : Int) + w - W) = d2 + w - W := wrap64 (by omega) (by omega)
          have q3 : IntKind.i64.wrap (V : Int) = V := wrap64 (by omega) (by omega)
          have q4 : IntKind.i64.wrap (W : Int) = W := wrap64 (by omega) (by omega)
          have q5 : IntKind.i64.wrap ((W : Int) + 1) = (W : Int) + 1 := wrap64 (by omega) (by omega)
          have k1 : (V : Int) < w := by omega
          have k2 : (W : Int) < w := by omega
          have k3 : V < w := by omega
          have k4 : W < w := by omega
          have kV : V ≤ 10 := by omega
          have kW : W ≤ 10 := by omega
          clear main hd2 hd dle hdd hV hW c2 c3 hvw hv
          rcases hmm with ⟨f1, f2⟩ | ⟨f1, f2, s, f3, f4⟩ | ⟨f1, f2, q, f3, ⟨r', f4, f5⟩ | ⟨s, f4, f5, f6, x, y, f7, f8, f9, f10, f11, f12⟩⟩
          · rw [f2]
            simp (disch := first | assumption | omega | (simp [*] <;> omega) | fail) [i_spec_l07Search, dv, dv2, iV, iW, c2n, c2m, c3', c3n, q1, q2, q3, q4, f1, hself, hn', ho]
          · rw [f3]
            clear f3
            simp (disch := first | assumption | omega | (simp [*] <;> omega) | fail) [i_spec_l07Search, dv, dv2, iV, iW, c2n, c2m, c3', c3n, q1, q2, q3, q4, q5, f1, f2, f4, hself, hn', ho]
          · rw [f4]
            clear f4
            simp (disch := first | assumption | omega | (simp [*] <;> omega) | fail) [i_spec_l07Search, dv, dv2, iV, iW, c2n, c2m, c3', c3n, q1, q2, q3, q4, q5, f1, f2, f3, f5, hself, hn', ho]
          · rw [f4]
            clear f4
            have f12' : h.set b ⟨1, ints ((q.set V (x - 2 ^ W)).set W (y - 2 ^ V))⟩ = h := by rw [f12]; exact hself
            have e1 : splice V [.int .i64 (x - 2 ^ W)] (ints q) = ints (q.set V (x - 2 ^ W)) := splice_ints (by omega)
            have e2 : splice W [.int .i64 (y - 2 ^ V)] (ints (q.set V (x - 2 ^ W))) = ints ((q.set V (x - 2 ^ W)).set W (y - 2 ^ V)) := splice_ints (by simp; omega)
            have g1 : ishl .i64 1 (W : Int) = 2 ^ W := by rw [ishl_one' (by omega) (by omega), Int.toNat_natCast]
            have g2 : ishl .i64 1 (V : Int) = 2 ^ V := by rw [ishl_one' (by omega) (by omega), Int.toNat_natCast]
            have g3 : IntKind.u64.wrap (W : Int) = W := wrapu64 (by omega) (by omega)
            have g4 : IntKind.u64.wrap (V : Int) = V := wrapu64 (by omega) (by omega)
            clear f12
            simp (disch := first | assumption | omega | (simp [*] <;> omega) | fail) [i_spec_l07Search, dv, dv2, iV, iW, c2n, c2m, c3', c3n, q1, q2, q3, q4, q5, f1, f2, f3, f5, f6, f7, f8, f9, f10, f11, f12', e1, e2, g1, g2, g3, g4, k1, k2, k3, k4, hgb, hsb, hself, hn', ho, hnb]
      · rw [if_neg c2]
        have c3 : (v : Int) + 1 = w := by omega
        clear main hd dle hdd
        simp (disch := first | assumption | omega | (simp [*] <;> omega) | fail) [i_spec_l07Search, dv, c3, hself, hn', ho, wrap64]
    · rw [if_pos c1]
      clear main hd dle hdd
      simp (disch := first | assumption | omega | (simp [*] <;> omega) | fail) [i_spec_l07Search, dv, c1, hself, hn', ho]
  · have c0' : ¬ (w : Int) = n := by omega
    have c1 : ¬ (v : Int) = n := by omega
    have hwn : w < n := by omega
    have hmm := main v w hv hvw hwn (Nat.le_refl _)
    obtain ⟨d2, hd2⟩ : ∃ d2, d2 = deg r v := ⟨_, rfl⟩
    rw [← hd2] at dv dvl hmm
    have q1 : IntKind.i64.wrap ((d2 : Int) + n) = d2 + n := wrap64 (by omega) (by omega)
    have q2 : IntKind.i64.wrap ((d2 : Int) + n - w) = d2 + n - w := wrap64 (by omega) (by omega)
    have q5 : IntKind.i64.wrap ((w : Int) + 1) = (w : Int) + 1 := wrap64 (by omega) (by omega)
    have k1 : (v : Int) < n := by omega
    have k2 : (w : Int) < n := by omega
    clear main hd2 hd dle
    rcases hmm with ⟨f1, f2⟩ | ⟨f1, f2, s, f3, f4⟩ | ⟨f1, f2, q, f3, ⟨r', f4, f5⟩ | ⟨s, f4, f5, f6, x, y, f7, f8, f9, f10, f11, f12⟩⟩
    · rw [f2]
      simp (disch := first | assumption | omega | (simp [*] <;> omega) | fail) [i_spec_l07Search, dv, c0, c0', c1, q1, q2, f1, hself, hn', ho]
    · rw [f3]
      clear f3
      simp (disch := first | assumption | omega | (simp [*] <;> omega) | fail) [i_spec_l07Search, dv, c0, c0', c1, q1, q2, q5, f1, f2, f4, hself, hn', ho]
    · rw [f4]
      clear f4
      simp (disch := first | assumption | omega | (simp [*] <;> omega) | fail) [i_spec_l07Search, dv, c0, c0', c1, q1, q2, q5, f1, f2, f3, f5, hself, hn', ho]
    · rw [f4]
      clear f4
      have f12' : h.set b ⟨1, ints ((q.set v (x - 2 ^ w)).set w (y - 2 ^ v))⟩ = h := by rw [f12]; exact hself
      have e1 : splice v [.int .i64 (x - 2 ^ w)] (ints q) = ints (q.set v (x - 2 ^ w)) := splice_ints (by omega)
      have e2 : splice w [.int .i64 (y - 2 ^ v)] (ints (q.set v (x - 2 ^ w))) = ints ((q.set v (x - 2 ^ w)).set w (y - 2 ^ v)) := splice_ints (by simp; omega)
      have g1 : ishl .i64 1 (w : Int) = 2 ^ w := by rw [ishl_one' (by omega) (by omega), Int.toNat_natCast]
      have g2 : ishl .i64 1 (v : Int) = 2 ^ v := by rw [ishl_one' (by omega) (by omega), Int.toNat_natCast]
      have g3 : IntKind.u64.wrap (w : Int) = w := wrapu64 (by omega) (by omega)
      have g4 : IntKind.u64.wrap (v : Int) = v := wrapu64 (by omega) (by omega)
      clear f12
      simp (disch := first | assumption | omega | (simp [*] <;> omega) | fail) [i_spec_l07Search, dv, c0, c0', c1, q1, q2, q5, f1, f2, f3, f5, f6, f7, f8, f9, f10, f11, f12', e1, e2, g1, g2, g3, g4, k1, k2, hv, hwn, hgb, hsb, hself, hn', ho, hnb]
 termination_by ms n v w
 decreasing_by all_goals omega
end Go.Proofs.YthpgiimaadohcaaDoor.Zv

/- What the search finds is regular and has no short cycle. -/
namespace Go.Proofs.YthpgiimaadohcaaDoor.Zv
open Go

section
variable {n : Nat} {r : List Int} (g : GV n r)
include g
theorem put_iff {v w : Nat} (hv : v < n) (hw : w < n) (x y : Nat) : rbit (put2 r v w) x y = true ↔ rbit r x y = true ∨ (x = v ∧ y = w) ∨ (x = w ∧ y = v) := by
  have R := g.rok
  have h := R.isAdj.put2 (a := (v : Int)) (b := (w : Int)) (by omega) (by omega) (by omega) (by omega) R.le
  simp only [Int.toNat_natCast] at h
  by_cases hx : x < n
  · rw [(h.2 x hx).2.2 y]
  · constructor
    · intro e; exact absurd (rbit_lt (R.put2 hv hw) e).1 hx
    · rintro (e | ⟨rfl, _⟩ | ⟨rfl, _⟩)
      · exact absurd (rbit_lt R e).1 hx
      · exact absurd hv hx
      · exact absurd hw hx
theorem deg_put {v w u : Nat} (hv : v < n) (hw : w < n) (h1 : u ≠ v) (h2 : u ≠ w) (hu : u < n) : deg (put2 r v w) u = deg r u := by
  have R2 := g.rok.put2 hv hw
  have e : (deg (put2 r v w) u : Int) = deg r u := by
    rw [deg_sum R2 hu, deg_sum g.rok hu]
    refine sumF_congr fun y _ => ?_
    have := put_iff g hv hw u y
    have e : rbit (put2 r v w) u y = rbit r u y := by
      rw [Bool.eq_iff_iff, this]
      constructor
      · rintro (h | ⟨h, _⟩ | ⟨h, _⟩)
        · exact h
        · exact absurd h h1
        · exact absurd h h2
      · exact .inl
    rw [e]
  omega
theorem deg_put1 {v w : Nat} (hv : v < n) (hw : w < n) (hne : v ≠ w) (hb : rbit r v w = false) : deg (put2 r v w) v = deg r v + 1 ∧ deg (put2 r v w) w = deg r w + 1 := by
  have R2 := g.rok.put2 hv hw
  have one : ∀ a b, a < n → b < n → rbit r a b = false → (∀ y, rbit (put2 r v w) a y = true ↔ rbit r a y = true ∨ y = b) → (deg (put2 r v w) a : Int) = deg r a + 1 := by
    intro a b ha hbn hab e
    rw [deg_sum R2 ha, deg_sum g.rok ha]
    have h1 : sumF (fun y => oneIf (rbit (put2 r v w) a y = true)) n = sumF (fun y => oneIf (rbit r a y = true) + oneIf (y = b)) n := sumF_congr fun y _ => by
      have ey := e y
      by_cases h1 : rbit r a y = true
      · have h2 : ¬ y = b := by rintro rfl; rw [hab] at h1; cases h1
        rw [one_pos h1, one_neg h2, one_pos (ey.mpr (.inl h1))]; omega
      · by_cases h2 : y = b
        · rw [one_neg h1, one_pos h2, one_pos (ey.mpr (.inr h2))]; omega
        · rw [one_neg h1, one_neg h2, one_neg (fun e => (ey.mp e).elim h1 h2)]; omega
    rw [h1, sumF_add, sumF_one (f := fun y => oneIf (y = b)) hbn fun i _ hne => one_neg hne, one_pos rfl]
  have a1 := one v w hv hw hb fun y => by
    rw [put_iff g hv hw]
    constructor
    · rintro (h | ⟨_, h⟩ | ⟨h, _⟩)
      · exact .inl h
      · exact .inr h
      · exact absurd h hne
    · rintro (h | h)
      · exact .inl h
      · exact .inr (.inl ⟨rfl, h⟩)
  have hb2 : rbit r w v = false := by
    cases h : rbit r w v
    · rfl
    · rw [g.sym' h] at hb; cases hb
  have a2 := one w v hw hv hb2 fun y => by
    rw [put_iff g hv hw]
    constructor
    · rintro (h | ⟨h, _⟩ | ⟨_, h⟩)
      · exact .inl h
      · exact absurd h.symm hne
      · exact .inr h
    · rintro (h | h)
      · exact .inl h
      · exact .inr (.inr ⟨rfl, h⟩)
  omega

omit g in
theorem mayB_iff {k c : Int} {v w : Nat} : mayB r k c v w = true ↔ rbit r v w = false ∧ (deg r v : Int) < k ∧ (deg r w : Int) < k ∧ (far r v w < 0 ∨ c ≤ far r v w + 1) := by
  unfold mayB
  cases h : rbit r v w <;> simp <;> omega

/-- Walks with one more edge. -/
theorem walk_put {v w : Nat} (hv : v < n) (hw : w < n) {a b : Nat} (hab : rbit r a b = true) (gq : GV n (put2 r v w)) : ∀ (k x : Nat), Wk (cut2 (put2 r v w) a b) k a x →
    (∃ e, e ≤ k ∧ Wk (cut2 r a b) e a x) ∨ ∃ i j, i + j + 1 ≤ k ∧ ((Wk (cut2 r a b) i a v ∧ Wk (cut2 r a b) j w x) ∨ (Wk (cut2 r a b) i a w ∧ Wk (cut2 r a b) j v x))
  | 0, x, h => .inl ⟨0, Nat.le_refl _, h⟩
  | k + 1, y, h => by
    obtain ⟨x, h1, h2⟩ := h
    have hab' : rbit (put2 r v w) a b = true := (put_iff g hv hw a b).mpr (.inl hab)
    rw [cut_iff gq hab', put_iff g hv hw] at h2
    have ih := walk_put hv hw hab gq k x h1
    obtain ⟨h3 | ⟨rfl, rfl⟩ | ⟨rfl, rfl⟩, h4⟩ := h2
    · have h5 : rbit (cut2 r a b) x y = true := (cut_iff g hab x y).mpr ⟨h3, h4⟩
      rcases ih with ⟨e, i1, i2⟩ | ⟨i, j, i1, ⟨i2, i3⟩ | ⟨i2, i3⟩⟩
      · exact .inl ⟨e + 1, by omega, x, i2, h5⟩
      · exact .inr ⟨i, j + 1, by omega, .inl ⟨i2, x, i3, h5⟩⟩
      · exact .inr ⟨i, j + 1, by omega, .inr ⟨i2, x, i3, h5⟩⟩
    · rcases ih with ⟨e, i1, i2⟩ | ⟨i, j, i1, ⟨i2, i3⟩ | ⟨i2, i3⟩⟩
      · exact .inr ⟨e, 0, by omega, .inl ⟨i2, rfl⟩⟩
      · exact .inr ⟨i, 0, by omega, .inl ⟨i2, rfl⟩⟩
      · exact .inl ⟨i, by omega, i2⟩
    · rcases ih with ⟨e, i1, i2⟩ | ⟨i, j, i1, ⟨i2, i3⟩ | ⟨i2, i3⟩⟩
      · exact .inr ⟨e, 0, by omega, .inr ⟨i2, rfl⟩⟩
      · exact .inl ⟨i, by omega, i2⟩
      · exact .inr ⟨i, 0, by omega, .inr ⟨i2, rfl⟩⟩

omit g in
theorem Wk.mono {rows rows' : List Int} (h : ∀ x y, rbit rows x y = true → rbit rows' x y = true) : ∀ {k a b : Nat}, Wk rows k a b → Wk rows' k a b
  | 0, _, _, e => e
  | _ + 1, _, _, ⟨c, h1, h2⟩ => ⟨c, Wk.mono h h1, h _ _ h2⟩

/-- An edge that may be put in leaves the graph without short cycles. -/
theorem fits_put {k c : Int} {v w : Nat} (hv : v < n) (hw : w < n) (hne : v ≠ w) (hm : mayB r k c v w = true) (hf : FitsP r n k c) : FitsP (put2 r v w) n k c := by
  obtain ⟨m1, m2, m3, m4⟩ := mayB_iff.mp hm
  have gq := g.put2 hv hw hne
  obtain ⟨d1, d2⟩ := deg_put1 g hv hw hne m1
  refine ⟨fun u hu => ?_, fun a b hab => ?_⟩
  · by_cases h1 : u = v
    · subst h1; omega
    · by_cases h2 : u = w
      · subst h2; omega
      · rw [deg_put g hv hw h1 h2 hu]; exact hf.1 u hu
  · obtain ⟨c1, c2, c3⟩ := cut_put g hv hw hne m1
    have key : arF (put2 r v w) v w ≤ 0 ∨ c ≤ arF (put2 r v w) v w := by
      unfold arF
      rw [c1]; omega
    rcases (put_iff g hv hw a b).mp hab with h | ⟨rfl, rfl⟩ | ⟨rfl, rfl⟩
    · obtain ⟨ha, hb⟩ := rbit_lt g.rok h
      have hRq := (cut_rok gq ha hb hab).1
      have hR := (cut_rok g ha hb h).1
      unfold arF
      rcases far_dist hRq ha b with ⟨e, _⟩ | ⟨d, e, hd⟩
      · omega
      · right
        rw [e]
        have sub : ∀ x y, rbit (cut2 r a b) x y = true → rbit r x y = true := fun x y h2 => ((cut_iff g h x y).mp h2).1
        have fin : ∀ k', Wk r k' v w → c ≤ k' + 1 := by
          intro k' hw2
          obtain ⟨d', h1, h2⟩ := Wk.dst k' hw2
          have := far_of g.rok hv h2
          omega
        rcases walk_put g hv hw h gq d b hd.1 with ⟨e2, i1, i2⟩ | ⟨i, j, i1, ⟨i2, i3⟩ | ⟨i2, i3⟩⟩
        · obtain ⟨d', h1, h2⟩ := Wk.dst e2 i2
          have h3 := far_of hR ha h2
          have h4 := hf.2 a b h
          unfold arF at h4
          omega
        · have s2 := Wk.symm (fun _ _ => g.sym') _ _ _ (i2.mono sub)
          have s3 : Wk r 1 a b := ⟨a, rfl, h⟩
          have s4 := (s2.comp 1 b s3).comp j w (Wk.symm (fun _ _ => g.sym') _ _ _ (i3.mono sub))
          have := fin _ s4
          omega
        · have s2 := i3.mono sub
          have s3 : Wk r 1 b a := ⟨b, rfl, g.sym' h⟩
          have s4 := (s2.comp 1 a s3).comp i w (i2.mono sub)
          have := fin _ s4
          omega
    · exact key
    · rw [arF_symm gq hab]; exact key
end

/-- What the search finds. -/
theorem srch_ok (n : Nat) (k c : Int) (r : List Int) (v w : Nat) (g : GV n r) (hv : v < n) (hvw : v < w) (hw : w ≤ n) (hf : FitsP r n k c) (hd : ∀ u, u < v → (deg r u : Int) = k) :
    ∀ r', srch n k c r v w = some r' → GV n r' ∧ FitsP r' n k c ∧ ∀ u, u < n → (deg r' u : Int) = k := by
  intro r' h
  by_cases c0 : w = n
  · rw [c0, srch_end] at h
    by_cases c1 : (deg r v : Int) = k
    · rw [if_neg (fun e => e c1)] at h
      by_cases c2 : v + 1 < n
      · rw [if_pos c2] at h
        have hlt : ms n (v + 1) (v + 2) < ms n v w := by rw [c0]; exact ms_next c2
        refine srch_ok n k c r (v + 1) (v + 2) g c2 (by omega) (by omega) hf (fun u hu => ?_) r' h
        by_cases e : u = v
        · rw [e]; exact c1
        · exact hd u (by omega)
      · rw [if_neg c2] at h
        cases h
        refine ⟨g, hf, fun u hu => ?_⟩
        by_cases e : u = v
        · rw [e]; exact c1
        · exact hd u (by omega)
    · rw [if_pos c1] at h; cases h
  · have hwn : w < n := by omega
    have hlt := ms_step (v := v) hwn
    by_cases c1 : (deg r v : Int) + n - w < k
    · rw [srch_few hwn c1] at h; cases h
    · by_cases c2 : mayB r k c v w = true
      · rw [srch_may hwn c1 c2] at h
        have gq := g.put2 hv hwn (by omega)
        have hq := srch_ok n k c (put2 r v w) v (w + 1) gq hv (by omega) hwn (fits_put g hv hwn (by omega) c2 hf) (fun u hu => by
          rw [deg_put g hv hwn (by omega) (by omega) (by omega)]; exact hd u hu)
        cases ho : srch n k c (put2 r v w) v (w + 1) with
        | some q => rw [ho] at h; cases h; exact hq _ ho
        | none =>
          rw [ho] at h
          exact srch_ok n k c r v (w + 1) g hv (by omega) hwn hf hd r' h
      · rw [srch_not hwn c1 c2] at h
        exact srch_ok n k c r v (w + 1) g hv (by omega) hwn hf hd r' h
 termination_by ms n v w
 decreasing_by all_goals omega
end Go.Proofs.YthpgiimaadohcaaDoor.Zv

/- The program's search. -/
namespace Go.Proofs.YthpgiimaadohcaaDoor.Zv
open Go
variable {nro : Nat}

/-- The search itself, as a value. -/
def fvS (i1 i2 i3 i4 i5 : Nat) : Value := .func (.func k_impl_firstRegular_1) #[] #[.pointer (some ⟨i1, 0, some 1⟩), .pointer (some ⟨i2, 0, some 2⟩), .pointer (some ⟨i3, 0, some 1⟩), .pointer (some ⟨i4, 0, some 1⟩), .pointer (some ⟨i5, 0, some 1⟩)]
/-- What the search reads. -/
structure FH (h : VH) (n b : Nat) (k c : Int) (i1 i2 i3 i4 i5 : Nat) : Prop where
  f1 : h[i1]? = some ⟨0, [.int .i64 n]⟩
  f2 : h[i2]? = some ⟨0, [.int .i64 n, .slice (some ⟨b, 0, none⟩) n n]⟩
  f3 : h[i3]? = some ⟨0, [.int .i64 k]⟩
  f4 : h[i4]? = some ⟨0, [fvS i1 i2 i3 i4 i5]⟩
  f5 : h[i5]? = some ⟨0, [.int .i64 c]⟩
theorem get_set_ne {h : VH} {i b : Nat} {o o' p : VO} (hi : h[i]? = some o) (hb : h[b]? = some o') (hne : o.sz ≠ o'.sz) : (h.set b p)[i]? = some o := by
  have : b ≠ i := by
    rintro rfl
    rw [hi] at hb
    cases hb
    exact hne rfl
  rw [List.getElem?_set, if_neg this]
  exact hi
theorem FH.set {h : VH} {n b : Nat} {k c : Int} {i1 i2 i3 i4 i5 : Nat} (f : FH h n b k c i1 i2 i3 i4 i5) {r : List Int} (hb : h[b]? = some ⟨1, ints r⟩) (o : VO) : FH (h.set b o) n b k c i1 i2 i3 i4 i5 :=
  ⟨get_set_ne f.f1 hb (by simp), get_set_ne f.f2 hb (by simp), get_set_ne f.f3 hb (by simp), get_set_ne f.f4 hb (by simp), get_set_ne f.f5 hb (by simp)⟩

set_option maxHeartbeats 4000000 in
theorem c_impl_firstRegular_1 (n : Nat) (k c : Int) (b i1 i2 i3 i4 i5 : Nat) (hn10 : n ≤ 10) (hnb : nro ≤ b) (r : List Int) (v w : Nat) (h : VH) (fh : FH h n b k c i1 i2 i3 i4 i5) (g : GV n r) (hv : v < n) (hvw : v < w) (hw : w ≤ n) (hb : h[b]? = some ⟨1, ints r⟩) :
    vcall F nro k_impl_firstRegular_1 [.int .i64 v, .int .i64 w, .pointer (some ⟨i1, 0, some 1⟩), .pointer (some ⟨i2, 0, some 2⟩), .pointer (some ⟨i3, 0, some 1⟩), .pointer (some ⟨i4, 0, some 1⟩), .pointer (some ⟨i5, 0, some 1⟩)] h = some (.bool (srch n k c r v w).isSome, h.set b ⟨1, ints (lefto r (srch n k c r v w))⟩) := by
  have R := g.rok
  have hrl := R.len
  have hbl := (List.getElem?_eq_some_iff.mp hb).1
  have hn' : ∀ k, nro ≤ h.length + k := fun k => by omega
  have hS : Sli h (.slice (some ⟨b, 0, none⟩) n n) r := by
    have := sli_at (h := h) (b := b) (xs := r) hb
    rwa [hrl] at this
  have dle : ∀ u, u < n → deg r u ≤ 62 := fun u hu => by
    obtain ⟨r1, r2⟩ := R.row u hu
    exact pc_le _ 62 (le62 R.le r2)
  have hd : ∀ u, u < n → vcall F nro k_impl_Graph_degree [gv n (.slice (some ⟨b, 0, none⟩) n n), .int .i64 u] h = some (.int .i64 (deg r u), h) := fun u hu => c_impl_degree n u _ r _ hS R hu
  obtain ⟨f1, f2, f3, f4, f5⟩ := fh
  have fh : FH h n b k c i1 i2 i3 i4 i5 := ⟨f1, f2, f3, f4, f5⟩
  have fhs := fun q : List Int => fh.set hb ⟨1, ints q⟩
  have hself : h.set b ⟨1, ints r⟩ = h := hset_self hb
  have hgb : ∀ q : List Int, (h.set b ⟨1, ints q⟩)[b]? = some ⟨1, ints q⟩ := fun q => hget_set0 hb _
  have hsb : ∀ q q' : List Int, (h.set b ⟨1, ints q⟩).set b ⟨1, ints q'⟩ = h.set b ⟨1, ints q'⟩ := fun q q' => by rw [List.set_set]
  refine v_impl_firstRegular_1 (by simp [i_impl_firstRegular_1]) ?_
  rw [fbody_eq]
  have dv := hd v hv
  have dvl := dle v hv
  by_cases c0 : w = n
  · have hrec : v + 1 < n → _ := fun c2 => by
      have hlt : ms n (v + 1) (v + 2) < ms n v w := by rw [c0]; exact ms_next c2
      exact c_impl_firstRegular_1 n k c b i1 i2 i3 i4 i5 hn10 hnb r (v + 1) (v + 2) h fh g c2 (by omega) (by omega) hb
    subst c0
    rw [srch_end]
    obtain ⟨d, hdd⟩ : ∃ d, d = deg r v := ⟨_, rfl⟩
    rw [← hdd] at dv dvl ⊢
    by_cases c1 : (d : Int) = k
    · rw [if_neg (fun h => h c1)]
      by_cases c2 : v + 1 < w
      · rw [if_pos c2]
        have c2n : ¬ (v : Int) + 1 = w := by omega
        have rc := hrec c2
        rw [show ((v + 1 : Nat) : Int) = (v : Int) + 1 by omega, show ((v + 2 : Nat) : Int) = (v : Int) + 1 + 1 by omega] at rc
        obtain ⟨s, hs⟩ : ∃ s, s = srch w k c r (v + 1) (v + 2) := ⟨_, rfl⟩
        rw [← hs] at rc ⊢
        unfold fvS at f4
        clear hs hd dle hdd fh fhs
        simp (disch := first | assumption | omega | (simp [*] <;> omega) | fail) [i_impl_firstRegular_1, f1, f2, f3, f4, f5, dv, c1, c2n, rc, hn', wrap64]
      · rw [if_neg c2]
        have c3 : (v : Int) + 1 = w := by omega
        clear hd dle hdd fh fhs
        simp (disch := first | assumption | omega | (simp [*] <;> omega) | fail) [i_impl_firstRegular_1, f1, f2, f3, f4, f5, dv, c1, c3, hself, hn', wrap64]
    · rw [if_pos c1]
      clear hd dle hdd fh fhs
      simp (disch := first | assumption | omega | (simp [*] <;> omega) | fail) [i_impl_firstRegular_1, f1, f2, f3, f4, f5, dv, c1, hself, hn']
  · have c0' : ¬ (w : Int) = n := by omega
    have hwn : w < n := by omega
    have hlt := ms_step (v := v) hwn
    by_cases c1 : (deg r v : Int) + n - w < k
    · rw [srch_few hwn c1]
      obtain ⟨d, hdd⟩ : ∃ d, d = deg r v := ⟨_, rfl⟩
      rw [← hdd] at dv dvl c1
      have q1 : IntKind.i64.wrap ((d : Int) + n) = d + n := wrap64 (by omega) (by omega)
      have q2 : IntKind.i64.wrap ((d : Int) + n - w) = d + n - w := wrap64 (by omega) (by omega)
      clear hd dle hdd fh fhs
      simp (disch := first | assumption | omega | (simp [*] <;> omega) | fail) [i_impl_firstRegular_1, f1, f2, f3, f4, f5, dv, c0, c0', q1, q2, c1, hself, hn']
    · have hm := c_impl_Graph_mayJoin (nro := nro) n v w k c (.slice (some ⟨b, 0, none⟩) n n) r h hS R hv hwn (by omega)
      have r2 := c_impl_firstRegular_1 n k c b i1 i2 i3 i4 i5 hn10 hnb r v (w + 1) h fh g hv (by omega) hwn hb
      rw [show ((w + 1 : Nat) : Int) = (w : Int) + 1 by omega] at r2
      have q5 : IntKind.i64.wrap ((w : Int) + 1) = (w : Int) + 1 := wrap64 (by omega) (by omega)
      by_cases c2 : mayB r k c v w = true
      · rw [c2] at hm
        have hp := c_impl_Graph_put (nro := nro) n b n v w r h hb hrl hnb (by omega) (by omega) (by omega) (by omega) (by omega)
        rw [if_neg (by omega)] at hp
        have gq := g.put2 hv hwn (by omega)
        obtain ⟨cp1, cp2, cp3⟩ := cut_put g hv hwn (by omega) (mayB_not c2)
        have hql := gq.rok.len
        have r1 := c_impl_firstRegular_1 n k c b i1 i2 i3 i4 i5 hn10 hnb (put2 r v w) v (w + 1) (h.set b ⟨1, ints (put2 r v w)⟩) (fhs _) gq hv (by omega) hwn (hgb _)
        rw [show ((w + 1 : Nat) : Int) = (w : Int) + 1 by omega, hsb] at r1
        obtain ⟨s1, s2⟩ := gq.rok.row v hv
        obtain ⟨t1, t2⟩ := gq.rok.row w hwn
        have s3 := le62 gq.rok.le s2
        have t3 := le62 gq.rok.le t2
        have ht := c_impl_Graph_take (nro := nro) n b n v w (put2 r v w) (h.set b ⟨1, ints (put2 r v w)⟩) (hgb _) hql hnb (by omega) (by omega) (by omega) (by omega) (by omega) (by omega)
          (by rw [Int.toNat_natCast]; exact s1) (by rw [Int.toNat_natCast]; omega) (by rw [Int.toNat_natCast, Int.toNat_natCast]; exact cp2) (by rw [Int.toNat_natCast]; exact t1) (by rw [Int.toNat_natCast]; omega) (by rw [Int.toNat_natCast, Int.toNat_natCast]; exact cp3)
        rw [cp1, hsb, hself] at ht
        have hs := srch_may hwn c1 c2
        have fq := fhs (put2 r v w)
        cases ho1 : srch n k c (put2 r v w) v (w + 1) with
        | some r' =>
          rw [ho1] at r1 hs
          dsimp only at hs
          rw [hs]
          obtain ⟨d, hdd⟩ : ∃ d, d = deg r v := ⟨_, rfl⟩
          rw [← hdd] at dv dvl c1
          have q1 : IntKind.i64.wrap ((d : Int) + n) = d + n := wrap64 (by omega) (by omega)
          have q2 : IntKind.i64.wrap ((d : Int) + n - w) = d + n - w := wrap64 (by omega) (by omega)
          obtain ⟨q, hq⟩ : ∃ q, q = put2 r (v : Int) (w : Int) := ⟨_, rfl⟩
          rw [← hq] at hp r1 fq
          obtain ⟨e1, e2, e3, e4, e5⟩ := fq
          unfold fvS at e4
          clear hd dle hdd fh fhs hs ho1 ht r2 gq cp1 cp2 cp3 hql s1 s2 s3 t1 t2 t3 hq f4
          simp (disch := first | assumption | omega | (simp [*] <;> omega) | fail) [i_impl_firstRegular_1, f1, f2, f3, f5, e1, e2, e3, e4, e5, dv, c0, c0', q1, q2, q5, c1, hm, hp, r1, hself, hn']
        | none =>
          rw [ho1] at r1 hs
          dsimp only at hs
          rw [hs]
          obtain ⟨s, hs2⟩ : ∃ s, s = srch n k c r v (w + 1) := ⟨_, rfl⟩
          rw [← hs2] at r2 ⊢
          obtain ⟨d, hdd⟩ : ∃ d, d = deg r v := ⟨_, rfl⟩
          rw [← hdd] at dv dvl c1
          have q1 : IntKind.i64.wrap ((d : Int) + n) = d + n := wrap64 (by omega) (by omega)
          have q2 : IntKind.i64.wrap ((d : Int) + n - w) = d + n - w := wrap64 (by omega) (by omega)
          obtain ⟨q, hq⟩ : ∃ q, q = put2 r (v : Int) (w : Int) := ⟨_, rfl⟩
          rw [← hq] at hp r1 fq ht
          obtain ⟨e1, e2, e3, e4, e5⟩ := fq
          unfold fvS at e4 f4
          clear hd dle hdd fh fhs hs hs2 ho1 gq cp1 cp2 cp3 hql s1 s2 s3 t1 t2 t3 hq
          simp (disch := first | assumption | omega | (simp [*] <;> omega) | fail) [i_impl_firstRegular_1, f1, f2, f3, f4, f5, e1, e2, e3, e4, e5, dv, c0, c0', q1, q2, q5, c1, hm, hp, r1, r2, ht, hself, hn']
      · have c2' : mayB r k c v w = false := by simpa using c2
        rw [c2'] at hm
        rw [srch_not hwn c1 c2]
        obtain ⟨s, hs2⟩ : ∃ s, s = srch n k c r v (w + 1) := ⟨_, rfl⟩
        rw [← hs2] at r2 ⊢
        obtain ⟨d, hdd⟩ : ∃ d, d = deg r v := ⟨_, rfl⟩
        rw [← hdd] at dv dvl c1
        have q1 : IntKind.i64.wrap ((d : Int) + n) = d + n := wrap64 (by omega) (by omega)
        have q2 : IntKind.i64.wrap ((d : Int) + n - w) = d + n - w := wrap64 (by omega) (by omega)
        unfold fvS at f4
        clear hd dle hdd fh fhs hs2
        simp (disch := first | assumption | omega | (simp [*] <;> omega) | fail) [i_impl_firstRegular_1, f1, f2, f3, f4, f5, dv, c0, c0', q1, q2, q5, c1, hm, r2, hself, hn']
 termination_by ms n v w
 decreasing_by all_goals omega
end Go.Proofs.YthpgiimaadohcaaDoor.Zv

/- The first cage graph: the program's and the reference's answers. -/
namespace Go.Proofs.YthpgiimaadohcaaDoor.Zv
open Go
variable {nro : Nat}

theorem GV.zero {n : Nat} (h1 : 1 ≤ n) (h2 : n ≤ 62) : GV n (List.replicate n 0) := by
  have hr : ∀ v w, rbit (List.replicate n 0) v w = false := fun v w => by
    unfold rbit
    rw [List.getD_eq_getElem?_getD, List.getElem?_replicate]
    split <;> simp
  refine ⟨by omega, by omega, by simp, fun v hv => ⟨?_, ?_, hr v v⟩, fun v w _ _ => by rw [hr, hr]⟩
  · rw [List.getD_eq_getElem?_getD, List.getElem?_replicate]; split <;> simp
  · rw [List.getD_eq_getElem?_getD, List.getElem?_replicate]
    have : (0 : Int) < 2 ^ n := Int.pow_pos (by omega)
    split <;> simpa using this
theorem fits_zero {n : Nat} (h1 : 1 ≤ n) (h2 : n ≤ 62) {k c : Int} (hk : 0 ≤ k) : FitsP (List.replicate n 0) n k c := by
  have hr : ∀ v w, rbit (List.replicate n 0) v w = false := fun v w => by
    unfold rbit
    rw [List.getD_eq_getElem?_getD, List.getElem?_replicate]
    split <;> simp
  refine ⟨fun v hv => ?_, fun u w h => ?_⟩
  · unfold deg
    rw [List.getD_eq_getElem?_getD, List.getElem?_replicate, if_pos hv]
    simp [pc_zero]; exact hk
  · rw [hr] at h; cases h

/-- Why there is none: the reference's reasons, the program's. -/
def prS (n : Nat) (k c : Int) : Prop := (n * k) % 2 ≠ 0 ∨ n ≤ k ∨ (1 < k ∧ n < c)
def prI (n : Nat) (k c : Int) : Prop := (n * k) % 2 ≠ 0 ∨ n ≤ k ∨ (2 ≤ k ∧ n < gB k c.toNat)
instance (n : Nat) (k c : Int) : Decidable (prS n k c) := by unfold prS; infer_instance
instance (n : Nat) (k c : Int) : Decidable (prI n k c) := by unfold prI; infer_instance

theorem gB_ge {k c : Int} (hk : kcB k c = true) (h2 : 2 ≤ k) : c ≤ gB k c.toNat := by
  have : (1 ≤ k ∧ k ≤ 6) ∧ 3 ≤ c ∧ c ≤ 12 := by simpa [kcB] using hk
  obtain ⟨⟨_, a⟩, b, d⟩ := this
  have e1 : k = 2 ∨ k = 3 ∨ k = 4 ∨ k = 5 ∨ k = 6 := by omega
  have e2 : c = 3 ∨ c = 4 ∨ c = 5 ∨ c = 6 ∨ c = 7 ∨ c = 8 ∨ c = 9 ∨ c = 10 ∨ c = 11 ∨ c = 12 := by omega
  rcases e1 with rfl | rfl | rfl | rfl | rfl <;> rcases e2 with rfl | rfl | rfl | rfl | rfl | rfl | rfl | rfl | rfl | rfl <;> decide

theorem prune_none {n : Nat} {k c : Int} (hk : kcB k c = true) (hn : 1 ≤ n) (hn2 : n ≤ 10) (hp : 2 ≤ k ∧ n < gB k c.toNat) : srch n k c (List.replicate n 0) 0 1 = none := by
  have hkc : (1 ≤ k ∧ k ≤ 6) ∧ 3 ≤ c ∧ c ≤ 12 := by simpa [kcB] using hk
  cases h : srch n k c (List.replicate n 0) 0 1 with
  | none => rfl
  | some r =>
    obtain ⟨g, hf, hd⟩ := srch_ok n k c _ 0 1 (GV.zero hn (by omega)) (by omega) (by omega) (by omega) (fits_zero hn (by omega) (by omega)) (fun u hu => by omega) r h
    have := moore g (noSh g hf.2) hd (by omega) (by omega)
    omega

/-- The first cage graph. -/
noncomputable def fR (n : Nat) (k c : Int) : Option (List Int) := if prS n k c then none else srch n k c (List.replicate n 0) 0 1
theorem fR_impl {n : Nat} {k c : Int} (hk : kcB k c = true) (hn : 1 ≤ n) (hn2 : n ≤ 10) : fR n k c = if prI n k c then none else srch n k c (List.replicate n 0) 0 1 := by
  unfold fR
  by_cases h1 : prS n k c
  · rw [if_pos h1, if_pos]
    rcases h1 with h | h | ⟨h2, h3⟩
    · exact .inl h
    · exact .inr (.inl h)
    · exact .inr (.inr ⟨by omega, by have := gB_ge hk (by omega); omega⟩)
  · rw [if_neg h1]
    by_cases h2 : prI n k c
    · rw [if_pos h2]
      rcases h2 with h | h | h
      · exact absurd (.inl h) h1
      · exact absurd (.inr (.inl h)) h1
      · exact prune_none hk hn hn2 h
    · rw [if_neg h2]
theorem fR_len {n : Nat} {k c : Int} (hk : kcB k c = true) (hn : 1 ≤ n) (hn2 : n ≤ 10) {r : List Int} (h : fR n k c = some r) : GV n r ∧ FitsP r n k c ∧ ∀ u, u < n → (deg r u : Int) = k := by
  have hkc : (1 ≤ k ∧ k ≤ 6) ∧ 3 ≤ c ∧ c ≤ 12 := by simpa [kcB] using hk
  unfold fR at h
  split at h
  · cases h
  · exact srch_ok n k c _ 0 1 (GV.zero hn (by omega)) (by omega) (by omega) (by omega) (fits_zero hn (by omega) (by omega)) (fun u hu => by omega) r h

theorem c_spec_l07First (n : Nat) (k c : Int) (h : VH) (hk : kcB k c = true) (h1 : 1 ≤ n) (h2 : n ≤ 10) (hn : nro ≤ h.length) :
    vcall F nro k_spec_l07First [.int .i64 n, .int .i64 k, .int .i64 c] h = some (.tuple #[gv n (.slice (some ⟨h.length, 0, none⟩) n n), .bool (fR n k c).isSome], h ++ [⟨1, ints (lefto (List.replicate n 0) (fR n k c))⟩]) := by
  have hkc : (1 ≤ k ∧ k ≤ 6) ∧ 3 ≤ c ∧ c ≤ 12 := by simpa [kcB] using hk
  have hn' := fun k => Nat.le_trans hn (Nat.le_add_right h.length k)
  refine v_spec_l07First (by simp [i_spec_l07First]) ?_
  rw [fbody_eq]
  have he := c_spec_l01Empty (nro := nro) n (h ++ [⟨0, [.int .i64 0, .slice none 0 0]⟩]) (by omega) (by omega) (by simp; omega)
  rw [Int.toNat_natCast] at he
  simp only [List.length_append, List.length_singleton, List.append_assoc, List.cons_append, List.nil_append] at he
  have b1 : 0 ≤ (n : Int) * k := Int.mul_nonneg (by omega) (by omega)
  have b2 : (n : Int) * k ≤ 10 * 6 := Int.mul_le_mul (by omega) (by omega) (by omega) (by omega)
  have w1 : IntKind.i64.wrap ((n : Int) * k) = n * k := wrap64 (by omega) (by omega)
  have t1 : ((n : Int) * k).tmod 2 = (n * k) % 2 := Int.tmod_eq_emod_of_nonneg b1
  have w2 : IntKind.i64.wrap ((n : Int) * k % 2) = (n : Int) * k % 2 := wrap64 (by omega) (by omega)
  unfold fR
  by_cases hp : prS n k c
  · rw [if_pos hp]
    rcases hp with hp | hp | hp
    · obtain ⟨m, hm⟩ : ∃ m, m = (n : Int) * k := ⟨_, rfl⟩
      rw [← hm] at *
      clear hm
      simp (disch := first | assumption | omega | (simp [*] <;> omega) | fail) [i_spec_l07First, he, w1, w2, t1, hp, fresults, fresL, fres1, hn', hn]
    · by_cases hq : (n : Int) * k % 2 = 0
      · obtain ⟨m, hm⟩ : ∃ m, m = (n : Int) * k := ⟨_, rfl⟩
        rw [← hm] at *
        clear hm
        simp (disch := first | assumption | omega | (simp [*] <;> omega) | fail) [i_spec_l07First, he, w1, w2, t1, hp, hq, fresults, fresL, fres1, hn', hn]
      · obtain ⟨m, hm⟩ : ∃ m, m = (n : Int) * k := ⟨_, rfl⟩
        rw [← hm] at *
        clear hm
        simp (disch := first | assumption | omega | (simp [*] <;> omega) | fail) [i_spec_l07First, he, w1, w2, t1, hp, hq, fresults, fresL, fres1, hn', hn]
    · by_cases hq : (n : Int) * k % 2 = 0
      · by_cases hr : (n : Int) ≤ k
        · obtain ⟨m, hm⟩ : ∃ m, m = (n : Int) * k := ⟨_, rfl⟩
          rw [← hm] at *
          clear hm
          simp (disch := first | assumption | omega | (simp [*] <;> omega) | fail) [i_spec_l07First, he, w1, w2, t1, hr, hq, fresults, fresL, fres1, hn', hn]
        · obtain ⟨m, hm⟩ : ∃ m, m = (n : Int) * k := ⟨_, rfl⟩
          rw [← hm] at *
          clear hm
          simp (disch := first | assumption | omega | (simp [*] <;> omega) | fail) [i_spec_l07First, he, w1, w2, t1, hp, hr, hq, fresults, fresL, fres1, hn', hn]
      · obtain ⟨m, hm⟩ : ∃ m, m = (n : Int) * k := ⟨_, rfl⟩
        rw [← hm] at *
        clear hm
        simp (disch := first | assumption | omega | (simp [*] <;> omega) | fail) [i_spec_l07First, he, w1, w2, t1, hq, fresults, fresL, fres1, hn', hn]
  · rw [if_neg hp]
    have hq : (n : Int) * k % 2 = 0 := Classical.byContradiction fun e => hp (.inl e)
    have hr : ¬ (n : Int) ≤ k := fun e => hp (.inr (.inl e))
    have hs : 1 < k → ¬ (n : Int) < c := fun e1 e2 => hp (.inr (.inr ⟨e1, e2⟩))
    have hsr := c_spec_l07Search (nro := nro) n k c (h.length + 1) h2 (by omega) (List.replicate n 0) 0 1 (h ++ [⟨0, [.int .i64 0, .slice none 0 0]⟩, ⟨1, ints (List.replicate n 0)⟩, ⟨0, [.int .i64 n, .slice (some ⟨h.length + 1, 0, none⟩) n n]⟩]) (GV.zero h1 (by omega)) (by omega) (by omega) (by omega) (by simp)
    have hln : (lefto (List.replicate n 0) (srch n k c (List.replicate n 0) 0 1)).length = n := by
      cases ho : srch n k c (List.replicate n 0) 0 1 with
      | none => simp
      | some r => exact (srch_ok n k c _ 0 1 (GV.zero h1 (by omega)) (by omega) (by omega) (by omega) (fits_zero h1 (by omega) (by omega)) (fun u hu => by omega) r ho).1.rok.len
    obtain ⟨o, ho⟩ : ∃ o, o = srch n k c (List.replicate n 0) 0 1 := ⟨_, rfl⟩
    rw [← ho] at hsr hln ⊢
    obtain ⟨m, hm⟩ : ∃ m, m = (n : Int) * k := ⟨_, rfl⟩
    rw [← hm] at *
    obtain ⟨q, hq2⟩ : ∃ q, q = lefto (List.replicate n 0) o := ⟨_, rfl⟩
    rw [← hq2] at hsr hln ⊢
    clear hm ho hp hq2
    simp [-List.reduceReplicate] at hsr
    by_cases hk1 : 1 < k
    · have hs' := hs hk1
      simp (disch := first | assumption | omega | (simp [*] <;> omega) | fail) [i_spec_l07First, he, w1, w2, t1, hq, hr, hk1, hs', hsr, hln, fresults, fresL, fres1, hn', hn]
    · clear hs
      simp (disch := first | assumption | omega | (simp [*] <;> omega) | fail) [i_spec_l07First, he, w1, w2, t1, hq, hr, hk1, hsr, hln, fresults, fresL, fres1, hn', hn]
end Go.Proofs.YthpgiimaadohcaaDoor.Zv

