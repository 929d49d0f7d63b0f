/- Neighbours, vertices that are in range, covers. -/
import Derived.Test.YthpgiimaadohcaaDoorZwAdj
import Derived.Test.YthpgiimaadohcaaDoorZwU
import Derived.Test.YthpgiimaadohcaaDoorZwPop
namespace Go.Proofs.YthpgiimaadohcaaDoor.Zv
open Go
variable {nro : Nat}

/-! ### how many bits -/
theorem and_127 {a : Nat} (ha : a < 2 ^ 63) : iand .i64 (a : Int) 127 = ((a % 128 : Nat) : Int) := by
  have := iand_nat (a := a) (b := 127) ha (by omega)
  rw [show (127 : Nat) = 2 ^ 7 - 1 from rfl, Nat.and_two_pow_sub_one_eq_mod] at this
  exact this

theorem c_math_bits_OnesCount64 (x : Nat) (h : VH) (hx : x < 2 ^ 63) : vcall F nro k_math_bits_OnesCount64 [.int .u64 x] h = some (.int .i64 (pc x), h) := by
  refine v_math_bits_OnesCount64 (by simp [i_math_bits_OnesCount64]) ?_
  rw [fbody_eq]
  obtain ⟨a, ha⟩ : ∃ a, a = ((x / 2 ^ 1) &&& 6148914691236517205) + (x &&& 6148914691236517205) := ⟨_, rfl⟩
  obtain ⟨b, hb⟩ : ∃ b, b = ((a / 2 ^ 2) &&& 3689348814741910323) + (a &&& 3689348814741910323) := ⟨_, rfl⟩
  obtain ⟨c, hc⟩ : ∃ c, c = (b / 2 ^ 4 + b) &&& 1085102592571150095 := ⟨_, rfl⟩
  obtain ⟨d, hd⟩ : ∃ d, d = c + c / 2 ^ 8 := ⟨_, rfl⟩
  obtain ⟨e, he⟩ : ∃ e, e = d + d / 2 ^ 16 := ⟨_, rfl⟩
  obtain ⟨f, hf⟩ : ∃ f, f = e + e / 2 ^ 32 := ⟨_, rfl⟩
  obtain ⟨r1, r2, r3, r4, r5, r6, r7, r8⟩ := pop_all x (by omega) a b c d e f ha hb hc hd he hf
  have q1 : ∀ y : Nat, ishr .u64 (y : Int) 1 = ((y / 2 ^ 1 : Nat) : Int) := fun y => shr_u64 (a := y) (b := 1) (by omega)
  have q2 : ∀ y : Nat, ishr .u64 (y : Int) 2 = ((y / 2 ^ 2 : Nat) : Int) := fun y => shr_u64 (a := y) (b := 2) (by omega)
  have q4 : ∀ y : Nat, ishr .u64 (y : Int) 4 = ((y / 2 ^ 4 : Nat) : Int) := fun y => shr_u64 (a := y) (b := 4) (by omega)
  have q8 : ∀ y : Nat, ishr .u64 (y : Int) 8 = ((y / 2 ^ 8 : Nat) : Int) := fun y => shr_u64 (a := y) (b := 8) (by omega)
  have q16 : ∀ y : Nat, ishr .u64 (y : Int) 16 = ((y / 2 ^ 16 : Nat) : Int) := fun y => shr_u64 (a := y) (b := 16) (by omega)
  have q32 : ∀ y : Nat, ishr .u64 (y : Int) 32 = ((y / 2 ^ 32 : Nat) : Int) := fun y => shr_u64 (a := y) (b := 32) (by omega)
  have w : ∀ y : Nat, y < 2 ^ 64 → IntKind.u64.wrap (y : Int) = (y : Int) := fun y hy => wrapu64 (by omega) (by omega)
  have s1 : IntKind.u64.wrap (iand .u64 (ishr .u64 (x : Int) 1) 6148914691236517205 + iand .u64 (x : Int) 6148914691236517205) = (a : Int) := by
    rw [q1, show (6148914691236517205 : Int) = ((6148914691236517205 : Nat) : Int) from rfl, and_u64 (by omega) (by omega), and_u64 (by omega) (by omega), ← Int.natCast_add, ← ha]
    exact w a r2
  have s2 : IntKind.u64.wrap (iand .u64 (ishr .u64 (a : Int) 2) 3689348814741910323 + iand .u64 (a : Int) 3689348814741910323) = (b : Int) := by
    rw [q2, show (3689348814741910323 : Int) = ((3689348814741910323 : Nat) : Int) from rfl, and_u64 (by omega) (by omega), and_u64 (by omega) (by omega), ← Int.natCast_add, ← hb]
    exact w b r3
  have s3 : iand .u64 (IntKind.u64.wrap (ishr .u64 (b : Int) 4 + (b : Int))) 1085102592571150095 = (c : Int) := by
    rw [q4, ← Int.natCast_add, w _ r4, show (1085102592571150095 : Int) = ((1085102592571150095 : Nat) : Int) from rfl, and_u64 r4 (by omega), ← hc]
  have s4 : IntKind.u64.wrap ((c : Int) + ishr .u64 (c : Int) 8) = (d : Int) := by
    rw [q8, ← Int.natCast_add, ← hd, w _ r6]
  have s5 : IntKind.u64.wrap ((d : Int) + ishr .u64 (d : Int) 16) = (e : Int) := by
    rw [q16, ← Int.natCast_add, ← he, w _ r7]
  have s6 : IntKind.u64.wrap ((e : Int) + ishr .u64 (e : Int) 32) = (f : Int) := by
    rw [q32, ← Int.natCast_add, ← hf, w _ (by omega)]
  have s7 : iand .i64 (IntKind.i64.wrap (f : Int)) 127 = (pc x : Int) := by
    rw [wrap64 (by omega) (by omega), and_127 r8, r1]
  clear r1 r2 r3 r4 r5 r6 r7 r8 ha hb hc hd he hf q1 q2 q4 q8 q16 q32 w
  simp (disch := first | assumption | omega | (simp [*] <;> omega) | fail) [i_math_bits_OnesCount64, s1, s2, s3, s4, s5, s6, s7]

theorem pc_le (x m : Nat) (h : x < 2 ^ m) : pc x ≤ m := by
  rw [← bitsL_sum x m h]
  have h1 := bitsL_le x m
  have h2 := bitsL_length x m
  generalize bitsL x m = l at h1 h2
  subst h2
  clear h
  induction l with
  | nil => simp
  | cons a r ih =>
    have := ih fun d hd => h1 d (by simp [hd])
    have := h1 a (by simp)
    simp
    omega

theorem c_impl_size (x : Int) (h : VH) (h0 : 0 ≤ x) (hx : x < 4611686018427387904) : vcall F nro k_impl_size [.int .i64 x] h = some (.int .i64 (pc x.toNat), h) := by
  refine v_impl_size (by simp [i_impl_size]) ?_
  rw [fbody_eq]
  have hc := c_math_bits_OnesCount64 (nro := nro) x.toNat h (by omega)
  rw [Int.toNat_of_nonneg h0] at hc
  simp (disch := first | assumption | omega | (simp [*] <;> omega) | fail) [i_impl_size, wrapu64, hc]

theorem c_impl_Graph_degree (n v : Int) (s : Value) (rows : List Int) (h : VH) (hs : Sli h s rows) (h1 : 0 ≤ v) (h2 : v < rows.length) (h5 : 0 ≤ rows.getD v.toNat 0) (h6 : rows.getD v.toNat 0 < 4611686018427387904) :
    vcall F nro k_impl_Graph_degree [gv n s, .int .i64 v] h = some (.int .i64 (pc (rows.getD v.toNat 0).toNat), h) := by
  refine v_impl_Graph_degree (by simp [i_impl_Graph_degree]) ?_
  rw [fbody_eq]
  have hc := c_impl_size (nro := nro) (rows.getD v.toNat 0) (bx h n s) h5 h6
  rw [getD_at rows (by omega)] at hc ⊢
  simp (disch := first | assumption | omega | (simp [*] <;> omega) | fail) [i_impl_Graph_degree, hs.vidx', hs.vload', hc]

theorem sli_at {h : VH} {b : Nat} {xs : List Int} (hb : h[b]? = some ⟨1, ints xs⟩) : Sli h (.slice (some ⟨b, 0, none⟩) xs.length xs.length) xs := by simp [Sli, Sl, hb]

abbrev cp (h : VH) : Value := .pointer (some ⟨h.length + 1, 0, some 2⟩)

/-! ### vertices in range -/
def badV (n : Int) (xs : List Int) : Prop := ∃ j : Int, 0 ≤ j ∧ j < xs.length ∧ ¬ (0 ≤ xs.getD j.toNat 0 ∧ xs.getD j.toNat 0 < n)
open Classical in
/-- The code of a graph and vertices. -/
noncomputable def vtxCode (n : Int) (rows xs : List Int) : Int := if GV n rows then if badV n xs then 2 else 0 else 1

open Classical in
theorem l_impl_graphCode (n : Int) (s t : Value) (xs : List Int) (h : VH) (ht : Sli h t xs) (hl : xs.length ≤ 9223372036854775806) :
    floop (vcall F nro) nro [2, 10, 11, 12] i_impl_graphCode_B1 (bx h n s) [bp h, t, .int .i64 xs.length, .int .i64 0] (bx h n s) =
      if badV n xs then some (.ret, fl [(4, .int .i64 2)], bx h n s) else some (.exit 0, fl [], bx h n s) := by
  have hto := fun k => ht.oldk (k := k)
  refine search (fun i => floop (vcall F nro) nro [2, 10, 11, 12] i_impl_graphCode_B1 (bx h n s) [bp h, t, .int .i64 xs.length, .int .i64 i] (bx h n s)) (fun i => ¬ (0 ≤ xs.getD i.toNat 0 ∧ xs.getD i.toNat 0 < n)) _ _ xs.length 0 ?_ ?_ 0 (by omega)
  · intro i hi hlt
    have e1 : xs.getD i.toNat 0 = xs[i.toNat]'(by omega) := getD_at _ (by omega)
    rw [floop_at i_impl_graphCode_B1.eq_1, e1]
    constructor <;> intro hb
    · by_cases h0 : xs[i.toNat]'(by omega) < 0
      · simp (disch := first | assumption | omega | (simp [*] <;> omega) | fail) [ht.vlen', ht.vidx', ht.vload', wrap64, hlt, h0]
      · have h1 : n ≤ xs[i.toNat]'(by omega) := by omega
        simp (disch := first | assumption | omega | (simp [*] <;> omega) | fail) [ht.vlen', ht.vidx', ht.vload', wrap64, hlt, h0, h1]
    · have hb := Classical.not_not.mp hb
      have h0 : ¬ xs[i.toNat]'(by omega) < 0 := by omega
      have h1 : ¬ n ≤ xs[i.toNat]'(by omega) := by omega
      simp (disch := first | assumption | omega | (simp [*] <;> omega) | fail) [ht.vlen', ht.vidx', ht.vload', wrap64, hlt, h0, h1]
  · intro i hi hlt
    rw [floop_at i_impl_graphCode_B1.eq_1]
    simp (disch := first | assumption | omega | (simp [*] <;> omega) | fail) [hlt]

theorem c_impl_graphCode (n : Int) (s t : Value) (rows xs : List Int) (h : VH) (hs : Sli h s rows) (ht : Sli h t xs) (hl : xs.length ≤ 9223372036854775806) :
    vcall F nro k_impl_graphCode [gv n s, t] h = some (.int .i64 (vtxCode n rows xs), h) := by
  refine v_impl_graphCode (by simp [i_impl_graphCode]) ?_
  rw [fbody_eq]
  have hc := c_impl_IsGraph (nro := nro) n s rows (bx h n s) (hs.app _)
  have hl := l_impl_graphCode (nro := nro) n s t xs h ht hl
  unfold vtxCode
  by_cases g : GV n rows
  · by_cases b : badV n xs
    · rw [if_pos b] at hl
      simp (disch := first | assumption | omega | (simp [*] <;> omega) | fail) [i_impl_graphCode, hc, g, ht.vlen', hl, b]
    · rw [if_neg b] at hl
      simp (disch := first | assumption | omega | (simp [*] <;> omega) | fail) [i_impl_graphCode, hc, g, ht.vlen', hl, b]
  · simp (disch := first | assumption | omega | (simp [*] <;> omega) | fail) [i_impl_graphCode, hc, g]

/-! ### neighbours -/
theorem ints_snoc (ys : List Int) (w : Int) : ints ys ++ [Value.int .i64 w] = ints (ys ++ [w]) := by simp [ints]
/-- The neighbours of v from w on. -/
def nbF (rows : List Int) (v n w : Nat) : List Int := if h : w < n then (if rbit rows v w = true then [(w : Int)] else []) ++ nbF rows v n (w + 1) else []
 termination_by n - w
def nb (rows : List Int) (v n : Nat) : List Int := nbF rows v n 0
theorem nbF_end {rows : List Int} {v n w : Nat} (h : ¬ w < n) : nbF rows v n w = [] := by rw [nbF, dif_neg h]
theorem nbF_step {rows : List Int} {v n w : Nat} (h : w < n) : nbF rows v n w = (if rbit rows v w = true then [(w : Int)] else []) ++ nbF rows v n (w + 1) := by rw [nbF, dif_pos h]
theorem nbF_mem (rows : List Int) (v n w : Nat) (x : Int) : x ∈ nbF rows v n w ↔ (w : Int) ≤ x ∧ x < n ∧ rbit rows v x.toNat = true := by
  by_cases h : w < n
  · rw [nbF_step h, List.mem_append, nbF_mem rows v n (w + 1) x]
    split
    · rename_i hb
      simp only [List.mem_singleton]
      constructor
      · rintro (rfl | ⟨h1, h2, h3⟩)
        · exact ⟨Int.le_refl _, by omega, by simpa using hb⟩
        · exact ⟨by omega, h2, h3⟩
      · rintro ⟨h1, h2, h3⟩
        by_cases e : x = w
        · exact .inl e
        · exact .inr ⟨by omega, h2, h3⟩
    · rename_i hb
      simp only [List.not_mem_nil, false_or]
      constructor
      · rintro ⟨h1, h2, h3⟩
        exact ⟨by omega, h2, h3⟩
      · rintro ⟨h1, h2, h3⟩
        by_cases e : x = w
        · subst e; simp at h3; exact absurd h3 hb
        · exact ⟨by omega, h2, h3⟩
  · rw [nbF_end h]
    simp only [List.not_mem_nil, false_iff]
    rintro ⟨h1, h2, _⟩
    omega
 termination_by n - w
theorem nbF_len (rows : List Int) (v n w : Nat) (hw : w ≤ n) : (nbF rows v n w).length ≤ n - w := by
  by_cases h : w < n
  · rw [nbF_step h, List.length_append]
    have := nbF_len rows v n (w + 1) h
    split <;> simp <;> omega
  · rw [nbF_end h]; simp
 termination_by n - w
end Go.Proofs.YthpgiimaadohcaaDoor.Zv
