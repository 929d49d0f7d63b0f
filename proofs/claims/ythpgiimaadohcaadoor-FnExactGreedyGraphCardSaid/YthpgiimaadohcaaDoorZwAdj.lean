/- Rows of bits that are filled in: edges put in. -/
import Derived.Test.YthpgiimaadohcaaDoorZwGraph2
namespace Go.Proofs.YthpgiimaadohcaaDoor.Zv
open Go
variable {nro : Nat}

/-- Bit b of row a is set. -/
noncomputable def set1 (r : List Int) (a b : Int) : List Int := r.set a.toNat (ior .i64 (r.getD a.toNat 0) (ishl .i64 1 b))
noncomputable def put2 (r : List Int) (a b : Int) : List Int := set1 (set1 r a b) b a
@[simp] theorem set1_length (r : List Int) (a b : Int) : (set1 r a b).length = r.length := by simp [set1]
@[simp] theorem put2_length (r : List Int) (a b : Int) : (put2 r a b).length = r.length := by simp [put2]

/-- Rows of N vertices whose bits are told by a relation. -/
def IsAdj (N : Nat) (r : List Int) (adj : Nat → Nat → Prop) : Prop :=
  r.length = N ∧ ∀ v, v < N → 0 ≤ r.getD v 0 ∧ r.getD v 0 < 4611686018427387904 ∧ ∀ w, rbit r v w = true ↔ adj v w

theorem setbit {x b : Int} (hx : 0 ≤ x) (hx2 : x < 4611686018427387904) (hb : 0 ≤ b) (hb2 : b < 62) :
    0 ≤ ior .i64 x (ishl .i64 1 b) ∧ ior .i64 x (ishl .i64 1 b) < 4611686018427387904 ∧ ∀ w : Nat, (ior .i64 x (ishl .i64 1 b)).toNat.testBit w = true ↔ x.toNat.testBit w = true ∨ w = b.toNat := by
  have hp : 2 ^ b.toNat < 2 ^ 62 := Nat.pow_lt_pow_right (by omega) (by omega)
  have e : ior .i64 x (ishl .i64 1 b) = ((x.toNat ||| 2 ^ b.toNat : Nat) : Int) := by
    rw [ishl_one (by omega)]
    have e1 : x = (x.toNat : Int) := (Int.toNat_of_nonneg hx).symm
    rw [e1, ior_nat (by omega) (by omega), Int.toNat_natCast]
  have hlt : x.toNat ||| 2 ^ b.toNat < 2 ^ 62 := Nat.or_lt_two_pow (by omega) hp
  rw [e]
  refine ⟨by omega, by omega, fun w => ?_⟩
  rw [Int.toNat_natCast, Nat.testBit_or, Nat.testBit_two_pow, Bool.or_eq_true, decide_eq_true_eq]
  constructor
  · rintro (h | h)
    · exact .inl h
    · exact .inr h.symm
  · rintro (h | h)
    · exact .inl h
    · exact .inr h.symm

theorem IsAdj.set1 {N : Nat} {r : List Int} {adj : Nat → Nat → Prop} (h : IsAdj N r adj) {a b : Int} (ha : 0 ≤ a) (ha2 : a < N) (hb : 0 ≤ b) (hb2 : b < 62) :
    IsAdj N (set1 r a b) (fun v w => adj v w ∨ (v = a.toNat ∧ w = b.toNat)) := by
  obtain ⟨hl, hr⟩ := h
  refine ⟨by simp [hl], fun v hv => ?_⟩
  obtain ⟨h1, h2, h3⟩ := hr v hv
  by_cases e : v = a.toNat
  · subst e
    have hg : (Zv.set1 r a b).getD a.toNat 0 = ior .i64 (r.getD a.toNat 0) (ishl .i64 1 b) := by
      rw [getD_at _ (by simp; omega)]
      simp [Zv.set1]
    obtain ⟨k1, k2, k3⟩ := setbit h1 h2 hb hb2
    unfold rbit
    rw [hg]
    refine ⟨k1, k2, fun w => ?_⟩
    rw [k3]
    have := h3 w
    unfold rbit at this
    rw [this]
    simp
  · have hg : (Zv.set1 r a b).getD v 0 = r.getD v 0 := by
      unfold Zv.set1
      simp only [List.getD_eq_getElem?_getD, List.getElem?_set]
      rw [if_neg (fun h => e h.symm)]
    unfold rbit
    rw [hg]
    refine ⟨h1, h2, fun w => ?_⟩
    have := h3 w
    unfold rbit at this
    rw [this]
    simp [e]

theorem IsAdj.put2 {N : Nat} {r : List Int} {adj : Nat → Nat → Prop} (h : IsAdj N r adj) {a b : Int} (ha : 0 ≤ a) (ha2 : a < N) (hb : 0 ≤ b) (hb2 : b < N) (hN : N ≤ 62) :
    IsAdj N (put2 r a b) (fun v w => adj v w ∨ (v = a.toNat ∧ w = b.toNat) ∨ (v = b.toNat ∧ w = a.toNat)) := by
  have h1 := (h.set1 ha ha2 hb (by omega)).set1 hb hb2 ha (by omega)
  refine ⟨h1.1, fun v hv => ?_⟩
  obtain ⟨k1, k2, k3⟩ := h1.2 v hv
  refine ⟨k1, k2, fun w => ?_⟩
  exact (k3 w).trans or_assoc

theorem IsAdj.congr {N : Nat} {r : List Int} {adj adj' : Nat → Nat → Prop} (h : IsAdj N r adj) (e : ∀ v w, v < N → (adj v w ↔ adj' v w)) : IsAdj N r adj' :=
  ⟨h.1, fun v hv => ⟨(h.2 v hv).1, (h.2 v hv).2.1, fun w => ((h.2 v hv).2.2 w).trans (e v w hv)⟩⟩

theorem IsAdj.unique {N : Nat} {r r' : List Int} {adj : Nat → Nat → Prop} (h : IsAdj N r adj) (h' : IsAdj N r' adj) : r = r' := by
  apply List.ext_getElem (h.1.trans h'.1.symm)
  intro v h1 h2
  have hv : v < N := by rw [← h.1]; exact h1
  obtain ⟨a1, a2, a3⟩ := h.2 v hv
  obtain ⟨b1, b2, b3⟩ := h'.2 v hv
  have : (r.getD v 0).toNat = (r'.getD v 0).toNat := by
    apply Nat.eq_of_testBit_eq
    intro w
    have := (a3 w).trans (b3 w).symm
    unfold rbit at this
    cases h1 : (r.getD v 0).toNat.testBit w <;> cases h2 : (r'.getD v 0).toNat.testBit w <;> simp_all
  rw [getD_at r h1, getD_at r' h2] at this
  rw [getD_at r h1] at a1
  rw [getD_at r' h2] at b1
  omega

theorem IsAdj.zero (N : Nat) : IsAdj N (List.replicate N 0) (fun _ _ => False) := by
  refine ⟨by simp, fun v hv => ?_⟩
  have e : (List.replicate N (0 : Int)).getD v 0 = 0 := by simp [List.getD_eq_getElem?_getD, List.getElem?_replicate, hv]
  unfold rbit
  rw [e]
  simp

/-! ### the functions that put an edge -/
theorem set1_at {r : List Int} {a b : Int} (h : a.toNat < r.length) : set1 r a b = r.set a.toNat (ior .i64 r[a.toNat] (ishl .i64 1 b)) := by
  unfold set1
  rw [getD_at _ h]
theorem put2_at {r : List Int} {a b : Int} (h : a.toNat < r.length) (h2 : b.toNat < (r.set a.toNat (ior .i64 r[a.toNat] (ishl .i64 1 b))).length) : put2 r a b = (r.set a.toNat (ior .i64 r[a.toNat] (ishl .i64 1 b))).set b.toNat (ior .i64 (r.set a.toNat (ior .i64 r[a.toNat] (ishl .i64 1 b)))[b.toNat] (ishl .i64 1 a)) := by
  unfold put2
  rw [set1_at h, set1_at h2]
@[simp] theorem old_tup0 (n : Nat) : Old n (.tuple #[]) := old_undef n


theorem c_spec_l01Put (n : Int) (b0 N : Nat) (a b : Int) (r : List Int) (h : VH) (hb : h[b0]? = some ⟨1, ints r⟩) (hl : r.length = N) (hn : nro ≤ b0) (ha : 0 ≤ a) (ha2 : a < N) (hb1 : 0 ≤ b) (hb2 : b < N) (hN : N ≤ 62) :
    vcall F nro k_spec_l01Put [gv n (.slice (some ⟨b0, 0, none⟩) N N), .int .i64 a, .int .i64 b] h = some (.tuple #[], h.set b0 ⟨1, ints (put2 r a b)⟩) := by
  refine v_spec_l01Put (by simp [i_spec_l01Put]) ?_
  rw [fbody_eq, put2_at (by omega) (by simp; omega)]
  simp (disch := first | assumption | omega | (simp [*] <;> omega) | fail) [i_spec_l01Put, hget_old hb, hset_old hb, hget_set hb, hset_set hb, hl, ha2, hb2, wrapu64, take1_ints, splice_ints, hn, ha, hb1]

theorem c_spec_l04With (n : Int) (b0 N : Nat) (a b : Int) (r : List Int) (h : VH) (hb : h[b0]? = some ⟨1, ints r⟩) (hl : r.length = N) (hn : nro ≤ b0) (ha : 0 ≤ a) (ha2 : a < N) (hb1 : 0 ≤ b) (hb2 : b < N) (hN : N ≤ 62) :
    vcall F nro k_spec_l04With [gv n (.slice (some ⟨b0, 0, none⟩) N N), .int .i64 a, .int .i64 b] h = some (gv n (.slice (some ⟨b0, 0, none⟩) N N), h.set b0 ⟨1, ints (put2 r a b)⟩) := by
  refine v_spec_l04With (by simp [i_spec_l04With]) ?_
  rw [fbody_eq, put2_at (by omega) (by simp; omega)]
  have hbl := (List.getElem?_eq_some_iff.mp hb).1
  have ho : Old h.length (gv n (.slice (some ⟨b0, 0, none⟩) N N)) := old_gv hbl
  have hn' := fun k => Nat.le_trans (Nat.le_trans hn (Nat.le_of_lt hbl)) (Nat.le_add_right h.length k)
  clear hbl
  simp (disch := first | assumption | omega | (simp [*] <;> omega) | fail) [i_spec_l04With, hget_old hb, hset_old hb, hget_set hb, hset_set hb, hl, ha2, hb2, wrapu64, take1_ints, splice_ints, hn, ha, hb1, fresults, fresL, fres1, ho, hn']

theorem c_impl_Graph_put (n : Int) (b0 N : Nat) (a b : Int) (r : List Int) (h : VH) (hb : h[b0]? = some ⟨1, ints r⟩) (hl : r.length = N) (hn : nro ≤ b0) (ha : 0 ≤ a) (ha2 : a < N) (hb1 : 0 ≤ b) (hb2 : b < N) (hN : N ≤ 62) :
    vcall F nro k_impl_Graph_put [gv n (.slice (some ⟨b0, 0, none⟩) N N), .int .i64 a, .int .i64 b] h = some (.tuple #[], if a = b then h else h.set b0 ⟨1, ints (put2 r a b)⟩) := by
  refine v_impl_Graph_put (by simp [i_impl_Graph_put]) ?_
  rw [fbody_eq]
  by_cases hab : a = b
  · rw [if_pos hab]
    simp (disch := first | assumption | omega | (simp [*] <;> omega) | fail) [i_impl_Graph_put, hab]
  · rw [if_neg hab, put2_at (by omega) (by simp; omega)]
    simp (disch := first | assumption | omega | (simp [*] <;> omega) | fail) [i_impl_Graph_put, hget_old hb, hset_old hb, hget_set hb, hset_set hb, hl, ha2, hb2, take1_ints, splice_ints, hn, ha, hb1, hab]

theorem c_impl_Graph_has (n a b : Int) (s : Value) (rows : List Int) (h : VH) (hs : Sli h s rows) (h1 : 0 ≤ a) (h2 : a < rows.length) (h3 : 0 ≤ b) (h4 : b ≤ 64) (h5 : 0 ≤ rows.getD a.toNat 0) (h6 : rows.getD a.toNat 0 ≤ 9223372036854775807) :
    vcall F nro k_impl_Graph_has [gv n s, .int .i64 a, .int .i64 b] h = some (.bool (rbit rows a.toNat b.toNat), h) := by
  refine v_impl_Graph_has (by simp [i_impl_Graph_has]) ?_
  have e := bit_int h5 h6 h4
  unfold rbit
  rw [fbody_eq]
  rw [getD_at rows (by omega)] at e ⊢
  simp (disch := first | assumption | omega | (simp [*] <;> omega) | fail) [i_impl_Graph_has, hs.vidx', hs.vload', e]

theorem c_spec_l01Empty (n : Int) (h : VH) (h0 : 0 ≤ n) (h1 : n ≤ 1000) (hn : nro ≤ h.length) :
    vcall F nro k_spec_l01Empty [.int .i64 n] h = some (gv n (.slice (some ⟨h.length, 0, none⟩) n.toNat n.toNat), h ++ [⟨1, ints (List.replicate n.toNat 0)⟩]) := by
  refine v_spec_l01Empty (by simp [i_spec_l01Empty]) ?_
  rw [fbody_eq]
  have e : 8 * n ≤ 140737488355328 := by omega
  have e2 : n ≤ 140737488355328 := by omega
  simp (disch := first | assumption | omega | (simp [*] <;> omega) | fail) [i_spec_l01Empty, fresults, fresL, fres1, h0, e, e2, hn]

theorem c_impl_empty (n : Int) (h : VH) (h0 : 0 ≤ n) (h1 : n ≤ 1000) (hn : nro ≤ h.length) :
    vcall F nro k_impl_empty [.int .i64 n] h = some (gv n (.slice (some ⟨h.length, 0, none⟩) n.toNat n.toNat), h ++ [⟨1, ints (List.replicate n.toNat 0)⟩]) := by
  refine v_impl_empty (by simp [i_impl_empty]) ?_
  rw [fbody_eq]
  have e : 8 * n ≤ 140737488355328 := by omega
  have e2 : n ≤ 140737488355328 := by omega
  simp (disch := first | assumption | omega | (simp [*] <;> omega) | fail) [i_impl_empty, fresults, fresL, fres1, h0, e, e2, hn]

/-- The rows that a relation tells. -/
noncomputable def adjRows (N : Nat) (adj : Nat → Nat → Prop) : List Int := Classical.epsilon fun r => IsAdj N r adj
theorem IsAdj.eq {N : Nat} {r : List Int} {adj : Nat → Nat → Prop} (h : IsAdj N r adj) : adjRows N adj = r :=
  IsAdj.unique (Classical.epsilon_spec (p := fun r => IsAdj N r adj) ⟨r, h⟩) h

open Classical in
/-- The number with the bits below k that a property tells. -/
noncomputable def bitsOf (p : Nat → Prop) : Nat → Nat
  | 0 => 0
  | k + 1 => bitsOf p k ||| if p k then 2 ^ k else 0
theorem bitsOf_lt (p : Nat → Prop) (k : Nat) : bitsOf p k < 2 ^ k := by
  induction k with
  | zero => simp [bitsOf]
  | succ k ih =>
    unfold bitsOf
    refine Nat.or_lt_two_pow (Nat.lt_of_lt_of_le ih (Nat.pow_le_pow_right (by omega) (by omega))) ?_
    split
    · exact Nat.pow_lt_pow_right (by omega) (by omega)
    · exact Nat.two_pow_pos _
theorem bitsOf_bit (p : Nat → Prop) (k w : Nat) : (bitsOf p k).testBit w = true ↔ w < k ∧ p w := by
  induction k with
  | zero => simp [bitsOf]
  | succ k ih =>
    unfold bitsOf
    rw [Nat.testBit_or, Bool.or_eq_true, ih]
    split
    · rename_i h
      rw [Nat.testBit_two_pow, decide_eq_true_eq]
      constructor
      · rintro (⟨h1, h2⟩ | h1)
        · exact ⟨by omega, h2⟩
        · subst h1; exact ⟨by omega, h⟩
      · rintro ⟨h1, h2⟩
        by_cases e : k = w
        · exact .inr e
        · exact .inl ⟨by omega, h2⟩
    · rename_i h
      constructor
      · rintro (⟨h1, h2⟩ | h1)
        · exact ⟨by omega, h2⟩
        · simp at h1
      · rintro ⟨h1, h2⟩
        have : k ≠ w := fun e => h (e ▸ h2)
        exact .inl ⟨by omega, h2⟩
theorem IsAdj.exist (N : Nat) (adj : Nat → Nat → Prop) (h : ∀ v w, v < N → adj v w → w < 62) : IsAdj N ((List.range N).map fun v => (bitsOf (adj v) 62 : Int)) adj := by
  refine ⟨by simp, fun v hv => ?_⟩
  have e : ((List.range N).map fun v => (bitsOf (adj v) 62 : Int)).getD v 0 = (bitsOf (adj v) 62 : Int) := by
    rw [getD_at _ (by simpa using hv)]
    simp
  have hlt := bitsOf_lt (adj v) 62
  unfold rbit
  rw [e]
  refine ⟨by omega, by omega, fun w => ?_⟩
  rw [Int.toNat_natCast, bitsOf_bit]
  exact ⟨fun h1 => h1.2, fun h1 => ⟨h v w hv h1, h1⟩⟩
theorem adjRows_is {N : Nat} {adj : Nat → Nat → Prop} (h : ∀ v w, v < N → adj v w → w < 62) : IsAdj N (adjRows N adj) adj := by
  rw [(IsAdj.exist N adj h).eq]
  exact IsAdj.exist N adj h

/-- A graph and the code 0, or no graph and another code. -/
abbrev GAns := (Int × List Int) ⊕ Int
def gres (h : VH) : GAns → Value × VH
  | .inl (m, r) => (.tuple #[gv m (.slice (some ⟨h.length, 0, none⟩) r.length r.length), .int .i64 0], h ++ [⟨1, ints r⟩])
  | .inr c => (.tuple #[gv 0 (.slice none 0 0), .int .i64 c], h)
@[simp] theorem gres_inl (h : VH) (m : Int) (r : List Int) : gres h (.inl (m, r)) = (.tuple #[gv m (.slice (some ⟨h.length, 0, none⟩) r.length r.length), .int .i64 0], h ++ [⟨1, ints r⟩]) := rfl
@[simp] theorem gres_inr (h : VH) (c : Int) : gres h (.inr c) = (.tuple #[gv 0 (.slice none 0 0), .int .i64 c], h) := rfl
end Go.Proofs.YthpgiimaadohcaaDoor.Zv
