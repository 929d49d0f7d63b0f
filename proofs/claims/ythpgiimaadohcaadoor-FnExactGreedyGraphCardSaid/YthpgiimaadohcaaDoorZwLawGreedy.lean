/- The law of GreedyGraph. -/
import Derived.Test.YthpgiimaadohcaaDoorZwFill
import Derived.Test.YthpgiimaadohcaaDoorZwMark
namespace Go.Proofs.YthpgiimaadohcaaDoor.Zv
open Go
variable {nro : Nat}

/-- k and c are as told. -/
def kcB (k c : Int) : Bool := decide (1 ≤ k ∧ k ≤ 6) && decide (3 ≤ c ∧ c ≤ 12)
theorem c_spec_l07Numbers (k c : Int) (h : VH) : vcall F nro k_spec_l07Numbers [.int .i64 k, .int .i64 c] h = some (.bool (kcB k c), h) := by
  refine v_spec_l07Numbers (by simp [i_spec_l07Numbers]) ?_
  rw [fbody_eq]
  have h1 := c_spec_l01In (nro := nro) k 1 6 h
  have h2 := c_spec_l01In (nro := nro) c 3 12 h
  unfold kcB
  by_cases g : 1 ≤ k ∧ k ≤ 6
  · rw [decide_eq_true g] at h1 ⊢
    simp (disch := first | assumption | omega | (simp [*] <;> omega) | fail) [i_spec_l07Numbers, h1, h2]
  · rw [decide_eq_false g] at h1 ⊢
    simp (disch := first | assumption | omega | (simp [*] <;> omega) | fail) [i_spec_l07Numbers, h1]
theorem c_impl_isBoth (k c : Int) (h : VH) : vcall F nro k_impl_isBoth [.int .i64 k, .int .i64 c] h = some (.bool (kcB k c), h) := by
  refine v_impl_isBoth (by simp [i_impl_isBoth]) ?_
  rw [fbody_eq]
  unfold kcB
  by_cases g1 : 1 ≤ k
  · by_cases g2 : k ≤ 6
    · by_cases g3 : 3 ≤ c
      · by_cases g4 : c ≤ 12
        · simp (disch := first | assumption | omega | (simp [*] <;> omega) | fail) [i_impl_isBoth, g1, g2, g3, g4]
        · simp (disch := first | assumption | omega | (simp [*] <;> omega) | fail) [i_impl_isBoth, g1, g2, g3, g4]
      · simp (disch := first | assumption | omega | (simp [*] <;> omega) | fail) [i_impl_isBoth, g1, g2, g3]
    · simp (disch := first | assumption | omega | (simp [*] <;> omega) | fail) [i_impl_isBoth, g1, g2]
  · simp (disch := first | assumption | omega | (simp [*] <;> omega) | fail) [i_impl_isBoth, g1]

/-- What the function answers. -/
noncomputable def greedyAns (n k c : Int) : GAns := if (1 ≤ n ∧ n ≤ 62) ∧ kcB k c = true then .inl (n, fillA k c n.toNat (List.replicate n.toNat 0) 0) else .inr 2

theorem c_spec_GreedyGraph (n k c : Int) (h : VH) (hn : nro ≤ h.length) : vcall F nro k_spec_GreedyGraph [.int .i64 n, .int .i64 k, .int .i64 c] h = some (gres h (greedyAns n k c)) := by
  have hn' := fun k => Nat.le_trans hn (Nat.le_add_right h.length k)
  refine v_spec_GreedyGraph (by simp [i_spec_GreedyGraph]) ?_
  rw [fbody_eq]
  have h1 := fun L => c_spec_l01In (nro := nro) n 1 62 (h ++ L)
  have h2 := fun L => c_spec_l07Numbers (nro := nro) k c (h ++ L)
  unfold greedyAns
  by_cases g : 1 ≤ n ∧ n ≤ 62
  · rw [decide_eq_true g] at h1
    by_cases g2 : kcB k c = true
    · rw [g2] at h2
      rw [if_pos ⟨g, g2⟩]
      have h3 := c_spec_l01Empty (nro := nro) n (h ++ [⟨0, [.int .i64 0, .slice none 0 0]⟩]) (by omega) (by omega) (by simp; omega)
      obtain ⟨N, rfl⟩ : ∃ N : Nat, n = N := ⟨n.toNat, by omega⟩
      rw [Int.toNat_natCast] at h3 ⊢
      have h4 := c_spec_l07Fill (nro := nro) N k c (.slice (some ⟨h.length + 1, 0, none⟩) N N) (List.replicate N 0) (h ++ [⟨0, [.int .i64 0, .slice none 0 0]⟩, ⟨1, ints (List.replicate N 0)⟩]) (by
        have := sli_at (h := h ++ [⟨0, [.int .i64 0, .slice none 0 0]⟩, ⟨1, ints (List.replicate N 0)⟩]) (b := h.length + 1) (xs := List.replicate N 0) (by simp)
        rw [List.length_replicate] at this
        exact this) (Rok.zero (by omega)) (by omega) (by simp; omega)
      have hl := ((Rok.zero (n := N) (by omega)).fillA k c 0).len
      obtain ⟨r, hr⟩ : ∃ r, r = fillA k c N (List.replicate N 0) 0 := ⟨_, rfl⟩
      rw [← hr] at h4 hl ⊢
      clear hr
      simp at h3 h4
      simp (disch := first | assumption | omega | (simp [*] <;> omega) | fail) [i_spec_GreedyGraph, h1, h2, h3, h4, hl, fresults, fresL, fres1, hn', hn]
    · rw [if_neg (fun h => g2 h.2)]
      have g3 : kcB k c = false := by simpa using g2
      rw [g3] at h2
      simp (disch := first | assumption | omega | (simp [*] <;> omega) | fail) [i_spec_GreedyGraph, h1, h2, fresults, fresL, fres1, hn', hn]
  · rw [decide_eq_false g] at h1
    rw [if_neg (fun h => g h.1)]
    simp (disch := first | assumption | omega | (simp [*] <;> omega) | fail) [i_spec_GreedyGraph, h1, fresults, fresL, fres1, hn', hn]

theorem c_impl_GreedyGraph (n k c : Int) (h : VH) (hn : nro ≤ h.length) : vcall F nro k_impl_GreedyGraph [.int .i64 n, .int .i64 k, .int .i64 c] h = some (gres h (greedyAns n k c)) := by
  have hn' := fun k => Nat.le_trans hn (Nat.le_add_right h.length k)
  refine v_impl_GreedyGraph (by simp [i_impl_GreedyGraph]) ?_
  rw [fbody_eq]
  have h2 := fun L => c_impl_isBoth (nro := nro) k c (h ++ L)
  unfold greedyAns
  by_cases g : 1 ≤ n ∧ n ≤ 62
  · have ga : ¬ n < 1 := by omega
    have gb : ¬ 62 < n := by omega
    by_cases g2 : kcB k c = true
    · rw [g2] at h2
      rw [if_pos ⟨g, g2⟩]
      have h3 := c_impl_empty (nro := nro) n (h ++ [⟨0, [.int .i64 0, .slice none 0 0]⟩]) (by omega) (by omega) (by simp; omega)
      obtain ⟨N, rfl⟩ : ∃ N : Nat, n = N := ⟨n.toNat, by omega⟩
      rw [Int.toNat_natCast] at h3 ⊢
      have h4 := c_impl_filled (nro := nro) N k c (.slice (some ⟨h.length + 1, 0, none⟩) N N) (List.replicate N 0) (h ++ [⟨0, [.int .i64 0, .slice none 0 0]⟩, ⟨1, ints (List.replicate N 0)⟩]) (by
        have := sli_at (h := h ++ [⟨0, [.int .i64 0, .slice none 0 0]⟩, ⟨1, ints (List.replicate N 0)⟩]) (b := h.length + 1) (xs := List.replicate N 0) (by simp)
        rw [List.length_replicate] at this
        exact this) (Rok.zero (by omega)) (by omega) (by simp; omega)
      have hl := ((Rok.zero (n := N) (by omega)).fillA k c 0).len
      obtain ⟨r, hr⟩ : ∃ r, r = fillA k c N (List.replicate N 0) 0 := ⟨_, rfl⟩
      rw [← hr] at h4 hl ⊢
      clear hr
      simp at h3 h4
      simp (disch := first | assumption | omega | (simp [*] <;> omega) | fail) [i_impl_GreedyGraph, ga, gb, h2, h3, h4, hl, fresults, fresL, fres1, hn', hn]
    · rw [if_neg (fun h => g2 h.2)]
      have g3 : kcB k c = false := by simpa using g2
      rw [g3] at h2
      simp (disch := first | assumption | omega | (simp [*] <;> omega) | fail) [i_impl_GreedyGraph, ga, gb, h2, fresults, fresL, fres1, hn', hn]
  · rw [if_neg (fun h => g h.1)]
    by_cases ga : n < 1
    · simp (disch := first | assumption | omega | (simp [*] <;> omega) | fail) [i_impl_GreedyGraph, ga, fresults, fresL, fres1, hn', hn]
    · have gb : 62 < n := by omega
      simp (disch := first | assumption | omega | (simp [*] <;> omega) | fail) [i_impl_GreedyGraph, ga, gb, fresults, fresL, fres1, hn', hn]

theorem law_GreedyGraph (n k c : Int) (h : VH) (hn1 : -9223372036854775808 ≤ n) (hn2 : n ≤ 9223372036854775807) (hk1 : -9223372036854775808 ≤ k) (hk2 : k ≤ 9223372036854775807) (hc1 : -9223372036854775808 ≤ c) (hc2 : c ≤ 9223372036854775807) (hn : nro ≤ h.length) :
    vcall F nro k_laws_FnExactGreedyGraph [.int .i64 n, .int .i64 k, .int .i64 c] h = some (.bool true, h) := by
  refine v_laws_FnExactGreedyGraph (by simp [i_laws_FnExactGreedyGraph]) ?_
  rw [fbody_eq]
  have p1 : ∀ k : Nat, (0 : Int) ≤ 1 + k := fun k => by omega
  have p2 : ∀ k : Nat, ¬ (1 + k : Int) < 0 := fun k => by omega
  have p3 : ∀ k j : Nat, ¬ (1 + k + j : Int) < 0 := fun k j => by omega
  have hn' := fun k => Nat.le_trans hn (Nat.le_add_right h.length k)
  have hc1 := fun L => c_spec_GreedyGraph (nro := nro) n k c (h ++ L) (by simp; omega)
  have hc2 := fun L => c_impl_GreedyGraph (nro := nro) n k c (h ++ L) (by simp; omega)
  have hc10 := c_spec_GreedyGraph (nro := nro) n k c h hn
  have hc20 := c_impl_GreedyGraph (nro := nro) n k c h hn
  cases hp : greedyAns n k c with
  | inl q =>
    obtain ⟨x, r⟩ := q
    have hl : r.length ≤ 62 := by
      unfold greedyAns at hp
      split at hp
      · rename_i g
        cases hp
        have := ((Rok.zero (n := n.toNat) (by omega)).fillA k c 0).len
        omega
      · cases hp
    rw [hp] at hc1 hc2 hc10 hc20
    simp (disch := first | assumption | omega | (simp [*] <;> omega) | fail) [i_laws_FnExactGreedyGraph, hc1, hc2, hc10, hc20, r_laws_eqGraph, r_laws_markGraph, r_laws_heldGraph, hn', hn, hl, p1, p2, p3]
  | inr x =>
    rw [hp] at hc1 hc2 hc10 hc20
    simp (disch := first | assumption | omega | (simp [*] <;> omega) | fail) [i_laws_FnExactGreedyGraph, hc1, hc2, hc10, hc20, r_laws_eqGraph, r_laws_markGraph, r_laws_markGraph_nil, r_laws_heldGraph, hn', hn, p1, p2, p3]
end Go.Proofs.YthpgiimaadohcaaDoor.Zv
