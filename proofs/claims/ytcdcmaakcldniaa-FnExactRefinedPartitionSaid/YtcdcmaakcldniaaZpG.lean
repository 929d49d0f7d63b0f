/- Part G of the proof: ZwLawRefined2. Conditions: none. -/
import Derived.Test.YtcdcmaakcldniaaZpF
set_option linter.unusedSimpArgs false
set_option linter.unusedVariables false
/- The law of RefinedPartition: the walk. -/
namespace Go.Proofs.Ytcdcmaakcldniaa.Zv
open Go
variable {nro : Nat}
theorem r_spec_RefinedPartition (n : Int) (s t : Value) (h : VH) (hs : isSli h s) (ht : isSli h t) (h3 : (rd h t).length ≤ 4611686018427387904) (hn : nro ≤ h.length) :
    vcall F nro k_spec_RefinedPartition [gv n s, t] h = some (lres h (refAns n (rd h s) (rd h t))) := c_spec_RefinedPartition n s t _ _ h hs.sli ht.sli h3 hn
theorem r_impl_RefinedPartition (n : Int) (s t : Value) (h : VH) (hs : isSli h s) (ht : isSli h t) (h3 : (rd h t).length ≤ 4611686018427387904) (hn : nro ≤ h.length) :
    vcall F nro k_impl_RefinedPartition [gv n s, t] h = some (lres h (refAns n (rd h s) (rd h t))) := c_impl_RefinedPartition n s t _ _ h hs.sli ht.sli h3 hn
theorem r_laws_heldInt64S (s : Value) (k : Int) (h : VH) (hs : isSli h s) (hk : 0 ≤ k) (hk2 : k + (rd h s).length ≤ 9223372036854775806) :
    vcall F nro k_laws_heldInt64S [s, .int .i64 k] h = some (.int .i64 (if rd h s = cnt k (rd h s).length then k + (rd h s).length else -1), h) := c_laws_heldInt64S s _ h hs.sli k hk hk2
theorem refAns_len {n : Int} {s t : Value} {rows xs : List Int} {h : VH} (hs : Sli h s rows) (ht : Sli h t xs) {r : List Int} (hr : refAns n rows xs = .inl r) : r.length ≤ 62 := by
  unfold refAns at hr
  split at hr
  · rename_i c
    obtain ⟨g, hl, hp⟩ := parC_zero c
    obtain ⟨N, rfl⟩ : ∃ N : Nat, n = N := ⟨n.toNat, by omega⟩
    have R := g.rok
    have hle := R.le
    have hlo := g.lo
    obtain ⟨l', k3, _⟩ := c_spec_l10Refined (nro := 0) h (by omega) N s t rows xs hs ht R (by omega) (by omega) hp
    rw [Int.toNat_natCast, refL_eq k3] at hr
    cases hr
    rw [k3.part.1]
    exact hle
  · cases hr
theorem law_RefinedPartition (n : Int) (s : Value) (rows : List Int) (u : Value) (xs : List Int) (h : VH) (hs : Sli h s rows) (hu : Sli h u xs) (h3 : rows.length ≤ 9223372036854775807) (h4 : xs.length ≤ 9223372036854775807) (hn : nro ≤ h.length) :
    vcall F nro k_laws_FnExactRefinedPartition [gv n s, u] h = some (.bool true, h) := by
  refine v_laws_FnExactRefinedPartition (by simp [i_laws_FnExactRefinedPartition]) ?_
  rw [fbody_eq]
  by_cases hx : 1048576 < (xs.length : Int)
  · simp (disch := first | assumption | omega | (simp [*] <;> omega) | fail) [i_laws_FnExactRefinedPartition, hu.vlen', hx]
  · have hc1 := c_laws_szGraph (nro := nro) n s rows 1048576 (bx h n s) (hs.app _) (by omega) (by omega) h3
    by_cases hr : 1048576 < (rows.length : Int)
    · rw [if_pos hr] at hc1
      simp (disch := first | assumption | omega | (simp [*] <;> omega) | fail) [i_laws_FnExactRefinedPartition, hu.vlen', hx, hc1]
    · rw [if_neg hr] at hc1
      have hr2 : ¬ (1048576 - (rows.length : Int) < 0) := by omega
      have h5 : rows.length ≤ 1048576 := by omega
      have h6 : xs.length ≤ 1048576 := by omega
      have p1 : ∀ k : Nat, (0 : Int) ≤ 1 + k := fun k => by omega
      have p2 : ∀ k : Nat, ¬ (1 + k : Int) < 0 := fun k => by omega
      have p3 : ∀ k j : Nat, ¬ (1 + k + j : Int) < 0 := fun k j => by omega
      have hn' := fun k => Nat.le_trans hn (Nat.le_add_right h.length k)
      have hsi := fun L => hs.is' (L := L)
      have hsr := fun L => hs.rd' (L := L)
      have hui := fun L => hu.is' (L := L)
      have hur := fun L => hu.rd' (L := L)
      have hul := fun L => hu.vlen' (L := L)
      cases hp : refAns n rows xs with
      | inl r =>
        have hl := refAns_len hs hu hp
        clear hs hu
        simp (disch := first | assumption | omega | (simp [*] <;> omega) | fail) [i_laws_FnExactRefinedPartition, hul, hx, hc1, hr2, r_laws_toGraph, r_laws_toInt64S, r_spec_RefinedPartition, r_impl_RefinedPartition, r_laws_eqGraph, r_laws_eqInt64S, r_laws_markGraph, r_laws_markInt64S, r_laws_heldInt64S, hp, hsi, hsr, hui, hur, hn', hn, h5, h6, hl, p1, p2, p3]
      | inr c =>
        clear hs hu
        simp (disch := first | assumption | omega | (simp [*] <;> omega) | fail) [i_laws_FnExactRefinedPartition, hul, hx, hc1, hr2, r_laws_toGraph, r_laws_toInt64S, r_spec_RefinedPartition, r_impl_RefinedPartition, r_laws_eqGraph, r_laws_eqInt64S, r_laws_markGraph, r_laws_markInt64S, c_laws_markInt64S_nil, r_laws_heldInt64S, hp, hsi, hsr, hui, hur, hn', hn, h5, h6, p1, p2, p3]
end Go.Proofs.Ytcdcmaakcldniaa.Zv

