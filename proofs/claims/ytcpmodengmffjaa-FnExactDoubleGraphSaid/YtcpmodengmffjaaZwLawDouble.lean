/- The law of DoubleGraph. -/
import Derived.Test.YtcpmodengmffjaaZwMade
namespace Go.Proofs.Ytcpmodengmffjaa.Zv
open Go
variable {nro : Nat}

theorem r_spec_DoubleGraph (n : Int) (s : Value) (h : VH) (hs : isSli h s) (hn : nro ≤ h.length) : vcall F nro k_spec_DoubleGraph [gv n s] h = some (gres h (dblAns n (rd h s))) := c_spec_DoubleGraph n s _ h hs.sli hn
theorem r_impl_DoubleGraph (n : Int) (s : Value) (h : VH) (hs : isSli h s) (hn : nro ≤ h.length) : vcall F nro k_impl_DoubleGraph [gv n s] h = some (gres h (dblAns n (rd h s))) := c_impl_DoubleGraph n s _ h hs.sli hn

theorem law_DoubleGraph (n : Int) (s : Value) (rows : List Int) (h : VH) (hs : Sli h s rows) (h3 : rows.length ≤ 9223372036854775807) (hn : nro ≤ h.length) :
    vcall F nro k_laws_FnExactDoubleGraph [gv n s] h = some (.bool true, h) := by
  refine v_laws_FnExactDoubleGraph (by simp [i_laws_FnExactDoubleGraph]) ?_
  rw [fbody_eq]
  have hc1 := c_laws_szGraph (nro := nro) n s rows 1048576 (bx h n s) (hs.app _) (by omega) (by omega) h3
  by_cases hr : 1048576 < (rows.length : Int)
  · rw [if_pos hr] at hc1
    simp (disch := first | assumption | omega | (simp [*] <;> omega) | fail) [i_laws_FnExactDoubleGraph, hc1]
  · rw [if_neg hr] at hc1
    have hr2 : ¬ (1048576 - (rows.length : Int) < 0) := by omega
    have h5 : rows.length ≤ 1048576 := by omega
    have p1 : ∀ k : Nat, (0 : Int) ≤ 1 + k := fun k => by omega
    have p2 : ∀ k : Nat, ¬ (1 + k : Int) < 0 := fun k => by omega
    have hn' := fun k => Nat.le_trans hn (Nat.le_add_right h.length k)
    have hsi := fun L => hs.is' (L := L)
    have hsr := fun L => hs.rd' (L := L)
    clear hs
    have hlen : ∀ m r, dblAns n rows = .inl (m, r) → r.length ≤ 62 := by
      intro m r e
      exact dbl_len e
    cases hp : dblAns n rows with
    | inl q =>
      obtain ⟨m, r⟩ := q
      have hl := hlen m r hp
      simp (disch := first | assumption | omega | (simp [*] <;> omega) | fail) [i_laws_FnExactDoubleGraph, hc1, hr2, r_laws_toGraph, r_spec_DoubleGraph, r_impl_DoubleGraph, r_laws_eqGraph, r_laws_markGraph, r_laws_heldGraph, hp, hsi, hsr, hn', hn, h5, hl, p1, p2]
    | inr c =>
      simp (disch := first | assumption | omega | (simp [*] <;> omega) | fail) [i_laws_FnExactDoubleGraph, hc1, hr2, r_laws_toGraph, r_spec_DoubleGraph, r_impl_DoubleGraph, r_laws_eqGraph, r_laws_markGraph, r_laws_markGraph_nil, r_laws_heldGraph, hp, hsi, hsr, hn', hn, h5, p1, p2]
end Go.Proofs.Ytcpmodengmffjaa.Zv
