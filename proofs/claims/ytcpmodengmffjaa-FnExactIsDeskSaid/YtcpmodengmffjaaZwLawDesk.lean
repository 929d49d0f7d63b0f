/- The law of IsDesk. -/
import Derived.Test.YtcpmodengmffjaaZwDesk
namespace Go.Proofs.Ytcpmodengmffjaa.Zv
open Go
variable {nro : Nat}

open Classical in
theorem c_spec_IsDesk (n : Int) (s : Value) (xs : List Int) (n' : Int) (s' : Value) (ys : List Int) (h : VH) (hs : Sli h s xs) (ht : Sli h s' ys) :
    vcall F nro k_spec_IsDesk [dv n s n' s'] h = some (.bool (decide (GV n xs ∧ DV n' ys)), h) := by
  refine v_spec_IsDesk (by simp [i_spec_IsDesk]) ?_
  rw [fbody_eq]
  have hc1 := c_spec_l01Is (nro := nro) n s xs (h ++ [⟨0, [.int .i64 n, s, .int .i64 n', s']⟩]) (hs.app _)
  have hc2 := c_spec_l08Is (nro := nro) n' s' ys (h ++ [⟨0, [.int .i64 n, s, .int .i64 n', s']⟩]) (ht.app _)
  by_cases g : GV n xs <;> by_cases d : DV n' ys <;> simp (disch := first | assumption | omega | (simp [*] <;> omega) | fail) [i_spec_IsDesk, hc1, hc2, g, d]

open Classical in
theorem c_impl_IsDesk (n : Int) (s : Value) (xs : List Int) (n' : Int) (s' : Value) (ys : List Int) (h : VH) (hs : Sli h s xs) (ht : Sli h s' ys) (hn : nro ≤ h.length) :
    vcall F nro k_impl_IsDesk [dv n s n' s'] h = some (.bool (decide (GV n xs ∧ DV n' ys)), h) := by
  refine v_impl_IsDesk (by simp [i_impl_IsDesk]) ?_
  rw [fbody_eq]
  have hc1 := c_impl_IsGraph (nro := nro) n s xs (h ++ [⟨0, [.int .i64 n, s, .int .i64 n', s']⟩]) (hs.app _)
  have hc2 := c_impl_IsDigraph (nro := nro) n' s' ys (h ++ [⟨0, [.int .i64 n, s, .int .i64 n', s']⟩]) (ht.app _) (by simp; omega)
  by_cases g : GV n xs <;> by_cases d : DV n' ys <;> simp (disch := first | assumption | omega | (simp [*] <;> omega) | fail) [i_impl_IsDesk, hc1, hc2, g, d]

open Classical in
theorem r_spec_IsDesk (n : Int) (s : Value) (n' : Int) (s' : Value) (h : VH) (hs : isSli h s) (ht : isSli h s') :
    vcall F nro k_spec_IsDesk [dv n s n' s'] h = some (.bool (decide (GV n (rd h s) ∧ DV n' (rd h s'))), h) := c_spec_IsDesk n s _ n' s' _ h hs.sli ht.sli
open Classical in
theorem r_impl_IsDesk (n : Int) (s : Value) (n' : Int) (s' : Value) (h : VH) (hs : isSli h s) (ht : isSli h s') (hn : nro ≤ h.length) :
    vcall F nro k_impl_IsDesk [dv n s n' s'] h = some (.bool (decide (GV n (rd h s) ∧ DV n' (rd h s'))), h) := c_impl_IsDesk n s _ n' s' _ h hs.sli ht.sli hn
theorem r_laws_toDesk (n : Int) (s : Value) (n' : Int) (s' : Value) (h : VH) (hs : isSli h s) (ht : isSli h s') (h3 : (rd h s).length ≤ 1099511627776) (h4 : (rd h s').length ≤ 1099511627776) (hn : nro ≤ h.length) :
    vcall F nro k_laws_toDesk [dv n s n' s'] h = some (dv n (.slice (some ⟨h.length, 0, none⟩) (rd h s).length (rd h s).length) n' (.slice (some ⟨h.length + 1, 0, none⟩) (rd h s').length (rd h s').length), h ++ [⟨1, ints (rd h s)⟩, ⟨1, ints (rd h s')⟩]) := c_laws_toDesk n s _ n' s' _ h hs.sli ht.sli h3 h4 hn
theorem r_laws_eqDesk (n m n' m' : Int) (s t s' t' : Value) (h : VH) (hs : isSli h s) (ht : isSli h t) (hs' : isSli h s') (ht' : isSli h t') (h3 : (rd h s).length ≤ 9223372036854775806) (h4 : (rd h s').length ≤ 9223372036854775806) :
    vcall F nro k_laws_eqDesk [dv n s n' s', dv m t m' t'] h = some (.bool (decide ((n = m ∧ rd h s = rd h t) ∧ n' = m' ∧ rd h s' = rd h t')), h) := c_laws_eqDesk n m n' m' s t s' t' _ _ _ _ h hs.sli ht.sli hs'.sli ht'.sli h3 h4

theorem law_IsDesk (n : Int) (s : Value) (xs : List Int) (n' : Int) (s' : Value) (ys : List Int) (h : VH) (hs : Sli h s xs) (ht : Sli h s' ys) (h3 : xs.length ≤ 9223372036854775807) (h4 : ys.length ≤ 9223372036854775807) (hn : nro ≤ h.length) :
    vcall F nro k_laws_FnExactIsDesk [dv n s n' s'] h = some (.bool true, h) := by
  refine v_laws_FnExactIsDesk (by simp [i_laws_FnExactIsDesk]) ?_
  rw [fbody_eq]
  have hc1 := c_laws_szDesk (nro := nro) n s xs n' s' ys 1048576 (h ++ [⟨0, [.int .i64 n, s, .int .i64 n', s']⟩]) (hs.app _) (ht.app _) (by omega) (by omega) h3 h4
  by_cases hr : 1048576 < (xs.length + ys.length : Int)
  · rw [if_pos hr] at hc1
    simp (disch := first | assumption | omega | (simp [*] <;> omega) | fail) [i_laws_FnExactIsDesk, hc1]
  · rw [if_neg hr] at hc1
    have hr2 : ¬ (1048576 - (xs.length : Int) - ys.length < 0) := by omega
    have h5 : xs.length ≤ 1048576 := by omega
    have h6 : ys.length ≤ 1048576 := by omega
    have hn' := fun k => Nat.le_trans hn (Nat.le_add_right h.length k)
    have hsi := fun L => hs.is' (L := L)
    have hti := fun L => ht.is' (L := L)
    have hsr := fun L => hs.rd' (L := L)
    have htr := fun L => ht.rd' (L := L)
    clear hs ht
    simp (disch := first | assumption | omega | (simp [*] <;> omega) | fail) [i_laws_FnExactIsDesk, hc1, hr2, Nat.add_assoc, r_laws_toDesk, r_spec_IsDesk, r_impl_IsDesk, r_laws_eqDesk, hsi, hti, hsr, htr, hn', h5, h6]
end Go.Proofs.Ytcpmodengmffjaa.Zv
