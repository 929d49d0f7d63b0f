/- The laws of PutEdge and TakeEdge. -/
import Derived.Test.YtcpmodengmffjaaZwEdge
namespace Go.Proofs.Ytcpmodengmffjaa.Zv
open Go
variable {nro : Nat}

open Classical in
noncomputable def putAns (n : Int) (rows : List Int) (a b : Int) : GAns := if pairC n rows a b ≠ 0 then .inr (pairC n rows a b) else if rbit rows a.toNat b.toNat = true then .inr 5 else .inl (n, put2 rows a b)
open Classical in
noncomputable def takeAns (n : Int) (rows : List Int) (a b : Int) : GAns := if pairC n rows a b ≠ 0 then .inr (pairC n rows a b) else if rbit rows a.toNat b.toNat = true then .inl (n, cut2 rows a b) else .inr 5

theorem pairC_zero {n : Int} {rows : List Int} {a b : Int} (h : pairC n rows a b = 0) : GV n rows ∧ (0 ≤ a ∧ a < n) ∧ (0 ≤ b ∧ b < n) ∧ a ≠ b := by
  unfold pairC at h
  split at h
  · rename_i g
    split at h
    · rename_i h1; exact ⟨g, h1⟩
    · cases h
  · cases h

theorem c_spec_PutEdge (n a b : Int) (s : Value) (rows : List Int) (h : VH) (hs : Sli h s rows) (hn : nro ≤ h.length) :
    vcall F nro k_spec_PutEdge [gv n s, .int .i64 a, .int .i64 b] h = some (gres h (putAns n rows a b)) := by
  refine v_spec_PutEdge (by simp [i_spec_PutEdge]) ?_
  rw [fbody_eq]
  have hn' := fun k => Nat.le_trans hn (Nat.le_add_right h.length k)
  have hc := c_spec_l01Two (nro := nro) n a b s rows (h ++ [⟨0, [.int .i64 n, s]⟩, ⟨0, [.int .i64 0, .slice none 0 0]⟩]) (hs.app _) (by simp; omega)
  by_cases hz : pairC n rows a b = 0
  · obtain ⟨g, ⟨a1, a2⟩, ⟨b1, b2⟩, hne⟩ := pairC_zero hz
    have hl := g.len
    have hN := g.hi
    have hp := pow_le62 hN
    obtain ⟨r1, r2, _⟩ := g.row a.toNat (by omega)
    have hh := c_spec_l01Has' (nro := nro) n a b s rows (h ++ [⟨0, [.int .i64 n, s]⟩, ⟨0, [.int .i64 0, .slice none 0 0]⟩]) (hs.app _) a1 (by omega) b1 (by omega) r1 (by omega)
    rw [hz] at hc
    by_cases hb : rbit rows a.toNat b.toNat = true
    · have e : putAns n rows a b = .inr 5 := by simp [putAns, hz, hb]
      simp (disch := first | assumption | omega | (simp [*] <;> omega) | fail) [i_spec_PutEdge, hc, hh, hb, e, fresults, fresL, fres1, hn']
    · have e : putAns n rows a b = .inl (n, put2 rows a b) := by simp [putAns, hz, hb]
      have hj := c_spec_l01Join (nro := nro) n a b s rows (h ++ [⟨0, [.int .i64 n, s]⟩, ⟨0, [.int .i64 0, .slice none 0 0]⟩]) (hs.app _) (by simp; omega) (by omega) a1 (by omega) b1 (by omega)
      simp at hj
      simp (disch := first | assumption | omega | (simp [*] <;> omega) | fail) [i_spec_PutEdge, hc, hh, hb, hj, e, fresults, fresL, fres1, hn']
  · have e : putAns n rows a b = .inr (pairC n rows a b) := by simp [putAns, hz]
    simp (disch := first | assumption | omega | (simp [*] <;> omega) | fail) [i_spec_PutEdge, hc, hz, e, fresults, fresL, fres1, hn']

theorem c_impl_PutEdge (n a b : Int) (s : Value) (rows : List Int) (h : VH) (hs : Sli h s rows) (hn : nro ≤ h.length) :
    vcall F nro k_impl_PutEdge [gv n s, .int .i64 a, .int .i64 b] h = some (gres h (putAns n rows a b)) := by
  refine v_impl_PutEdge (by simp [i_impl_PutEdge]) ?_
  rw [fbody_eq]
  have hn' := fun k => Nat.le_trans hn (Nat.le_add_right h.length k)
  have hc := c_impl_pairCode (nro := nro) n a b s rows (h ++ [⟨0, [.int .i64 n, s]⟩, ⟨0, [.int .i64 0, .slice none 0 0]⟩]) (hs.app _) (by simp; omega)
  by_cases hz : pairC n rows a b = 0
  · obtain ⟨g, ⟨a1, a2⟩, ⟨b1, b2⟩, hne⟩ := pairC_zero hz
    have hl := g.len
    have hlo := g.lo
    have hN := g.hi
    have hp := pow_le62 hN
    obtain ⟨r1, r2, _⟩ := g.row a.toNat (by omega)
    have hh := c_impl_Graph_has (nro := nro) n a b s rows (h ++ [⟨0, [.int .i64 n, s]⟩, ⟨0, [.int .i64 0, .slice none 0 0]⟩]) (hs.app _) a1 (by omega) b1 (by omega) r1 (by omega)
    rw [hz] at hc
    by_cases hb : rbit rows a.toNat b.toNat = true
    · have e : putAns n rows a b = .inr 5 := by simp [putAns, hz, hb]
      simp (disch := first | assumption | omega | (simp [*] <;> omega) | fail) [i_impl_PutEdge, hc, hh, hb, e, fresults, fresL, fres1, hn']
    · have e : putAns n rows a b = .inl (n, put2 rows a b) := by simp [putAns, hz, hb]
      have hj := c_impl_own (nro := nro) n s rows (h ++ [⟨0, [.int .i64 n, s]⟩, ⟨0, [.int .i64 0, .slice none 0 0]⟩]) (hs.app _) (by intro e; simp [e] at hl; omega) (by omega) (by simp; omega)
      have hp := c_impl_Graph_put (nro := nro) n (h.length + 2) rows.length a b rows (h ++ [⟨0, [.int .i64 n, s]⟩, ⟨0, [.int .i64 0, .slice none 0 0]⟩, ⟨1, ints rows⟩, ⟨0, [.int .i64 n, .slice (some ⟨h.length + 2, 0, none⟩) rows.length rows.length]⟩]) (by simp) rfl (by omega) a1 (by omega) b1 (by omega) (by omega)
      rw [if_neg hne] at hp
      simp at hj hp
      simp (disch := first | assumption | omega | (simp [*] <;> omega) | fail) [i_impl_PutEdge, hc, hh, hb, hj, hp, e, fresults, fresL, fres1, hn']
  · have e : putAns n rows a b = .inr (pairC n rows a b) := by simp [putAns, hz]
    simp (disch := first | assumption | omega | (simp [*] <;> omega) | fail) [i_impl_PutEdge, hc, hz, e, fresults, fresL, fres1, hn']

theorem c_spec_TakeEdge (n a b : Int) (s : Value) (rows : List Int) (h : VH) (hs : Sli h s rows) (hn : nro ≤ h.length) :
    vcall F nro k_spec_TakeEdge [gv n s, .int .i64 a, .int .i64 b] h = some (gres h (takeAns n rows a b)) := by
  refine v_spec_TakeEdge (by simp [i_spec_TakeEdge]) ?_
  rw [fbody_eq]
  have hn' := fun k => Nat.le_trans hn (Nat.le_add_right h.length k)
  have hc := c_spec_l01Two (nro := nro) n a b s rows (h ++ [⟨0, [.int .i64 n, s]⟩, ⟨0, [.int .i64 0, .slice none 0 0]⟩]) (hs.app _) (by simp; omega)
  by_cases hz : pairC n rows a b = 0
  · obtain ⟨g, ⟨a1, a2⟩, ⟨b1, b2⟩, hne⟩ := pairC_zero hz
    have hl := g.len
    have hN := g.hi
    have hp := pow_le62 hN
    obtain ⟨r1, r2, _⟩ := g.row a.toNat (by omega)
    have hh := c_spec_l01Has' (nro := nro) n a b s rows (h ++ [⟨0, [.int .i64 n, s]⟩, ⟨0, [.int .i64 0, .slice none 0 0]⟩]) (hs.app _) a1 (by omega) b1 (by omega) r1 (by omega)
    rw [hz] at hc
    by_cases hb : rbit rows a.toNat b.toNat = true
    · have e : takeAns n rows a b = .inl (n, cut2 rows a b) := by simp [takeAns, hz, hb]
      have hj := c_spec_l01Cut (nro := nro) n a b s rows (h ++ [⟨0, [.int .i64 n, s]⟩, ⟨0, [.int .i64 0, .slice none 0 0]⟩]) (hs.app _) (by simp; omega) g a1 (by omega) b1 (by omega) hne hb
      simp at hj
      simp (disch := first | assumption | omega | (simp [*] <;> omega) | fail) [i_spec_TakeEdge, hc, hh, hb, hj, e, fresults, fresL, fres1, hn']
    · have e : takeAns n rows a b = .inr 5 := by simp [takeAns, hz, hb]
      simp (disch := first | assumption | omega | (simp [*] <;> omega) | fail) [i_spec_TakeEdge, hc, hh, hb, e, fresults, fresL, fres1, hn']
  · have e : takeAns n rows a b = .inr (pairC n rows a b) := by simp [takeAns, hz]
    simp (disch := first | assumption | omega | (simp [*] <;> omega) | fail) [i_spec_TakeEdge, hc, hz, e, fresults, fresL, fres1, hn']

theorem c_impl_TakeEdge (n a b : Int) (s : Value) (rows : List Int) (h : VH) (hs : Sli h s rows) (hn : nro ≤ h.length) :
    vcall F nro k_impl_TakeEdge [gv n s, .int .i64 a, .int .i64 b] h = some (gres h (takeAns n rows a b)) := by
  refine v_impl_TakeEdge (by simp [i_impl_TakeEdge]) ?_
  rw [fbody_eq]
  have hn' := fun k => Nat.le_trans hn (Nat.le_add_right h.length k)
  have hc := c_impl_pairCode (nro := nro) n a b s rows (h ++ [⟨0, [.int .i64 n, s]⟩, ⟨0, [.int .i64 0, .slice none 0 0]⟩]) (hs.app _) (by simp; omega)
  by_cases hz : pairC n rows a b = 0
  · obtain ⟨g, ⟨a1, a2⟩, ⟨b1, b2⟩, hne⟩ := pairC_zero hz
    have hl := g.len
    have hlo := g.lo
    have hN := g.hi
    have hp := pow_le62 hN
    obtain ⟨r1, r2, _⟩ := g.row a.toNat (by omega)
    obtain ⟨s1, s2, _⟩ := g.row b.toNat (by omega)
    have hh := c_impl_Graph_has (nro := nro) n a b s rows (h ++ [⟨0, [.int .i64 n, s]⟩, ⟨0, [.int .i64 0, .slice none 0 0]⟩]) (hs.app _) a1 (by omega) b1 (by omega) r1 (by omega)
    rw [hz] at hc
    by_cases hb : rbit rows a.toNat b.toNat = true
    · have e : takeAns n rows a b = .inl (n, cut2 rows a b) := by simp [takeAns, hz, hb]
      have hb2 : rbit rows b.toNat a.toNat = true := by rw [← g.sym a.toNat b.toNat (by omega) (by omega)]; exact hb
      have hj := c_impl_own (nro := nro) n s rows (h ++ [⟨0, [.int .i64 n, s]⟩, ⟨0, [.int .i64 0, .slice none 0 0]⟩]) (hs.app _) (by intro e; simp [e] at hl; omega) (by omega) (by simp; omega)
      have hp := c_impl_Graph_take (nro := nro) n (h.length + 2) rows.length a b rows (h ++ [⟨0, [.int .i64 n, s]⟩, ⟨0, [.int .i64 0, .slice none 0 0]⟩, ⟨1, ints rows⟩, ⟨0, [.int .i64 n, .slice (some ⟨h.length + 2, 0, none⟩) rows.length rows.length]⟩]) (by simp) rfl (by omega) a1 (by omega) b1 (by omega) (by omega) hne r1 (by omega) hb s1 (by omega) hb2
      simp at hj hp
      simp (disch := first | assumption | omega | (simp [*] <;> omega) | fail) [i_impl_TakeEdge, hc, hh, hb, hj, hp, e, fresults, fresL, fres1, hn']
    · have e : takeAns n rows a b = .inr 5 := by simp [takeAns, hz, hb]
      simp (disch := first | assumption | omega | (simp [*] <;> omega) | fail) [i_impl_TakeEdge, hc, hh, hb, e, fresults, fresL, fres1, hn']
  · have e : takeAns n rows a b = .inr (pairC n rows a b) := by simp [takeAns, hz]
    simp (disch := first | assumption | omega | (simp [*] <;> omega) | fail) [i_impl_TakeEdge, hc, hz, e, fresults, fresL, fres1, hn']

theorem putAns_len {n : Int} {rows : List Int} {a b m : Int} {r : List Int} (e : putAns n rows a b = .inl (m, r)) : r.length ≤ 62 := by
  unfold putAns at e
  split at e
  · cases e
  · rename_i hz
    obtain ⟨g, _⟩ := pairC_zero (Classical.not_not.mp hz)
    split at e
    · cases e
    · cases e
      have := g.len
      have := g.hi
      simp; omega
theorem takeAns_len {n : Int} {rows : List Int} {a b m : Int} {r : List Int} (e : takeAns n rows a b = .inl (m, r)) : r.length ≤ 62 := by
  unfold takeAns at e
  split at e
  · cases e
  · rename_i hz
    obtain ⟨g, _⟩ := pairC_zero (Classical.not_not.mp hz)
    split at e
    · cases e
      have := g.len
      have := g.hi
      simp; omega
    · cases e

theorem r_spec_PutEdge (n a b : Int) (s : Value) (h : VH) (hs : isSli h s) (hn : nro ≤ h.length) : vcall F nro k_spec_PutEdge [gv n s, .int .i64 a, .int .i64 b] h = some (gres h (putAns n (rd h s) a b)) := c_spec_PutEdge n a b s _ h hs.sli hn
theorem r_impl_PutEdge (n a b : Int) (s : Value) (h : VH) (hs : isSli h s) (hn : nro ≤ h.length) : vcall F nro k_impl_PutEdge [gv n s, .int .i64 a, .int .i64 b] h = some (gres h (putAns n (rd h s) a b)) := c_impl_PutEdge n a b s _ h hs.sli hn
theorem r_spec_TakeEdge (n a b : Int) (s : Value) (h : VH) (hs : isSli h s) (hn : nro ≤ h.length) : vcall F nro k_spec_TakeEdge [gv n s, .int .i64 a, .int .i64 b] h = some (gres h (takeAns n (rd h s) a b)) := c_spec_TakeEdge n a b s _ h hs.sli hn
theorem r_impl_TakeEdge (n a b : Int) (s : Value) (h : VH) (hs : isSli h s) (hn : nro ≤ h.length) : vcall F nro k_impl_TakeEdge [gv n s, .int .i64 a, .int .i64 b] h = some (gres h (takeAns n (rd h s) a b)) := c_impl_TakeEdge n a b s _ h hs.sli hn

theorem law_PutEdge (n : Int) (s : Value) (rows : List Int) (a b : Int) (h : VH) (hs : Sli h s rows) (h3 : rows.length ≤ 9223372036854775807) (_ : -9223372036854775808 ≤ a) (_ : a ≤ 9223372036854775807) (_ : -9223372036854775808 ≤ b) (_ : b ≤ 9223372036854775807) (hn : nro ≤ h.length) :
    vcall F nro k_laws_FnExactPutEdge [gv n s, .int .i64 a, .int .i64 b] h = some (.bool true, h) := by
  refine v_laws_FnExactPutEdge (by simp [i_laws_FnExactPutEdge]) ?_
  rw [fbody_eq]
  have hc1 := c_laws_szGraph (nro := nro) n s rows 1048576 (bx h n s) (hs.app _) (by omega) (by omega) h3
  by_cases hr : 1048576 < (rows.length : Int)
  · rw [if_pos hr] at hc1
    simp (disch := first | assumption | omega | (simp [*] <;> omega) | fail) [i_laws_FnExactPutEdge, hc1]
  · rw [if_neg hr] at hc1
    have hr2 : ¬ (1048576 - (rows.length : Int) < 0) := by omega
    have h5 : rows.length ≤ 1048576 := by omega
    have p1 : ∀ k : Nat, (0 : Int) ≤ 1 + k := fun k => by omega
    have p2 : ∀ k : Nat, ¬ (1 + k : Int) < 0 := fun k => by omega
    have hn' := fun k => Nat.le_trans hn (Nat.le_add_right h.length k)
    have hsi := fun L => hs.is' (L := L)
    have hsr := fun L => hs.rd' (L := L)
    clear hs
    cases hp : putAns n rows a b with
    | inl q =>
      obtain ⟨m, r⟩ := q
      have hl := putAns_len hp
      simp (disch := first | assumption | omega | (simp [*] <;> omega) | fail) [i_laws_FnExactPutEdge, hc1, hr2, r_laws_toGraph, r_spec_PutEdge, r_impl_PutEdge, r_laws_eqGraph, r_laws_markGraph, r_laws_heldGraph, hp, hsi, hsr, hn', hn, h5, hl, p1, p2]
    | inr c =>
      simp (disch := first | assumption | omega | (simp [*] <;> omega) | fail) [i_laws_FnExactPutEdge, hc1, hr2, r_laws_toGraph, r_spec_PutEdge, r_impl_PutEdge, r_laws_eqGraph, r_laws_markGraph, r_laws_markGraph_nil, r_laws_heldGraph, hp, hsi, hsr, hn', hn, h5, p1, p2]

theorem law_TakeEdge (n : Int) (s : Value) (rows : List Int) (a b : Int) (h : VH) (hs : Sli h s rows) (h3 : rows.length ≤ 9223372036854775807) (_ : -9223372036854775808 ≤ a) (_ : a ≤ 9223372036854775807) (_ : -9223372036854775808 ≤ b) (_ : b ≤ 9223372036854775807) (hn : nro ≤ h.length) :
    vcall F nro k_laws_FnExactTakeEdge [gv n s, .int .i64 a, .int .i64 b] h = some (.bool true, h) := by
  refine v_laws_FnExactTakeEdge (by simp [i_laws_FnExactTakeEdge]) ?_
  rw [fbody_eq]
  have hc1 := c_laws_szGraph (nro := nro) n s rows 1048576 (bx h n s) (hs.app _) (by omega) (by omega) h3
  by_cases hr : 1048576 < (rows.length : Int)
  · rw [if_pos hr] at hc1
    simp (disch := first | assumption | omega | (simp [*] <;> omega) | fail) [i_laws_FnExactTakeEdge, hc1]
  · rw [if_neg hr] at hc1
    have hr2 : ¬ (1048576 - (rows.length : Int) < 0) := by omega
    have h5 : rows.length ≤ 1048576 := by omega
    have p1 : ∀ k : Nat, (0 : Int) ≤ 1 + k := fun k => by omega
    have p2 : ∀ k : Nat, ¬ (1 + k : Int) < 0 := fun k => by omega
    have hn' := fun k => Nat.le_trans hn (Nat.le_add_right h.length k)
    have hsi := fun L => hs.is' (L := L)
    have hsr := fun L => hs.rd' (L := L)
    clear hs
    cases hp : takeAns n rows a b with
    | inl q =>
      obtain ⟨m, r⟩ := q
      have hl := takeAns_len hp
      simp (disch := first | assumption | omega | (simp [*] <;> omega) | fail) [i_laws_FnExactTakeEdge, hc1, hr2, r_laws_toGraph, r_spec_TakeEdge, r_impl_TakeEdge, r_laws_eqGraph, r_laws_markGraph, r_laws_heldGraph, hp, hsi, hsr, hn', hn, h5, hl, p1, p2]
    | inr c =>
      simp (disch := first | assumption | omega | (simp [*] <;> omega) | fail) [i_laws_FnExactTakeEdge, hc1, hr2, r_laws_toGraph, r_spec_TakeEdge, r_impl_TakeEdge, r_laws_eqGraph, r_laws_markGraph, r_laws_markGraph_nil, r_laws_heldGraph, hp, hsi, hsr, hn', hn, h5, p1, p2]
end Go.Proofs.Ytcpmodengmffjaa.Zv
