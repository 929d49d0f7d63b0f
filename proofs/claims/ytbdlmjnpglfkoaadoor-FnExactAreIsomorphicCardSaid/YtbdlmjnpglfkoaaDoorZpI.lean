/- Part I of the proof: ZwLawIso. Conditions: none. -/
import Derived.Test.YtbdlmjnpglfkoaaDoorZpH
set_option linter.unusedSimpArgs false
set_option linter.unusedVariables false
set_option linter.unusedSectionVars false
namespace Go.Proofs.YtbdlmjnpglfkoaaDoor.Zv
/- AreIsomorphic: the reference's, the law. -/
section
open Go
open Classical
variable {nro : Nat}
theorem cOf_zero (n : Nat) : cOf n (List.replicate (2 * n) 0) = noC n := by
 funext i
 unfold cOf noC
 split
 ·rw [List.take_replicate]; congr 1; omega
 ·rw [List.drop_replicate]; congr 1; omega
theorem c_zz48 (n m : Int) (s t : Value) (rows hrows : List Int) (h : VH) (hs : Sli h s rows) (ht : Sli h t hrows) (hn : nro ≤ h.length) :
  vcall F nro k_zz48 [gv n s, gv m t] h = some (.tuple #[.bool (isoA n rows m hrows).1, .int .i64 (isoA n rows m hrows).2], h) := by
 have hn' := fun k => Nat.le_trans hn (Nat.le_add_right h.length k)
 have hsc := fun k => hs.oldCk (k := k)
 have htc := fun k => ht.oldCk (k := k)
 have sj := hs.nj
 have tj := ht.nj
 have a1 := c_zz72 (nro := nro) n s rows (h ++ [⟨0, [.int .i64 n, s]⟩, ⟨0, [.int .i64 m, t]⟩]) (hs.app _)
 have a2 := c_zz72 (nro := nro) m t hrows (h ++ [⟨0, [.int .i64 n, s]⟩, ⟨0, [.int .i64 m, t]⟩]) (ht.app _)
 have hcl : ∀ (L : VH) (b : Bool) (c : Int), kclean h [.tuple #[.bool b, .int .i64 c]] (h ++ L) = ([.tuple #[.bool b, .int .i64 c]], h) := fun L b c => cleanup_upd (Upd.rfl' h) (by intro w hw; simp at hw; subst hw; intro r hr; simp [trefs, vrefs, crefs, arefs] at hr)
 refine v_zz48 (by simp [i_zz48]) ?_
 rw [fbody_eq]
 by_cases g1 : GV n rows
 ·rw [decide_eq_true g1] at a1
  by_cases g2 : GV m hrows
  ·rw [decide_eq_true g2] at a2
   have ea : isoA n rows m hrows = (decide (n = m ∧ HasIso (two rows hrows) n.toNat (noC n.toNat)), 0) := by unfold isoA; rw [if_pos ⟨g1, g2⟩]
   rw [ea]
   by_cases e : n = m
   ·subst e
    obtain ⟨N, rfl⟩ : ∃ N : Nat, n = N := ⟨n.toNat, by have := g1.lo; omega⟩
    have hlo := g1.lo
    have h62 := g1.rok.le
    rw [Int.toNat_natCast]
    have w2 : IntKind.i64.wrap (2 * (N : Int)) = ((2 * N : Nat) : Int) := by rw [show 2 * (N : Int) = ((2 * N : Nat) : Int) by omega]; exact wrap64 (by omega) (by omega)
    have e8 : 8 * ((2 * N : Nat) : Int) ≤ 140737488355328 := by omega
    have e9 : ((2 * N : Nat) : Int) ≤ 140737488355328 := by omega
    have k1 := lead_ok (nro := nro) g1.rok g2.rok (by omega) (2 * N) (h := h ++ [⟨0, [.int .i64 N, s]⟩, ⟨0, [.int .i64 N, t]⟩, ⟨1, ints (List.replicate (2 * N) 0)⟩]) (s := s) (t := t) (lq := .slice (some ⟨h.length + 2, 0, none⟩) (2 * N) (2 * N)) (l := List.replicate (2 * N) 0) (j := 0) (by simp; omega) (hs.app _) (ht.app _) (by
     have := sli_at (h := h ++ [⟨0, [.int .i64 N, s]⟩, ⟨0, [.int .i64 N, t]⟩, ⟨1, ints (List.replicate (2 * N) 0)⟩]) (b := h.length + 2) (xs := List.replicate (2 * N) 0) (by simp)
     rwa [List.length_replicate] at this) (by simp) ⟨fun i => i, fun i hi => by omega, fun a b ha => by omega⟩ (by omega)
    rw [cOf_zero] at k1
    have hd : decide ((N : Int) = N ∧ HasIso (two rows hrows) N (noC N)) = decide (HasIso (two rows hrows) N (noC N)) := decide_eq_decide.mpr ⟨fun h => h.2, fun h => ⟨rfl, h⟩⟩
    rw [hd]
    generalize decide (HasIso (two rows hrows) N (noC N)) = fb at *
    have hz1 : List.replicate (2 * N) (Value.int .i64 0) = ints (List.replicate (2 * N) 0) := by unfold ints; rw [List.map_replicate]
    generalize hzz : List.replicate (2 * N) (0 : Int) = z at *
    generalize 2 * N = n2 at *
    clear hs ht g1 g2 ea hd hzz
    simp at sj tj
    simp (disch := first | assumption | omega | (simp [*] <;> omega) | fail) [i_zz48, a1, a2, k1, w2, e8, e9, hz1, hcl, hsc, htc, sj, tj, hn', hn, fresults, fresL, fres1]
   ·have hd : decide (n = m ∧ HasIso (two rows hrows) n.toNat (noC n.toNat)) = false := decide_eq_false fun h => e h.1
    rw [hd]
    clear hs ht g1 g2 ea hd
    simp at sj tj
    simp (disch := first | assumption | omega | (simp [*] <;> omega) | fail) [i_zz48, a1, a2, e, hcl, hsc, htc, sj, tj, hn', hn, fresults, fresL, fres1]
  ·have ea : isoA n rows m hrows = (false, 1) := by unfold isoA; rw [if_neg fun h => g2 h.2]
   rw [ea]
   rw [decide_eq_false g2] at a2
   clear hs ht g1 g2 ea
   simp at sj tj
   simp (disch := first | assumption | omega | (simp [*] <;> omega) | fail) [i_zz48, a1, a2, hcl, hsc, htc, sj, tj, hn', hn, fresults, fresL, fres1]
 ·have ea : isoA n rows m hrows = (false, 1) := by unfold isoA; rw [if_neg fun h => g1 h.1]
  rw [ea]
  rw [decide_eq_false g1] at a1
  clear hs ht g1 ea
  simp at sj tj
  simp (disch := first | assumption | omega | (simp [*] <;> omega) | fail) [i_zz48, a1, hcl, hsc, htc, sj, tj, hn', hn, fresults, fresL, fres1]
theorem r_zz48 (n m : Int) (s t : Value) (h : VH) (hs : isSli h s) (ht : isSli h t) (hn : nro ≤ h.length) :
  vcall F nro k_zz48 [gv n s, gv m t] h = some (.tuple #[.bool (isoA n (rd h s) m (rd h t)).1, .int .i64 (isoA n (rd h s) m (rd h t)).2], h) := c_zz48 n m s t _ _ h hs.sli ht.sli hn
theorem r_zz46 (n m : Int) (s t : Value) (h : VH) (hs : isSli h s) (ht : isSli h t) (hn : nro ≤ h.length) :
  vcall F nro k_zz46 [gv n s, gv m t] h = some (.tuple #[.bool (isoA n (rd h s) m (rd h t)).1, .int .i64 (isoA n (rd h s) m (rd h t)).2], h) := c_zz46 n m s t _ _ h hs.sli ht.sli hn
theorem law_AreIsomorphic (n : Int) (s : Value) (rows : List Int) (m : Int) (t : Value) (hrows : List Int) (h : VH) (hs : Sli h s rows) (ht : Sli h t hrows) (h3 : rows.length ≤ 9223372036854775807) (h4 : hrows.length ≤ 9223372036854775807) (hn : nro ≤ h.length) :
  vcall F nro k_zz30 [gv n s, gv m t] h = some (.bool true, h) := by
 refine v_zz30 (by simp [i_zz30]) ?_
 rw [fbody_eq]
 have hc1 := c_zz65 (nro := nro) n s rows 1048576 (cH h n s m t) (hs.app _) (by omega) (by omega) h3
 by_cases hr : 1048576 < (rows.length : Int)
 ·rw [if_pos hr] at hc1
  simp (disch := first | assumption | omega | (simp [*] <;> omega) | fail) [i_zz30, hc1]
 ·rw [if_neg hr] at hc1
  have hr2 : ¬ (1048576 - (rows.length : Int) < 0) := by omega
  have hc2 := c_zz65 (nro := nro) m t hrows (1048576 - rows.length) (cH h n s m t) (ht.app _) (by omega) (by omega) h4
  by_cases hq : 1048576 - (rows.length : Int) < (hrows.length : Int)
  ·rw [if_pos hq] at hc2
   simp (disch := first | assumption | omega | (simp [*] <;> omega) | fail) [i_zz30, hc1, hr2, hc2]
  ·rw [if_neg hq] at hc2
   have hq2 : ¬ (1048576 - (rows.length : Int) - hrows.length < 0) := by omega
   have h6 : rows.length ≤ 1048576 := by omega
   have h7 : hrows.length ≤ 1048576 := by omega
   have hn' := fun k => Nat.le_trans hn (Nat.le_add_right h.length k)
   have hsi := fun L => hs.is' (L := L)
   have hti := fun L => ht.is' (L := L)
   have hsr := fun L => hs.rd' (L := L)
   have htr := fun L => ht.rd' (L := L)
   clear hs ht
   obtain ⟨⟨b, c⟩, hp⟩ : ∃ z, z = isoA n rows m hrows := ⟨_, rfl⟩
   simp (disch := first | assumption | omega | (simp [*] <;> omega) | fail) [i_zz30, hc1, hr2, hc2, hq2, r_zz66, r_zz48, r_zz46, r_zz64, ← hp, hsi, hti, hsr, htr, hn', h6, h7]
end

end Go.Proofs.YtbdlmjnpglfkoaaDoor.Zv

