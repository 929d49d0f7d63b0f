/- DoubleGraph. -/
import Derived.Test.YtcpmodengmffjaaZwAdj
import Derived.Test.YtcpmodengmffjaaZwMark
namespace Go.Proofs.Ytcpmodengmffjaa.Zv
open Go
variable {nro : Nat}

/-- The heap in the reference's loops. -/
abbrev dH (h : VH) (n : Int) (s : Value) (N : Nat) (r : List Int) : VH := h ++ [⟨0, [.int .i64 n, s]⟩, ⟨0, [.int .i64 0, .slice none 0 0]⟩, ⟨1, ints r⟩, ⟨0, [.int .i64 (2 * n), .slice (some ⟨h.length + 2, 0, none⟩) N N]⟩]

theorem l_spec_DoubleGraph_1 (n : Int) (s : Value) (rows : List Int) (h : VH) (hs : Sli h s rows) (hn : nro ≤ h.length) (g : GV n rows) (hn2 : 2 * n ≤ 62) (N : Nat) (hN : (N : Int) = 2 * n) (v : Int) (hv : 0 ≤ v) (hvn : v < n) (r0 : List Int) (w : Int) (hw : 0 ≤ w) (hwn : w ≤ n) (r : List Int) (adj : Nat → Nat → Prop) (ha : IsAdj N r adj) :
    ∃ r', floop (vcall F nro) nro [1, 2, 4, 5, 6] i_spec_DoubleGraph_B1 (dH h n s N r0) [.pointer (some ⟨h.length, 0, some 2⟩), .pointer (some ⟨h.length + 1, 0, some 2⟩), .pointer (some ⟨h.length + 3, 0, some 2⟩), .int .i64 v, .int .i64 w] (dH h n s N r) =
      some (.exit 3, fl [(1, .pointer (some ⟨h.length, 0, some 2⟩)), (2, .pointer (some ⟨h.length + 1, 0, some 2⟩)), (4, .pointer (some ⟨h.length + 3, 0, some 2⟩)), (5, .int .i64 v)], dH h n s N r') ∧
      IsAdj N r' (fun x y => adj x y ∨ ∃ k : Nat, w.toNat ≤ k ∧ k < n.toNat ∧ rbit rows v.toNat k = true ∧ ((x = v.toNat ∧ y = n.toNat + k) ∨ (x = n.toNat + k ∧ y = v.toNat))) := by
  have hn' := fun k => Nat.le_trans hn (Nat.le_add_right h.length k)
  have hso := fun k => hs.oldk (k := k)
  have hsc := fun k => hs.oldCk (k := k)
  have hlen := g.len
  have hp := pow_le62 g.hi
  obtain ⟨g1, g2, _⟩ := g.row v.toNat (by omega)
  have e1 : rows.getD v.toNat 0 = rows[v.toNat]'(by omega) := getD_at _ (by omega)
  rw [floop_at i_spec_DoubleGraph_B1.eq_1]
  by_cases hlt : w < n
  · have hbit := bit_int g1 (by omega) (show w ≤ 64 by omega)
    by_cases hb : (rows.getD v.toNat 0).toNat.testBit w.toNat = true
    · have hc := c_spec_l04With (nro := nro) (2 * n) (h.length + 2) N v (n + w) r (dH h n s N r) (by simp) ha.1 (by omega) hv (by omega) (by omega) (by omega) (by omega)
      simp at hc
      obtain ⟨r', ih1, ih2⟩ := l_spec_DoubleGraph_1 n s rows h hs hn g hn2 N hN v hv hvn r0 (w + 1) (by omega) (by omega) (put2 r v (n + w)) _ (ha.put2 hv (by omega) (by omega) (by omega) (by omega))
      refine ⟨r', ?_, ih2.congr fun x y _ => ?_⟩
      · have hb2 := hbit.mpr hb
        rw [e1] at hb2
        simp (disch := first | assumption | omega | (simp [*] <;> omega) | fail) [hs.vidx', hs.vload', wrap64, wrapu64, hlt, hb2, hc, hn', ih1, hsc]
      · rw [show (w + 1).toNat = w.toNat + 1 by omega, show (n + w).toNat = n.toNat + w.toNat by omega]
        constructor
        · rintro ((h1 | h1 | h1) | ⟨k, h1, h2, h3, h4⟩)
          · exact .inl h1
          · exact .inr ⟨w.toNat, Nat.le_refl _, by omega, hb, .inl h1⟩
          · exact .inr ⟨w.toNat, Nat.le_refl _, by omega, hb, .inr h1⟩
          · exact .inr ⟨k, by omega, h2, h3, h4⟩
        · rintro (h1 | ⟨k, h1, h2, h3, h4⟩)
          · exact .inl (.inl h1)
          · by_cases e : k = w.toNat
            · subst e; exact .inl (.inr h4)
            · exact .inr ⟨k, by omega, h2, h3, h4⟩
    · obtain ⟨r', ih1, ih2⟩ := l_spec_DoubleGraph_1 n s rows h hs hn g hn2 N hN v hv hvn r0 (w + 1) (by omega) (by omega) r _ ha
      refine ⟨r', ?_, ih2.congr fun x y _ => ?_⟩
      · have hb2 := mt hbit.mp hb
        rw [e1] at hb2
        simp (disch := first | assumption | omega | (simp [*] <;> omega) | fail) [hs.vidx', hs.vload', wrap64, wrapu64, hlt, hb2, hn', ih1, hsc]
      · rw [show (w + 1).toNat = w.toNat + 1 by omega]
        constructor
        · rintro (h1 | ⟨k, h1, h2, h3, h4⟩)
          · exact .inl h1
          · exact .inr ⟨k, by omega, h2, h3, h4⟩
        · rintro (h1 | ⟨k, h1, h2, h3, h4⟩)
          · exact .inl h1
          · by_cases e : k = w.toNat
            · subst e; exact absurd h3 hb
            · exact .inr ⟨k, by omega, h2, h3, h4⟩
  · refine ⟨r, ?_, ha.congr fun x y _ => ?_⟩
    · simp (disch := first | assumption | omega | (simp [*] <;> omega) | fail) [hlt]
    · constructor
      · exact .inl
      · rintro (h | ⟨k, h1, h2, _⟩)
        · exact h
        · omega
 termination_by (n - w).toNat

theorem l_spec_DoubleGraph_2 (n : Int) (s : Value) (rows : List Int) (h : VH) (hs : Sli h s rows) (hn : nro ≤ h.length) (g : GV n rows) (hn2 : 2 * n ≤ 62) (N : Nat) (hN : (N : Int) = 2 * n) (r0 : List Int) (v : Int) (hv : 0 ≤ v) (hvn : v ≤ n) (r : List Int) (adj : Nat → Nat → Prop) (ha : IsAdj N r adj) :
    ∃ r', floop (vcall F nro) nro [1, 2, 4, 5] i_spec_DoubleGraph_B2 (dH h n s N r0) [.pointer (some ⟨h.length, 0, some 2⟩), .pointer (some ⟨h.length + 1, 0, some 2⟩), .pointer (some ⟨h.length + 3, 0, some 2⟩), .int .i64 v] (dH h n s N r) =
      some (.exit 1, fl [(2, .pointer (some ⟨h.length + 1, 0, some 2⟩)), (4, .pointer (some ⟨h.length + 3, 0, some 2⟩))], dH h n s N r') ∧
      IsAdj N r' (fun x y => adj x y ∨ ∃ u : Nat, v.toNat ≤ u ∧ u < n.toNat ∧ ∃ k : Nat, k < n.toNat ∧ rbit rows u k = true ∧ ((x = u ∧ y = n.toNat + k) ∨ (x = n.toNat + k ∧ y = u))) := by
  have hsc := fun k => hs.oldCk (k := k)
  rw [floop_at i_spec_DoubleGraph_B2.eq_1]
  by_cases hlt : v < n
  · obtain ⟨r1, e1, a1⟩ := l_spec_DoubleGraph_1 (nro := nro) n s rows h hs hn g hn2 N hN v hv hlt r 0 (by omega) (by omega) r adj ha
    obtain ⟨r', ih1, ih2⟩ := l_spec_DoubleGraph_2 n s rows h hs hn g hn2 N hN r0 (v + 1) (by omega) (by omega) r1 _ a1
    refine ⟨r', ?_, ih2.congr fun x y _ => ?_⟩
    · simp (disch := first | assumption | omega | (simp [*] <;> omega) | fail) [wrap64, hlt, e1, ih1, hsc]
    · rw [show (v + 1).toNat = v.toNat + 1 by omega]
      constructor
      · rintro ((h1 | ⟨k, _, h2, h3, h4⟩) | ⟨u, h1, h2, h3⟩)
        · exact .inl h1
        · exact .inr ⟨v.toNat, Nat.le_refl _, by omega, k, h2, h3, h4⟩
        · exact .inr ⟨u, by omega, h2, h3⟩
      · rintro (h1 | ⟨u, h1, h2, k, h3, h4, h5⟩)
        · exact .inl (.inl h1)
        · by_cases e : u = v.toNat
          · subst e; exact .inl (.inr ⟨k, by simp, h3, h4, h5⟩)
          · exact .inr ⟨u, by omega, h2, k, h3, h4, h5⟩
  · refine ⟨r, ?_, ha.congr fun x y _ => ?_⟩
    · simp (disch := first | assumption | omega | (simp [*] <;> omega) | fail) [hlt]
    · constructor
      · exact .inl
      · rintro (h | ⟨k, h1, h2, _⟩)
        · exact h
        · omega
 termination_by (n - v).toNat

/-- Two vertices of the double are neighbours. -/
def dblAdj (n : Int) (rows : List Int) (x y : Nat) : Prop := ∃ u : Nat, u < n.toNat ∧ ∃ k : Nat, k < n.toNat ∧ rbit rows u k = true ∧ ((x = u ∧ y = n.toNat + k) ∨ (x = n.toNat + k ∧ y = u))
open Classical in
noncomputable def dblAns (n : Int) (rows : List Int) : GAns := if ¬ GV n rows then .inr 1 else if 62 < 2 * n then .inr 3 else .inl (2 * n, adjRows (2 * n).toNat (dblAdj n rows))

theorem dbl_len {n : Int} {rows : List Int} {m : Int} {r : List Int} (e : dblAns n rows = .inl (m, r)) : r.length ≤ 62 := by
  unfold dblAns at e
  split at e
  · cases e
  · split at e
    · cases e
    · simp only [Sum.inl.injEq, Prod.mk.injEq] at e
      obtain ⟨_, rfl⟩ := e
      have := adjRows_is (N := (2 * n).toNat) (adj := dblAdj n rows) (by
        rintro v w hv ⟨u, h1, k, h2, _, h4⟩
        omega)
      rw [this.1]
      omega

theorem c_spec_DoubleGraph (n : Int) (s : Value) (rows : List Int) (h : VH) (hs : Sli h s rows) (hn : nro ≤ h.length) :
    vcall F nro k_spec_DoubleGraph [gv n s] h = some (gres h (dblAns n rows)) := by
  refine v_spec_DoubleGraph (by simp [i_spec_DoubleGraph]) ?_
  rw [fbody_eq]
  have hn' := fun k => Nat.le_trans hn (Nat.le_add_right h.length k)
  have hc := c_spec_l01Is (nro := nro) n s rows (h ++ [⟨0, [.int .i64 n, s]⟩, ⟨0, [.int .i64 0, .slice none 0 0]⟩]) (hs.app _)
  by_cases g : GV n rows
  · have g1 := g.lo
    have g2 := g.hi
    by_cases h2 : 62 < 2 * n
    · have e : dblAns n rows = .inr 3 := by simp [dblAns, g, h2]
      simp (disch := first | assumption | omega | (simp [*] <;> omega) | fail) [i_spec_DoubleGraph, hc, g, h2, e, wrap64, fresults, fresL, fres1, hn']
    · have hN : (((2 * n).toNat : Nat) : Int) = 2 * n := by omega
      have hE := c_spec_l01Empty (nro := nro) (2 * n) (h ++ [⟨0, [.int .i64 n, s]⟩, ⟨0, [.int .i64 0, .slice none 0 0]⟩]) (by omega) (by omega) (by simp; omega)
      obtain ⟨r', e1, a1⟩ := l_spec_DoubleGraph_2 (nro := nro) n s rows h hs hn g (by omega) (2 * n).toNat hN (List.replicate (2 * n).toNat 0) 0 (by omega) (by omega) (List.replicate (2 * n).toNat 0) _ (IsAdj.zero _)
      have a2 : IsAdj (2 * n).toNat r' (dblAdj n rows) := a1.congr fun x y _ => by simp [dblAdj]
      have e : dblAns n rows = .inl (2 * n, r') := by simp [dblAns, g, h2, a2.eq]
      have hl := a2.1
      simp only [List.length_append, List.length_cons, List.length_nil, Nat.zero_add] at hE
      simp (disch := first | assumption | omega | (simp [*] <;> omega) | fail) [i_spec_DoubleGraph, hc, g, h2, e, wrap64, fresults, fresL, fres1, hn', hE, e1]
      omega
  · have e : dblAns n rows = .inr 1 := by simp [dblAns, g]
    simp (disch := first | assumption | omega | (simp [*] <;> omega) | fail) [i_spec_DoubleGraph, hc, g, e, wrap64, fresults, fresL, fres1, hn']
end Go.Proofs.Ytcpmodengmffjaa.Zv
