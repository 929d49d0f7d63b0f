/- The program's maker of graphs; DoubleGraph. -/
import Derived.Test.YtcpmodengmffjaaZwDouble
namespace Go.Proofs.Ytcpmodengmffjaa.Zv
open Go
variable {nro : Nat}

abbrev mH (h : VH) (N : Nat) (r : List Int) : VH := h ++ [⟨0, [.int .i64 0, .slice none 0 0]⟩, ⟨1, ints r⟩, ⟨0, [.int .i64 N, .slice (some ⟨h.length + 1, 0, none⟩) N N]⟩]
abbrev fnv (kf : Nat) (caps : List Value) : Value := .func (.func kf) #[] caps.toArray

theorem l_impl_made_1 (N kf : Nat) (caps : List Value) (P : Nat → Nat → Prop) [DecidableRel P] (h : VH) (hn : nro ≤ h.length) (hN : N ≤ 62) (hf : ∀ L (a b : Nat), a < b → b < N → vcall F nro kf ([.int .i64 a, .int .i64 b] ++ caps) (h ++ L) = some (.bool (decide (P a b)), h ++ L)) (hfo : ∀ k, Old (h.length + k) (fnv kf caps))
    (r0 : List Int) (j : Int) (v : Nat) (hv : v < N) (w : Nat) (hvw : v < w) (hw : w ≤ N) (r : List Int) (adj : Nat → Nat → Prop) (ha : IsAdj N r adj) :
    ∃ r', floop (vcall F nro) nro [0, 1, 4, 5, 6, 7, 10, 11] i_impl_made_B1 (mH h N r0) [.int .i64 N, fnv kf caps, .pointer (some ⟨h.length, 0, some 2⟩), .pointer (some ⟨h.length + 2, 0, some 2⟩), .int .i64 v, .int .i64 w, .int .i64 N, .int .i64 j] (mH h N r) =
      some (.exit 2, fl [(0, .int .i64 N), (1, fnv kf caps), (4, .pointer (some ⟨h.length, 0, some 2⟩)), (5, .pointer (some ⟨h.length + 2, 0, some 2⟩)), (10, .int .i64 N), (11, .int .i64 j)], mH h N r') ∧
      IsAdj N r' (fun x y => adj x y ∨ ∃ k : Nat, w ≤ k ∧ k < N ∧ P v k ∧ ((x = v ∧ y = k) ∨ (x = k ∧ y = v))) := by
  have hn' := fun k => Nat.le_trans hn (Nat.le_add_right h.length k)
  rw [floop_at i_impl_made_B1.eq_1]
  by_cases hlt : w < N
  · have hff := fun L => hf L v w hvw hlt
    simp only [List.cons_append, List.nil_append] at hff
    by_cases hb : P v w
    · have hc := c_impl_Graph_put (nro := nro) N (h.length + 1) N v w r (mH h N r) (by simp) ha.1 (by omega) (by omega) (by omega) (by omega) (by omega) hN
      rw [if_neg (by omega)] at hc
      simp at hc
      obtain ⟨r', ih1, ih2⟩ := l_impl_made_1 N kf caps P h hn hN hf hfo r0 j v hv (w + 1) (by omega) (by omega) (put2 r v w) _ (ha.put2 (by omega) (by omega) (by omega) (by omega) hN)
      rw [show ((w + 1 : Nat) : Int) = (w : Int) + 1 by omega] at ih1
      refine ⟨r', ?_, ih2.congr fun x y _ => ?_⟩
      · simp (disch := first | assumption | omega | (simp [*] <;> omega) | fail) [wrap64, hlt, hb, hc, hff, hn', ih1]
      · constructor
        · rintro ((h1 | h1 | h1) | ⟨k, h1, h2, h3, h4⟩)
          · exact .inl h1
          · exact .inr ⟨w, Nat.le_refl _, hlt, hb, .inl (by simpa using h1)⟩
          · exact .inr ⟨w, Nat.le_refl _, hlt, hb, .inr (by simpa using h1)⟩
          · exact .inr ⟨k, by omega, h2, h3, h4⟩
        · rintro (h1 | ⟨k, h1, h2, h3, h4⟩)
          · exact .inl (.inl h1)
          · by_cases e : k = w
            · subst e; exact .inl (.inr (by simpa using h4))
            · exact .inr ⟨k, by omega, h2, h3, h4⟩
    · obtain ⟨r', ih1, ih2⟩ := l_impl_made_1 N kf caps P h hn hN hf hfo r0 j v hv (w + 1) (by omega) (by omega) r _ ha
      rw [show ((w + 1 : Nat) : Int) = (w : Int) + 1 by omega] at ih1
      refine ⟨r', ?_, ih2.congr fun x y _ => ?_⟩
      · simp (disch := first | assumption | omega | (simp [*] <;> omega) | fail) [wrap64, hlt, hb, hff, hn', ih1]
      · constructor
        · rintro (h1 | ⟨k, h1, h2, h3, h4⟩)
          · exact .inl h1
          · exact .inr ⟨k, by omega, h2, h3, h4⟩
        · rintro (h1 | ⟨k, h1, h2, h3, h4⟩)
          · exact .inl h1
          · by_cases e : k = w
            · subst e; exact absurd h3 hb
            · exact .inr ⟨k, by omega, h2, h3, h4⟩
  · refine ⟨r, ?_, ha.congr fun x y _ => ?_⟩
    · simp (disch := first | assumption | omega | (simp [*] <;> omega) | fail) [hlt]
    · constructor
      · exact .inl
      · rintro (h | ⟨k, h1, h2, _⟩)
        · exact h
        · omega
 termination_by N - w

theorem l_impl_made_2 (N kf : Nat) (caps : List Value) (P : Nat → Nat → Prop) [DecidableRel P] (h : VH) (hn : nro ≤ h.length) (hN : N ≤ 62) (hf : ∀ L (a b : Nat), a < b → b < N → vcall F nro kf ([.int .i64 a, .int .i64 b] ++ caps) (h ++ L) = some (.bool (decide (P a b)), h ++ L)) (hfo : ∀ k, Old (h.length + k) (fnv kf caps))
    (r0 : List Int) (v : Nat) (hv : v ≤ N) (r : List Int) (adj : Nat → Nat → Prop) (ha : IsAdj N r adj) :
    ∃ r', floop (vcall F nro) nro [0, 1, 4, 5, 10, 11] i_impl_made_B2 (mH h N r0) [.int .i64 N, fnv kf caps, .pointer (some ⟨h.length, 0, some 2⟩), .pointer (some ⟨h.length + 2, 0, some 2⟩), .int .i64 N, .int .i64 v] (mH h N r) =
      some (.exit 0, fl [(4, .pointer (some ⟨h.length, 0, some 2⟩)), (5, .pointer (some ⟨h.length + 2, 0, some 2⟩))], mH h N r') ∧
      IsAdj N r' (fun x y => adj x y ∨ ∃ u : Nat, v ≤ u ∧ ∃ k : Nat, u < k ∧ k < N ∧ P u k ∧ ((x = u ∧ y = k) ∨ (x = k ∧ y = u))) := by
  rw [floop_at i_impl_made_B2.eq_1]
  by_cases hlt : v < N
  · obtain ⟨r1, e1, a1⟩ := l_impl_made_1 (nro := nro) N kf caps P h hn hN hf hfo r v v hlt (v + 1) (by omega) (by omega) r adj ha
    obtain ⟨r', ih1, ih2⟩ := l_impl_made_2 N kf caps P h hn hN hf hfo r0 (v + 1) (by omega) r1 _ a1
    rw [show ((v + 1 : Nat) : Int) = (v : Int) + 1 by omega] at ih1 e1
    refine ⟨r', ?_, ih2.congr fun x y _ => ?_⟩
    · simp (disch := first | assumption | omega | (simp [*] <;> omega) | fail) [wrap64, hlt, e1, ih1]
    · constructor
      · rintro ((h1 | ⟨k, h0, h2, h3, h4⟩) | ⟨u, h1, h2⟩)
        · exact .inl h1
        · exact .inr ⟨v, Nat.le_refl _, k, by omega, h2, h3, h4⟩
        · exact .inr ⟨u, by omega, h2⟩
      · rintro (h1 | ⟨u, h1, k, h3, h4, h5, h6⟩)
        · exact .inl (.inl h1)
        · by_cases e : u = v
          · subst e; exact .inl (.inr ⟨k, by omega, h4, h5, h6⟩)
          · exact .inr ⟨u, by omega, k, h3, h4, h5, h6⟩
  · refine ⟨r, ?_, ha.congr fun x y _ => ?_⟩
    · simp (disch := first | assumption | omega | (simp [*] <;> omega) | fail) [hlt]
    · constructor
      · exact .inl
      · rintro (h | ⟨u, h1, k, h2, h3, _⟩)
        · exact h
        · omega
 termination_by N - v

/-- What 'made' makes of a test. -/
def madeAdj (N : Nat) (P : Nat → Nat → Prop) (x y : Nat) : Prop := ∃ u : Nat, ∃ k : Nat, u < k ∧ k < N ∧ P u k ∧ ((x = u ∧ y = k) ∨ (x = k ∧ y = u))

theorem c_impl_made (N kf : Nat) (caps : List Value) (P : Nat → Nat → Prop) [DecidableRel P] (h : VH) (hn : nro ≤ h.length) (hN : N ≤ 62) (hf : ∀ L (a b : Nat), a < b → b < N → vcall F nro kf ([.int .i64 a, .int .i64 b] ++ caps) (h ++ L) = some (.bool (decide (P a b)), h ++ L)) (hfo : ∀ k, Old (h.length + k) (fnv kf caps)) :
    vcall F nro k_impl_made [.int .i64 N, fnv kf caps] h = some (gv N (.slice (some ⟨h.length, 0, none⟩) N N), h ++ [⟨1, ints (adjRows N (madeAdj N P))⟩]) ∧ IsAdj N (adjRows N (madeAdj N P)) (madeAdj N P) := by
  have hn' := fun k => Nat.le_trans hn (Nat.le_add_right h.length k)
  have hE := c_impl_empty (nro := nro) N (h ++ [⟨0, [.int .i64 0, .slice none 0 0]⟩]) (by omega) (by omega) (by simp; omega)
  simp at hE
  obtain ⟨r', e1, a1⟩ := l_impl_made_2 (nro := nro) N kf caps P h hn hN hf hfo (List.replicate N 0) 0 (by omega) (List.replicate N 0) _ (IsAdj.zero _)
  rw [show ((0 : Nat) : Int) = 0 from rfl] at e1
  have a2 : IsAdj N r' (madeAdj N P) := a1.congr fun x y _ => by simp [madeAdj]
  rw [a2.eq]
  refine ⟨v_impl_made (by simp [i_impl_made]) ?_, a2⟩
  rw [fbody_eq]
  simp (disch := first | assumption | omega | (simp [*] <;> omega) | fail) [i_impl_made, hE, e1, hn', hn, fresults, fresL, fres1]

theorem c_impl_DoubleGraph_1 (n : Int) (s : Value) (rows : List Int) (i j : Nat) (h : VH) (hs : Sli h s rows) (g : GV n rows) (hi : h[i]? = some ⟨0, [.int .i64 n]⟩) (hj : h[j]? = some ⟨0, [.int .i64 n, s]⟩) (a b : Int) (ha : 0 ≤ a) (hb : 0 ≤ b) (hb2 : b < 2 * n) :
    vcall F nro k_impl_DoubleGraph_1 [.int .i64 a, .int .i64 b, .pointer (some ⟨i, 0, some 1⟩), .pointer (some ⟨j, 0, some 2⟩)] h = some (.bool (decide (a < n ∧ n ≤ b ∧ rbit rows a.toNat (b - n).toNat = true)), h) := by
  refine v_impl_DoubleGraph_1 (by simp [i_impl_DoubleGraph_1]) ?_
  rw [fbody_eq]
  have hlen := g.len
  have hp := pow_le62 g.hi
  have g0 := g.hi
  by_cases h1 : a < n
  · by_cases h2 : n ≤ b
    · obtain ⟨g1, g2, _⟩ := g.row a.toNat (by omega)
      have hc := c_impl_Graph_has (nro := nro) n a (b - n) s rows h hs ha (by omega) (by omega) (by omega) g1 (by omega)
      simp (disch := first | assumption | omega | (simp [*] <;> omega) | fail) [i_impl_DoubleGraph_1, hi, hj, h1, h2, hc, wrap64]
    · simp (disch := first | assumption | omega | (simp [*] <;> omega) | fail) [i_impl_DoubleGraph_1, hi, hj, h1, h2]
  · simp (disch := first | assumption | omega | (simp [*] <;> omega) | fail) [i_impl_DoubleGraph_1, hi, hj, h1]

theorem dbl_made {n : Int} {rows : List Int} (x y : Nat) : madeAdj (2 * n).toNat (fun a b => (a : Int) < n ∧ n ≤ b ∧ rbit rows a (b - n).toNat = true) x y ↔ dblAdj n rows x y := by
  constructor
  · rintro ⟨u, k, h1, h2, ⟨h3, h4, h5⟩, h6⟩
    refine ⟨u, by omega, ((k : Int) - n).toNat, by omega, h5, ?_⟩
    rcases h6 with ⟨h7, h8⟩ | ⟨h7, h8⟩
    · exact .inl ⟨h7, by omega⟩
    · exact .inr ⟨by omega, h8⟩
  · rintro ⟨u, h1, k, h2, h3, h4⟩
    refine ⟨u, n.toNat + k, by omega, by omega, ⟨by omega, by omega, ?_⟩, h4⟩
    rw [show (((n.toNat + k : Nat) : Int) - n).toNat = k by omega]
    exact h3

theorem c_impl_DoubleGraph (n : Int) (s : Value) (rows : List Int) (h : VH) (hs : Sli h s rows) (hn : nro ≤ h.length) :
    vcall F nro k_impl_DoubleGraph [gv n s] h = some (gres h (dblAns n rows)) := by
  refine v_impl_DoubleGraph (by simp [i_impl_DoubleGraph]) ?_
  rw [fbody_eq]
  have hn' := fun k => Nat.le_trans hn (Nat.le_add_right h.length k)
  let L : VH := [⟨0, [.int .i64 n, s]⟩, ⟨0, [.int .i64 0, .slice none 0 0]⟩, ⟨0, [.int .i64 n]⟩]
  have hc := c_impl_IsGraph (nro := nro) n s rows (h ++ L) (hs.app _)
  by_cases g : GV n rows
  · have g1 := g.lo
    have g2 := g.hi
    by_cases h2 : 62 < 2 * n
    · have e : dblAns n rows = .inr 3 := by simp [dblAns, g, h2]
      simp (disch := first | assumption | omega | (simp [*] <;> omega) | fail) [i_impl_DoubleGraph, hc, g, h2, e, wrap64, fresults, fresL, fres1, hn', L]
    · have e : dblAns n rows = .inl (2 * n, adjRows (2 * n).toNat (dblAdj n rows)) := by simp [dblAns, g, h2]
      have hN : (((2 * n).toNat : Nat) : Int) = 2 * n := by omega
      have key := c_impl_made (nro := nro) (2 * n).toNat k_impl_DoubleGraph_1 [.pointer (some ⟨h.length + 2, 0, some 1⟩), .pointer (some ⟨h.length, 0, some 2⟩)] (fun a b => (a : Int) < n ∧ n ≤ b ∧ rbit rows a (b - n).toNat = true) (h ++ L) (by simp [L]; omega) (by omega) ?_ ?_
      · obtain ⟨hm, hm2⟩ := key
        have hd : (madeAdj (2 * n).toNat fun a b => (a : Int) < n ∧ n ≤ b ∧ rbit rows a (b - n).toNat = true) = dblAdj n rows := by
          funext x y
          exact propext (dbl_made x y)
        have hl := hm2.1
        rw [hd] at hm hl
        simp [hN, L] at hm
        simp (disch := first | assumption | omega | (simp [*] <;> omega) | fail) [i_impl_DoubleGraph, hc, g, h2, e, wrap64, fresults, fresL, fres1, hn', L, hm, isAtom, hl]
      · intro M a b hab hbN
        have := c_impl_DoubleGraph_1 (nro := nro) n s rows (h.length + 2) h.length (h ++ L ++ M) ((hs.app _).app _) g (by simp [L]) (by simp [L]) a b (by omega) (by omega) (by omega)
        simpa using this
      · intro k r hr
        simp [trefs, vrefs, crefs, arefs, L] at hr ⊢
        omega
  · have e : dblAns n rows = .inr 1 := by simp [dblAns, g]
    simp (disch := first | assumption | omega | (simp [*] <;> omega) | fail) [i_impl_DoubleGraph, hc, g, e, wrap64, fresults, fresL, fres1, hn', L]
end Go.Proofs.Ytcpmodengmffjaa.Zv
