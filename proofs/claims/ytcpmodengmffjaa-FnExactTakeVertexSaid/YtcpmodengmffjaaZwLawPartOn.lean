/- The law of PartOn. -/
import Derived.Test.YtcpmodengmffjaaZwEdge
namespace Go.Proofs.Ytcpmodengmffjaa.Zv
open Go
variable {nro : Nat}

/-- Two places of a list are neighbours in the part on it. -/
def onAdj (rows xs : List Int) (i k : Nat) : Prop := i < xs.length ∧ k < xs.length ∧ rbit rows (xs.getD i 0).toNat (xs.getD k 0).toNat = true
/-- Numbers that go up. -/
def upL (xs : List Int) : Prop := ∀ i : Nat, i + 1 < xs.length → xs.getD i 0 < xs.getD (i + 1) 0

/-- The heap in the reference's loops. -/
abbrev oH (h : VH) (n : Int) (s : Value) (N : Nat) (r : List Int) : VH := h ++ [⟨0, [.int .i64 n, s]⟩, ⟨0, [.int .i64 0, .slice none 0 0]⟩, ⟨1, ints r⟩, ⟨0, [.int .i64 N, .slice (some ⟨h.length + 2, 0, none⟩) N N]⟩]
abbrev op3 (h : VH) : Value := .pointer (some ⟨h.length + 3, 0, some 2⟩)

theorem l_spec_l01On_1 (n : Int) (s u : Value) (rows xs : List Int) (h : VH) (hs : Sli h s rows) (hu : Sli h u xs) (hn : nro ≤ h.length) (g : GV n rows) (hx : ∀ j : Nat, j < xs.length → 0 ≤ xs.getD j 0 ∧ xs.getD j 0 < n) (hN : xs.length ≤ 62) (r0 : List Int) (i : Nat) (hi : i < xs.length) (k : Nat) (hk : k ≤ i) (r : List Int) (adj : Nat → Nat → Prop) (ha : IsAdj xs.length r adj) :
    ∃ r', floop (vcall F nro) nro [1, 2, 4, 5, 6, 7] i_spec_l01On_B1 (oH h n s xs.length r0) [u, bp h, cp h, op3 h, .int .i64 i, .int .i64 k] (oH h n s xs.length r) =
      some (.exit 2, fl [(1, u), (2, bp h), (4, cp h), (5, op3 h), (6, .int .i64 i)], oH h n s xs.length r') ∧
      IsAdj xs.length r' (fun x y => adj x y ∨ ∃ q : Nat, k ≤ q ∧ q < i ∧ onAdj rows xs i q ∧ ((x = i ∧ y = q) ∨ (x = q ∧ y = i))) := by
  have hn' := fun k => Nat.le_trans hn (Nat.le_add_right h.length k)
  have hsc := fun k => hs.oldCk (k := k)
  have huo := fun k => hu.oldk (k := k)
  have hlen := g.len
  have g0 := g.hi
  have hp := pow_le62 g.hi
  rw [floop_at i_spec_l01On_B1.eq_1]
  by_cases hlt : k < i
  · have hlt' : (k : Int) < i := by omega
    have e1 : xs.getD i 0 = xs[i]'(by omega) := getD_at _ (by omega)
    have e2 : xs.getD k 0 = xs[k]'(by omega) := getD_at _ (by omega)
    obtain ⟨x1, x2⟩ := hx i (by omega)
    obtain ⟨y1, y2⟩ := hx k (by omega)
    obtain ⟨g1, g2, _⟩ := g.row (xs.getD i 0).toNat (by omega)
    have hc := fun L => c_spec_l01Has' (nro := nro) n (xs.getD i 0) (xs.getD k 0) s rows (h ++ L) (hs.app _) x1 (by omega) y1 (by omega) g1 (by omega)
    by_cases hb : rbit rows (xs.getD i 0).toNat (xs.getD k 0).toNat = true
    · have hon : onAdj rows xs i k := ⟨hi, by omega, hb⟩
      have hp2 := c_spec_l01Put (nro := nro) xs.length (h.length + 2) xs.length i k r (oH h n s xs.length r) (by simp) ha.1 (by omega) (by omega) (by omega) (by omega) (by omega) hN
      obtain ⟨r', ih1, ih2⟩ := l_spec_l01On_1 n s u rows xs h hs hu hn g hx hN r0 i hi (k + 1) (by omega) (put2 r i k) _ (ha.put2 (by omega) (by omega) (by omega) (by omega) hN)
      rw [show ((k + 1 : Nat) : Int) = (k : Int) + 1 by omega] at ih1
      rw [hb, e1, e2] at hc
      simp at hp2
      refine ⟨r', ?_, ih2.congr fun x y _ => ?_⟩
      · simp (disch := first | assumption | omega | (simp [*] <;> omega) | fail) [hu.vlen', hu.vidx', hu.vload', wrap64, hlt', hc, hp2, hn', ih1, hsc]
      · constructor
        · rintro ((h1 | h1 | h1) | ⟨q, h1, h2, h3, h4⟩)
          · exact .inl h1
          · exact .inr ⟨k, Nat.le_refl _, hlt, hon, .inl (by simpa using h1)⟩
          · exact .inr ⟨k, Nat.le_refl _, hlt, hon, .inr (by simpa using h1)⟩
          · exact .inr ⟨q, by omega, h2, h3, h4⟩
        · rintro (h1 | ⟨q, h1, h2, h3, h4⟩)
          · exact .inl (.inl h1)
          · by_cases e : q = k
            · subst e; exact .inl (.inr (by simpa using h4))
            · exact .inr ⟨q, by omega, h2, h3, h4⟩
    · have hb' : rbit rows (xs.getD i 0).toNat (xs.getD k 0).toNat = false := by simpa using hb
      obtain ⟨r', ih1, ih2⟩ := l_spec_l01On_1 n s u rows xs h hs hu hn g hx hN r0 i hi (k + 1) (by omega) r _ ha
      rw [show ((k + 1 : Nat) : Int) = (k : Int) + 1 by omega] at ih1
      rw [hb', e1, e2] at hc
      refine ⟨r', ?_, ih2.congr fun x y _ => ?_⟩
      · simp (disch := first | assumption | omega | (simp [*] <;> omega) | fail) [hu.vlen', hu.vidx', hu.vload', wrap64, hlt', hc, hn', ih1, hsc]
      · constructor
        · rintro (h1 | ⟨q, h1, h2, h3, h4⟩)
          · exact .inl h1
          · exact .inr ⟨q, by omega, h2, h3, h4⟩
        · rintro (h1 | ⟨q, h1, h2, h3, h4⟩)
          · exact .inl h1
          · by_cases e : q = k
            · subst e; exact absurd h3.2.2 hb
            · exact .inr ⟨q, by omega, h2, h3, h4⟩
  · have hlt' : ¬ (k : Int) < i := by omega
    refine ⟨r, ?_, ha.congr fun x y _ => ?_⟩
    · simp (disch := first | assumption | omega | (simp [*] <;> omega) | fail) [hlt']
    · constructor
      · exact .inl
      · rintro (h | ⟨q, h1, h2, _⟩)
        · exact h
        · omega
 termination_by i - k

theorem l_spec_l01On_2 (n : Int) (s u : Value) (rows xs : List Int) (h : VH) (hs : Sli h s rows) (hu : Sli h u xs) (hn : nro ≤ h.length) (g : GV n rows) (hx : ∀ j : Nat, j < xs.length → 0 ≤ xs.getD j 0 ∧ xs.getD j 0 < n) (hN : xs.length ≤ 62) (r0 : List Int) (i : Nat) (hi : i ≤ xs.length) (r : List Int) (adj : Nat → Nat → Prop) (ha : IsAdj xs.length r adj) :
    ∃ r', floop (vcall F nro) nro [1, 2, 4, 5, 6] i_spec_l01On_B2 (oH h n s xs.length r0) [u, bp h, cp h, op3 h, .int .i64 i] (oH h n s xs.length r) =
      some (.exit 0, fl [(4, cp h), (5, op3 h)], oH h n s xs.length r') ∧
      IsAdj xs.length r' (fun x y => adj x y ∨ ∃ p : Nat, i ≤ p ∧ ∃ q : Nat, q < p ∧ onAdj rows xs p q ∧ ((x = p ∧ y = q) ∨ (x = q ∧ y = p))) := by
  have hsc := fun k => hs.oldCk (k := k)
  have huo := fun k => hu.oldk (k := k)
  rw [floop_at i_spec_l01On_B2.eq_1]
  by_cases hlt : i < xs.length
  · have hlt' : (i : Int) < xs.length := by omega
    obtain ⟨r1, e1, a1⟩ := l_spec_l01On_1 (nro := nro) n s u rows xs h hs hu hn g hx hN r i hlt 0 (by omega) r adj ha
    obtain ⟨r', ih1, ih2⟩ := l_spec_l01On_2 n s u rows xs h hs hu hn g hx hN r0 (i + 1) hlt r1 _ a1
    rw [show ((i + 1 : Nat) : Int) = (i : Int) + 1 by omega] at ih1
    simp at e1
    refine ⟨r', ?_, ih2.congr fun x y _ => ?_⟩
    · simp (disch := first | assumption | omega | (simp [*] <;> omega) | fail) [hu.vlen', wrap64, hlt', e1, ih1, hsc]
    · constructor
      · rintro ((h1 | ⟨q, _, h2, h3, h4⟩) | ⟨p, h1, h2⟩)
        · exact .inl h1
        · exact .inr ⟨i, Nat.le_refl _, q, h2, h3, h4⟩
        · exact .inr ⟨p, by omega, h2⟩
      · rintro (h1 | ⟨p, h1, q, h3, h4, h5⟩)
        · exact .inl (.inl h1)
        · by_cases e : p = i
          · subst e; exact .inl (.inr ⟨q, by omega, h3, h4, h5⟩)
          · exact .inr ⟨p, by omega, q, h3, h4, h5⟩
  · have hlt' : ¬ (i : Int) < xs.length := by omega
    refine ⟨r, ?_, ha.congr fun x y _ => ?_⟩
    · simp (disch := first | assumption | omega | (simp [*] <;> omega) | fail) [hu.vlen', hlt']
    · constructor
      · exact .inl
      · rintro (h | ⟨p, h1, q, h2, h3, _⟩)
        · exact h
        · have := h3.1
          omega
 termination_by xs.length - i

/-- The part on a list: told by 'onAdj'. -/
theorem on_adj {n : Int} {rows xs : List Int} (g : GV n rows) (hx : ∀ j : Nat, j < xs.length → 0 ≤ xs.getD j 0 ∧ xs.getD j 0 < n) (x y : Nat) : (False ∨ ∃ p : Nat, 0 ≤ p ∧ ∃ q : Nat, q < p ∧ onAdj rows xs p q ∧ ((x = p ∧ y = q) ∨ (x = q ∧ y = p))) ↔ onAdj rows xs x y ∧ x ≠ y := by
  have hl := g.len
  have sym : ∀ p q, onAdj rows xs p q → onAdj rows xs q p := by
    rintro p q ⟨h1, h2, h3⟩
    have a1 := hx p h1
    have a2 := hx q h2
    exact ⟨h2, h1, by rw [g.sym _ _ (by omega) (by omega)]; exact h3⟩
  constructor
  · rintro (h | ⟨p, _, q, h1, h2, h3⟩)
    · exact h.elim
    · rcases h3 with ⟨rfl, rfl⟩ | ⟨rfl, rfl⟩
      · exact ⟨h2, by omega⟩
      · exact ⟨sym _ _ h2, by omega⟩
  · rintro ⟨h1, h2⟩
    rcases Nat.lt_or_gt_of_ne h2 with h3 | h3
    · exact .inr ⟨y, by omega, x, h3, sym _ _ h1, .inr ⟨rfl, rfl⟩⟩
    · exact .inr ⟨x, by omega, y, h3, h1, .inl ⟨rfl, rfl⟩⟩
noncomputable def onRows (rows xs : List Int) : List Int := adjRows xs.length (fun x y => onAdj rows xs x y ∧ x ≠ y)

theorem c_spec_l01On (n : Int) (s u : Value) (rows xs : List Int) (h : VH) (hs : Sli h s rows) (hu : Sli h u xs) (hn : nro ≤ h.length) (g : GV n rows) (hx : ∀ j : Nat, j < xs.length → 0 ≤ xs.getD j 0 ∧ xs.getD j 0 < n) (hN : xs.length ≤ 62) :
    vcall F nro k_spec_l01On [gv n s, u] h = some (gv xs.length (.slice (some ⟨h.length, 0, none⟩) xs.length xs.length), h ++ [⟨1, ints (onRows rows xs)⟩]) ∧ IsAdj xs.length (onRows rows xs) (fun x y => onAdj rows xs x y ∧ x ≠ y) := by
  have hn' := fun k => Nat.le_trans hn (Nat.le_add_right h.length k)
  have hE := c_spec_l01Empty (nro := nro) xs.length (h ++ [⟨0, [.int .i64 n, s]⟩, ⟨0, [.int .i64 0, .slice none 0 0]⟩]) (by omega) (by omega) (by simp; omega)
  obtain ⟨r', e1, a1⟩ := l_spec_l01On_2 (nro := nro) n s u rows xs h hs hu hn g hx hN (List.replicate xs.length 0) 0 (by omega) (List.replicate xs.length 0) _ (IsAdj.zero _)
  have a2 : IsAdj xs.length r' (fun x y => onAdj rows xs x y ∧ x ≠ y) := a1.congr fun x y _ => on_adj g hx x y
  have e : onRows rows xs = r' := a2.eq
  rw [e]
  refine ⟨?_, a2⟩
  refine v_spec_l01On (by simp [i_spec_l01On]) ?_
  rw [fbody_eq]
  simp at hE e1
  simp (disch := first | assumption | omega | (simp [*] <;> omega) | fail) [i_spec_l01On, hu.vlen', hE, e1, hn', fresults, fresL, fres1]

/-! ### the program's -/
theorem l_impl_partOn_1 (n : Int) (s u : Value) (rows xs : List Int) (h : VH) (hs : Sli h s rows) (hu : Sli h u xs) (hn : nro ≤ h.length) (g : GV n rows) (hx : ∀ j : Nat, j < xs.length → 0 ≤ xs.getD j 0 ∧ xs.getD j 0 < n) (hN : xs.length ≤ 62) (r0 : List Int) (i : Nat) (hi : i < xs.length) (k : Nat) (hk : k ≤ xs.length) (r : List Int) (adj : Nat → Nat → Prop) (ha : IsAdj xs.length r adj) :
    ∃ r', floop (vcall F nro) nro [1, 2, 4, 5, 6, 7, 13, 14, 15, 20, 21, 22] i_impl_Graph_partOn_B1 (oH h n s xs.length r0) [u, bp h, cp h, op3 h, .int .i64 i, .int .i64 (xs.getD i 0), u, .int .i64 xs.length, .int .i64 i, u, .int .i64 xs.length, .int .i64 k] (oH h n s xs.length r) =
      some (.exit 2, fl [(1, u), (2, bp h), (4, cp h), (5, op3 h), (13, u), (14, .int .i64 xs.length), (15, .int .i64 i)], oH h n s xs.length r') ∧
      IsAdj xs.length r' (fun x y => adj x y ∨ ∃ q : Nat, k ≤ q ∧ onAdj rows xs i q ∧ ((x = i ∧ y = q) ∨ (x = q ∧ y = i))) := by
  have hn' := fun k => Nat.le_trans hn (Nat.le_add_right h.length k)
  have hsc := fun k => hs.oldCk (k := k)
  have huo := fun k => hu.oldk (k := k)
  have hlen := g.len
  have g0 := g.hi
  have hp := pow_le62 g.hi
  rw [floop_at i_impl_Graph_partOn_B1.eq_1]
  by_cases hlt : k < xs.length
  · have hlt' : (k : Int) < xs.length := by omega
    have e2 : xs.getD k 0 = xs[k]'(by omega) := getD_at _ (by omega)
    obtain ⟨x1, x2⟩ := hx i (by omega)
    obtain ⟨y1, y2⟩ := hx k (by omega)
    obtain ⟨g1, g2, g3⟩ := g.row (xs.getD i 0).toNat (by omega)
    have hc := fun L => c_impl_Graph_has (nro := nro) n (xs.getD i 0) (xs.getD k 0) s rows (h ++ L) (hs.app _) x1 (by omega) y1 (by omega) g1 (by omega)
    by_cases hb : rbit rows (xs.getD i 0).toNat (xs.getD k 0).toNat = true
    · have hon : onAdj rows xs i k := ⟨hi, by omega, hb⟩
      have hik : ¬ (i : Int) = k := by
        intro e
        have : i = k := by omega
        subst this
        rw [g3] at hb
        cases hb
      have hp2 := c_impl_Graph_put (nro := nro) xs.length (h.length + 2) xs.length i k r (oH h n s xs.length r) (by simp) ha.1 (by omega) (by omega) (by omega) (by omega) (by omega) hN
      rw [if_neg hik] at hp2
      obtain ⟨r', ih1, ih2⟩ := l_impl_partOn_1 n s u rows xs h hs hu hn g hx hN r0 i hi (k + 1) (by omega) (put2 r i k) _ (ha.put2 (by omega) (by omega) (by omega) (by omega) hN)
      rw [show ((k + 1 : Nat) : Int) = (k : Int) + 1 by omega] at ih1
      rw [hb, e2] at hc
      obtain ⟨X, hX⟩ : ∃ X, X = xs.getD i 0 := ⟨_, rfl⟩
      rw [← hX] at hc ih1 ⊢
      simp at hp2
      refine ⟨r', ?_, ih2.congr fun x y _ => ?_⟩
      · clear hX x1 x2 g1 g2 g3 hb hon
        simp (disch := first | assumption | omega | (simp [*] <;> omega) | fail) [hu.vlen', hu.vidx', hu.vload', wrap64, hlt', hc, hp2, hn', ih1, hsc]
      · constructor
        · rintro ((h1 | h1 | h1) | ⟨q, h1, h3, h4⟩)
          · exact .inl h1
          · exact .inr ⟨k, Nat.le_refl _, hon, .inl (by simpa using h1)⟩
          · exact .inr ⟨k, Nat.le_refl _, hon, .inr (by simpa using h1)⟩
          · exact .inr ⟨q, by omega, h3, h4⟩
        · rintro (h1 | ⟨q, h1, h3, h4⟩)
          · exact .inl (.inl h1)
          · by_cases e : q = k
            · subst e; exact .inl (.inr (by simpa using h4))
            · exact .inr ⟨q, by omega, h3, h4⟩
    · have hb' : rbit rows (xs.getD i 0).toNat (xs.getD k 0).toNat = false := by simpa using hb
      obtain ⟨r', ih1, ih2⟩ := l_impl_partOn_1 n s u rows xs h hs hu hn g hx hN r0 i hi (k + 1) (by omega) r _ ha
      rw [show ((k + 1 : Nat) : Int) = (k : Int) + 1 by omega] at ih1
      rw [hb', e2] at hc
      obtain ⟨X, hX⟩ : ∃ X, X = xs.getD i 0 := ⟨_, rfl⟩
      rw [← hX] at hc ih1 ⊢
      refine ⟨r', ?_, ih2.congr fun x y _ => ?_⟩
      · clear hX x1 x2 g1 g2 g3 hb hb'
        simp (disch := first | assumption | omega | (simp [*] <;> omega) | fail) [hu.vlen', hu.vidx', hu.vload', wrap64, hlt', hc, hn', ih1, hsc]
      · constructor
        · rintro (h1 | ⟨q, h1, h3, h4⟩)
          · exact .inl h1
          · exact .inr ⟨q, by omega, h3, h4⟩
        · rintro (h1 | ⟨q, h1, h3, h4⟩)
          · exact .inl h1
          · by_cases e : q = k
            · subst e; exact absurd h3.2.2 hb
            · exact .inr ⟨q, by omega, h3, h4⟩
  · have hlt' : ¬ (k : Int) < xs.length := by omega
    refine ⟨r, ?_, ha.congr fun x y _ => ?_⟩
    · simp (disch := first | assumption | omega | (simp [*] <;> omega) | fail) [hlt']
    · constructor
      · exact .inl
      · rintro (h | ⟨q, h1, h2, _⟩)
        · exact h
        · have := h2.2.1
          omega
 termination_by xs.length - k

theorem l_impl_partOn_2 (n : Int) (s u : Value) (rows xs : List Int) (h : VH) (hs : Sli h s rows) (hu : Sli h u xs) (hn : nro ≤ h.length) (g : GV n rows) (hx : ∀ j : Nat, j < xs.length → 0 ≤ xs.getD j 0 ∧ xs.getD j 0 < n) (hN : xs.length ≤ 62) (r0 : List Int) (i : Nat) (hi : i ≤ xs.length) (r : List Int) (adj : Nat → Nat → Prop) (ha : IsAdj xs.length r adj) :
    ∃ r', floop (vcall F nro) nro [1, 2, 4, 5, 13, 14, 15] i_impl_Graph_partOn_B2 (oH h n s xs.length r0) [u, bp h, cp h, op3 h, u, .int .i64 xs.length, .int .i64 i] (oH h n s xs.length r) =
      some (.exit 0, fl [(4, cp h), (5, op3 h)], oH h n s xs.length r') ∧
      IsAdj xs.length r' (fun x y => adj x y ∨ ∃ p : Nat, i ≤ p ∧ ∃ q : Nat, onAdj rows xs p q ∧ ((x = p ∧ y = q) ∨ (x = q ∧ y = p))) := by
  have hsc := fun k => hs.oldCk (k := k)
  have huo := fun k => hu.oldk (k := k)
  rw [floop_at i_impl_Graph_partOn_B2.eq_1]
  by_cases hlt : i < xs.length
  · have hlt' : (i : Int) < xs.length := by omega
    have e2 : xs.getD i 0 = xs[i]'(by omega) := getD_at _ (by omega)
    obtain ⟨r1, e1, a1⟩ := l_impl_partOn_1 (nro := nro) n s u rows xs h hs hu hn g hx hN r i hlt 0 (by omega) r adj ha
    obtain ⟨r', ih1, ih2⟩ := l_impl_partOn_2 n s u rows xs h hs hu hn g hx hN r0 (i + 1) hlt r1 _ a1
    rw [show ((i + 1 : Nat) : Int) = (i : Int) + 1 by omega] at ih1
    rw [e2] at e1
    simp at e1
    refine ⟨r', ?_, ih2.congr fun x y _ => ?_⟩
    · simp (disch := first | assumption | omega | (simp [*] <;> omega) | fail) [hu.vlen', hu.vidx', hu.vload', wrap64, hlt', e1, ih1, hsc]
    · constructor
      · rintro ((h1 | ⟨q, _, h3, h4⟩) | ⟨p, h1, h2⟩)
        · exact .inl h1
        · exact .inr ⟨i, Nat.le_refl _, q, h3, h4⟩
        · exact .inr ⟨p, by omega, h2⟩
      · rintro (h1 | ⟨p, h1, q, h4, h5⟩)
        · exact .inl (.inl h1)
        · by_cases e : p = i
          · subst e; exact .inl (.inr ⟨q, by omega, h4, h5⟩)
          · exact .inr ⟨p, by omega, q, h4, h5⟩
  · have hlt' : ¬ (i : Int) < xs.length := by omega
    refine ⟨r, ?_, ha.congr fun x y _ => ?_⟩
    · simp (disch := first | assumption | omega | (simp [*] <;> omega) | fail) [hlt']
    · constructor
      · exact .inl
      · rintro (h | ⟨p, h1, q, h3, _⟩)
        · exact h
        · have := h3.1
          omega
 termination_by xs.length - i

theorem on_adj2 {n : Int} {rows xs : List Int} (g : GV n rows) (hx : ∀ j : Nat, j < xs.length → 0 ≤ xs.getD j 0 ∧ xs.getD j 0 < n) (x y : Nat) : (False ∨ ∃ p : Nat, 0 ≤ p ∧ ∃ q : Nat, onAdj rows xs p q ∧ ((x = p ∧ y = q) ∨ (x = q ∧ y = p))) ↔ onAdj rows xs x y ∧ x ≠ y := by
  have hl := g.len
  have irr : ∀ p, ¬ onAdj rows xs p p := by
    rintro p ⟨h1, _, h3⟩
    have a1 := hx p h1
    obtain ⟨_, _, g3⟩ := g.row (xs.getD p 0).toNat (by omega)
    rw [g3] at h3
    cases h3
  rw [← on_adj g hx x y]
  constructor
  · rintro (h | ⟨p, _, q, h1, h2⟩)
    · exact .inl h
    · rw [on_adj g hx x y]
      rcases h2 with ⟨rfl, rfl⟩ | ⟨rfl, rfl⟩
      · exact ⟨h1, fun e => irr _ (e ▸ h1)⟩
      · have := (on_adj g hx y x).mp ((on_adj g hx y x).mpr ⟨h1, fun e => irr _ (e ▸ h1)⟩)
        have a1 := hx y h1.1
        have a2 := hx x h1.2.1
        exact ⟨⟨h1.2.1, h1.1, by rw [g.sym _ _ (by omega) (by omega)]; exact h1.2.2⟩, fun e => irr _ (e ▸ h1)⟩
  · rintro (h | ⟨p, _, q, _, h1, h2⟩)
    · exact .inl h
    · exact .inr ⟨p, by omega, q, h1, h2⟩

theorem c_impl_Graph_partOn (n : Int) (s u : Value) (rows xs : List Int) (h : VH) (hs : Sli h s rows) (hu : Sli h u xs) (hn : nro ≤ h.length) (g : GV n rows) (hx : ∀ j : Nat, j < xs.length → 0 ≤ xs.getD j 0 ∧ xs.getD j 0 < n) (hN : xs.length ≤ 62) :
    vcall F nro k_impl_Graph_partOn [gv n s, u] h = some (gv xs.length (.slice (some ⟨h.length, 0, none⟩) xs.length xs.length), h ++ [⟨1, ints (onRows rows xs)⟩]) := by
  have hn' := fun k => Nat.le_trans hn (Nat.le_add_right h.length k)
  have hE := c_impl_empty (nro := nro) xs.length (h ++ [⟨0, [.int .i64 n, s]⟩, ⟨0, [.int .i64 0, .slice none 0 0]⟩]) (by omega) (by omega) (by simp; omega)
  obtain ⟨r', e1, a1⟩ := l_impl_partOn_2 (nro := nro) n s u rows xs h hs hu hn g hx hN (List.replicate xs.length 0) 0 (by omega) (List.replicate xs.length 0) _ (IsAdj.zero _)
  have a2 : IsAdj xs.length r' (fun x y => onAdj rows xs x y ∧ x ≠ y) := a1.congr fun x y _ => on_adj2 g hx x y
  have e : onRows rows xs = r' := a2.eq
  rw [e]
  refine v_impl_Graph_partOn (by simp [i_impl_Graph_partOn]) ?_
  rw [fbody_eq]
  simp at hE e1
  simp (disch := first | assumption | omega | (simp [*] <;> omega) | fail) [i_impl_Graph_partOn, hu.vlen', hE, e1, hn', fresults, fresL, fres1]

/-! ### PartOn -/
abbrev pH (h : VH) (n : Int) (s : Value) : VH := h ++ [⟨0, [.int .i64 n, s]⟩, ⟨0, [.int .i64 0, .slice none 0 0]⟩]
def notUp (xs : List Int) : Prop := ∃ j : Int, 1 ≤ j ∧ j < xs.length ∧ ¬ xs.getD (j - 1).toNat 0 < xs.getD j.toNat 0

open Classical in
theorem l_spec_PartOn (n : Int) (s u : Value) (xs : List Int) (h : VH) (hu : Sli h u xs) (hn : nro ≤ h.length) (hsc : ∀ k, OldC (h.length + k) s) (hl : xs.length ≤ 9223372036854775806) :
    floop (vcall F nro) nro [1, 2, 4, 7] i_spec_PartOn_B1 (pH h n s) [u, bp h, cp h, .int .i64 1] (pH h n s) =
      if notUp xs then some (.ret, fl [(4, cp h), (5, .int .i64 2)], pH h n s) else some (.exit 0, fl [(1, u), (2, bp h), (4, cp h)], pH h n s) := by
  have huo := fun k => hu.oldk (k := k)
  have hn' := fun k => Nat.le_trans hn (Nat.le_add_right h.length k)
  refine search (fun i => floop (vcall F nro) nro [1, 2, 4, 7] i_spec_PartOn_B1 (pH h n s) [u, bp h, cp h, .int .i64 i] (pH h n s)) (fun j => ¬ xs.getD (j - 1).toNat 0 < xs.getD j.toNat 0) _ _ xs.length 1 ?_ ?_ 1 (by omega)
  · intro i hi hlt
    have e1 : xs.getD i.toNat 0 = xs[i.toNat]'(by omega) := getD_at _ (by omega)
    have e2 : xs.getD (i - 1).toNat 0 = xs[i.toNat - 1]'(by omega) := by rw [show (i - 1).toNat = i.toNat - 1 by omega]; exact getD_at _ (by omega)
    rw [floop_at i_spec_PartOn_B1.eq_1, e1, e2]
    constructor <;> intro hb
    · have hb2 : xs[i.toNat]'(by omega) ≤ xs[i.toNat - 1]'(by omega) := by omega
      simp (disch := first | assumption | omega | (simp [*] <;> omega) | fail) [hu.vlen', hu.vidx', hu.vload', wrap64, hlt, hb2, hn']
    · have hb2 : ¬ xs[i.toNat]'(by omega) ≤ xs[i.toNat - 1]'(by omega) := by omega
      simp (disch := first | assumption | omega | (simp [*] <;> omega) | fail) [hu.vlen', hu.vidx', hu.vload', wrap64, hlt, hb2, hn']
  · intro i hi hlt
    rw [floop_at i_spec_PartOn_B1.eq_1]
    simp (disch := first | assumption | omega | (simp [*] <;> omega) | fail) [hu.vlen', hlt]

open Classical in
theorem l_impl_PartOn (n : Int) (s u : Value) (xs : List Int) (h : VH) (hu : Sli h u xs) (hn : nro ≤ h.length) (hsc : ∀ k, OldC (h.length + k) s) (hl : xs.length ≤ 9223372036854775806) :
    floop (vcall F nro) nro [1, 2, 4, 7] i_impl_PartOn_B1 (pH h n s) [u, bp h, cp h, .int .i64 1] (pH h n s) =
      if notUp xs then some (.ret, fl [(4, cp h), (5, .int .i64 2)], pH h n s) else some (.exit 0, fl [(1, u), (2, bp h), (4, cp h)], pH h n s) := by
  have huo := fun k => hu.oldk (k := k)
  have hn' := fun k => Nat.le_trans hn (Nat.le_add_right h.length k)
  refine search (fun i => floop (vcall F nro) nro [1, 2, 4, 7] i_impl_PartOn_B1 (pH h n s) [u, bp h, cp h, .int .i64 i] (pH h n s)) (fun j => ¬ xs.getD (j - 1).toNat 0 < xs.getD j.toNat 0) _ _ xs.length 1 ?_ ?_ 1 (by omega)
  · intro i hi hlt
    have e1 : xs.getD i.toNat 0 = xs[i.toNat]'(by omega) := getD_at _ (by omega)
    have e2 : xs.getD (i - 1).toNat 0 = xs[i.toNat - 1]'(by omega) := by rw [show (i - 1).toNat = i.toNat - 1 by omega]; exact getD_at _ (by omega)
    rw [floop_at i_impl_PartOn_B1.eq_1, e1, e2]
    constructor <;> intro hb
    · have hb2 : xs[i.toNat]'(by omega) ≤ xs[i.toNat - 1]'(by omega) := by omega
      simp (disch := first | assumption | omega | (simp [*] <;> omega) | fail) [hu.vlen', hu.vidx', hu.vload', wrap64, hlt, hb2, hn']
    · have hb2 : ¬ xs[i.toNat]'(by omega) ≤ xs[i.toNat - 1]'(by omega) := by omega
      simp (disch := first | assumption | omega | (simp [*] <;> omega) | fail) [hu.vlen', hu.vidx', hu.vload', wrap64, hlt, hb2, hn']
  · intro i hi hlt
    rw [floop_at i_impl_PartOn_B1.eq_1]
    simp (disch := first | assumption | omega | (simp [*] <;> omega) | fail) [hu.vlen', hlt]

theorem up_len {n : Int} {xs : List Int} (hb : ¬ badV n xs) (hu : ¬ notUp xs) (hx : xs ≠ []) : (xs.length : Int) ≤ n ∧ ∀ j : Nat, j < xs.length → 0 ≤ xs.getD j 0 ∧ xs.getD j 0 < n := by
  have h1 : ∀ j : Nat, j < xs.length → 0 ≤ xs.getD j 0 ∧ xs.getD j 0 < n := by
    intro j hj
    apply Classical.byContradiction
    intro h
    exact hb ⟨j, by omega, by omega, by simpa using h⟩
  have h2 : ∀ j : Nat, j < xs.length → (j : Int) ≤ xs.getD j 0 := by
    intro j
    induction j with
    | zero => intro hj; exact (h1 0 hj).1
    | succ j ih =>
      intro hj
      have h3 := ih (by omega)
      have h4 : xs.getD j 0 < xs.getD (j + 1) 0 := by
        apply Classical.byContradiction
        intro h
        refine hu ⟨(j + 1 : Nat), by omega, by omega, ?_⟩
        rw [show (((j + 1 : Nat) : Int) - 1).toNat = j by omega, Int.toNat_natCast]
        exact h
      omega
  refine ⟨?_, h1⟩
  have hlen : 0 < xs.length := List.length_pos_iff.mpr hx
  have h3 := h2 (xs.length - 1) (by omega)
  have h4 := h1 (xs.length - 1) (by omega)
  omega

open Classical in
noncomputable def partOnAns (n : Int) (rows xs : List Int) : GAns :=
  if vtxCode n rows xs ≠ 0 then .inr (vtxCode n rows xs) else if xs = [] ∨ notUp xs then .inr 2 else .inl ((xs.length : Int), onRows rows xs)

theorem vtx_zero {n : Int} {rows xs : List Int} (h : vtxCode n rows xs = 0) : GV n rows ∧ ¬ badV n xs := by
  unfold vtxCode at h
  split at h
  · rename_i g
    split at h
    · cases h
    · rename_i h1; exact ⟨g, h1⟩
  · cases h

theorem c_spec_PartOn (n : Int) (s u : Value) (rows xs : List Int) (h : VH) (hs : Sli h s rows) (hu : Sli h u xs) (hn : nro ≤ h.length) (hl : xs.length ≤ 9223372036854775806) :
    vcall F nro k_spec_PartOn [gv n s, u] h = some (gres h (partOnAns n rows xs)) := by
  refine v_spec_PartOn (by simp [i_spec_PartOn]) ?_
  rw [fbody_eq]
  have hn' := fun k => Nat.le_trans hn (Nat.le_add_right h.length k)
  have hsc := fun k => hs.oldCk (k := k)
  have hc := c_spec_l01Vertices (nro := nro) n s u rows xs (pH h n s) (hs.app _) (hu.app _) hl
  have hl2 := l_spec_PartOn (nro := nro) n s u xs h hu hn hsc hl
  by_cases hz : vtxCode n rows xs = 0
  · obtain ⟨g, hb⟩ := vtx_zero hz
    rw [hz] at hc
    by_cases hx : xs = []
    · have e : partOnAns n rows xs = .inr 2 := by unfold partOnAns; rw [if_neg (fun h => h hz), if_pos (.inl hx)]
      have hx0 : (xs.length : Int) = 0 := by rw [hx]; rfl
      clear hx
      simp (disch := first | assumption | omega | (simp [*] <;> omega) | fail) [i_spec_PartOn, hc, hu.vlen', hx0, e, fresults, fresL, fres1, hn']
    · have hx0 : ¬ (xs.length : Int) = 0 := by
        have := List.length_pos_iff.mpr hx
        omega
      by_cases hup : notUp xs
      · have e : partOnAns n rows xs = .inr 2 := by simp [partOnAns, hz, hup]
        rw [if_pos hup] at hl2
        simp (disch := first | assumption | omega | (simp [*] <;> omega) | fail) [i_spec_PartOn, hc, hu.vlen', hx, hx0, hl2, e, fresults, fresL, fres1, hn']
      · obtain ⟨h1, h2⟩ := up_len hb hup hx
        have g0 := g.hi
        have e : partOnAns n rows xs = .inl ((xs.length : Int), onRows rows xs) := by simp [partOnAns, hz, hx, hup]
        obtain ⟨ho, ha⟩ := c_spec_l01On (nro := nro) n s u rows xs (pH h n s) (hs.app _) (hu.app _) (by simp; omega) g h2 (by omega)
        have hal := ha.1
        rw [if_neg hup] at hl2
        simp at ho
        clear ha h2
        simp (disch := first | assumption | omega | (simp [*] <;> omega) | fail) [i_spec_PartOn, hc, hu.vlen', hx, hx0, hl2, ho, e, hal, fresults, fresL, fres1, hn']
  · have e : partOnAns n rows xs = .inr (vtxCode n rows xs) := by simp [partOnAns, hz]
    simp (disch := first | assumption | omega | (simp [*] <;> omega) | fail) [i_spec_PartOn, hc, hz, e, fresults, fresL, fres1, hn']

theorem c_impl_PartOn (n : Int) (s u : Value) (rows xs : List Int) (h : VH) (hs : Sli h s rows) (hu : Sli h u xs) (hn : nro ≤ h.length) (hl : xs.length ≤ 9223372036854775806) :
    vcall F nro k_impl_PartOn [gv n s, u] h = some (gres h (partOnAns n rows xs)) := by
  refine v_impl_PartOn (by simp [i_impl_PartOn]) ?_
  rw [fbody_eq]
  have hn' := fun k => Nat.le_trans hn (Nat.le_add_right h.length k)
  have hsc := fun k => hs.oldCk (k := k)
  have hc := c_impl_graphCode (nro := nro) n s u rows xs (pH h n s) (hs.app _) (hu.app _) hl
  have hl2 := l_impl_PartOn (nro := nro) n s u xs h hu hn hsc hl
  by_cases hz : vtxCode n rows xs = 0
  · obtain ⟨g, hb⟩ := vtx_zero hz
    rw [hz] at hc
    by_cases hup : notUp xs
    · have e : partOnAns n rows xs = .inr 2 := by simp [partOnAns, hz, hup]
      rw [if_pos hup] at hl2
      simp (disch := first | assumption | omega | (simp [*] <;> omega) | fail) [i_impl_PartOn, hc, hu.vlen', hl2, e, fresults, fresL, fres1, hn']
    · rw [if_neg hup] at hl2
      by_cases hx : xs = []
      · have e : partOnAns n rows xs = .inr 2 := by unfold partOnAns; rw [if_neg (fun h => h hz), if_pos (.inl hx)]
        subst hx
        simp (disch := first | assumption | omega | (simp [*] <;> omega) | fail) [i_impl_PartOn, hc, hu.vlen', hl2, e, fresults, fresL, fres1, hn']
      · have hx0 : ¬ (xs.length : Int) = 0 := by
          have := List.length_pos_iff.mpr hx
          omega
        obtain ⟨h1, h2⟩ := up_len hb hup hx
        have g0 := g.hi
        have e : partOnAns n rows xs = .inl ((xs.length : Int), onRows rows xs) := by simp [partOnAns, hz, hx, hup]
        obtain ⟨_, ha⟩ := c_spec_l01On (nro := nro) n s u rows xs h hs hu hn g h2 (by omega)
        have ho := c_impl_Graph_partOn (nro := nro) n s u rows xs (pH h n s) (hs.app _) (hu.app _) (by simp; omega) g h2 (by omega)
        have hal := ha.1
        simp at ho
        clear ha h2
        simp (disch := first | assumption | omega | (simp [*] <;> omega) | fail) [i_impl_PartOn, hc, hu.vlen', hx, hx0, hl2, ho, e, hal, fresults, fresL, fres1, hn']
  · have e : partOnAns n rows xs = .inr (vtxCode n rows xs) := by simp [partOnAns, hz]
    simp (disch := first | assumption | omega | (simp [*] <;> omega) | fail) [i_impl_PartOn, hc, hz, e, fresults, fresL, fres1, hn']

theorem partOnAns_len {n : Int} {rows xs : List Int} {m : Int} {r : List Int} (e : partOnAns n rows xs = .inl (m, r)) : r.length ≤ 62 := by
  unfold partOnAns at e
  split at e
  · cases e
  · rename_i hz
    obtain ⟨g, hb⟩ := vtx_zero (Classical.not_not.mp hz)
    split at e
    · cases e
    · rename_i hx
      cases e
      have hx1 : xs ≠ [] := fun h => hx (.inl h)
      have hup : ¬ notUp xs := fun h => hx (.inr h)
      obtain ⟨h1, h2⟩ := up_len hb hup hx1
      have g0 := g.hi
      have : IsAdj xs.length (onRows rows xs) (fun x y => onAdj rows xs x y ∧ x ≠ y) := adjRows_is (by
        rintro v w hv ⟨⟨_, h3, _⟩, _⟩
        omega)
      rw [this.1]
      omega

theorem r_spec_PartOn (n : Int) (s u : Value) (h : VH) (hs : isSli h s) (hu : isSli h u) (hn : nro ≤ h.length) (hl : (rd h u).length ≤ 9223372036854775806) : vcall F nro k_spec_PartOn [gv n s, u] h = some (gres h (partOnAns n (rd h s) (rd h u))) := c_spec_PartOn n s u _ _ h hs.sli hu.sli hn hl
theorem r_impl_PartOn (n : Int) (s u : Value) (h : VH) (hs : isSli h s) (hu : isSli h u) (hn : nro ≤ h.length) (hl : (rd h u).length ≤ 9223372036854775806) : vcall F nro k_impl_PartOn [gv n s, u] h = some (gres h (partOnAns n (rd h s) (rd h u))) := c_impl_PartOn n s u _ _ h hs.sli hu.sli hn hl

theorem r_laws_markInt64S (b N : Nat) (k : Int) (h : VH) (hs : isSli h (.slice (some ⟨b, 0, none⟩) N N)) (hn : nro ≤ b) (hk : 0 ≤ k) (hk2 : k + N ≤ 9223372036854775806) :
    vcall F nro k_laws_markInt64S [.slice (some ⟨b, 0, none⟩) N N, .int .i64 k] h = some (.int .i64 (k + N), h.set b ⟨1, ints (cnt k N)⟩) := by
  obtain ⟨xs, hb, hl, _⟩ := hs.whole
  exact c_laws_markInt64S (nro := nro) b N xs k h hb hl hn hk hk2

theorem law_PartOn (n : Int) (s : Value) (rows : List Int) (u : Value) (xs : List Int) (h : VH) (hs : Sli h s rows) (hu : Sli h u xs) (h3 : rows.length ≤ 9223372036854775807) (h4 : xs.length ≤ 9223372036854775807) (hn : nro ≤ h.length) :
    vcall F nro k_laws_FnExactPartOn [gv n s, u] h = some (.bool true, h) := by
  refine v_laws_FnExactPartOn (by simp [i_laws_FnExactPartOn]) ?_
  rw [fbody_eq]
  by_cases hx : 1048576 < (xs.length : Int)
  · simp (disch := first | assumption | omega | (simp [*] <;> omega) | fail) [i_laws_FnExactPartOn, hu.vlen', hx]
  · have hc1 := c_laws_szGraph (nro := nro) n s rows 1048576 (bx h n s) (hs.app _) (by omega) (by omega) h3
    by_cases hr : 1048576 < (rows.length : Int)
    · rw [if_pos hr] at hc1
      simp (disch := first | assumption | omega | (simp [*] <;> omega) | fail) [i_laws_FnExactPartOn, hu.vlen', hx, hc1]
    · rw [if_neg hr] at hc1
      have hr2 : ¬ (1048576 - (rows.length : Int) < 0) := by omega
      have h5 : rows.length ≤ 1048576 := by omega
      have h6 : xs.length ≤ 1048576 := by omega
      have p1 : ∀ k : Nat, (0 : Int) ≤ 1 + k := fun k => by omega
      have p2 : ∀ k : Nat, ¬ (1 + k : Int) < 0 := fun k => by omega
      have p3 : ∀ k j : Nat, ¬ (1 + k + j : Int) < 0 := fun k j => by omega
      have hn' := fun k => Nat.le_trans hn (Nat.le_add_right h.length k)
      have hsi := fun L => hs.is' (L := L)
      have hsr := fun L => hs.rd' (L := L)
      have hui := fun L => hu.is' (L := L)
      have hur := fun L => hu.rd' (L := L)
      have hul := fun L => hu.vlen' (L := L)
      clear hs hu
      cases hp : partOnAns n rows xs with
      | inl q =>
        obtain ⟨m, r⟩ := q
        have hl := partOnAns_len hp
        simp (disch := first | assumption | omega | (simp [*] <;> omega) | fail) [i_laws_FnExactPartOn, hul, hx, hc1, hr2, r_laws_toGraph, r_laws_toInt64S, r_spec_PartOn, r_impl_PartOn, r_laws_eqGraph, r_laws_eqInt64S, r_laws_markGraph, r_laws_markInt64S, r_laws_heldGraph, hp, hsi, hsr, hui, hur, hn', hn, h5, h6, hl, p1, p2, p3]
      | inr c =>
        simp (disch := first | assumption | omega | (simp [*] <;> omega) | fail) [i_laws_FnExactPartOn, hul, hx, hc1, hr2, r_laws_toGraph, r_laws_toInt64S, r_spec_PartOn, r_impl_PartOn, r_laws_eqGraph, r_laws_eqInt64S, r_laws_markGraph, r_laws_markGraph_nil, r_laws_markInt64S, r_laws_heldGraph, hp, hsi, hsr, hui, hur, hn', hn, h5, h6, p1, p2, p3]
end Go.Proofs.Ytcpmodengmffjaa.Zv
