/- Graphs that are filled with all edges that may be. -/
import Derived.Test.YthpgiimaadohcaaDoorZwMay
namespace Go.Proofs.YthpgiimaadohcaaDoor.Zv
open Go
variable {nro : Nat}

theorem Rok.isAdj {n : Nat} {rows : List Int} (R : Rok n rows) : IsAdj n rows (fun v w => rbit rows v w = true) := by
  refine ⟨R.len, fun v hv => ?_⟩
  obtain ⟨r1, r2⟩ := R.row v hv
  have := le62 R.le r2
  exact ⟨r1, by omega, fun w => Iff.rfl⟩
theorem bit_lt {x n j : Nat} (h : x < 2 ^ n) (hb : x.testBit j = true) : j < n := by
  rcases Nat.lt_or_ge j n with h1 | h1
  · exact h1
  · rw [Nat.testBit_lt_two_pow (Nat.lt_of_lt_of_le h (Nat.pow_le_pow_right (by omega) h1))] at hb
    cases hb
theorem Rok.lt {n : Nat} {rows : List Int} (R : Rok n rows) {v w : Nat} (hv : v < n) (h : rbit rows v w = true) : w < n := bit_lt (R.row v hv).2 h
theorem Rok.of {n : Nat} {rows : List Int} {adj : Nat → Nat → Prop} (h : IsAdj n rows adj) (hn : n ≤ 62) (hlt : ∀ v w, v < n → adj v w → w < n) : Rok n rows := by
  refine ⟨h.1, hn, fun v hv => ?_⟩
  obtain ⟨h1, _, h3⟩ := h.2 v hv
  refine ⟨h1, Nat.lt_pow_two_of_testBit _ fun w hw => ?_⟩
  have : ¬ rbit rows v w = true := fun hb => by
    have := hlt v w hv ((h3 w).mp hb)
    omega
  unfold rbit at this
  simpa using this
theorem Rok.put2 {n : Nat} {rows : List Int} (R : Rok n rows) {v w : Nat} (hv : v < n) (hw : w < n) : Rok n (put2 rows v w) := by
  have := R.isAdj.put2 (a := (v : Int)) (b := (w : Int)) (by omega) (by omega) (by omega) (by omega) R.le
  refine Rok.of this R.le fun x y hx hxy => ?_
  rcases hxy with h | ⟨_, h⟩ | ⟨_, h⟩
  · exact R.lt hx h
  · omega
  · omega
theorem Rok.zero {n : Nat} (hn : n ≤ 62) : Rok n (List.replicate n 0) := Rok.of (IsAdj.zero n) hn fun _ _ _ h => h.elim
theorem GV.rok {n : Nat} {rows : List Int} (g : GV n rows) : Rok n rows := by
  have hl := g.len
  have hi := g.hi
  refine ⟨by omega, by omega, fun v hv => ?_⟩
  obtain ⟨h1, h2, _⟩ := g.row v (by omega)
  refine ⟨h1, ?_⟩
  rw [Int.toNat_natCast] at h2
  have e : ((2 ^ n : Nat) : Int) = (2 : Int) ^ n := by simp
  omega

/-- All edges at v to w and on that may be. -/
noncomputable def fillR (k c : Int) (n v : Nat) (rows : List Int) (w : Nat) : List Int := if h : w < n then fillR k c n v (if mayB rows k c v w = true then put2 rows v w else rows) (w + 1) else rows
 termination_by n - w
theorem fillR_end {k c : Int} {n v w : Nat} {rows : List Int} (h : ¬ w < n) : fillR k c n v rows w = rows := by rw [fillR, dif_neg h]
theorem fillR_step {k c : Int} {n v w : Nat} {rows : List Int} (h : w < n) : fillR k c n v rows w = fillR k c n v (if mayB rows k c v w = true then put2 rows v w else rows) (w + 1) := by rw [fillR, dif_pos h]
theorem Rok.fillR {n : Nat} (k c : Int) (v : Nat) (hv : v < n) (w : Nat) (rows : List Int) (R : Rok n rows) : Rok n (fillR k c n v rows w) := by
  by_cases h : w < n
  · rw [fillR_step h]
    refine Rok.fillR k c v hv (w + 1) _ ?_
    split
    · exact R.put2 hv h
    · exact R
  · rw [fillR_end h]; exact R
 termination_by n - w
/-- All edges from v on. -/
noncomputable def fillA (k c : Int) (n : Nat) (rows : List Int) (v : Nat) : List Int := if h : v < n then fillA k c n (fillR k c n v rows (v + 1)) (v + 1) else rows
 termination_by n - v
theorem fillA_end {k c : Int} {n v : Nat} {rows : List Int} (h : ¬ v < n) : fillA k c n rows v = rows := by rw [fillA, dif_neg h]
theorem fillA_step {k c : Int} {n v : Nat} {rows : List Int} (h : v < n) : fillA k c n rows v = fillA k c n (fillR k c n v rows (v + 1)) (v + 1) := by rw [fillA, dif_pos h]
theorem Rok.fillA {n : Nat} (k c : Int) (v : Nat) (rows : List Int) (R : Rok n rows) : Rok n (fillA k c n rows v) := by
  by_cases h : v < n
  · rw [fillA_step h]
    exact Rok.fillA k c (v + 1) _ (R.fillR k c v h _)
  · rw [fillA_end h]; exact R
 termination_by n - v

/-- The heap of the filling: the graph, the result's place, the rows, the graph that is filled. -/
def fh (h : VH) (n : Nat) (s : Value) (q : List Int) : VH := h ++ [⟨0, [.int .i64 n, s]⟩, ⟨0, [.int .i64 0, .slice none 0 0]⟩, ⟨1, ints q⟩, ⟨0, [.int .i64 n, .slice (some ⟨h.length + 2, 0, none⟩) n n]⟩]

theorem l_spec_l07Fill_1 (h : VH) (n : Nat) (k c : Int) (s : Value) (hso : ∀ k, OldC (h.length + k) s) (hn : nro ≤ h.length) (v : Nat) (hv : v < n) (q0 : List Int) (w : Nat) (hw : v < w) (hwn : w ≤ n) (q : List Int) (R : Rok n q) :
    floop (vcall F nro) nro [1, 2, 3, 6, 7, 8, 9] i_spec_l07Fill_B1 (fh h n s q0) [.int .i64 k, .int .i64 c, .pointer (some ⟨h.length, 0, some 2⟩), .pointer (some ⟨h.length + 1, 0, some 2⟩), .pointer (some ⟨h.length + 3, 0, some 2⟩), .int .i64 v, .int .i64 w] (fh h n s q) =
      some (.exit 2, fl [(1, .int .i64 k), (2, .int .i64 c), (3, .pointer (some ⟨h.length, 0, some 2⟩)), (6, .pointer (some ⟨h.length + 1, 0, some 2⟩)), (7, .pointer (some ⟨h.length + 3, 0, some 2⟩)), (8, .int .i64 v)], fh h n s (fillR k c n v q w)) := by
  have hn' := fun k => Nat.le_trans hn (Nat.le_add_right h.length k)
  have hle := R.le
  have hlen := R.len
  rw [floop_at i_spec_l07Fill_B1.eq_1]
  by_cases hlt : w < n
  · have hlt' : (w : Int) < n := by omega
    have hS : Sli (fh h n s q) (.slice (some ⟨h.length + 2, 0, none⟩) n n) q := by
      have := sli_at (h := fh h n s q) (b := h.length + 2) (xs := q) (by unfold fh; simp)
      rw [hlen] at this
      exact this
    have hc := c_spec_l07May (nro := nro) n v w k c (.slice (some ⟨h.length + 2, 0, none⟩) n n) q (fh h n s q) hS R hv hlt (by omega)
    rw [fillR_step hlt]
    by_cases hm : mayB q k c v w = true
    · have hp := c_spec_l01Put (nro := nro) n (h.length + 2) n v w q (fh h n s q) (by unfold fh; simp) hlen (by omega) (by omega) (by omega) (by omega) (by omega) hle
      have ih := l_spec_l07Fill_1 h n k c s hso hn v hv q0 (w + 1) (by omega) hlt (put2 q v w) (R.put2 hv hlt)
      rw [show ((w + 1 : Nat) : Int) = (w : Int) + 1 by omega] at ih
      rw [if_pos hm]
      rw [hm] at hc
      have hvw : ¬ (v : Int) = w := by omega
      have hvw' : ¬ v = w := by omega
      have hpl : (put2 q (v : Int) (w : Int)).length = n := by rw [put2_length]; exact hlen
      obtain ⟨p, hpp⟩ : ∃ p, p = put2 q (v : Int) (w : Int) := ⟨_, rfl⟩
      rw [← hpp] at hp ih hpl ⊢
      obtain ⟨r, hr⟩ : ∃ r, r = fillR k c n v p (w + 1) := ⟨_, rfl⟩
      rw [← hr] at ih ⊢
      clear hpp hr hS
      unfold fh at hc hp ih ⊢
      simp [hvw, hvw'] at hc hp ih
      simp (disch := first | assumption | omega | (simp [*] <;> omega) | fail) [wrap64, hlt, hlt', hc, hp, ih, hn, hn', hso]
    · have ih := l_spec_l07Fill_1 h n k c s hso hn v hv q0 (w + 1) (by omega) hlt q R
      rw [show ((w + 1 : Nat) : Int) = (w : Int) + 1 by omega] at ih
      rw [if_neg hm]
      have hm' : mayB q k c v w = false := by simpa using hm
      rw [hm'] at hc
      obtain ⟨r, hr⟩ : ∃ r, r = fillR k c n v q (w + 1) := ⟨_, rfl⟩
      rw [← hr] at ih ⊢
      clear hr hS
      unfold fh at hc ih ⊢
      simp (disch := first | assumption | omega | (simp [*] <;> omega) | fail) [wrap64, hlt, hlt', hc, ih, hn, hn', hso]
  · have hlt' : ¬ (w : Int) < n := by omega
    rw [fillR_end hlt]
    unfold fh
    simp (disch := first | assumption | omega | (simp [*] <;> omega) | fail) [hlt, hlt', hn, hn']
 termination_by n - w

theorem l_spec_l07Fill_2 (h : VH) (n : Nat) (k c : Int) (s : Value) (hso : ∀ k, OldC (h.length + k) s) (hn : nro ≤ h.length) (q0 : List Int) (v : Nat) (hvn : v ≤ n) (q : List Int) (R : Rok n q) :
    floop (vcall F nro) nro [1, 2, 3, 6, 7, 8] i_spec_l07Fill_B2 (fh h n s q0) [.int .i64 k, .int .i64 c, .pointer (some ⟨h.length, 0, some 2⟩), .pointer (some ⟨h.length + 1, 0, some 2⟩), .pointer (some ⟨h.length + 3, 0, some 2⟩), .int .i64 v] (fh h n s q) =
      some (.exit 0, fl [(6, .pointer (some ⟨h.length + 1, 0, some 2⟩)), (7, .pointer (some ⟨h.length + 3, 0, some 2⟩))], fh h n s (fillA k c n q v)) := by
  have hn' := fun k => Nat.le_trans hn (Nat.le_add_right h.length k)
  have hle := R.le
  rw [floop_at i_spec_l07Fill_B2.eq_1]
  by_cases hlt : v < n
  · have hlt' : (v : Int) < n := by omega
    have lp := l_spec_l07Fill_1 (nro := nro) h n k c s hso hn v hlt q (v + 1) (by omega) hlt q R
    have ih := l_spec_l07Fill_2 h n k c s hso hn q0 (v + 1) hlt (fillR k c n v q (v + 1)) (R.fillR k c v hlt _)
    rw [show ((v + 1 : Nat) : Int) = (v : Int) + 1 by omega] at ih lp
    rw [fillA_step hlt]
    obtain ⟨p, hpp⟩ : ∃ p, p = fillR k c n v q (v + 1) := ⟨_, rfl⟩
    rw [← hpp] at lp ih ⊢
    obtain ⟨r, hr⟩ : ∃ r, r = fillA k c n p (v + 1) := ⟨_, rfl⟩
    rw [← hr] at ih ⊢
    clear hpp hr
    unfold fh at lp ih ⊢
    simp (disch := first | assumption | omega | (simp [*] <;> omega) | fail) [wrap64, hlt, hlt', lp, ih, hn, hn', hso]
  · have hlt' : ¬ (v : Int) < n := by omega
    rw [fillA_end hlt]
    unfold fh
    simp (disch := first | assumption | omega | (simp [*] <;> omega) | fail) [hlt, hlt', hn, hn']
 termination_by n - v

theorem l_impl_filled_1 (h : VH) (n : Nat) (k c : Int) (s : Value) (hso : ∀ k, OldC (h.length + k) s) (hn : nro ≤ h.length) (v : Nat) (hv : v < n) (q0 : List Int) (w : Nat) (hw : v < w) (hwn : w ≤ n) (q : List Int) (R : Rok n q) :
    floop (vcall F nro) nro [1, 2, 3, 6, 7, 8, 9, 13, 14] i_impl_filled_B1 (fh h n s q0) [.int .i64 k, .int .i64 c, .pointer (some ⟨h.length, 0, some 2⟩), .pointer (some ⟨h.length + 1, 0, some 2⟩), .pointer (some ⟨h.length + 3, 0, some 2⟩), .int .i64 v, .int .i64 w, .int .i64 n, .int .i64 v] (fh h n s q) =
      some (.exit 2, fl [(1, .int .i64 k), (2, .int .i64 c), (3, .pointer (some ⟨h.length, 0, some 2⟩)), (6, .pointer (some ⟨h.length + 1, 0, some 2⟩)), (7, .pointer (some ⟨h.length + 3, 0, some 2⟩)), (13, .int .i64 n), (14, .int .i64 v)], fh h n s (fillR k c n v q w)) := by
  have hn' := fun k => Nat.le_trans hn (Nat.le_add_right h.length k)
  have hle := R.le
  have hlen := R.len
  rw [floop_at i_impl_filled_B1.eq_1]
  by_cases hlt : w < n
  · have hlt' : (w : Int) < n := by omega
    have hS : Sli (fh h n s q) (.slice (some ⟨h.length + 2, 0, none⟩) n n) q := by
      have := sli_at (h := fh h n s q) (b := h.length + 2) (xs := q) (by unfold fh; simp)
      rw [hlen] at this
      exact this
    have hc := c_impl_Graph_mayJoin (nro := nro) n v w k c (.slice (some ⟨h.length + 2, 0, none⟩) n n) q (fh h n s q) hS R hv hlt (by unfold fh; simp; omega)
    rw [fillR_step hlt]
    by_cases hm : mayB q k c v w = true
    · have hp := c_impl_Graph_put (nro := nro) n (h.length + 2) n v w q (fh h n s q) (by unfold fh; simp) hlen (by omega) (by omega) (by omega) (by omega) (by omega) hle
      have ih := l_impl_filled_1 h n k c s hso hn v hv q0 (w + 1) (by omega) hlt (put2 q v w) (R.put2 hv hlt)
      rw [show ((w + 1 : Nat) : Int) = (w : Int) + 1 by omega] at ih
      rw [if_pos hm]
      rw [hm] at hc
      have hvw : ¬ (v : Int) = w := by omega
      have hvw' : ¬ v = w := by omega
      have hpl : (put2 q (v : Int) (w : Int)).length = n := by rw [put2_length]; exact hlen
      obtain ⟨p, hpp⟩ : ∃ p, p = put2 q (v : Int) (w : Int) := ⟨_, rfl⟩
      rw [← hpp] at hp ih hpl ⊢
      obtain ⟨r, hr⟩ : ∃ r, r = fillR k c n v p (w + 1) := ⟨_, rfl⟩
      rw [← hr] at ih ⊢
      clear hpp hr hS
      unfold fh at hc hp ih ⊢
      simp [hvw, hvw'] at hc hp ih
      simp (disch := first | assumption | omega | (simp [*] <;> omega) | fail) [wrap64, hlt, hlt', hc, hp, ih, hn, hn', hso]
    · have ih := l_impl_filled_1 h n k c s hso hn v hv q0 (w + 1) (by omega) hlt q R
      rw [show ((w + 1 : Nat) : Int) = (w : Int) + 1 by omega] at ih
      rw [if_neg hm]
      have hm' : mayB q k c v w = false := by simpa using hm
      rw [hm'] at hc
      obtain ⟨r, hr⟩ : ∃ r, r = fillR k c n v q (w + 1) := ⟨_, rfl⟩
      rw [← hr] at ih ⊢
      clear hr hS
      unfold fh at hc ih ⊢
      simp (disch := first | assumption | omega | (simp [*] <;> omega) | fail) [wrap64, hlt, hlt', hc, ih, hn, hn', hso]
  · have hlt' : ¬ (w : Int) < n := by omega
    rw [fillR_end hlt]
    unfold fh
    simp (disch := first | assumption | omega | (simp [*] <;> omega) | fail) [hlt, hlt', hn, hn']
 termination_by n - w

theorem l_impl_filled_2 (h : VH) (n : Nat) (k c : Int) (s : Value) (hso : ∀ k, OldC (h.length + k) s) (hn : nro ≤ h.length) (q0 : List Int) (v : Nat) (hvn : v ≤ n) (q : List Int) (R : Rok n q) :
    floop (vcall F nro) nro [1, 2, 3, 6, 7, 13, 14] i_impl_filled_B2 (fh h n s q0) [.int .i64 k, .int .i64 c, .pointer (some ⟨h.length, 0, some 2⟩), .pointer (some ⟨h.length + 1, 0, some 2⟩), .pointer (some ⟨h.length + 3, 0, some 2⟩), .int .i64 n, .int .i64 v] (fh h n s q) =
      some (.exit 0, fl [(6, .pointer (some ⟨h.length + 1, 0, some 2⟩)), (7, .pointer (some ⟨h.length + 3, 0, some 2⟩))], fh h n s (fillA k c n q v)) := by
  have hn' := fun k => Nat.le_trans hn (Nat.le_add_right h.length k)
  have hle := R.le
  rw [floop_at i_impl_filled_B2.eq_1]
  by_cases hlt : v < n
  · have hlt' : (v : Int) < n := by omega
    have lp := l_impl_filled_1 (nro := nro) h n k c s hso hn v hlt q (v + 1) (by omega) hlt q R
    have ih := l_impl_filled_2 h n k c s hso hn q0 (v + 1) hlt (fillR k c n v q (v + 1)) (R.fillR k c v hlt _)
    rw [show ((v + 1 : Nat) : Int) = (v : Int) + 1 by omega] at ih lp
    rw [fillA_step hlt]
    obtain ⟨p, hpp⟩ : ∃ p, p = fillR k c n v q (v + 1) := ⟨_, rfl⟩
    rw [← hpp] at lp ih ⊢
    obtain ⟨r, hr⟩ : ∃ r, r = fillA k c n p (v + 1) := ⟨_, rfl⟩
    rw [← hr] at ih ⊢
    clear hpp hr
    unfold fh at lp ih ⊢
    simp (disch := first | assumption | omega | (simp [*] <;> omega) | fail) [wrap64, hlt, hlt', lp, ih, hn, hn', hso]
  · have hlt' : ¬ (v : Int) < n := by omega
    rw [fillA_end hlt]
    unfold fh
    simp (disch := first | assumption | omega | (simp [*] <;> omega) | fail) [hlt, hlt', hn, hn']
 termination_by n - v

theorem c_spec_l07Fill (n : Nat) (k c : Int) (s : Value) (rows : List Int) (h : VH) (hs : Sli h s rows) (R : Rok n rows) (h1 : 1 ≤ n) (hn : nro ≤ h.length) :
    vcall F nro k_spec_l07Fill [gv n s, .int .i64 k, .int .i64 c] h = some (gv n (.slice (some ⟨h.length, 0, none⟩) n n), h ++ [⟨1, ints (fillA k c n rows 0)⟩]) := by
  have hn' := fun k => Nat.le_trans hn (Nat.le_add_right h.length k)
  refine v_spec_l07Fill (by simp [i_spec_l07Fill]) ?_
  rw [fbody_eq]
  have hlen := R.len
  have hle := R.le
  have hso := fun k => hs.oldCk (k := k)
  have hc := c_spec_l01Copy (nro := nro) n s rows (h ++ [⟨0, [.int .i64 n, s]⟩, ⟨0, [.int .i64 0, .slice none 0 0]⟩]) (hs.app _) (by omega) (by simp; omega)
  have lp := l_spec_l07Fill_2 (nro := nro) h n k c s hso hn rows 0 (by omega) rows R
  have hl2 := (R.fillA k c 0).len
  obtain ⟨r, hr⟩ : ∃ r, r = fillA k c n rows 0 := ⟨_, rfl⟩
  rw [← hr] at lp hl2 ⊢
  clear hr
  rw [hlen] at hc
  simp only [Int.natCast_zero] at lp
  unfold fh at lp
  simp at hc
  simp (disch := first | assumption | omega | (simp [*] <;> omega) | fail) [i_spec_l07Fill, hc, lp, hn, hn', hl2, fresults, fresL, fres1]

theorem c_impl_filled (n : Nat) (k c : Int) (s : Value) (rows : List Int) (h : VH) (hs : Sli h s rows) (R : Rok n rows) (h1 : 1 ≤ n) (hn : nro ≤ h.length) :
    vcall F nro k_impl_filled [gv n s, .int .i64 k, .int .i64 c] h = some (gv n (.slice (some ⟨h.length, 0, none⟩) n n), h ++ [⟨1, ints (fillA k c n rows 0)⟩]) := by
  have hn' := fun k => Nat.le_trans hn (Nat.le_add_right h.length k)
  refine v_impl_filled (by simp [i_impl_filled]) ?_
  rw [fbody_eq]
  have hlen := R.len
  have hle := R.le
  have hso := fun k => hs.oldCk (k := k)
  have hc := c_impl_own (nro := nro) n s rows (h ++ [⟨0, [.int .i64 n, s]⟩, ⟨0, [.int .i64 0, .slice none 0 0]⟩]) (hs.app _) (by intro e; rw [e] at hlen; simp at hlen; omega) (by omega) (by simp; omega)
  have lp := l_impl_filled_2 (nro := nro) h n k c s hso hn rows 0 (by omega) rows R
  have hl2 := (R.fillA k c 0).len
  obtain ⟨r, hr⟩ : ∃ r, r = fillA k c n rows 0 := ⟨_, rfl⟩
  rw [← hr] at lp hl2 ⊢
  clear hr
  rw [hlen] at hc
  simp only [Int.natCast_zero] at lp
  unfold fh at lp
  simp at hc
  simp (disch := first | assumption | omega | (simp [*] <;> omega) | fail) [i_impl_filled, hc, lp, hn, hn', hl2, fresults, fresL, fres1]
end Go.Proofs.YthpgiimaadohcaaDoor.Zv
