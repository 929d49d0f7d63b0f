/- Part E of the proof: ZwWays, ZwWays2, ZwTwo, ZwShort. Conditions: none. -/
import Derived.Test.YthpgiimaadohcaaDoorZpD
set_option linter.unusedSimpArgs false
set_option linter.unusedVariables false
/- Shortest ways are counted: by layers, and by walks. -/
namespace Go.Proofs.YthpgiimaadohcaaDoor.Zv
open Go
variable {nro : Nat}

theorem w_eq (n : Int) : IntKind.i64.wrap n = (n + 9223372036854775808) % 18446744073709551616 - 9223372036854775808 := IntKind.wrap_i64 n
theorem w_add (x y : Int) : IntKind.i64.wrap (IntKind.i64.wrap x + IntKind.i64.wrap y) = IntKind.i64.wrap (x + y) := by
  rw [w_eq, w_eq, w_eq, w_eq]; omega
theorem w_zero : IntKind.i64.wrap 0 = 0 := by rw [w_eq]; rfl
theorem w_one : IntKind.i64.wrap 1 = 1 := by rw [w_eq]; rfl

/-- How many walks of k steps from a to u. -/
def wkN (rows : List Int) (n a : Nat) : Nat → Nat → Int
  | 0, u => if u = a then 1 else 0
  | k + 1, u => sumF (fun w => if rbit rows w u = true then wkN rows n a k w else 0) n
theorem wkN_none {rows : List Int} {n a : Nat} : ∀ (k u : Nat), ¬ Wk rows k a u → wkN rows n a k u = 0
  | 0, u, h => by
    rw [wkN, if_neg (fun e => h e.symm)]
  | k + 1, u, h => by
    rw [wkN]
    have : sumF (fun w => if rbit rows w u = true then wkN rows n a k w else 0) n = sumF (fun _ => 0) n := by
      apply sumF_congr
      intro w _
      split
      · rename_i hb
        exact wkN_none k w (fun hw => h ⟨w, hw, hb⟩)
      · rfl
    rw [this, sumF_zero]

/-! ### by layers -/
def yIn (rows : List Int) (D : Nat → Int) (a b d x y : Nat) (g : Nat → Int) : Nat → Int :=
  if rbit rows x y = true ∧ D y = d + 1 ∧ ¬ (x = a ∧ y = b) then upd g y (IntKind.i64.wrap (g y + g x)) else g
def xIn (rows : List Int) (D : Nat → Int) (a b d n x : Nat) (g : Nat → Int) : Nat → Int := if D x = d then upF (fun y g => yIn rows D a b d x y g) n 0 g else g
def dIn (rows : List Int) (D : Nat → Int) (a b n d : Nat) (g : Nat → Int) : Nat → Int := upF (fun x g => xIn rows D a b d n x g) n 0 g
def ways (rows : List Int) (D : Nat → Int) (a b n m : Nat) : Nat → Int := upF (fun d g => dIn rows D a b n d g) m 0 (upd (fun _ => 0) a 1)

def wh (h : VH) (n : Int) (s : Value) (D : List Int) (N : Nat) (g : Nat → Int) : VH := h ++ [⟨0, [.int .i64 n, s]⟩, ⟨1, ints D⟩, ⟨1, ints (tbl N g)⟩]

theorem l_spec_l02Around_1 (h : VH) (n : Nat) (s : Value) (rows D : List Int) (hD : D.length = n) (hs : Sli h s rows) (R : Rok n rows) (a b : Nat) (hn : nro ≤ h.length) (d x : Nat) (hd : d ≤ 1000) (hx : x < n) (hDx : D.getD x 0 = d) (g0 : Nat → Int) :
    floop (vcall F nro) nro [1, 2, 3, 8, 9, 10, 11, 12] i_spec_l02Around_B1 (wh h n s D n g0) [.int .i64 a, .int .i64 b, bp h, .slice (some ⟨h.length + 1, 0, none⟩) n n, .slice (some ⟨h.length + 2, 0, none⟩) n n, .int .i64 d, .int .i64 x, .int .i64 0] (wh h n s D n g0) =
      some (.exit 4, fl [(1, .int .i64 a), (2, .int .i64 b), (3, bp h), (8, .slice (some ⟨h.length + 1, 0, none⟩) n n), (9, .slice (some ⟨h.length + 2, 0, none⟩) n n), (10, .int .i64 d), (11, .int .i64 x)], wh h n s D n (xIn rows (fun i => D.getD i 0) a b d n x g0)) := by
  have hn' := fun k => Nat.le_trans hn (Nat.le_add_right h.length k)
  have hso := fun k => hs.oldCk (k := k)
  have hle := R.le
  have hlen := R.len
  unfold xIn
  rw [if_pos hDx]
  have hxD : x < D.length := by omega
  have hDx' : D[x] = (d : Int) := by rw [← getD_at D hxD]; exact hDx
  have tx := take1_ints hxD
  rw [hDx'] at tx
  refine (for_up (call := vcall F nro) (nro := nro) (live := [1, 2, 3, 8, 9, 10, 11, 12]) (c := i_spec_l02Around_B1) (h0 := wh h n s D n g0) (n := n) (fun y (_ : Nat → Int) => [.int .i64 a, .int .i64 b, bp h, .slice (some ⟨h.length + 1, 0, none⟩) n n, .slice (some ⟨h.length + 2, 0, none⟩) n n, .int .i64 d, .int .i64 x, .int .i64 y]) (fun _ g => wh h n s D n g) (fun y g => yIn rows (fun i => D.getD i 0) a b d x y g) (fun _ _ => True)
    (fun g => some (.exit 4, fl [(1, .int .i64 a), (2, .int .i64 b), (3, bp h), (8, .slice (some ⟨h.length + 1, 0, none⟩) n n), (9, .slice (some ⟨h.length + 2, 0, none⟩) n n), (10, .int .i64 d), (11, .int .i64 x)], wh h n s D n g)) ?_ ?_ 0 g0 (Nat.zero_le _) trivial).1
  · intro y g hy hy2 _
    refine ⟨trivial, ?_⟩
    obtain ⟨r1, r2⟩ := R.row x hx
    have r3 := le62 hle r2
    have hvl : x < rows.length := by omega
    have vx := fun L => (hs.app L).vidx (k := .i64) (j := (x : Int)) (by omega) (by omega)
    have vl := fun L => (hs.app L).vload hvl
    have w1 : IntKind.u64.wrap (y : Int) = y := wrapu64 (by omega) (by omega)
    have hbit := bit_two (a := rows.getD x 0) (b := (y : Int)) r1 (by omega) (by omega)
    rw [Int.toNat_natCast, getD_at rows hvl] at hbit
    have hrb : rbit rows x y = (rows[x]'hvl).toNat.testBit y := by unfold rbit; rw [getD_at rows hvl]
    rw [← hrb] at hbit
    have w2 : IntKind.i64.wrap ((d : Int) + 1) = d + 1 := wrap64 (by omega) (by omega)
    have w3 : IntKind.i64.wrap ((y : Int) + 1) = (y : Int) + 1 := wrap64 (by omega) (by omega)
    have hyD : y < D.length := by omega
    have ty := take1_ints hyD
    have hDy : D.getD y 0 = D[y] := getD_at D hyD
    have t1 := tbl_take1 (g := g) hy
    have t2 := tbl_take1 (g := g) hx
    have hx2 : (x : Int) < n := by omega
    rw [floop_at i_spec_l02Around_B1.eq_1]
    unfold wh yIn
    simp only [hDy]
    obtain ⟨z, hz⟩ : ∃ z, z = D[y] := ⟨_, rfl⟩
    rw [← hz] at ty ⊢
    obtain ⟨q, hq⟩ : ∃ q, q = IntKind.i64.wrap (g y + g x) := ⟨_, rfl⟩
    have hq2 := hq.symm
    rw [hq2]
    have t3 := tbl_splice (g := g) (x := q) hy
    clear r1 r2 r3 hrb hDy hDx hDx' hz hq
    by_cases c1 : rbit rows x y = true
    · rw [if_pos c1] at hbit
      by_cases c2 : z = d + 1
      · by_cases c3 : x = a ∧ y = b
        · obtain ⟨rfl, rfl⟩ := c3
          simp (disch := first | assumption | omega | (simp [*] <;> omega) | fail) [hy, hy2, hx, hx2, vx, vl, w1, hbit, c1, c2, tx, ty, w2, w3, hn', hso, hD]
        · by_cases c4 : x = a
          · have c5 : ¬ y = b := fun e => c3 ⟨c4, e⟩
            have c5' : ¬ (y : Int) = b := by omega
            subst c4
            simp (disch := first | assumption | omega | (simp [*] <;> omega) | fail) [hy, hy2, hx, hx2, vx, vl, w1, hbit, c1, c2, c5, c5', tx, ty, t1, t2, t3, hq2, w2, w3, hn', hso, hD]
          · have c4' : ¬ (x : Int) = a := by omega
            simp (disch := first | assumption | omega | (simp [*] <;> omega) | fail) [hy, hy2, hx, hx2, vx, vl, w1, hbit, c1, c2, c4, c4', tx, ty, t1, t2, t3, hq2, w2, w3, hn', hso, hD]
      · simp (disch := first | assumption | omega | (simp [*] <;> omega) | fail) [hy, hy2, hx, hx2, vx, vl, w1, hbit, c1, c2, tx, ty, w2, w3, hn', hso, hD]
    · rw [if_neg c1] at hbit
      simp (disch := first | assumption | omega | (simp [*] <;> omega) | fail) [hy, hy2, hx, hx2, vx, vl, w1, hbit, c1, tx, w3, hn', hso, hD]
  · intro g _
    rw [floop_at i_spec_l02Around_B1.eq_1]
    unfold wh
    simp (disch := first | assumption | omega | (simp [*] <;> omega) | fail) [hn', hso]

theorem l_spec_l02Around_2 (h : VH) (n : Nat) (s : Value) (rows D : List Int) (hD : D.length = n) (hs : Sli h s rows) (R : Rok n rows) (a b : Nat) (hn : nro ≤ h.length) (d : Nat) (hd : d ≤ 1000) (g0 : Nat → Int) :
    floop (vcall F nro) nro [1, 2, 3, 8, 9, 10, 11] i_spec_l02Around_B2 (wh h n s D n g0) [.int .i64 a, .int .i64 b, bp h, .slice (some ⟨h.length + 1, 0, none⟩) n n, .slice (some ⟨h.length + 2, 0, none⟩) n n, .int .i64 d, .int .i64 0] (wh h n s D n g0) =
      some (.exit 2, fl [(1, .int .i64 a), (2, .int .i64 b), (3, bp h), (8, .slice (some ⟨h.length + 1, 0, none⟩) n n), (9, .slice (some ⟨h.length + 2, 0, none⟩) n n), (10, .int .i64 d)], wh h n s D n (dIn rows (fun i => D.getD i 0) a b n d g0)) := by
  have hn' := fun k => Nat.le_trans hn (Nat.le_add_right h.length k)
  have hso := fun k => hs.oldCk (k := k)
  have hle := R.le
  refine (for_up (call := vcall F nro) (nro := nro) (live := [1, 2, 3, 8, 9, 10, 11]) (c := i_spec_l02Around_B2) (h0 := wh h n s D n g0) (n := n) (fun x (_ : Nat → Int) => [.int .i64 a, .int .i64 b, bp h, .slice (some ⟨h.length + 1, 0, none⟩) n n, .slice (some ⟨h.length + 2, 0, none⟩) n n, .int .i64 d, .int .i64 x]) (fun _ g => wh h n s D n g) (fun x g => xIn rows (fun i => D.getD i 0) a b d n x g) (fun _ _ => True)
    (fun g => some (.exit 2, fl [(1, .int .i64 a), (2, .int .i64 b), (3, bp h), (8, .slice (some ⟨h.length + 1, 0, none⟩) n n), (9, .slice (some ⟨h.length + 2, 0, none⟩) n n), (10, .int .i64 d)], wh h n s D n g)) ?_ ?_ 0 g0 (Nat.zero_le _) trivial).1
  · intro x g hx hx2 _
    refine ⟨trivial, ?_⟩
    rw [floop_at i_spec_l02Around_B2.eq_1]
    by_cases c : D.getD x 0 = d
    · have l1 := l_spec_l02Around_1 (nro := nro) h n s rows D hD hs R a b hn d x hd hx c g
      obtain ⟨q, hq⟩ : ∃ q, q = xIn rows (fun i => D.getD i 0) a b d n x g := ⟨_, rfl⟩
      rw [← hq] at l1 ⊢
      clear hq c
      unfold wh at l1 ⊢
      simp (disch := first | assumption | omega | (simp [*] <;> omega) | fail) [hx, hx2, l1, hn', hso, wrap64]
    · have hxD : x < D.length := by omega
      have tx := take1_ints hxD
      have e : xIn rows (fun i => D.getD i 0) a b d n x g = g := by unfold xIn; rw [if_neg c]
      rw [getD_at D hxD] at c
      rw [e]
      obtain ⟨z, hz⟩ : ∃ z, z = D[x] := ⟨_, rfl⟩
      rw [← hz] at tx c
      have l1 : floop (vcall F nro) nro [1, 2, 3, 8, 9, 10, 11, 12] i_spec_l02Around_B1 (wh h n s D n g) [.int .i64 a, .int .i64 b, bp h, .slice (some ⟨h.length + 1, 0, none⟩) n n, .slice (some ⟨h.length + 2, 0, none⟩) n n, .int .i64 d, .int .i64 x, .int .i64 0] (wh h n s D n g) =
          some (.exit 4, fl [(1, .int .i64 a), (2, .int .i64 b), (3, bp h), (8, .slice (some ⟨h.length + 1, 0, none⟩) n n), (9, .slice (some ⟨h.length + 2, 0, none⟩) n n), (10, .int .i64 d), (11, .int .i64 x)], wh h n s D n g) := by
        have h0 : (0 : Int) < n := by omega
        have h0' : 0 < n := by omega
        rw [floop_at i_spec_l02Around_B1.eq_1]
        unfold wh
        simp (disch := first | assumption | omega | (simp [*] <;> omega) | fail) [hx, hx2, tx, c, h0, h0', hD, hn', hso]
      unfold wh at l1 ⊢
      clear e hz
      simp (disch := first | assumption | omega | (simp [*] <;> omega) | fail) [hx, hx2, l1, hn', hso, wrap64]
  · intro g _
    rw [floop_at i_spec_l02Around_B2.eq_1]
    unfold wh
    simp (disch := first | assumption | omega | (simp [*] <;> omega) | fail) [hn', hso]

theorem l_spec_l02Around_3 (h : VH) (n : Nat) (s : Value) (rows D : List Int) (hD : D.length = n) (hs : Sli h s rows) (R : Rok n rows) (a b : Nat) (hb : b < n) (hn : nro ≤ h.length) (m : Nat) (hm : m ≤ 1000) (hDb : D.getD b 0 = m) (g0 : Nat → Int) :
    floop (vcall F nro) nro [1, 2, 3, 8, 9, 10] i_spec_l02Around_B3 (wh h n s D n g0) [.int .i64 a, .int .i64 b, bp h, .slice (some ⟨h.length + 1, 0, none⟩) n n, .slice (some ⟨h.length + 2, 0, none⟩) n n, .int .i64 0] (wh h n s D n g0) =
      some (.exit 0, fl [(2, .int .i64 b), (8, .slice (some ⟨h.length + 1, 0, none⟩) n n), (9, .slice (some ⟨h.length + 2, 0, none⟩) n n)], wh h n s D n (upF (fun d g => dIn rows (fun i => D.getD i 0) a b n d g) m 0 g0)) := by
  have hn' := fun k => Nat.le_trans hn (Nat.le_add_right h.length k)
  have hso := fun k => hs.oldCk (k := k)
  have hle := R.le
  have hbD : b < D.length := by omega
  have tb := take1_ints hbD
  rw [← getD_at D hbD, hDb] at tb
  have hb2 : (b : Int) < n := by omega
  refine (for_up (call := vcall F nro) (nro := nro) (live := [1, 2, 3, 8, 9, 10]) (c := i_spec_l02Around_B3) (h0 := wh h n s D n g0) (n := m) (fun d (_ : Nat → Int) => [.int .i64 a, .int .i64 b, bp h, .slice (some ⟨h.length + 1, 0, none⟩) n n, .slice (some ⟨h.length + 2, 0, none⟩) n n, .int .i64 d]) (fun _ g => wh h n s D n g) (fun d g => dIn rows (fun i => D.getD i 0) a b n d g) (fun _ _ => True)
    (fun g => some (.exit 0, fl [(2, .int .i64 b), (8, .slice (some ⟨h.length + 1, 0, none⟩) n n), (9, .slice (some ⟨h.length + 2, 0, none⟩) n n)], wh h n s D n g)) ?_ ?_ 0 g0 (Nat.zero_le _) trivial).1
  · intro d g hd hd2 _
    refine ⟨trivial, ?_⟩
    have l1 := l_spec_l02Around_2 (nro := nro) h n s rows D hD hs R a b hn d (by omega) g
    rw [floop_at i_spec_l02Around_B3.eq_1]
    obtain ⟨q, hq⟩ : ∃ q, q = dIn rows (fun i => D.getD i 0) a b n d g := ⟨_, rfl⟩
    rw [← hq] at l1 ⊢
    clear hq hDb
    unfold wh at l1 ⊢
    simp (disch := first | assumption | omega | (simp [*] <;> omega) | fail) [hb, hb2, tb, hd, hd2, l1, hn', hso, wrap64, hD]
  · intro g _
    rw [floop_at i_spec_l02Around_B3.eq_1]
    clear hDb
    unfold wh
    simp (disch := first | assumption | omega | (simp [*] <;> omega) | fail) [hb, hb2, tb, hn', hso, hD]
end Go.Proofs.YthpgiimaadohcaaDoor.Zv

/- Layers and walks count alike; the least length of a cycle with an edge, and how many there are. -/
namespace Go.Proofs.YthpgiimaadohcaaDoor.Zv
open Go
variable {nro : Nat}

/-- One vertex's row, all at once. -/
theorem yIn_all (rows : List Int) (D : Nat → Int) (a b d x : Nat) (hx : D x = d) (n i : Nat) (g : Nat → Int) (y : Nat) : upF (fun y g => yIn rows D a b d x y g) n i g y = if i ≤ y ∧ y < n ∧ rbit rows x y = true ∧ D y = d + 1 ∧ ¬ (x = a ∧ y = b) then IntKind.i64.wrap (g y + g x) else g y := by
  by_cases h : i < n
  · rw [upF_step h, yIn_all rows D a b d x hx n (i + 1)]
    have hx2 : yIn rows D a b d x i g x = g x := by
      unfold yIn
      split
      · rename_i hc
        have : x ≠ i := by rintro rfl; omega
        rw [upd_ne this]
      · rfl
    rw [hx2]
    by_cases e : y = i
    · subst e
      rw [if_neg (by omega)]
      unfold yIn
      by_cases c : rbit rows x y = true ∧ D y = d + 1 ∧ ¬ (x = a ∧ y = b)
      · rw [if_pos c, upd_same, if_pos ⟨Nat.le_refl _, h, c⟩]
      · rw [if_neg c, if_neg (fun h => c h.2.2)]
    · have e2 : yIn rows D a b d x i g y = g y := by
        unfold yIn
        split
        · rw [upd_ne e]
        · rfl
      rw [e2]
      have : (i + 1 ≤ y ∧ y < n ∧ rbit rows x y = true ∧ D y = d + 1 ∧ ¬ (x = a ∧ y = b)) ↔ (i ≤ y ∧ y < n ∧ rbit rows x y = true ∧ D y = d + 1 ∧ ¬ (x = a ∧ y = b)) := by
        constructor
        · rintro ⟨h1, h2⟩; exact ⟨by omega, h2⟩
        · rintro ⟨h1, h2⟩; exact ⟨by omega, h2⟩
      simp only [this]
  · rw [upF_end h, if_neg (by omega)]
 termination_by n - i

/-- A layer, all at once. -/
theorem dIn_all (rows : List Int) (D : Nat → Int) (a b n d : Nat) (f : Nat → Int) (g0 : Nat → Int) (hg : ∀ x, x < n → D x = d → g0 x = IntKind.i64.wrap (f x)) (h0 : ∀ y, y < n → D y = d + 1 → g0 y = 0) (y : Nat) (hy : y < n) :
    dIn rows D a b n d g0 y = if D y = d + 1 then IntKind.i64.wrap (sumF (fun x => if D x = d ∧ rbit rows x y = true ∧ ¬ (x = a ∧ y = b) then f x else 0) n) else g0 y := by
  have key := upF_inv (f := fun x g => xIn rows D a b d n x g) (n := n) (fun i g => ∀ y, y < n → g y = if D y = d + 1 then IntKind.i64.wrap (sumF (fun x => if D x = d ∧ rbit rows x y = true ∧ ¬ (x = a ∧ y = b) then f x else 0) i) else g0 y) (fun i g hi hI y hy => ?_) 0 g0 (Nat.zero_le _) (fun y hy => ?_)
  · exact key y hy
  · rw [sumF]
    unfold xIn
    by_cases c : D i = d
    · rw [if_pos c, yIn_all rows D a b d i c]
      by_cases c2 : D y = d + 1
      · rw [if_pos c2]
        have e1 := hI y hy
        rw [if_pos c2] at e1
        have e2 := hI i hi
        rw [if_neg (by omega), hg i hi c] at e2
        by_cases c3 : rbit rows i y = true ∧ ¬ (i = a ∧ y = b)
        · rw [if_pos ⟨Nat.zero_le _, hy, c3.1, c2, c3.2⟩, if_pos ⟨c, c3.1, c3.2⟩, e1, e2, w_add]
        · rw [if_neg (fun h => c3 ⟨h.2.2.1, h.2.2.2.2⟩), if_neg (fun h => c3 ⟨h.2.1, h.2.2⟩), e1, Int.add_zero]
      · rw [if_neg c2, if_neg (fun h => c2 h.2.2.2.1), hI y hy, if_neg c2]
    · simp only [c, false_and, if_false, Int.add_zero]
      exact hI y hy
  · by_cases c2 : D y = d + 1
    · rw [if_pos c2, h0 y hy c2]
      simp only [sumF]
      exact w_zero.symm
    · rw [if_neg c2]

theorem dist_far {rows : List Int} {n a : Nat} (R : Rok n rows) (ha : a < n) {y d : Nat} (h : far rows a y = d) : Dst rows d a y := by
  rcases far_dist R ha y with ⟨h1, _⟩ | ⟨e, h1, h2⟩
  · omega
  · have : e = d := by omega
    subst this; exact h2
theorem far_of {rows : List Int} {n a : Nat} (R : Rok n rows) (ha : a < n) {y d : Nat} (h : Dst rows d a y) : far rows a y = d := by
  rcases far_dist R ha y with ⟨_, h2⟩ | ⟨e, h1, h2⟩
  · exact absurd h.1 (h2 d)
  · rw [h1, h2.unique h]

theorem ways_eq {n : Nat} {rows : List Int} (g : GV n rows) {a b : Nat} (hab : rbit rows a b = true) (m y : Nat) (hy : y < n) :
    ways rows (fun i => (dists (cut2 rows a b) n a).getD i 0) a b n m y = if 0 ≤ far (cut2 rows a b) a y ∧ far (cut2 rows a b) a y ≤ m then IntKind.i64.wrap (wkN (cut2 rows a b) n a (far (cut2 rows a b) a y).toNat y) else 0 := by
  obtain ⟨ha, hb⟩ := rbit_lt g.rok hab
  obtain ⟨R2, hcut⟩ := cut_rok g ha hb hab
  obtain ⟨C, hC⟩ : ∃ C, C = cut2 rows a b := ⟨_, rfl⟩
  rw [← hC] at R2 hcut ⊢
  have hDg : ∀ y, y < n → (dists C n a).getD y 0 = far C a y := fun y hy => dists_get R2 ha hy
  unfold ways
  have key := upF_inv (f := fun d g => dIn rows (fun i => (dists C n a).getD i 0) a b n d g) (n := m) (fun d g => ∀ y, y < n → g y = if 0 ≤ far C a y ∧ far C a y ≤ d then IntKind.i64.wrap (wkN C n a (far C a y).toNat y) else 0) (fun d g _ hI y hy => ?_) 0 (upd (fun _ => 0) a 1) (Nat.zero_le _) (fun y hy => ?_)
  · exact key y hy
  · rw [dIn_all rows _ a b n d (fun x => wkN C n a d x) g (fun x hx hxd => ?_) (fun y hy hyd => ?_) y hy]
    · rw [hDg y hy]
      by_cases c : far C a y = d + 1
      · rw [if_pos c, if_pos ⟨by omega, by omega⟩, c, show ((d : Int) + 1).toNat = d + 1 by omega, wkN]
        congr 1
        apply sumF_congr
        intro x hx
        rw [hDg x hx]
        have hyd : Dst C (d + 1) a y := dist_far R2 ha (by rw [c]; omega)
        by_cases c2 : far C a x = d
        · have hxd : Dst C d a x := dist_far R2 ha c2
          have e : (rbit rows x y = true ∧ ¬ (x = a ∧ y = b)) ↔ rbit C x y = true := by
            rw [hcut]
            constructor
            · rintro ⟨h1, h2⟩
              refine ⟨h1, fun h3 => ?_⟩
              rcases h3 with h3 | ⟨_, h4⟩
              · exact h2 h3
              · subst h4
                exact hyd.2 0 (by omega) rfl
            · rintro ⟨h1, h2⟩; exact ⟨h1, fun h3 => h2 (.inl h3)⟩
          simp only [c2, true_and, e]
        · rw [if_neg (fun h => c2 h.1)]
          split
          · rename_i hb2
            symm
            apply wkN_none
            intro hw
            apply c2
            refine far_of R2 ha ⟨hw, fun e he hwe => ?_⟩
            exact hyd.2 (e + 1) (by omega) ⟨x, hwe, hb2⟩
          · rfl
      · rw [if_neg c, hI y hy]
        have : (0 ≤ far C a y ∧ far C a y ≤ ((d + 1 : Nat) : Int)) ↔ (0 ≤ far C a y ∧ far C a y ≤ d) := by omega
        simp only [this]
    · rw [hDg x hx] at hxd
      rw [hI x hx, if_pos ⟨by omega, by omega⟩, hxd, Int.toNat_natCast]
    · rw [hDg y hy] at hyd
      rw [hI y hy, if_neg (by omega)]
  · have hge := far_ge C a y
    by_cases e : y = a
    · subst e
      have : far C y y = ((0 : Nat) : Int) := far_of R2 ha ⟨rfl, fun e he => by omega⟩
      rw [upd_same, this, if_pos ⟨by omega, by omega⟩, Int.toNat_natCast]
      simp only [wkN, if_true]
      exact w_one.symm
    · rw [upd_ne e, if_neg]
      intro h
      have : far C a y = ((0 : Nat) : Int) := by omega
      have h2 : a = y := (dist_far R2 ha this).1
      exact e h2.symm

/-- How many shortest cycles there are with an edge. -/
def arN (rows : List Int) (n a b : Nat) : Int := if far (cut2 rows a b) a b < 0 then 0 else IntKind.i64.wrap (wkN (cut2 rows a b) n a (far (cut2 rows a b) a b).toNat b)

theorem Dst.small {n : Nat} {rows : List Int} (R : Rok n rows) {a : Nat} (ha : a < n) : ∀ (d y : Nat), Dst rows d a y → y < n → d < n := by
  intro d y hd hy
  -- vertices at the distances 0 .. d are all different
  have hc : ∀ e, e ≤ d → ∃ c, c < n ∧ Dst rows e a c := by
    intro e he
    obtain ⟨m, rfl⟩ : ∃ m, d = e + m := ⟨d - e, by omega⟩
    cases m with
    | zero => exact ⟨y, hy, hd⟩
    | succ m =>
      obtain ⟨c, h1⟩ := hd.before
      cases e with
      | zero => have : a = c := h1.1; subst this; exact ⟨a, ha, h1⟩
      | succ e =>
        obtain ⟨c0, _, h2⟩ := h1.1
        exact ⟨c, (rbit_lt R h2).2, h1⟩
  apply Classical.byContradiction
  intro hno
  -- n + 1 places in n
  have inj : ∀ (m : Nat) (f : Nat → Nat), (∀ i, i ≤ m → f i < m) → ∃ i j, i < j ∧ j ≤ m ∧ f i = f j := by
    intro m
    induction m with
    | zero => intro f hf; have := hf 0 (Nat.le_refl _); omega
    | succ m ih =>
      intro f hf
      by_cases h1 : ∃ i, i ≤ m ∧ f i = f (m + 1)
      · obtain ⟨i, h2, h3⟩ := h1
        exact ⟨i, m + 1, by omega, by omega, h3⟩
      · have hne : ∀ i, i ≤ m → f i ≠ f (m + 1) := fun i hi he => h1 ⟨i, hi, he⟩
        obtain ⟨i, j, h2, h3, h4⟩ := ih (fun i => if f i = m then f (m + 1) else f i) (fun i hi => by
          have h5 := hf i (by omega)
          have h6 := hf (m + 1) (by omega)
          have h7 := hne i hi
          split <;> omega)
        refine ⟨i, j, h2, by omega, ?_⟩
        have h5 := hne i (by omega)
        have h6 := hne j (by omega)
        split at h4 <;> split at h4 <;> omega
  obtain ⟨f, hf⟩ : ∃ f : Nat → Nat, ∀ e, e ≤ d → f e < n ∧ Dst rows e a (f e) := by
    refine ⟨fun e => if h : e ≤ d then Classical.choose (hc e h) else 0, fun e he => ?_⟩
    simp only [dif_pos he]
    exact Classical.choose_spec (hc e he)
  obtain ⟨i, j, h1, h2, h3⟩ := inj n f (fun i hi => (hf i (by omega)).1)
  have d1 := (hf i (by omega)).2
  have d2 := (hf j (by omega)).2
  rw [h3] at d1
  have := d1.unique d2
  omega
theorem far_small {n : Nat} {rows : List Int} (R : Rok n rows) {a b : Nat} (ha : a < n) (hb : b < n) : far rows a b < n := by
  rcases far_dist R ha b with ⟨h, _⟩ | ⟨d, h1, h2⟩
  · omega
  · have := Dst.small R ha d b h2 hb
    omega

theorem c_spec_l02Around (n a b : Nat) (s : Value) (rows : List Int) (h : VH) (hs : Sli h s rows) (g : GV n rows) (hab : rbit rows a b = true) (hn : nro ≤ h.length) :
    vcall F nro k_spec_l02Around [gv n s, .int .i64 a, .int .i64 b] h = some (.tuple #[.int .i64 (arF rows a b), .int .i64 (arN rows n a b)], h) := by
  have hn' := fun k => Nat.le_trans hn (Nat.le_add_right h.length k)
  have hso := fun k => hs.oldCk (k := k)
  obtain ⟨ha, hb⟩ := rbit_lt g.rok hab
  obtain ⟨R2, _⟩ := cut_rok g ha hb hab
  have R := g.rok
  have hle := R.le
  refine v_spec_l02Around (by simp [i_spec_l02Around]) ?_
  rw [fbody_eq]
  have c1 := c_spec_fromCut (nro := nro) n a a b s rows (bx h n s) (hs.app _) g ha hab (by simp; omega)
  have hDl := dists_len (cut2 rows a b) n a
  have hDb := dists_get R2 ha hb
  have hsm := far_small R2 ha hb
  have hge := far_ge (cut2 rows a b) a b
  have hw := fun m => ways_eq g hab m b hb
  unfold arF arN
  obtain ⟨x, hx⟩ : ∃ x, x = far (cut2 rows a b) a b := ⟨_, rfl⟩
  rw [← hx] at hDb hsm hge hw ⊢
  obtain ⟨D, hD⟩ : ∃ D, D = dists (cut2 rows a b) n a := ⟨_, rfl⟩
  rw [← hD] at c1 hDl hDb hw
  have hbD : b < D.length := by omega
  have tb := take1_ints hbD
  rw [← getD_at D hbD, hDb] at tb
  have hb2 : (b : Int) < n := by omega
  have ha2 : (a : Int) < n := by omega
  simp at c1
  by_cases c : x < 0
  · have : x = -1 := by omega
    subst this
    clear hx hD hw hDb
    simp (disch := first | assumption | omega | (simp [*] <;> omega) | fail) [i_spec_l02Around, c1, tb, hb, hb2, hn', hso, hDl]
  · obtain ⟨m, hm⟩ : ∃ m : Nat, x = m := ⟨x.toNat, by omega⟩
    rw [hm] at hDb hw tb hsm c ⊢
    have l3 := l_spec_l02Around_3 (nro := nro) h n s rows D hDl hs R a b hb hn m (by omega) hDb (upd (fun _ => 0) a 1)
    have hw2 := hw m
    rw [if_pos ⟨by omega, Int.le_refl _⟩] at hw2
    unfold ways at hw2
    have t1 := tbl_take1 (n := n) (g := upF (fun d g => dIn rows (fun i => D.getD i 0) a b n d g) m 0 (upd (fun _ => 0) a 1)) hb
    rw [hw2] at t1
    rw [if_neg c]
    have t3 := tbl_splice (g := fun _ => 0) (x := 1) ha
    have e0 : ints (List.replicate n 0) = ints (tbl n fun _ => 0) := by rw [tbl_const]
    obtain ⟨G, hG⟩ : ∃ G, G = upF (fun d g => dIn rows (fun i => D.getD i 0) a b n d g) m 0 (upd (fun _ => 0) a 1) := ⟨_, rfl⟩
    rw [← hG] at l3 t1
    obtain ⟨q, hq⟩ : ∃ q, q = IntKind.i64.wrap (wkN (cut2 rows a b) n a (m : Int).toNat b) := ⟨_, rfl⟩
    rw [← hq] at t1 ⊢
    have w1 : IntKind.i64.wrap ((m : Int) + 1) = m + 1 := wrap64 (by omega) (by omega)
    unfold wh at l3
    try simp at l3
    have k1 : ¬ (m : Int) < 0 := by omega
    have k2 : 8 * (n : Int) ≤ 140737488355328 := by omega
    have k3 : (n : Int) ≤ 140737488355328 := by omega
    clear hx hD hw hw2 hDb hG hq hge hm
    simp (disch := first | assumption | omega | (simp [*] <;> omega) | fail) [i_spec_l02Around, c1, tb, hb, hb2, ha, ha2, hn', hso, hDl, e0, t3, l3, t1, w1, k1, k2, k3, fresults, fresL, fres1]

/-! ### the girth of the reference -/
/-- Is an edge looked at for the girth at v? -/
def lookE (v : Int) (a b : Nat) : Bool := decide (v < 0) || decide ((a : Int) = v) || decide ((b : Int) = v)
def gRowF (rows : List Int) (v : Int) (a b : Nat) (best : Int) : Int := if rbit rows a b = true ∧ lookE v a b = true then minP best (arF rows a b) else best
def gRow (rows : List Int) (n : Nat) (v : Int) (a : Nat) (best : Int) : Int := upF (fun b x => gRowF rows v a b x) n (a + 1) best
def gAll (rows : List Int) (n : Nat) (v : Int) : Int := upF (fun a x => gRow rows n v a x) n 0 0

theorem gRowF_ge {rows : List Int} {v : Int} {a b : Nat} {best : Int} (h : 0 ≤ best) : 0 ≤ gRowF rows v a b best := by
  unfold gRowF
  split
  · exact minP_ge h
  · exact h
theorem gRow_ok {rows : List Int} {n : Nat} {v c : Int} (hc : 1 ≤ c) (a i : Nat) (best : Int) (hb : 0 ≤ best) : 0 ≤ upF (fun b x => gRowF rows v a b x) n i best ∧ ((upF (fun b x => gRowF rows v a b x) n i best = 0 ∨ c ≤ upF (fun b x => gRowF rows v a b x) n i best) ↔ (best = 0 ∨ c ≤ best) ∧ ∀ b, i ≤ b → b < n → rbit rows a b = true → lookE v a b = true → arF rows a b ≤ 0 ∨ c ≤ arF rows a b) := by
  by_cases h : i < n
  · rw [upF_step h]
    obtain ⟨h1, h2⟩ := gRow_ok (rows := rows) (n := n) (v := v) hc a (i + 1) (gRowF rows v a i best) (gRowF_ge hb)
    refine ⟨h1, h2.trans ?_⟩
    unfold gRowF
    by_cases c1 : rbit rows a i = true ∧ lookE v a i = true
    · rw [if_pos c1, minP_ok hb hc]
      constructor
      · rintro ⟨⟨h3, h4⟩, h5⟩
        refine ⟨h3, fun b hb hbn h6 h7 => ?_⟩
        by_cases e : b = i
        · subst e; exact h4
        · exact h5 b (by omega) hbn h6 h7
      · rintro ⟨h3, h4⟩
        exact ⟨⟨h3, h4 i (Nat.le_refl _) h c1.1 c1.2⟩, fun b hb hbn => h4 b (by omega) hbn⟩
    · rw [if_neg c1]
      constructor
      · rintro ⟨h3, h5⟩
        refine ⟨h3, fun b hb hbn h6 h7 => ?_⟩
        by_cases e : b = i
        · subst e; exact absurd ⟨h6, h7⟩ c1
        · exact h5 b (by omega) hbn h6 h7
      · rintro ⟨h3, h4⟩
        exact ⟨h3, fun b hb hbn => h4 b (by omega) hbn⟩
  · rw [upF_end h]
    exact ⟨hb, fun h1 => ⟨h1, fun b h2 h3 => by omega⟩, fun h1 => h1.1⟩
 termination_by n - i
theorem gAll_ok' {rows : List Int} {n : Nat} {v c : Int} (hc : 1 ≤ c) (i : Nat) (best : Int) (hb : 0 ≤ best) : 0 ≤ upF (fun a x => gRow rows n v a x) n i best ∧ ((upF (fun a x => gRow rows n v a x) n i best = 0 ∨ c ≤ upF (fun a x => gRow rows n v a x) n i best) ↔ (best = 0 ∨ c ≤ best) ∧ ∀ a b, i ≤ a → a < b → b < n → rbit rows a b = true → lookE v a b = true → arF rows a b ≤ 0 ∨ c ≤ arF rows a b) := by
  by_cases h : i < n
  · rw [upF_step h]
    obtain ⟨g1, g2⟩ := gRow_ok (rows := rows) (n := n) (v := v) hc i (i + 1) best hb
    obtain ⟨h1, h2⟩ := gAll_ok' (rows := rows) (n := n) (v := v) hc (i + 1) (gRow rows n v i best) g1
    refine ⟨h1, h2.trans ?_⟩
    unfold gRow
    rw [g2]
    constructor
    · rintro ⟨⟨h3, h4⟩, h5⟩
      refine ⟨h3, fun a b ha hab hbn => ?_⟩
      by_cases e : a = i
      · subst e; exact h4 b (by omega) hbn
      · exact h5 a b (by omega) hab hbn
    · rintro ⟨h3, h4⟩
      exact ⟨⟨h3, fun b hb hbn => h4 i b (Nat.le_refl _) (by omega) hbn⟩, fun a b ha => h4 a b (by omega)⟩
  · rw [upF_end h]
    exact ⟨hb, fun h1 => ⟨h1, fun a b h2 h3 h4 => by omega⟩, fun h1 => h1.1⟩
 termination_by n - i
theorem gAll_ge (rows : List Int) (n : Nat) (v : Int) : 0 ≤ gAll rows n v := (gAll_ok' (rows := rows) (n := n) (v := v) (c := 1) (by omega) 0 0 (by omega)).1
theorem same_min {x y : Int} (hx : 0 ≤ x) (hy : 0 ≤ y) (h : ∀ c, 1 ≤ c → ((x = 0 ∨ c ≤ x) ↔ (y = 0 ∨ c ≤ y))) : x = y := by
  have h1 := h (x + 1) (by omega)
  have h2 := h (y + 1) (by omega)
  by_cases e1 : x = 0
  · subst e1; have := h2.mp (.inl rfl); omega
  · by_cases e2 : y = 0
    · subst e2; have := h1.mpr (.inl rfl); omega
    · have h3 := h x (by omega)
      have h4 := h y (by omega)
      have h5 := h3.mp (.inr (Int.le_refl _))
      have h6 := h4.mpr (.inr (Int.le_refl _))
      omega
theorem girF_ge' {rows : List Int} {n : Nat} (v : Nat) (best : Int) (hb : 0 ≤ best) : 0 ≤ girF rows n best v := by
  by_cases h : v < n
  · rw [girF_step h]
    exact girF_ge' (v + 1) _ (minP_ge hb)
  · rw [girF_end h]; exact hb
 termination_by n - v
/-- The two girths are one. -/
theorem gAll_girF {n : Nat} {rows : List Int} (g : GV n rows) : gAll rows n (-1) = girF rows n 0 0 := by
  refine same_min (gAll_ge ..) (girF_ge' 0 0 (by omega)) fun c hc => ?_
  unfold gAll
  rw [(gAll_ok' hc 0 0 (by omega)).2, girF_ok hc 0 0 (by omega)]
  simp only [true_or, true_and]
  constructor
  · intro h u hu hun y hy
    obtain ⟨h1, h2, h3⟩ := (nbL_mem rows u y).mp hy
    obtain ⟨_, h4⟩ := rbit_lt g.rok h3
    have hne := g.ne h3
    rcases Nat.lt_or_gt_of_ne hne with h5 | h5
    · exact h u y.toNat (by omega) h5 h4 h3 (by simp [lookE])
    · rw [arF_symm g h3]
      exact h y.toNat u (by omega) h5 hun (g.sym' h3) (by simp [lookE])
  · intro h a b ha hab hbn h3 _
    have := h a (by omega) (by omega) b ((nbL_mem rows a b).mpr ⟨by omega, by have := g.rok.le; omega, by rw [Int.toNat_natCast]; exact h3⟩)
    rwa [Int.toNat_natCast] at this
theorem l_spec_l02Girth_1 (h : VH) (n : Nat) (v : Int) (s : Value) (rows : List Int) (hs : Sli h s rows) (g : GV n rows) (hn : nro ≤ h.length) (a : Nat) (ha : a < n) (best : Int) (hb : 0 ≤ best) :
    floop (vcall F nro) nro [1, 2, 5, 6, 7] i_spec_l02Girth_B1 (bx h n s) [.int .i64 v, bp h, .int .i64 best, .int .i64 a, .int .i64 ((a + 1 : Nat) : Int)] (bx h n s) =
      some (.exit 2, fl [(1, .int .i64 v), (2, bp h), (5, .int .i64 (gRow rows n v a best)), (6, .int .i64 a)], bx h n s) := by
  have hn' := fun k => Nat.le_trans hn (Nat.le_add_right h.length k)
  have hso := fun k => hs.oldCk (k := k)
  have R := g.rok
  have hle := R.le
  have hlen := R.len
  refine (for_up (call := vcall F nro) (nro := nro) (live := [1, 2, 5, 6, 7]) (c := i_spec_l02Girth_B1) (h0 := bx h n s) (n := n) (fun b (x : Int) => [.int .i64 v, bp h, .int .i64 x, .int .i64 a, .int .i64 b]) (fun _ _ => bx h n s) (fun b x => gRowF rows v a b x) (fun _ x => 0 ≤ x)
    (fun x => some (.exit 2, fl [(1, .int .i64 v), (2, bp h), (5, .int .i64 x), (6, .int .i64 a)], bx h n s)) ?_ ?_ (a + 1) best ha hb).1
  · intro b x hb hb2 hx
    refine ⟨gRowF_ge hx, ?_⟩
    obtain ⟨r1, r2⟩ := R.row a ha
    have r3 := le62 hle r2
    have hvl : a < rows.length := by omega
    have vx := fun L => (hs.app L).vidx (k := .i64) (j := (a : Int)) (by omega) (by omega)
    have vl := fun L => (hs.app L).vload hvl
    have w1 : IntKind.u64.wrap (b : Int) = b := wrapu64 (by omega) (by omega)
    have hbit := bit_two (a := rows.getD a 0) (b := (b : Int)) r1 (by omega) (by omega)
    rw [Int.toNat_natCast, getD_at rows hvl] at hbit
    have hrb : rbit rows a b = (rows[a]'hvl).toNat.testBit b := by unfold rbit; rw [getD_at rows hvl]
    rw [← hrb] at hbit
    rw [floop_at i_spec_l02Girth_B1.eq_1]
    unfold gRowF lookE
    by_cases c1 : rbit rows a b = true
    · rw [if_pos c1] at hbit
      have hc := c_spec_l02Around (nro := nro) n a b s rows (bx h n s) (hs.app _) g c1 (by simp; omega)
      obtain ⟨z, hz⟩ : ∃ z, z = arF rows a b := ⟨_, rfl⟩
      obtain ⟨z2, hz2⟩ : ∃ z, z = arN rows n a b := ⟨_, rfl⟩
      rw [← hz, ← hz2] at hc
      rw [← hz]
      unfold minP
      clear r1 r2 r3 hrb hz hz2
      have fin : ∀ (hl : (decide (v < 0) || decide ((a : Int) = v) || decide ((b : Int) = v)) = true), (0 < z ∧ (x = 0 ∨ z < x) ∨ ¬ (0 < z ∧ (x = 0 ∨ z < x))) := fun _ => Classical.em _
      by_cases k1 : 0 < z
      · by_cases k2 : x = 0
        · by_cases c2 : v < 0
          · have c2' : ¬ 0 ≤ v := by omega
            simp (disch := first | assumption | omega | (simp [*] <;> omega) | fail) [hb, hb2, vx, vl, w1, hbit, c1, c2, c2', hc, k1, k2, hn', hso, wrap64]
          · have c2' : 0 ≤ v := by omega
            by_cases c3 : v = (a : Int)
            · simp (disch := first | assumption | omega | (simp [*] <;> omega) | fail) [hb, hb2, vx, vl, w1, hbit, c1, c3, hc, k1, k2, hn', hso, wrap64]
            · have c3n : ¬ (a : Int) = v := fun e => c3 e.symm
              by_cases c4 : v = (b : Int)
              · have c5 : ¬ (a : Int) = b := by omega
                have c5' : ¬ a = b := by omega
                simp (disch := first | assumption | omega | (simp [*] <;> omega) | fail) [hb, hb2, vx, vl, w1, hbit, c1, c4, c5, c5', hc, k1, k2, hn', hso, wrap64]
              · have c4n : ¬ (b : Int) = v := fun e => c4 e.symm
                simp (disch := first | assumption | omega | (simp [*] <;> omega) | fail) [hb, hb2, vx, vl, w1, hbit, c1, c2, c2', c3n, c4n, hn', hso, wrap64]
        · by_cases k3 : z < x
          · by_cases c2 : v < 0
            · have c2' : ¬ 0 ≤ v := by omega
              simp (disch := first | assumption | omega | (simp [*] <;> omega) | fail) [hb, hb2, vx, vl, w1, hbit, c1, c2, c2', hc, k1, k2, k3, hn', hso, wrap64]
            · have c2' : 0 ≤ v := by omega
              by_cases c3 : v = (a : Int)
              · simp (disch := first | assumption | omega | (simp [*] <;> omega) | fail) [hb, hb2, vx, vl, w1, hbit, c1, c3, hc, k1, k2, k3, hn', hso, wrap64]
              · have c3n : ¬ (a : Int) = v := fun e => c3 e.symm
                by_cases c4 : v = (b : Int)
                · have c5 : ¬ (a : Int) = b := by omega
                  have c5' : ¬ a = b := by omega
                  simp (disch := first | assumption | omega | (simp [*] <;> omega) | fail) [hb, hb2, vx, vl, w1, hbit, c1, c4, c5, c5', hc, k1, k2, k3, hn', hso, wrap64]
                · have c4n : ¬ (b : Int) = v := fun e => c4 e.symm
                  simp (disch := first | assumption | omega | (simp [*] <;> omega) | fail) [hb, hb2, vx, vl, w1, hbit, c1, c2, c2', c3n, c4n, hn', hso, wrap64]
          · by_cases c2 : v < 0
            · have c2' : ¬ 0 ≤ v := by omega
              simp (disch := first | assumption | omega | (simp [*] <;> omega) | fail) [hb, hb2, vx, vl, w1, hbit, c1, c2, c2', hc, k1, k2, k3, hn', hso, wrap64]
            · have c2' : 0 ≤ v := by omega
              by_cases c3 : v = (a : Int)
              · simp (disch := first | assumption | omega | (simp [*] <;> omega) | fail) [hb, hb2, vx, vl, w1, hbit, c1, c3, hc, k1, k2, k3, hn', hso, wrap64]
              · have c3n : ¬ (a : Int) = v := fun e => c3 e.symm
                by_cases c4 : v = (b : Int)
                · have c5 : ¬ (a : Int) = b := by omega
                  have c5' : ¬ a = b := by omega
                  simp (disch := first | assumption | omega | (simp [*] <;> omega) | fail) [hb, hb2, vx, vl, w1, hbit, c1, c4, c5, c5', hc, k1, k2, k3, hn', hso, wrap64]
                · have c4n : ¬ (b : Int) = v := fun e => c4 e.symm
                  simp (disch := first | assumption | omega | (simp [*] <;> omega) | fail) [hb, hb2, vx, vl, w1, hbit, c1, c2, c2', c3n, c4n, hn', hso, wrap64]
      · by_cases c2 : v < 0
        · have c2' : ¬ 0 ≤ v := by omega
          simp (disch := first | assumption | omega | (simp [*] <;> omega) | fail) [hb, hb2, vx, vl, w1, hbit, c1, c2, c2', hc, k1, hn', hso, wrap64]
        · have c2' : 0 ≤ v := by omega
          by_cases c3 : v = (a : Int)
          · simp (disch := first | assumption | omega | (simp [*] <;> omega) | fail) [hb, hb2, vx, vl, w1, hbit, c1, c3, hc, k1, hn', hso, wrap64]
          · have c3n : ¬ (a : Int) = v := fun e => c3 e.symm
            by_cases c4 : v = (b : Int)
            · have c5 : ¬ (a : Int) = b := by omega
              have c5' : ¬ a = b := by omega
              simp (disch := first | assumption | omega | (simp [*] <;> omega) | fail) [hb, hb2, vx, vl, w1, hbit, c1, c4, c5, c5', hc, k1, hn', hso, wrap64]
            · have c4n : ¬ (b : Int) = v := fun e => c4 e.symm
              simp (disch := first | assumption | omega | (simp [*] <;> omega) | fail) [hb, hb2, vx, vl, w1, hbit, c1, c2, c2', c3n, c4n, hn', hso, wrap64]
    · rw [if_neg c1] at hbit
      simp (disch := first | assumption | omega | (simp [*] <;> omega) | fail) [hb, hb2, vx, vl, w1, hbit, c1, hn', hso, wrap64]
  · intro x _
    rw [floop_at i_spec_l02Girth_B1.eq_1]
    simp (disch := first | assumption | omega | (simp [*] <;> omega) | fail) [hn', hso]

theorem c_spec_l02Girth (n : Nat) (v : Int) (s : Value) (rows : List Int) (h : VH) (hs : Sli h s rows) (g : GV n rows) (hn : nro ≤ h.length) :
    vcall F nro k_spec_l02Girth [gv n s, .int .i64 v] h = some (.int .i64 (gAll rows n v), h) := by
  have hn' := fun k => Nat.le_trans hn (Nat.le_add_right h.length k)
  have hso := fun k => hs.oldCk (k := k)
  have hle := g.rok.le
  have l2 : floop (vcall F nro) nro [1, 2, 5, 6] i_spec_l02Girth_B2 (bx h n s) [.int .i64 v, bp h, .int .i64 0, .int .i64 0] (bx h n s) = some (.exit 0, fl [(5, .int .i64 (gAll rows n v))], bx h n s) := by
    refine (for_up (call := vcall F nro) (nro := nro) (live := [1, 2, 5, 6]) (c := i_spec_l02Girth_B2) (h0 := bx h n s) (n := n) (fun a (x : Int) => [.int .i64 v, bp h, .int .i64 x, .int .i64 a]) (fun _ _ => bx h n s) (fun a x => gRow rows n v a x) (fun _ x => 0 ≤ x)
      (fun x => some (.exit 0, fl [(5, .int .i64 x)], bx h n s)) ?_ ?_ 0 0 (Nat.zero_le _) (by omega)).1
    · intro a x ha ha2 hx
      refine ⟨(gRow_ok (c := 1) (by omega) a (a + 1) x hx).1, ?_⟩
      have l1 := l_spec_l02Girth_1 (nro := nro) h n v s rows hs g hn a ha x hx
      rw [show ((a + 1 : Nat) : Int) = (a : Int) + 1 by omega] at l1
      obtain ⟨q, hq⟩ : ∃ q, q = gRow rows n v a x := ⟨_, rfl⟩
      rw [← hq] at l1 ⊢
      clear hq
      rw [floop_at i_spec_l02Girth_B2.eq_1]
      simp (disch := first | assumption | omega | (simp [*] <;> omega) | fail) [ha, ha2, l1, hn', hso, wrap64]
    · intro x _
      rw [floop_at i_spec_l02Girth_B2.eq_1]
      simp (disch := first | assumption | omega | (simp [*] <;> omega) | fail) [hn', hso]
  refine v_spec_l02Girth (by simp [i_spec_l02Girth]) ?_
  rw [fbody_eq]
  obtain ⟨q, hq⟩ : ∃ q, q = gAll rows n v := ⟨_, rfl⟩
  rw [← hq] at l2 ⊢
  clear hq
  simp (disch := first | assumption | omega | (simp [*] <;> omega) | fail) [i_spec_l02Girth, l2, hn', hso]
end Go.Proofs.YthpgiimaadohcaaDoor.Zv

/- Pairs of vertices that are in range. -/
namespace Go.Proofs.YthpgiimaadohcaaDoor.Zv
open Go
variable {nro : Nat}

theorem badV2 (n a b : Int) : badV n [a, b] ↔ ¬ ((0 ≤ a ∧ a < n) ∧ (0 ≤ b ∧ b < n)) := by
  constructor
  · rintro ⟨j, h1, h2, h3⟩ ⟨h4, h5⟩
    simp at h2
    have : j = 0 ∨ j = 1 := by omega
    rcases this with rfl | rfl
    · exact h3 (by simpa using h4)
    · exact h3 (by simpa using h5)
  · intro h
    by_cases h1 : 0 ≤ a ∧ a < n
    · exact ⟨1, by omega, by simp, fun h2 => h ⟨h1, by simpa using h2⟩⟩
    · exact ⟨0, by omega, by simp, fun h2 => h1 (by simpa using h2)⟩
end Go.Proofs.YthpgiimaadohcaaDoor.Zv

/- Walks are counted step by step; ShortestThrough. -/
namespace Go.Proofs.YthpgiimaadohcaaDoor.Zv
open Go
variable {nro : Nat}

/-- At a loop's head: one place leads to a fresh object. -/
theorem clean_mid {h L : VH} {A B : List Value} {k off n t : Nat} {o : VO} (hA : ∀ v ∈ A, Old h.length v) (hB : ∀ v ∈ B, Old h.length v) (hk : L[k]? = some o) (hf : flatO h.length o) :
    kclean h (A ++ .slice (some ⟨h.length + k, off, none⟩) n t :: B) (h ++ L) = (A ++ .slice (some ⟨h.length, off, none⟩) n t :: B, h ++ [o]) := by
  have fil : ∀ (C : List Value), (∀ v ∈ C, Old h.length v) → (C.flatMap trefs).filter (fun i => decide (h.length ≤ i)) = [] := fun C hC => by
    rw [List.filter_eq_nil_iff]
    intro r hr
    have := (old_all h.length C).mpr hC r hr
    simp; omega
  have e : keepL h.length (A ++ .slice (some ⟨h.length + k, off, none⟩) n t :: B) = [h.length + k] := by
    unfold keepL
    rw [List.flatMap_append, List.filter_append, fil A hA, List.nil_append, List.flatMap_cons, List.filter_append, fil B hB]
    simp [trefs, vrefs, crefs, arefs, dedup]
  have hg : (h ++ L)[h.length + k]? = some o := by rw [hgetk]; exact hk
  rw [cleanup_keep e fun i hi => ⟨o, by rw [List.mem_singleton] at hi; rw [hi]; exact hg, hf⟩]
  have keep : ∀ (C : List Value), (∀ v ∈ C, Old h.length v) → C.map (tren (renOf h.length [h.length + k])) = C := fun C hC => by
    have : ∀ v ∈ C, tren (renOf h.length [h.length + k]) v = v := fun v hv => tren_old (hC v hv) fun i hi => by simp only [renOf, if_pos hi]
    exact (List.map_congr_left this).trans (by simp)
  rw [List.map_append, List.map_cons, keep A hA, keep B hB]
  simp [hg, tren, vren, cren, aren, renOf_one]

/-- One vertex hands its number on to its neighbours. -/
def addW (c : Int) (l : List Int) (g : Nat → Int) : Nat → Int := l.foldl (fun g u => upd g u.toNat (IntKind.i64.wrap (g u.toNat + c))) g
theorem addW_at (c : Int) : ∀ (l : List Int) (g : Nat → Int) (u : Nat), l.Nodup → (∀ x ∈ l, 0 ≤ x) → addW c l g u = if (u : Int) ∈ l then IntKind.i64.wrap (g u + c) else g u
  | [], g, u, _, _ => by simp [addW]
  | x :: l, g, u, hn, h0 => by
    obtain ⟨h1, h2⟩ := List.nodup_cons.mp hn
    have hx := h0 x (List.mem_cons_self ..)
    have ih := addW_at c l (upd g x.toNat (IntKind.i64.wrap (g x.toNat + c))) u h2 (fun y hy => h0 y (List.mem_cons_of_mem _ hy))
    have e : addW c (x :: l) g = addW c l (upd g x.toNat (IntKind.i64.wrap (g x.toNat + c))) := rfl
    rw [e, ih]
    by_cases c1 : (u : Int) = x
    · have : u = x.toNat := by omega
      subst this
      rw [if_neg (by rw [c1]; exact h1), upd_same, if_pos (by rw [c1]; exact List.mem_cons_self ..)]
    · have : u ≠ x.toNat := by omega
      rw [upd_ne this]
      have e2 : (u : Int) ∈ x :: l ↔ (u : Int) ∈ l := by simp [c1]
      simp only [e2]

theorem bitF_nodup (x n w : Nat) : (bitF x n w).Nodup ∧ ∀ y ∈ bitF x n w, (w : Int) ≤ y := by
  by_cases h : w < n
  · rw [bitF_step h]
    obtain ⟨h1, h2⟩ := bitF_nodup x n (w + 1)
    split
    · refine ⟨?_, fun y hy => ?_⟩
      · rw [List.cons_append, List.nil_append]
        refine List.nodup_cons.mpr ⟨fun hm => ?_, h1⟩
        have := h2 _ hm
        omega
      · rw [List.cons_append, List.nil_append] at hy
        rcases List.mem_cons.mp hy with rfl | hy
        · omega
        · have := h2 y hy; omega
    · refine ⟨by simpa using h1, fun y hy => ?_⟩
      have := h2 y (by simpa using hy); omega
  · rw [bitF_end h]; exact ⟨List.nodup_nil, fun y hy => by cases hy⟩
 termination_by n - w
theorem nbL_nodup (rows : List Int) (v : Nat) : (nbL rows v).Nodup := (bitF_nodup _ 62 0).1

/-- One step of all walks. -/
def stepW (rows : List Int) (n : Nat) (f : Nat → Int) : Nat → Int := upF (fun w g => addW (f w) (nbL rows w) g) n 0 (fun _ => 0)
def walkW (rows : List Int) (n v : Nat) : Nat → Nat → Int
  | 0 => upd (fun _ => 0) v 1
  | k + 1 => stepW rows n (walkW rows n v k)
theorem stepW_at {n : Nat} {rows : List Int} (R : Rok n rows) (f e : Nat → Int) (hf : ∀ w, w < n → f w = IntKind.i64.wrap (e w)) (u : Nat) (hu : u < n) : stepW rows n f u = IntKind.i64.wrap (sumF (fun w => if rbit rows w u = true then e w else 0) n) := by
  have hle := R.le
  exact upF_inv (f := fun w g => addW (f w) (nbL rows w) g) (n := n) (fun i g => ∀ u, u < n → g u = IntKind.i64.wrap (sumF (fun w => if rbit rows w u = true then e w else 0) i)) (fun i g hi hI u hu => by
    rw [addW_at _ _ _ _ (nbL_nodup rows i) (fun x hx => ((nbL_mem rows i x).mp hx).1), sumF]
    by_cases c : rbit rows i u = true
    · rw [if_pos ((nbL_mem rows i u).mpr ⟨by omega, by omega, by rw [Int.toNat_natCast]; exact c⟩), if_pos c, hI u hu, hf i hi, w_add]
    · rw [if_neg (fun h => c (by have := ((nbL_mem rows i u).mp h).2.2; rwa [Int.toNat_natCast] at this)), if_neg c, Int.add_zero]
      exact hI u hu) 0 (fun _ => 0) (Nat.zero_le _) (fun u _ => w_zero.symm) u hu
theorem walkW_at {n : Nat} {rows : List Int} (R : Rok n rows) {v : Nat} : ∀ (k u : Nat), u < n → walkW rows n v k u = IntKind.i64.wrap (wkN rows n v k u)
  | 0, u, _ => by
    simp only [walkW, wkN, upd]
    split
    · exact w_one.symm
    · exact w_zero.symm
  | k + 1, u, hu => by
    rw [walkW, wkN]
    exact stepW_at R _ _ (fun w hw => walkW_at R k w hw) u hu

theorem l_impl_Graph_walks_1 (P : VH) (bi pn n : Nat) (k i : Int) (f : Nat → Int) (L : List Int) (w : Nat) (hw : w < n) (hL : L.length ≤ 62) (hLn : ∀ y ∈ L, 0 ≤ y ∧ y < n) (hp : P[pn]? = some ⟨1, ints (tbl n f)⟩) (hpl : ∀ k, pn < P.length + k) (hbi : ∀ k, bi < P.length + k) (hn : nro ≤ P.length) (g0 : Nat → Int) :
    floop (vcall F nro) nro [3, 7, 8, 9, 18, 19, 25, 26, 34, 35, 36] i_impl_Graph_walks_B1 (P ++ [⟨1, ints (tbl n g0)⟩, ⟨1, ints L⟩]) [.pointer (some ⟨bi, 0, some 2⟩), .slice (some ⟨pn, 0, none⟩) n n, .slice (some ⟨P.length, 0, none⟩) n n, .int .i64 w, .int .i64 k, .int .i64 i, .int .i64 n, .int .i64 w, .slice (some ⟨P.length + 1, 0, none⟩) L.length L.length, .int .i64 L.length, .int .i64 0] (P ++ [⟨1, ints (tbl n g0)⟩, ⟨1, ints L⟩]) =
      some (.exit 4, fl [(3, .pointer (some ⟨bi, 0, some 2⟩)), (7, .slice (some ⟨pn, 0, none⟩) n n), (8, .slice (some ⟨P.length, 0, none⟩) n n), (18, .int .i64 k), (19, .int .i64 i), (25, .int .i64 n), (26, .int .i64 w)], P ++ [⟨1, ints (tbl n (addW (f w) L g0))⟩, ⟨1, ints L⟩]) := by
  have hn' := fun k => Nat.le_trans hn (Nat.le_add_right P.length k)
  have tw := tbl_take1 (g := f) hw
  have hw2 : (w : Int) < n := by omega
  have key := for_up (call := vcall F nro) (nro := nro) (live := [3, 7, 8, 9, 18, 19, 25, 26, 34, 35, 36]) (c := i_impl_Graph_walks_B1) (h0 := P ++ [⟨1, ints (tbl n g0)⟩, ⟨1, ints L⟩]) (n := L.length) (fun j (_ : Nat → Int) => [.pointer (some ⟨bi, 0, some 2⟩), .slice (some ⟨pn, 0, none⟩) n n, .slice (some ⟨P.length, 0, none⟩) n n, .int .i64 w, .int .i64 k, .int .i64 i, .int .i64 n, .int .i64 w, .slice (some ⟨P.length + 1, 0, none⟩) L.length L.length, .int .i64 L.length, .int .i64 j]) (fun _ g => P ++ [⟨1, ints (tbl n g)⟩, ⟨1, ints L⟩])
    (fun j g => upd g (L.getD j 0).toNat (IntKind.i64.wrap (g (L.getD j 0).toNat + f w))) (fun j g => addW (f w) (L.drop j) g = addW (f w) L g0)
    (fun g => some (.exit 4, fl [(3, .pointer (some ⟨bi, 0, some 2⟩)), (7, .slice (some ⟨pn, 0, none⟩) n n), (8, .slice (some ⟨P.length, 0, none⟩) n n), (18, .int .i64 k), (19, .int .i64 i), (25, .int .i64 n), (26, .int .i64 w)], P ++ [⟨1, ints (tbl n g)⟩, ⟨1, ints L⟩])) ?_ ?_ 0 g0 (Nat.zero_le _) rfl
  · have e := key.2
    rw [List.drop_length] at e
    exact key.1.trans (by rw [← e]; rfl)
  · intro j g hj hj2 hI
    have hjl : L.getD j 0 = L[j] := getD_at L hj
    obtain ⟨y0, y1⟩ := hLn L[j] (List.getElem_mem hj)
    obtain ⟨y, hy⟩ : ∃ y : Nat, L[j] = y := ⟨L[j].toNat, by omega⟩
    rw [hjl, hy, Int.toNat_natCast]
    refine ⟨?_, ?_⟩
    · rw [← hI, List.drop_eq_getElem_cons hj, hy]
      rfl
    have t0 := take1_ints hj
    rw [hy] at t0 y1
    have hyn : y < n := by omega
    have t1 := tbl_take1 (g := g) hyn
    obtain ⟨q, hq⟩ : ∃ q, q = IntKind.i64.wrap (g y + f w) := ⟨_, rfl⟩
    have hq2 := hq.symm
    rw [hq2]
    have t3 := tbl_splice (g := g) (x := q) hyn
    clear hI hjl hy hq y0
    rw [floop_at i_impl_Graph_walks_B1.eq_1]
    simp (disch := first | assumption | omega | (simp [*] <;> omega) | fail) [-getElem?_pos, List.getElem?_cons_zero, List.getElem?_cons_succ, hj, hj2, hget_old hp, hp, t0, hyn, y1, t1, t3, hq2, hw, hw2, tw, hn, hn', hpl, hbi, wrap64]
  · intro g _
    rw [floop_at i_impl_Graph_walks_B1.eq_1]
    simp (disch := first | assumption | omega | (simp [*] <;> omega) | fail) [-getElem?_pos, List.getElem?_cons_zero, List.getElem?_cons_succ, ]

theorem l_impl_Graph_walks_2 (P : VH) (bi pn n : Nat) (k i : Int) (s : Value) (rows : List Int) (R : Rok n rows) (hs : Sli P s rows) (f : Nat → Int) (hb : P[bi]? = some ⟨0, [.int .i64 n, s]⟩) (hp : P[pn]? = some ⟨1, ints (tbl n f)⟩) (hn : nro ≤ P.length) :
    floop (vcall F nro) nro [3, 7, 8, 18, 19, 25, 26] i_impl_Graph_walks_B2 (P ++ [⟨1, ints (tbl n fun _ => 0)⟩]) [.pointer (some ⟨bi, 0, some 2⟩), .slice (some ⟨pn, 0, none⟩) n n, .slice (some ⟨P.length, 0, none⟩) n n, .int .i64 k, .int .i64 i, .int .i64 n, .int .i64 0] (P ++ [⟨1, ints (tbl n fun _ => 0)⟩]) =
      some (.exit 2, fl [(3, .pointer (some ⟨bi, 0, some 2⟩)), (8, .slice (some ⟨P.length, 0, none⟩) n n), (18, .int .i64 k), (19, .int .i64 i)], P ++ [⟨1, ints (tbl n (stepW rows n f))⟩]) := by
  have hn' := fun k => Nat.le_trans hn (Nat.le_add_right P.length k)
  have hpl : ∀ k, pn < P.length + k := fun k => Nat.lt_of_lt_of_le (List.getElem?_eq_some_iff.mp hp).1 (Nat.le_add_right _ _)
  have hbi : ∀ k, bi < P.length + k := fun k => Nat.lt_of_lt_of_le (List.getElem?_eq_some_iff.mp hb).1 (Nat.le_add_right _ _)
  have hlen := R.len
  have hle := R.le
  refine (for_up (call := vcall F nro) (nro := nro) (live := [3, 7, 8, 18, 19, 25, 26]) (c := i_impl_Graph_walks_B2) (h0 := P ++ [⟨1, ints (tbl n fun _ => 0)⟩]) (n := n) (fun w (_ : Nat → Int) => [.pointer (some ⟨bi, 0, some 2⟩), .slice (some ⟨pn, 0, none⟩) n n, .slice (some ⟨P.length, 0, none⟩) n n, .int .i64 k, .int .i64 i, .int .i64 n, .int .i64 w]) (fun _ g => P ++ [⟨1, ints (tbl n g)⟩])
    (fun w g => addW (f w) (nbL rows w) g) (fun _ _ => True)
    (fun g => some (.exit 2, fl [(3, .pointer (some ⟨bi, 0, some 2⟩)), (8, .slice (some ⟨P.length, 0, none⟩) n n), (18, .int .i64 k), (19, .int .i64 i)], P ++ [⟨1, ints (tbl n g)⟩])) ?_ ?_ 0 (fun _ => 0) (Nat.zero_le _) trivial).1
  · intro w g hw hw2 _
    refine ⟨trivial, ?_⟩
    have hwl : w < rows.length := by omega
    have hc := c_impl_listRow (nro := nro) n w rows R hw (P ++ [⟨1, ints (tbl n g)⟩]) (by simp; omega)
    have vx := fun L => (hs.app L).vidx (k := .i64) (j := (w : Int)) (by omega) (by omega)
    have vl := fun L => (hs.app L).vload hwl
    have hlL : (nbL rows w).length ≤ 62 := bitL_len _
    have l1 := l_impl_Graph_walks_1 (nro := nro) P bi pn n k i f (nbL rows w) w hw hlL (fun y hy => by
      obtain ⟨h1, h2, h3⟩ := (nbL_mem rows w y).mp hy
      have := (rbit_lt R h3).2
      omega) hp hpl hbi hn g
    obtain ⟨L, hL⟩ : ∃ L, L = nbL rows w := ⟨_, rfl⟩
    rw [← hL] at hc l1 hlL ⊢
    obtain ⟨q, hq⟩ : ∃ q, q = addW (f w) L g := ⟨_, rfl⟩
    rw [← hq] at l1 ⊢
    simp at hc
    rw [floop_at i_impl_Graph_walks_B2.eq_1]
    clear hq hL
    simp (disch := first | assumption | omega | (simp [*] <;> omega) | fail) [-getElem?_pos, List.getElem?_cons_zero, List.getElem?_cons_succ, hw, hw2, hb, hget_old hb, vx, vl, hc, l1, hn, hn', hpl, hbi, wrap64]
  · intro g _
    rw [floop_at i_impl_Graph_walks_B2.eq_1]
    simp (disch := first | assumption | omega | (simp [*] <;> omega) | fail) [-getElem?_pos, List.getElem?_cons_zero, List.getElem?_cons_succ, ]

theorem upF_walk (rows : List Int) (n v : Nat) (k i : Nat) (hi : i ≤ k) : upF (fun _ f => stepW rows n f) k i (walkW rows n v i) = walkW rows n v k := by
  by_cases h : i < k
  · rw [upF_step h]
    exact upF_walk rows n v k (i + 1) h
  · rw [upF_end h]
    have : i = k := by omega
    rw [this]
 termination_by k - i

theorem l_impl_Graph_walks_3 (h : VH) (n v k : Nat) (s : Value) (rows : List Int) (R : Rok n rows) (hs : Sli h s rows) (hn : nro ≤ h.length) (f0 : Nat → Int) (hk : k ≤ 1000) (hk1 : 1 ≤ k) :
    floop (vcall F nro) nro [3, 7, 18, 19] i_impl_Graph_walks_B3 (bx h n s ++ [⟨1, ints (tbl n f0)⟩]) [bp h, .slice (some ⟨h.length + 2, 0, none⟩) n n, .int .i64 k, .int .i64 1] (bx h n s ++ [⟨1, ints (tbl n f0)⟩, ⟨1, ints (tbl n (walkW rows n v 1))⟩]) =
      some (.exit 0, fl [(7, .slice (some ⟨h.length + 2, 0, none⟩) n n)], bx h n s ++ [⟨1, ints (tbl n f0)⟩, ⟨1, ints (tbl n (walkW rows n v k))⟩]) := by
  have hn' := fun k => Nat.le_trans hn (Nat.le_add_right h.length k)
  have hso := fun k => hs.oldCk (k := k)
  have hle := R.le
  have k2 : 8 * (n : Int) ≤ 140737488355328 := by omega
  have k3 : (n : Int) ≤ 140737488355328 := by omega
  have key := for_up (call := vcall F nro) (nro := nro) (live := [3, 7, 18, 19]) (c := i_impl_Graph_walks_B3) (h0 := bx h n s ++ [⟨1, ints (tbl n f0)⟩]) (n := k) (fun i (_ : Nat → Int) => [bp h, .slice (some ⟨h.length + 2, 0, none⟩) n n, .int .i64 k, .int .i64 i]) (fun _ f => bx h n s ++ [⟨1, ints (tbl n f0)⟩, ⟨1, ints (tbl n f)⟩])
    (fun _ f => stepW rows n f) (fun _ _ => True)
    (fun f => some (.exit 0, fl [(7, .slice (some ⟨h.length + 2, 0, none⟩) n n)], bx h n s ++ [⟨1, ints (tbl n f0)⟩, ⟨1, ints (tbl n f)⟩])) ?_ ?_ 1 (walkW rows n v 1) hk1 trivial
  · rw [upF_walk rows n v k 1 hk1] at key
    exact key.1
  · intro i f hi hi2 _
    refine ⟨trivial, ?_⟩
    have l2 := l_impl_Graph_walks_2 (nro := nro) (bx h n s ++ [⟨1, ints (tbl n f0)⟩, ⟨1, ints (tbl n f)⟩]) h.length (h.length + 2) n k i s rows R ((hs.app _).app _) f (by simp) (by simp) (by simp; omega)
    have hc := clean_mid (h := bx h n s ++ [⟨1, ints (tbl n f0)⟩]) (L := [⟨1, ints (tbl n f)⟩, ⟨1, ints (tbl n (stepW rows n f))⟩]) (A := [bp h]) (B := [.int .i64 k, .int .i64 ((i : Int) + 1)]) (k := 1) (off := 0) (n := n) (t := n) (o := ⟨1, ints (tbl n (stepW rows n f))⟩) (by intro v hv; simp at hv; subst hv; simp) (by intro v hv; simp at hv; rcases hv with rfl | rfl <;> simp) rfl (by simp)
    obtain ⟨q, hq⟩ : ∃ q, q = stepW rows n f := ⟨_, rfl⟩
    rw [← hq] at l2 hc ⊢
    have e0 : ints (List.replicate n 0) = ints (tbl n fun _ => 0) := by rw [tbl_const]
    simp at l2 hc
    rw [floop_at i_impl_Graph_walks_B3.eq_1]
    clear hq
    simp (disch := first | assumption | omega | (simp [*] <;> omega) | fail) [hi, hi2, e0, l2, hc, hn', hso, wrap64, k2, k3]
  · intro f _
    rw [floop_at i_impl_Graph_walks_B3.eq_1]
    simp (disch := first | assumption | omega | (simp [*] <;> omega) | fail) []

theorem c_impl_Graph_walks (n v k : Nat) (s : Value) (rows : List Int) (h : VH) (R : Rok n rows) (hs : Sli h s rows) (hv : v < n) (hk : k ≤ 1000) (hn : nro ≤ h.length) :
    vcall F nro k_impl_Graph_walks [gv n s, .int .i64 v, .int .i64 k] h = some (.slice (some ⟨h.length, 0, none⟩) n n, h ++ [⟨1, ints (tbl n (walkW rows n v k))⟩]) := by
  have hn' := fun k => Nat.le_trans hn (Nat.le_add_right h.length k)
  have hso := fun k => hs.oldCk (k := k)
  have hle := R.le
  have k2 : 8 * (n : Int) ≤ 140737488355328 := by omega
  have k3 : (n : Int) ≤ 140737488355328 := by omega
  have hv2 : (v : Int) < n := by omega
  have t3 := tbl_splice (g := fun _ => 0) (x := 1) hv
  have e0 : ints (List.replicate n 0) = ints (tbl n fun _ => 0) := by rw [tbl_const]
  refine v_impl_Graph_walks (by simp [i_impl_Graph_walks]) ?_
  rw [fbody_eq]
  by_cases hk0 : k = 0
  · subst hk0
    have l3 : ∀ H vs, floop (vcall F nro) nro [3, 7, 18, 19] i_impl_Graph_walks_B3 H (vs :: .slice (some ⟨h.length + 1, 0, none⟩) n n :: [.int .i64 0, .int .i64 0]) H = some (.exit 0, fl [(7, .slice (some ⟨h.length + 1, 0, none⟩) n n)], H) := by
      intro H vs
      rw [floop_at i_impl_Graph_walks_B3.eq_1]
      simp (disch := first | assumption | omega | (simp [*] <;> omega) | fail) []
    unfold walkW
    simp (disch := first | assumption | omega | (simp [*] <;> omega) | fail) [i_impl_Graph_walks, hv, hv2, t3, e0, l3, hn', hso, k2, k3]
  · have hk1 : 1 ≤ k := by omega
    have l3 := l_impl_Graph_walks_3 (nro := nro) h n v k s rows R hs hn (upd (fun _ => 0) v 1) hk hk1
    have l2 := l_impl_Graph_walks_2 (nro := nro) (bx h n s ++ [⟨1, ints (tbl n (upd (fun _ => 0) v 1))⟩]) h.length (h.length + 1) n k 0 s rows R ((hs.app _).app _) (upd (fun _ => 0) v 1) (by simp) (by simp) (by simp; omega)
    have e1 : stepW rows n (upd (fun _ => 0) v 1) = walkW rows n v 1 := rfl
    rw [e1] at l2
    have hc := clean_mid (h := bx h n s ++ [⟨1, ints (tbl n (upd (fun _ => 0) v 1))⟩]) (L := [⟨1, ints (tbl n (walkW rows n v 1))⟩]) (A := [bp h]) (B := [.int .i64 k, .int .i64 1]) (k := 0) (off := 0) (n := n) (t := n) (o := ⟨1, ints (tbl n (walkW rows n v 1))⟩) (by intro v hv; simp at hv; subst hv; simp) (by intro v hv; simp at hv; rcases hv with rfl | rfl <;> simp) rfl (by simp)
    obtain ⟨q, hq⟩ : ∃ q, q = walkW rows n v 1 := ⟨_, rfl⟩
    rw [← hq] at l2 hc l3
    obtain ⟨q2, hq2⟩ : ∃ q2, q2 = walkW rows n v k := ⟨_, rfl⟩
    rw [← hq2] at l3 ⊢
    have step : floop (vcall F nro) nro [3, 7, 18, 19] i_impl_Graph_walks_B3 (bx h n s ++ [⟨1, ints (tbl n (upd (fun _ => 0) v 1))⟩]) [bp h, .slice (some ⟨h.length + 1, 0, none⟩) n n, .int .i64 k, .int .i64 0] (bx h n s ++ [⟨1, ints (tbl n (upd (fun _ => 0) v 1))⟩]) = some (.exit 0, fl [(7, .slice (some ⟨h.length + 2, 0, none⟩) n n)], bx h n s ++ [⟨1, ints (tbl n (upd (fun _ => 0) v 1))⟩, ⟨1, ints (tbl n q2)⟩]) := by
      have hk2 : (0 : Int) < k := by omega
      simp at l2 hc l3
      rw [floop_at i_impl_Graph_walks_B3.eq_1]
      clear hq hq2 e1
      simp (disch := first | assumption | omega | (simp [*] <;> omega) | fail) [hk2, hk0, e0, l2, hc, l3, hn', hso, wrap64, k2, k3]
    simp at step
    clear hq hq2 l2 l3 hc e1
    simp (disch := first | assumption | omega | (simp [*] <;> omega) | fail) [i_impl_Graph_walks, hv, hv2, t3, e0, step, hn', hso, k2, k3]

theorem c_impl_Graph_through (n a b k : Nat) (s : Value) (rows : List Int) (h : VH) (hs : Sli h s rows) (g : GV n rows) (hab : rbit rows a b = true) (hk : k ≤ 1000) (hn : nro ≤ h.length) :
    vcall F nro k_impl_Graph_through [gv n s, .int .i64 a, .int .i64 b, .int .i64 ((k : Int) + 1)] h = some (.int .i64 (IntKind.i64.wrap (wkN (cut2 rows a b) n a k b)), h) := by
  refine v_impl_Graph_through (by simp [i_impl_Graph_through]) ?_
  rw [fbody_eq]
  have hn' := fun k => Nat.le_trans hn (Nat.le_add_right h.length k)
  have hso := fun k => hs.oldCk (k := k)
  obtain ⟨ha, hb⟩ := rbit_lt g.rok hab
  obtain ⟨R2, _⟩ := cut_rok g ha hb hab
  have R := g.rok
  have hl := R.len
  have hle := R.le
  have hne := g.ne hab
  have ho := c_impl_own (nro := nro) n s rows (h ++ [⟨0, [.int .i64 n, s]⟩]) (hs.app _) (by intro e; rw [e] at hl; simp at hl; omega) (by omega) (by simp; omega)
  obtain ⟨r1, r2⟩ := R.row a ha
  obtain ⟨q1, q2⟩ := R.row b hb
  have r3 := le62 hle r2
  have q3 := le62 hle q2
  have ht := c_impl_Graph_take (nro := nro) n (h.length + 1) n a b rows (h ++ [⟨0, [.int .i64 n, s]⟩, ⟨1, ints rows⟩, ⟨0, [.int .i64 n, .slice (some ⟨h.length + 1, 0, none⟩) n n]⟩]) (by simp) hl (by omega) (by omega) (by omega) (by omega) (by omega) hle (by omega)
    (by rw [Int.toNat_natCast]; exact r1) (by rw [Int.toNat_natCast]; omega) (by rw [Int.toNat_natCast, Int.toNat_natCast]; exact hab) (by rw [Int.toNat_natCast]; exact q1) (by rw [Int.toNat_natCast]; omega) (by rw [Int.toNat_natCast, Int.toNat_natCast]; exact g.sym' hab)
  have hl2 := R2.len
  have hd := c_impl_Graph_walks (nro := nro) n a k (.slice (some ⟨h.length + 1, 0, none⟩) n n) (cut2 rows a b) (h ++ [⟨0, [.int .i64 n, s]⟩, ⟨1, ints (cut2 rows a b)⟩, ⟨0, [.int .i64 n, .slice (some ⟨h.length + 1, 0, none⟩) n n]⟩]) R2 (by
    have := sli_at (h := h ++ [⟨0, [.int .i64 n, s]⟩, ⟨1, ints (cut2 rows a b)⟩, ⟨0, [.int .i64 n, .slice (some ⟨h.length + 1, 0, none⟩) n n]⟩]) (b := h.length + 1) (xs := cut2 rows a b) (by simp)
    rw [hl2] at this
    exact this) ha hk (by simp; omega)
  have t1 := tbl_take1 (g := walkW (cut2 rows a b) n a k) hb
  rw [walkW_at R2 k b hb] at t1
  have hb' : (b : Int) < n := by omega
  obtain ⟨G, hG⟩ : ∃ G, G = walkW (cut2 rows a b) n a k := ⟨_, rfl⟩
  rw [← hG] at hd t1
  obtain ⟨q, hq⟩ : ∃ q, q = IntKind.i64.wrap (wkN (cut2 rows a b) n a k b) := ⟨_, rfl⟩
  rw [← hq] at t1 ⊢
  obtain ⟨c, hc⟩ : ∃ c, c = cut2 rows a b := ⟨_, rfl⟩
  rw [← hc] at ht hd
  have w1 : IntKind.i64.wrap (k : Int) = k := wrap64 (by omega) (by omega)
  simp at ht hd
  rw [hl] at ho
  simp at ho
  clear hG hq hc R2 hl2
  simp (disch := first | assumption | omega | (simp [*] <;> omega) | fail) [i_impl_Graph_through, ho, ht, hd, w1, hn, hn', hso, hb, hb', t1]

/-! ### codes of vertices of the second chapter -/
open Classical in
theorem l_spec_l02Code (n : Int) (s t : Value) (xs : List Int) (h : VH) (ht : Sli h t xs) (hsc : ∀ k, OldC (h.length + k) s) (hl : xs.length ≤ 9223372036854775806) (h1 : 1 ≤ n) (h2 : n ≤ 62) :
    floop (vcall F nro) nro [1, 2, 5] i_spec_l02Code_B1 (bx h n s) [t, bp h, .int .i64 0] (bx h n s) =
      if badV n xs then some (.ret, fl [(4, .int .i64 2)], bx h n s) else some (.exit 0, fl [], bx h n s) := by
  have hto := fun k => ht.oldk (k := k)
  refine search (fun i => floop (vcall F nro) nro [1, 2, 5] i_spec_l02Code_B1 (bx h n s) [t, bp h, .int .i64 i] (bx h n s)) (fun i => ¬ (0 ≤ xs.getD i.toNat 0 ∧ xs.getD i.toNat 0 < n)) _ _ xs.length 0 ?_ ?_ 0 (by omega)
  · intro i hi hlt
    have e1 : xs.getD i.toNat 0 = xs[i.toNat]'(by omega) := getD_at _ (by omega)
    have hc := fun L (x a b : Int) => c_spec_l01In (nro := nro) x a b (h ++ L)
    have e2 : xs[i.toNat]'(by omega) ≤ n - 1 ↔ xs[i.toNat]'(by omega) < n := by omega
    rw [floop_at i_spec_l02Code_B1.eq_1, e1]
    constructor <;> intro hb
    · by_cases h0 : 0 ≤ xs[i.toNat]'(by omega)
      · have h3 : ¬ xs[i.toNat]'(by omega) < n := fun h3 => hb ⟨h0, h3⟩
        simp (disch := first | assumption | omega | (simp [*] <;> omega) | fail) [ht.vlen', ht.vidx', ht.vload', wrap64, hlt, h0, h3, hc, e2]
      · simp (disch := first | assumption | omega | (simp [*] <;> omega) | fail) [ht.vlen', ht.vidx', ht.vload', wrap64, hlt, h0, hc, e2]
    · obtain ⟨h0, h3⟩ := Classical.not_not.mp hb
      simp (disch := first | assumption | omega | (simp [*] <;> omega) | fail) [ht.vlen', ht.vidx', ht.vload', wrap64, hlt, h0, h3, hc, e2]
  · intro i hi hlt
    rw [floop_at i_spec_l02Code_B1.eq_1]
    simp (disch := first | assumption | omega | (simp [*] <;> omega) | fail) [ht.vlen', hlt]
theorem c_spec_l02Code (n : Int) (s t : Value) (rows xs : List Int) (h : VH) (hs : Sli h s rows) (ht : Sli h t xs) (hl : xs.length ≤ 9223372036854775806) :
    vcall F nro k_spec_l02Code [gv n s, t] h = some (.int .i64 (vtxCode n rows xs), h) := by
  refine v_spec_l02Code (by simp [i_spec_l02Code]) ?_
  rw [fbody_eq]
  have hc := c_spec_l01Is (nro := nro) n s rows (bx h n s) (hs.app _)
  unfold vtxCode
  by_cases g : GV n rows
  · have hl := l_spec_l02Code (nro := nro) n s t xs h ht (fun k => hs.oldCk (k := k)) hl g.lo g.hi
    by_cases b : badV n xs
    · rw [if_pos b] at hl
      simp (disch := first | assumption | omega | (simp [*] <;> omega) | fail) [i_spec_l02Code, hc, g, hl, b]
    · rw [if_neg b] at hl
      simp (disch := first | assumption | omega | (simp [*] <;> omega) | fail) [i_spec_l02Code, hc, g, hl, b]
  · simp (disch := first | assumption | omega | (simp [*] <;> omega) | fail) [i_spec_l02Code, hc, g]

/-! ### ShortestThrough -/
noncomputable def stA (n : Int) (rows : List Int) (a b : Int) : Int × Int :=
  if vtxCode n rows [a, b] ≠ 0 then (0, vtxCode n rows [a, b]) else if rbit rows a.toNat b.toNat = false then (0, 5) else if girF rows n.toNat 0 0 = 0 then (0, 4) else
    if arF rows a.toNat b.toNat ≠ girF rows n.toNat 0 0 then (0, 0) else (arN rows n.toNat a.toNat b.toNat, 0)
theorem vtx0 {n a b : Int} {rows : List Int} (h : vtxCode n rows [a, b] = 0) : GV n rows ∧ (0 ≤ a ∧ a < n) ∧ 0 ≤ b ∧ b < n := by
  unfold vtxCode at h
  by_cases g : GV n rows
  · rw [if_pos g] at h
    by_cases hb : badV n [a, b]
    · rw [if_pos hb] at h; omega
    · exact ⟨g, Classical.not_not.mp (mt (badV2 n a b).mpr hb)⟩
  · rw [if_neg g] at h; omega

theorem c_spec_ShortestThrough (n a b : Int) (s : Value) (rows : List Int) (h : VH) (hs : Sli h s rows) (hn : nro ≤ h.length) :
    vcall F nro k_spec_ShortestThrough [gv n s, .int .i64 a, .int .i64 b] h = some (.tuple #[.int .i64 (stA n rows a b).1, .int .i64 (stA n rows a b).2], h) := by
  refine v_spec_ShortestThrough (by simp [i_spec_ShortestThrough]) ?_
  rw [fbody_eq]
  have hn' := fun k => Nat.le_trans hn (Nat.le_add_right h.length k)
  have hso := fun k => hs.oldCk (k := k)
  have hc := c_spec_l02Code (nro := nro) n s (.slice (some ⟨h.length + 1, 0, none⟩) 2 2) rows [a, b] (h ++ [⟨0, [.int .i64 n, s]⟩, ⟨1, ints [a, b]⟩]) (hs.app _) (sli_at (xs := [a, b]) (by simp)) (by simp)
  simp only [ints_cons, ints_nil] at hc
  unfold stA
  by_cases hz : vtxCode n rows [a, b] = 0
  · rw [if_neg (fun h => h hz)]
    rw [hz] at hc
    obtain ⟨g, ⟨a0, a1⟩, b0, b1⟩ := vtx0 hz
    have hlo := g.lo
    obtain ⟨N, rfl⟩ : ∃ N : Nat, n = N := ⟨n.toNat, by omega⟩
    obtain ⟨A, rfl⟩ : ∃ A : Nat, a = A := ⟨a.toNat, by omega⟩
    obtain ⟨B, rfl⟩ : ∃ B : Nat, b = B := ⟨b.toNat, by omega⟩
    simp only [Int.toNat_natCast]
    have R := g.rok
    have hle := R.le
    have hlen := R.len
    have hA : A < N := by omega
    obtain ⟨r1, r2⟩ := R.row A hA
    have r3 := le62 hle r2
    have hvl : A < rows.length := by omega
    have vx := fun L => (hs.app L).vidx (k := .i64) (j := (A : Int)) (by omega) (by omega)
    have vl := fun L => (hs.app L).vload hvl
    have w1 : IntKind.u64.wrap (B : Int) = B := wrapu64 (by omega) (by omega)
    have hbit := bit_two (a := rows.getD A 0) (b := (B : Int)) r1 (by omega) (by omega)
    rw [Int.toNat_natCast, getD_at rows hvl] at hbit
    have hrb : rbit rows A B = (rows[A]'hvl).toNat.testBit B := by unfold rbit; rw [getD_at rows hvl]
    rw [← hrb] at hbit
    have hg := c_spec_l02Girth (nro := nro) N (-1) s rows (h ++ [⟨0, [.int .i64 N, s]⟩, ⟨1, ints [(A : Int), (B : Int)]⟩]) (hs.app _) g (by simp; omega)
    rw [gAll_girF g] at hg
    simp only [ints_cons, ints_nil] at hg
    by_cases c1 : rbit rows A B = true
    · rw [if_neg (by simp [c1])]
      rw [if_pos c1] at hbit
      have ha := c_spec_l02Around (nro := nro) N A B s rows (h ++ [⟨0, [.int .i64 N, s]⟩, ⟨1, ints [(A : Int), (B : Int)]⟩]) (hs.app _) g c1 (by simp; omega)
      simp only [ints_cons, ints_nil] at ha
      obtain ⟨x, hx⟩ : ∃ x, x = girF rows N 0 0 := ⟨_, rfl⟩
      rw [← hx] at hg ⊢
      obtain ⟨y, hy⟩ : ∃ y, y = arF rows A B := ⟨_, rfl⟩
      rw [← hy] at ha ⊢
      obtain ⟨z, hz2⟩ : ∃ z, z = arN rows N A B := ⟨_, rfl⟩
      rw [← hz2] at ha ⊢
      clear hx hy hz2 hz hrb r1 r2 r3
      by_cases c2 : x = 0
      · simp (disch := first | assumption | omega | (simp [*] <;> omega) | fail) [i_spec_ShortestThrough, hc, vx, vl, w1, hbit, hg, c2, hn', hso, fresults, fresL, fres1]
      · by_cases c3 : y = x
        · subst c3
          simp (disch := first | assumption | omega | (simp [*] <;> omega) | fail) [i_spec_ShortestThrough, hc, vx, vl, w1, hbit, hg, ha, c2, hn', hso, fresults, fresL, fres1]
        · simp (disch := first | assumption | omega | (simp [*] <;> omega) | fail) [i_spec_ShortestThrough, hc, vx, vl, w1, hbit, hg, ha, c2, c3, hn', hso, fresults, fresL, fres1]
    · rw [if_pos (by simpa using c1)]
      rw [if_neg c1] at hbit
      clear hrb r1 r2 r3 hz
      simp (disch := first | assumption | omega | (simp [*] <;> omega) | fail) [i_spec_ShortestThrough, hc, vx, vl, w1, hbit, hn', hso, fresults, fresL, fres1]
  · rw [if_pos hz]
    obtain ⟨x, hx⟩ : ∃ x, x = vtxCode n rows [a, b] := ⟨_, rfl⟩
    rw [← hx] at hc hz ⊢
    clear hx
    simp (disch := first | assumption | omega | (simp [*] <;> omega) | fail) [i_spec_ShortestThrough, hc, hz, hn', hso, fresults, fresL, fres1]

theorem c_impl_ShortestThrough (n a b : Int) (s : Value) (rows : List Int) (h : VH) (hs : Sli h s rows) (hn : nro ≤ h.length) :
    vcall F nro k_impl_ShortestThrough [gv n s, .int .i64 a, .int .i64 b] h = some (.tuple #[.int .i64 (stA n rows a b).1, .int .i64 (stA n rows a b).2], h) := by
  refine v_impl_ShortestThrough (by simp [i_impl_ShortestThrough]) ?_
  rw [fbody_eq]
  have hn' := fun k => Nat.le_trans hn (Nat.le_add_right h.length k)
  have hso := fun k => hs.oldCk (k := k)
  have hc := c_impl_graphCode (nro := nro) n s (.slice (some ⟨h.length + 1, 0, none⟩) 2 2) rows [a, b] (h ++ [⟨0, [.int .i64 n, s]⟩, ⟨1, ints [a, b]⟩]) (hs.app _) (sli_at (xs := [a, b]) (by simp)) (by simp)
  simp only [ints_cons, ints_nil] at hc
  unfold stA
  by_cases hz : vtxCode n rows [a, b] = 0
  · rw [if_neg (fun h => h hz)]
    rw [hz] at hc
    obtain ⟨g, ⟨a0, a1⟩, b0, b1⟩ := vtx0 hz
    have hlo := g.lo
    obtain ⟨N, rfl⟩ : ∃ N : Nat, n = N := ⟨n.toNat, by omega⟩
    obtain ⟨A, rfl⟩ : ∃ A : Nat, a = A := ⟨a.toNat, by omega⟩
    obtain ⟨B, rfl⟩ : ∃ B : Nat, b = B := ⟨b.toNat, by omega⟩
    simp only [Int.toNat_natCast]
    have R := g.rok
    have hle := R.le
    have hA : A < N := by omega
    have hB : B < N := by omega
    have hh := has_impl (nro := nro) N A B s rows (h ++ [⟨0, [.int .i64 N, s]⟩, ⟨1, ints [(A : Int), (B : Int)]⟩]) (hs.app _) R hA hB
    have hg := c_impl_Graph_girth (nro := nro) N s rows (h ++ [⟨0, [.int .i64 N, s]⟩, ⟨1, ints [(A : Int), (B : Int)]⟩]) (hs.app _) g (by simp; omega)
    simp only [ints_cons, ints_nil] at hg hh
    by_cases c1 : rbit rows A B = true
    · rw [if_neg (by simp [c1])]
      rw [c1] at hh
      have ha := c_impl_Graph_around (nro := nro) N A B s rows (h ++ [⟨0, [.int .i64 N, s]⟩, ⟨1, ints [(A : Int), (B : Int)]⟩]) (hs.app _) g c1 (by simp; omega)
      simp only [ints_cons, ints_nil] at ha
      by_cases c2 : girF rows N 0 0 = 0
      · rw [if_pos c2]
        rw [c2] at hg
        clear c2 hz
        simp (disch := first | assumption | omega | (simp [*] <;> omega) | fail) [i_impl_ShortestThrough, hc, hh, hg, hn', hso, fresults, fresL, fres1]
      · rw [if_neg c2]
        by_cases c3 : arF rows A B = girF rows N 0 0
        · rw [if_neg (fun h => h c3)]
          have hge := girF_ge' (rows := rows) (n := N) 0 0 (by omega)
          obtain ⟨R2, _⟩ := cut_rok g hA hB c1
          have hsm := far_small R2 hA hB
          obtain ⟨d, hd⟩ : ∃ d : Nat, far (cut2 rows A B) A B = d := ⟨(far (cut2 rows A B) A B).toNat, by unfold arF at c3; omega⟩
          have ht := c_impl_Graph_through (nro := nro) N A B d s rows (h ++ [⟨0, [.int .i64 N, s]⟩, ⟨1, ints [(A : Int), (B : Int)]⟩]) (hs.app _) g c1 (by omega) (by simp; omega)
          simp only [ints_cons, ints_nil] at ht
          have e1 : arN rows N A B = IntKind.i64.wrap (wkN (cut2 rows A B) N A d B) := by
            unfold arN
            rw [hd, if_neg (by omega), Int.toNat_natCast]
          have e2 : girF rows N 0 0 = (d : Int) + 1 := by rw [← c3]; unfold arF; rw [hd]
          rw [e1]
          rw [c3, e2] at ha
          rw [e2] at hg c2
          obtain ⟨q, hq⟩ : ∃ q, q = IntKind.i64.wrap (wkN (cut2 rows A B) N A d B) := ⟨_, rfl⟩
          rw [← hq] at ht ⊢
          clear hq e1 e2 c3 hd hz hge hsm R2
          simp (disch := first | assumption | omega | (simp [*] <;> omega) | fail) [i_impl_ShortestThrough, hc, hh, hg, ha, ht, c2, hn', hso, fresults, fresL, fres1]
        · rw [if_pos c3]
          obtain ⟨x, hx⟩ : ∃ x, x = girF rows N 0 0 := ⟨_, rfl⟩
          rw [← hx] at hg c2 c3
          obtain ⟨y, hy⟩ : ∃ y, y = arF rows A B := ⟨_, rfl⟩
          rw [← hy] at ha c3
          clear hx hy hz
          simp (disch := first | assumption | omega | (simp [*] <;> omega) | fail) [i_impl_ShortestThrough, hc, hh, hg, ha, c2, c3, hn', hso, fresults, fresL, fres1]
    · rw [if_pos (by simpa using c1)]
      have c1' : rbit rows A B = false := by simpa using c1
      rw [c1'] at hh
      clear hz
      simp (disch := first | assumption | omega | (simp [*] <;> omega) | fail) [i_impl_ShortestThrough, hc, hh, hn', hso, fresults, fresL, fres1]
  · rw [if_pos hz]
    obtain ⟨x, hx⟩ : ∃ x, x = vtxCode n rows [a, b] := ⟨_, rfl⟩
    rw [← hx] at hc hz ⊢
    clear hx
    simp (disch := first | assumption | omega | (simp [*] <;> omega) | fail) [i_impl_ShortestThrough, hc, hz, hn', hso, fresults, fresL, fres1]

theorem r_spec_ShortestThrough (n a b : Int) (s : Value) (h : VH) (hs : isSli h s) (hn : nro ≤ h.length) : vcall F nro k_spec_ShortestThrough [gv n s, .int .i64 a, .int .i64 b] h = some (.tuple #[.int .i64 (stA n (rd h s) a b).1, .int .i64 (stA n (rd h s) a b).2], h) := c_spec_ShortestThrough n a b s _ h hs.sli hn
theorem r_impl_ShortestThrough (n a b : Int) (s : Value) (h : VH) (hs : isSli h s) (hn : nro ≤ h.length) : vcall F nro k_impl_ShortestThrough [gv n s, .int .i64 a, .int .i64 b] h = some (.tuple #[.int .i64 (stA n (rd h s) a b).1, .int .i64 (stA n (rd h s) a b).2], h) := c_impl_ShortestThrough n a b s _ h hs.sli hn

theorem law_ShortestThrough (n : Int) (s : Value) (rows : List Int) (a b : Int) (h : VH) (hs : Sli h s rows) (h3 : rows.length ≤ 9223372036854775807) (_ : -9223372036854775808 ≤ a) (_ : a ≤ 9223372036854775807) (_ : -9223372036854775808 ≤ b) (_ : b ≤ 9223372036854775807) (hn : nro ≤ h.length) :
    vcall F nro k_laws_FnExactShortestThrough [gv n s, .int .i64 a, .int .i64 b] h = some (.bool true, h) := by
  refine v_laws_FnExactShortestThrough (by simp [i_laws_FnExactShortestThrough]) ?_
  rw [fbody_eq]
  have hc1 := c_laws_szGraph (nro := nro) n s rows 1048576 (bx h n s) (hs.app _) (by omega) (by omega) h3
  by_cases hr : 1048576 < (rows.length : Int)
  · rw [if_pos hr] at hc1
    simp (disch := first | assumption | omega | (simp [*] <;> omega) | fail) [i_laws_FnExactShortestThrough, hc1]
  · rw [if_neg hr] at hc1
    have hr2 : ¬ (1048576 - (rows.length : Int) < 0) := by omega
    have h5 : rows.length ≤ 1048576 := by omega
    have hn' := fun k => Nat.le_trans hn (Nat.le_add_right h.length k)
    have hsi := fun L => hs.is' (L := L)
    have hsr := fun L => hs.rd' (L := L)
    clear hs
    obtain ⟨p, hp⟩ : ∃ p, p = stA n rows a b := ⟨_, rfl⟩
    simp (disch := first | assumption | omega | (simp [*] <;> omega) | fail) [i_laws_FnExactShortestThrough, hc1, hr2, r_laws_toGraph, r_spec_ShortestThrough, r_impl_ShortestThrough, r_laws_eqGraph, ← hp, hsi, hsr, hn', hn, h5]
end Go.Proofs.YthpgiimaadohcaaDoor.Zv

