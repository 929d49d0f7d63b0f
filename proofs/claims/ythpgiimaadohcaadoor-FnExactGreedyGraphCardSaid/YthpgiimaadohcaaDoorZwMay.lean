/- May two vertices be joined: the reference's and the program's tests are one. -/
import Derived.Test.YthpgiimaadohcaaDoorZwDist2
import Derived.Test.YthpgiimaadohcaaDoorZwEdge
namespace Go.Proofs.YthpgiimaadohcaaDoor.Zv
open Go
variable {nro : Nat}

theorem l_spec_l01Bits (h : VH) (x : Nat) (hx : x < 2 ^ 63) (c : Nat) (hc : c + pc x ≤ 1000) :
    floop (vcall F nro) nro [0, 3] i_spec_l01Bits_B1 h [.int .i64 x, .int .i64 c] h = some (.exit 0, fl [(3, .int .i64 ((c + pc x : Nat) : Int))], h) := by
  rw [floop_at i_spec_l01Bits_B1.eq_1]
  by_cases h0 : x = 0
  · subst h0
    rw [pc_zero]
    simp (disch := first | assumption | omega | (simp [*] <;> omega) | fail) []
  · have e := pc_step x
    have ih := l_spec_l01Bits h (x / 2) (by omega) (c + x % 2) (by omega)
    have h0' : (0 : Int) < x := by omega
    have h0'' : 0 < x := by omega
    have e1 : (x : Int).tmod 2 = ((x % 2 : Nat) : Int) := (Int.ofNat_tmod x 2).symm
    have e2 : (x : Int).tdiv 2 = ((x / 2 : Nat) : Int) := (Int.ofNat_tdiv x 2).symm
    have e3 : c + x % 2 + pc (x / 2) = c + pc x := by omega
    rw [e3] at ih
    obtain ⟨y, hy⟩ : ∃ y, y = x / 2 := ⟨_, rfl⟩
    obtain ⟨z, hz⟩ : ∃ z, z = x % 2 := ⟨_, rfl⟩
    have w1 : IntKind.i64.wrap (y : Int) = y := wrap64 (by omega) (by omega)
    have w2 : IntKind.i64.wrap ((c : Int) + z) = (c : Int) + z := wrap64 (by omega) (by omega)
    rw [← hy] at e2 ih
    rw [← hz] at e1 ih
    simp only [Int.natCast_add] at ih ⊢
    clear e e3 hy hz hc
    simp (disch := first | assumption | omega | (simp [*] <;> omega) | fail) [h0, h0', h0'', e1, e2, w1, w2, ih]
 termination_by x
 decreasing_by omega

theorem c_spec_l01Bits (x : Nat) (hx : x < 2 ^ 62) (h : VH) : vcall F nro k_spec_l01Bits [.int .i64 x] h = some (.int .i64 (pc x), h) := by
  refine v_spec_l01Bits (by simp [i_spec_l01Bits]) ?_
  rw [fbody_eq]
  have hp := pc_le x 62 hx
  have lp := l_spec_l01Bits (nro := nro) h x (by omega) 0 (by omega)
  rw [Nat.zero_add] at lp
  simp only [Int.natCast_zero] at lp
  simp (disch := first | assumption | omega | (simp [*] <;> omega) | fail) [i_spec_l01Bits, lp]

/-- The degree of a vertex. -/
def deg (rows : List Int) (v : Nat) : Nat := pc (rows.getD v 0).toNat

theorem c_spec_l01Degree (n v : Nat) (s : Value) (rows : List Int) (h : VH) (hs : Sli h s rows) (R : Rok n rows) (hv : v < n) :
    vcall F nro k_spec_l01Degree [gv n s, .int .i64 v] h = some (.int .i64 (deg rows v), h) := by
  refine v_spec_l01Degree (by simp [i_spec_l01Degree]) ?_
  rw [fbody_eq]
  obtain ⟨r1, r2⟩ := R.row v hv
  have r3 := le62 R.le r2
  have hl := R.len
  have hc := c_spec_l01Bits (nro := nro) (rows.getD v 0).toNat r3 (bx h n s)
  have hvl : v < rows.length := by omega
  have e1 : (((rows.getD v 0).toNat : Nat) : Int) = rows[v]'hvl := by rw [getD_at rows hvl] at r1 ⊢; omega
  rw [e1] at hc
  unfold deg
  have vx := fun L => (hs.app L).vidx (k := .i64) (j := (v : Int)) (by omega) (by omega)
  have vl := fun L => (hs.app L).vload hvl
  obtain ⟨p, hp⟩ : ∃ p, p = pc (rows.getD v 0).toNat := ⟨_, rfl⟩
  rw [← hp] at hc ⊢
  clear hp e1 r1 r2 r3
  simp (disch := first | assumption | omega | (simp [*] <;> omega) | fail) [i_spec_l01Degree, vx, vl, hc]

theorem c_impl_degree (n v : Nat) (s : Value) (rows : List Int) (h : VH) (hs : Sli h s rows) (R : Rok n rows) (hv : v < n) :
    vcall F nro k_impl_Graph_degree [gv n s, .int .i64 v] h = some (.int .i64 (deg rows v), h) := by
  obtain ⟨r1, r2⟩ := R.row v hv
  have r3 := le62 R.le r2
  have hl := R.len
  have := c_impl_Graph_degree (nro := nro) n v s rows h hs (by omega) (by omega) (by rw [Int.toNat_natCast]; exact r1) (by rw [Int.toNat_natCast]; omega)
  rw [Int.toNat_natCast] at this
  exact this

theorem lev_le {n : Nat} {rows : List Int} (R : Rok n rows) (met f d b : Nat) (hm : met < 2 ^ n) (hf : f < 2 ^ n) (hd : ¬ f = 0 → d ≤ met) : lev rows met f d b ≤ 4611686018427387904 := by
  have hm62 := le62 R.le hm
  by_cases h0 : f = 0
  · subst h0; rw [lev_zero]; omega
  · by_cases hb : f.testBit b = true
    · rw [lev_bit hb]
      have := hd h0
      omega
    · rw [lev_step R hm hf h0 (by simpa using hb)]
      have hx := nxt_lt R hf
      have hnl := nand_le (nxt rows f) met
      by_cases h3 : met < met ||| nxt rows f
      · have := hd h0
        exact lev_le R (met ||| nxt rows f) (nand (nxt rows f) met) (d + 1) b (Nat.or_lt_two_pow hm hx) (by omega) (fun _ => by omega)
      · rw [or_or_zero (rows := rows) h3, lev_zero]; omega
 termination_by 2 ^ n - met
 decreasing_by
  have := Nat.or_lt_two_pow hm hx
  omega
theorem far_le {n : Nat} {rows : List Int} (R : Rok n rows) {a : Nat} (ha : a < n) (b : Nat) : far rows a b ≤ 4611686018427387904 := by
  have hp : 2 ^ a < 2 ^ n := Nat.pow_lt_pow_right (by omega) ha
  exact lev_le R _ _ _ b hp hp (fun _ => Nat.zero_le _)
theorem far_ge (rows : List Int) (a b : Nat) : -1 ≤ far rows a b := lev_ge ..

/-- May two vertices be joined? -/
def mayB (rows : List Int) (k c : Int) (v w : Nat) : Bool :=
  !(rbit rows v w || decide (k ≤ deg rows v) || decide (k ≤ deg rows w)) && (decide (far rows v w < 0) || decide (c ≤ far rows v w + 1))

theorem has_spec (n v w : Nat) (s : Value) (rows : List Int) (h : VH) (hs : Sli h s rows) (R : Rok n rows) (hv : v < n) (hw : w < n) : vcall F nro k_spec_l01Has [gv n s, .int .i64 v, .int .i64 w] h = some (.bool (rbit rows v w), h) := by
  obtain ⟨r1, r2⟩ := R.row v hv
  have r3 := le62 R.le r2
  have hl := R.len
  have hle := R.le
  have := c_spec_l01Has' (nro := nro) n v w s rows h hs (by omega) (by omega) (by omega) (by omega) (by rw [Int.toNat_natCast]; exact r1) (by rw [Int.toNat_natCast]; omega)
  rw [Int.toNat_natCast, Int.toNat_natCast] at this
  exact this
theorem has_impl (n v w : Nat) (s : Value) (rows : List Int) (h : VH) (hs : Sli h s rows) (R : Rok n rows) (hv : v < n) (hw : w < n) : vcall F nro k_impl_Graph_has [gv n s, .int .i64 v, .int .i64 w] h = some (.bool (rbit rows v w), h) := by
  obtain ⟨r1, r2⟩ := R.row v hv
  have r3 := le62 R.le r2
  have hl := R.len
  have hle := R.le
  have := c_impl_Graph_has (nro := nro) n v w s rows h hs (by omega) (by omega) (by omega) (by omega) (by rw [Int.toNat_natCast]; exact r1) (by rw [Int.toNat_natCast]; omega)
  rw [Int.toNat_natCast, Int.toNat_natCast] at this
  exact this

theorem c_spec_l07May (n v w : Nat) (k c : Int) (s : Value) (rows : List Int) (h : VH) (hs : Sli h s rows) (R : Rok n rows) (hv : v < n) (hw : w < n) (hne : v ≠ w) :
    vcall F nro k_spec_l07May [gv n s, .int .i64 k, .int .i64 c, .int .i64 v, .int .i64 w] h = some (.bool (mayB rows k c v w), h) := by
  refine v_spec_l07May (by simp [i_spec_l07May]) ?_
  rw [fbody_eq]
  have h1 := has_spec (nro := nro) n v w s rows (bx h n s) (hs.app _) R hv hw
  have h2 := c_spec_l01Degree (nro := nro) n v s rows (bx h n s) (hs.app _) R hv
  have h3 := c_spec_l01Degree (nro := nro) n w s rows (bx h n s) (hs.app _) R hw
  have h4 := c_spec_l07Far (nro := nro) n v w s rows (bx h n s) (hs.app _) R hv hw
  have f1 := far_le R hv w
  have f2 := far_ge rows v w
  have hne' : ¬ (v : Int) = w := by omega
  unfold mayB
  obtain ⟨x, hx⟩ : ∃ x, x = far rows v w := ⟨_, rfl⟩
  rw [← hx] at h4 f1 f2 ⊢
  obtain ⟨b, hb⟩ : ∃ b, b = rbit rows v w := ⟨_, rfl⟩
  rw [← hb] at h1 ⊢
  obtain ⟨d1, hd1⟩ : ∃ d, d = deg rows v := ⟨_, rfl⟩
  rw [← hd1] at h2 ⊢
  obtain ⟨d2, hd2⟩ : ∃ d, d = deg rows w := ⟨_, rfl⟩
  rw [← hd2] at h3 ⊢
  clear hx hb hd1 hd2
  have w1 : IntKind.i64.wrap (x + 1) = x + 1 := wrap64 (by omega) (by omega)
  cases b
  · by_cases k1 : k ≤ d1
    · simp (disch := first | assumption | omega | (simp [*] <;> omega) | fail) [i_spec_l07May, h1, h2, hne, hne', k1]
    · by_cases k2 : k ≤ d2
      · simp (disch := first | assumption | omega | (simp [*] <;> omega) | fail) [i_spec_l07May, h1, h2, h3, hne, hne', k1, k2]
      · by_cases k3 : x < 0
        · simp (disch := first | assumption | omega | (simp [*] <;> omega) | fail) [i_spec_l07May, h1, h2, h3, h4, hne, hne', k1, k2, k3]
        · simp (disch := first | assumption | omega | (simp [*] <;> omega) | fail) [i_spec_l07May, h1, h2, h3, h4, hne, hne', k1, k2, k3, w1]
  · simp (disch := first | assumption | omega | (simp [*] <;> omega) | fail) [i_spec_l07May, h1, hne, hne']

theorem c_impl_Graph_mayJoin (n v w : Nat) (k c : Int) (s : Value) (rows : List Int) (h : VH) (hs : Sli h s rows) (R : Rok n rows) (hv : v < n) (hw : w < n) (hn : nro ≤ h.length) :
    vcall F nro k_impl_Graph_mayJoin [gv n s, .int .i64 v, .int .i64 w, .int .i64 k, .int .i64 c] h = some (.bool (mayB rows k c v w), h) := by
  refine v_impl_Graph_mayJoin (by simp [i_impl_Graph_mayJoin]) ?_
  rw [fbody_eq]
  have hn' := fun k => Nat.le_trans hn (Nat.le_add_right h.length k)
  have h1 := has_impl (nro := nro) n v w s rows (bx h n s) (hs.app _) R hv hw
  have h2 := c_impl_degree (nro := nro) n v s rows (bx h n s) (hs.app _) R hv
  have h3 := c_impl_degree (nro := nro) n w s rows (bx h n s) (hs.app _) R hw
  have h4 := c_impl_Graph_distances (nro := nro) n v s rows (bx h n s) (hs.app _) R hv (by simp; omega)
  have f1 := far_le R hv w
  have f2 := far_ge rows v w
  have f3 := dists_get R hv hw
  have f4 := dists_len rows n v
  unfold mayB
  obtain ⟨x, hx⟩ : ∃ x, x = far rows v w := ⟨_, rfl⟩
  rw [← hx] at f1 f2 f3 ⊢
  obtain ⟨D, hD⟩ : ∃ D, D = dists rows n v := ⟨_, rfl⟩
  rw [← hD] at h4 f3 f4
  obtain ⟨b, hb⟩ : ∃ b, b = rbit rows v w := ⟨_, rfl⟩
  rw [← hb] at h1 ⊢
  obtain ⟨d1, hd1⟩ : ∃ d, d = deg rows v := ⟨_, rfl⟩
  rw [← hd1] at h2 ⊢
  obtain ⟨d2, hd2⟩ : ∃ d, d = deg rows w := ⟨_, rfl⟩
  rw [← hd2] at h3 ⊢
  clear hx hb hd1 hd2 hD
  have hwD : w < D.length := by omega
  rw [getD_at D hwD] at f3
  have w1 : IntKind.i64.wrap (x + 1) = x + 1 := wrap64 (by omega) (by omega)
  have hw' : (w : Int) < n := by omega
  have t1 := take1_ints hwD
  rw [f3] at t1
  simp at h4
  cases b
  · by_cases k1 : k ≤ d1
    · simp (disch := first | assumption | omega | (simp [*] <;> omega) | fail) [i_impl_Graph_mayJoin, h1, h2, k1]
    · by_cases k2 : k ≤ d2
      · simp (disch := first | assumption | omega | (simp [*] <;> omega) | fail) [i_impl_Graph_mayJoin, h1, h2, h3, k1, k2]
      · by_cases k3 : x < 0
        · simp (disch := first | assumption | omega | (simp [*] <;> omega) | fail) [i_impl_Graph_mayJoin, h1, h2, h3, h4, k1, k2, k3, hw, hw', f4, t1, hn, hn']
        · simp (disch := first | assumption | omega | (simp [*] <;> omega) | fail) [i_impl_Graph_mayJoin, h1, h2, h3, h4, k1, k2, k3, w1, hw, hw', f4, t1, hn, hn']
  · simp (disch := first | assumption | omega | (simp [*] <;> omega) | fail) [i_impl_Graph_mayJoin, h1]
end Go.Proofs.YthpgiimaadohcaaDoor.Zv
