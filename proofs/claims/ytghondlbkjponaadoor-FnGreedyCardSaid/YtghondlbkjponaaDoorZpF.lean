/- Part F of the proof: ZwWalk, ZwGirth, ZwLL, ZwEdges, ZwLawGreedy, ZwFits, ZwSearch, ZwTab, ZwFrom, ZwWays2, ZwBound, ZwMoore, ZwFound, ZwFirst, ZwDraw4, ZwDraw5, ZwCompl, ZwBeside, ZwNamed. Conditions: none. -/
import Derived.Test.YtghondlbkjponaaDoorZpD
import Derived.Test.YtghondlbkjponaaDoorZpE
set_option linter.unusedSimpArgs false
set_option linter.unusedVariables false
/- Levels are distances: the shortest walks. -/
namespace Go.Proofs.YtghondlbkjponaaDoor.Zv
open Go

/-- There is a walk of k steps from a to b. -/
def Wk (rows : List Int) : Nat → Nat → Nat → Prop
  | 0, a, b => a = b
  | k + 1, a, b => ∃ c, Wk rows k a c ∧ rbit rows c b = true

theorem Wk.front {rows : List Int} : ∀ (k a b : Nat), Wk rows (k + 1) a b ↔ ∃ c, rbit rows a c = true ∧ Wk rows k c b
  | 0, a, b => by
    constructor
    · rintro ⟨c, rfl, h⟩; exact ⟨b, h, rfl⟩
    · rintro ⟨c, h, rfl⟩; exact ⟨a, rfl, h⟩
  | k + 1, a, b => by
    constructor
    · rintro ⟨c, h1, h2⟩
      obtain ⟨d, h3, h4⟩ := (Wk.front k a c).mp h1
      exact ⟨d, h3, c, h4, h2⟩
    · rintro ⟨d, h3, c, h4, h2⟩
      exact ⟨c, (Wk.front k a c).mpr ⟨d, h3, h4⟩, h2⟩
theorem Wk.symm {rows : List Int} (hs : ∀ v w, rbit rows v w = true → rbit rows w v = true) : ∀ (k a b : Nat), Wk rows k a b → Wk rows k b a
  | 0, _, _, h => Eq.symm h
  | k + 1, a, b, h => by
    obtain ⟨c, h1, h2⟩ := h
    exact (Wk.front k b a).mpr ⟨c, hs _ _ h2, Wk.symm hs k a c h1⟩
theorem Wk.add {rows : List Int} (d a : Nat) : ∀ (m b : Nat), Wk rows (d + m) a b → ∃ c, Wk rows d a c ∧ Wk rows m c b
  | 0, b, h => ⟨b, h, rfl⟩
  | m + 1, b, h => by
    obtain ⟨c, h1, h2⟩ := h
    obtain ⟨e, h3, h4⟩ := Wk.add d a m c h1
    exact ⟨e, h3, c, h4, h2⟩
theorem Wk.comp {rows : List Int} {k a c : Nat} (h : Wk rows k a c) : ∀ (m b : Nat), Wk rows m c b → Wk rows (k + m) a b
  | 0, b, h2 => by cases h2; exact h
  | m + 1, b, h2 => by
    obtain ⟨e, h3, h4⟩ := h2
    exact ⟨e, Wk.comp h m e h3, h4⟩

/-- The shortest walk from a to b has d steps. -/
def Dst (rows : List Int) (d a b : Nat) : Prop := Wk rows d a b ∧ ∀ e, e < d → ¬ Wk rows e a b
theorem Dst.unique {rows : List Int} {d d' a b : Nat} (h : Dst rows d a b) (h' : Dst rows d' a b) : d = d' := by
  rcases Nat.lt_trichotomy d d' with h1 | h1 | h1
  · exact absurd h.1 (h'.2 d h1)
  · exact h1
  · exact absurd h'.1 (h.2 d' h1)
theorem Wk.dst {rows : List Int} {a b : Nat} : ∀ (k : Nat), Wk rows k a b → ∃ d, d ≤ k ∧ Dst rows d a b := by
  intro k
  induction k using Nat.strongRecOn with
  | ind k ih =>
    intro h
    by_cases h1 : ∃ e, e < k ∧ Wk rows e a b
    · obtain ⟨e, h2, h3⟩ := h1
      obtain ⟨d, h4, h5⟩ := ih e h2 h3
      exact ⟨d, by omega, h5⟩
    · exact ⟨k, Nat.le_refl _, h, fun e he hw => h1 ⟨e, he, hw⟩⟩
theorem Dst.before {rows : List Int} {d m a b : Nat} (h : Dst rows (d + m) a b) : ∃ c, Dst rows d a c := by
  obtain ⟨c, h1, h2⟩ := Wk.add d a m b h.1
  refine ⟨c, h1, fun e he hw => ?_⟩
  exact h.2 (e + m) (by omega) (hw.comp m b h2)

theorem orL_bit (rows : List Int) (j : Nat) : ∀ (l : List Int), (orL rows l).testBit j = true ↔ ∃ y ∈ l, rbit rows y.toNat j = true
  | [] => by simp [orL]
  | y :: l => by
    rw [orL, Nat.testBit_or, Bool.or_eq_true, orL_bit rows j l]
    simp [rbit]
theorem nxt_bit {n : Nat} {rows : List Int} {f : Nat} (hf : f < 2 ^ n) (hn : n ≤ 62) (j : Nat) : (nxt rows f).testBit j = true ↔ ∃ i, f.testBit i = true ∧ rbit rows i j = true := by
  unfold nxt
  rw [orL_bit]
  constructor
  · rintro ⟨y, h1, h2⟩
    exact ⟨y.toNat, ((bitL_mem f y).mp h1).2.2, h2⟩
  · rintro ⟨i, h1, h2⟩
    have := bit_lt hf h1
    exact ⟨i, (bitL_mem f i).mpr ⟨by omega, by omega, by rw [Int.toNat_natCast]; exact h1⟩, by rw [Int.toNat_natCast]; exact h2⟩

/-- What a number and its sign tell. -/
def IsDist (rows : List Int) (a b : Nat) (x : Int) : Prop := (x = -1 ∧ ∀ e, ¬ Wk rows e a b) ∨ ∃ d : Nat, x = d ∧ Dst rows d a b
theorem IsDist.unique {rows rows' : List Int} {a b a' b' : Nat} {x x' : Int} (h : IsDist rows a b x) (h' : IsDist rows' a' b' x') (e : ∀ k, Wk rows k a b ↔ Wk rows' k a' b') : x = x' := by
  rcases h with ⟨rfl, h⟩ | ⟨d, rfl, h⟩ <;> rcases h' with ⟨rfl, h'⟩ | ⟨d', rfl, h'⟩
  · rfl
  · exact absurd ((e d').mpr h'.1) (h d')
  · exact absurd ((e d).mp h.1) (h' d)
  · have : Dst rows d' a b := ⟨(e d').mpr h'.1, fun k hk hw => h'.2 k hk ((e k).mp hw)⟩
    rw [h.unique this]

theorem lev_dist {n : Nat} {rows : List Int} (R : Rok n rows) (a b met f d : Nat) (hm : met < 2 ^ n) (hf : f < 2 ^ n) (h1 : ∀ j, met.testBit j = true ↔ ∃ e, e ≤ d ∧ Wk rows e a j) (h2 : ∀ j, f.testBit j = true ↔ Dst rows d a j) (h3 : ∀ e, e < d → ¬ Wk rows e a b) :
    IsDist rows a b (lev rows met f d b) := by
  by_cases h0 : f = 0
  · subst h0
    rw [lev_zero]
    refine .inl ⟨rfl, fun e hw => ?_⟩
    obtain ⟨k, hk, hd⟩ := Wk.dst e hw
    rcases Nat.lt_or_ge k d with hlt | hge
    · exact h3 k hlt hd.1
    · obtain ⟨m, rfl⟩ : ∃ m, k = d + m := ⟨k - d, by omega⟩
      obtain ⟨c, hc⟩ := hd.before
      have := (h2 c).mpr hc
      simp at this
  · by_cases hb : f.testBit b = true
    · rw [lev_bit hb]
      exact .inr ⟨d, rfl, (h2 b).mp hb⟩
    · rw [lev_step R hm hf h0 (by simpa using hb)]
      have hx := nxt_lt R hf
      have hnl := nand_le (nxt rows f) met
      have n1 := nxt_bit (rows := rows) hf R.le
      have n2 : ∀ j, (met ||| nxt rows f).testBit j = true ↔ ∃ e, e ≤ d + 1 ∧ Wk rows e a j := by
        intro j
        rw [Nat.testBit_or, Bool.or_eq_true, h1, n1]
        constructor
        · rintro (⟨e, he, hw⟩ | ⟨i, hi, hij⟩)
          · exact ⟨e, by omega, hw⟩
          · exact ⟨d + 1, Nat.le_refl _, i, ((h2 i).mp hi).1, hij⟩
        · rintro ⟨e, he, hw⟩
          rcases Nat.lt_or_ge d e with hlt | hge
          · have : e = d + 1 := by omega
            subst this
            obtain ⟨c, hc, hcj⟩ := hw
            by_cases hmin : ∃ k, k < d ∧ Wk rows k a c
            · obtain ⟨k, hk, hkw⟩ := hmin
              exact .inl ⟨k + 1, by omega, c, hkw, hcj⟩
            · exact .inr ⟨c, (h2 c).mpr ⟨hc, fun k hk hw => hmin ⟨k, hk, hw⟩⟩, hcj⟩
          · exact .inl ⟨e, hge, hw⟩
      have n3 : ∀ j, (nand (nxt rows f) met).testBit j = true ↔ Dst rows (d + 1) a j := by
        intro j
        rw [nand_bit, Bool.and_eq_true, n1, Bool.not_eq_true', ← Bool.not_eq_true, h1]
        constructor
        · rintro ⟨⟨i, hi, hij⟩, hno⟩
          exact ⟨⟨i, ((h2 i).mp hi).1, hij⟩, fun e he hw => hno ⟨e, by omega, hw⟩⟩
        · rintro ⟨⟨c, hc, hcj⟩, hmin⟩
          refine ⟨⟨c, (h2 c).mpr ⟨hc, fun k hk hw => ?_⟩, hcj⟩, fun ⟨e, he, hw⟩ => hmin e (by omega) hw⟩
          exact hmin (k + 1) (by omega) ⟨c, hw, hcj⟩
      have n4 : ∀ e, e < d + 1 → ¬ Wk rows e a b := by
        intro e he hw
        rcases Nat.lt_or_ge e d with hlt | hge
        · exact h3 e hlt hw
        · have : e = d := by omega
          subst this
          exact hb ((h2 b).mpr ⟨hw, h3⟩)
      by_cases h5 : met < met ||| nxt rows f
      · exact lev_dist R a b _ _ (d + 1) (Nat.or_lt_two_pow hm hx) (by omega) n2 n3 n4
      · rw [or_or_zero (rows := rows) h5] at n3 ⊢
        rw [lev_zero]
        refine .inl ⟨rfl, fun e hw => ?_⟩
        obtain ⟨k, hk, hd⟩ := Wk.dst e hw
        rcases Nat.lt_or_ge k (d + 1) with hlt | hge
        · exact n4 k hlt hd.1
        · obtain ⟨m, rfl⟩ : ∃ m, k = d + 1 + m := ⟨k - (d + 1), by omega⟩
          obtain ⟨c, hc⟩ := hd.before
          have := (n3 c).mpr hc
          simp at this
 termination_by 2 ^ n - met
 decreasing_by
  have := Nat.or_lt_two_pow hm hx
  omega

theorem far_dist {n : Nat} {rows : List Int} (R : Rok n rows) {a : Nat} (ha : a < n) (b : Nat) : IsDist rows a b (far rows a b) := by
  have hp : 2 ^ a < 2 ^ n := Nat.pow_lt_pow_right (by omega) ha
  refine lev_dist R a b _ _ 0 hp hp (fun j => ?_) (fun j => ?_) (fun e he => by omega)
  · rw [Nat.testBit_two_pow, decide_eq_true_eq]
    constructor
    · intro h; exact ⟨0, Nat.le_refl _, h⟩
    · rintro ⟨e, he, hw⟩
      have : e = 0 := by omega
      subst this
      exact hw
  · rw [Nat.testBit_two_pow, decide_eq_true_eq]
    constructor
    · intro h; exact ⟨h, fun e he => by omega⟩
    · intro h; exact h.1

/-- Two graphs in which walks go alike. -/
theorem far_same {n : Nat} {rows rows' : List Int} (R : Rok n rows) (R' : Rok n rows') {a b : Nat} (ha : a < n) (hb : b < n) (hs : ∀ v w, rbit rows v w = true → rbit rows w v = true) (e : ∀ v w, rbit rows v w = true ↔ rbit rows' v w = true) : far rows a b = far rows' b a := by
  refine (far_dist R ha b).unique (far_dist R' hb a) fun k => ?_
  have e2 : ∀ (k v w : Nat), Wk rows k v w ↔ Wk rows' k v w := by
    intro k
    induction k with
    | zero => intro v w; exact Iff.rfl
    | succ k ih =>
      intro v w
      constructor
      · rintro ⟨c, h1, h2⟩; exact ⟨c, (ih v c).mp h1, (e c w).mp h2⟩
      · rintro ⟨c, h1, h2⟩; exact ⟨c, (ih v c).mpr h1, (e c w).mpr h2⟩
  exact ⟨fun h => (e2 k b a).mp (h.symm hs), fun h => Wk.symm hs k b a ((e2 k b a).mpr h)⟩
end Go.Proofs.YtghondlbkjponaaDoor.Zv

/- Girths: the least length of a cycle with an edge, at a vertex, of all. -/
namespace Go.Proofs.YtghondlbkjponaaDoor.Zv
open Go
variable {nro : Nat}

theorem rbit_lt {n : Nat} {rows : List Int} (R : Rok n rows) {v w : Nat} (h : rbit rows v w = true) : v < n ∧ w < n := by
  have hv : v < n := by
    rcases Nat.lt_or_ge v n with h1 | h1
    · exact h1
    · have hl := R.len
      unfold rbit at h
      rw [List.getD_eq_getElem?_getD, List.getElem?_eq_none (by omega)] at h
      simp at h
  exact ⟨hv, R.lt hv h⟩
theorem rbit_of_not {rows : List Int} {v w : Nat} (h : ¬ rbit rows v w = true) : rbit rows v w = false := by simpa using h

/-- A graph without one of its edges. -/
theorem cut_rok {n : Nat} {rows : List Int} (g : GV n rows) {a b : Nat} (ha : a < n) (hb : b < n) (hab : rbit rows a b = true) :
    Rok n (cut2 rows a b) ∧ ∀ v w, rbit (cut2 rows a b) v w = true ↔ rbit rows v w = true ∧ ¬ ((v = a ∧ w = b) ∨ (v = b ∧ w = a)) := by
  have R := g.rok
  have hl := g.len
  have hba : rbit rows b a = true := by rw [g.sym b a (by omega) (by omega)]; exact hab
  have hne : (a : Int) ≠ b := by
    intro e
    have e : a = b := by omega
    subst e
    obtain ⟨_, _, h⟩ := g.row a (by omega)
    rw [h] at hab
    cases hab
  have := R.isAdj.cut2 (a := (a : Int)) (b := (b : Int)) (by omega) (by omega) (by omega) (by omega) hne (by simpa using hab) (by simpa using hba)
  simp only [Int.toNat_natCast] at this
  have R2 : Rok n (cut2 rows a b) := Rok.of this R.le fun v w hv h => R.lt hv h.1
  refine ⟨R2, fun v w => ?_⟩
  by_cases hv : v < n
  · exact (this.2 v hv).2.2 w
  · constructor
    · intro h; exact absurd (rbit_lt R2 h).1 hv
    · intro h; exact absurd (rbit_lt R h.1).1 hv

/-- The least length of a cycle with an edge; 0 without one. -/
def arF (rows : List Int) (a b : Nat) : Int := far (cut2 rows a b) a b + 1
theorem GV.sym' {n : Nat} {rows : List Int} (g : GV n rows) {v w : Nat} (h : rbit rows v w = true) : rbit rows w v = true := by
  have hl := g.len
  obtain ⟨h1, h2⟩ := rbit_lt g.rok h
  rw [g.sym w v (by omega) (by omega)]
  exact h
theorem GV.ne {n : Nat} {rows : List Int} (g : GV n rows) {v w : Nat} (h : rbit rows v w = true) : v ≠ w := by
  rintro rfl
  have hl := g.len
  obtain ⟨h1, _⟩ := rbit_lt g.rok h
  obtain ⟨_, _, h2⟩ := g.row v (by omega)
  rw [h2] at h
  cases h
theorem arF_symm {n : Nat} {rows : List Int} (g : GV n rows) {a b : Nat} (hab : rbit rows a b = true) : arF rows a b = arF rows b a := by
  obtain ⟨ha, hb⟩ := rbit_lt g.rok hab
  obtain ⟨R1, e1⟩ := cut_rok g ha hb hab
  obtain ⟨R2, e2⟩ := cut_rok g hb ha (g.sym' hab)
  unfold arF
  rw [far_same R1 R2 ha hb (fun v w h => ?_) (fun v w => ?_)]
  · rw [e1] at h ⊢
    exact ⟨g.sym' h.1, fun h2 => h.2 (by omega)⟩
  · rw [e1, e2]
    constructor <;> (rintro ⟨h1, h2⟩; exact ⟨h1, fun h3 => h2 (by omega)⟩)
theorem arF_ge {n : Nat} {rows : List Int} (a b : Nat) : 0 ≤ arF rows a b := by
  have := far_ge (cut2 rows a b) a b
  unfold arF
  omega
theorem c_impl_Graph_around (n a b : Nat) (s : Value) (rows : List Int) (h : VH) (hs : Sli h s rows) (g : GV n rows) (hab : rbit rows a b = true) (hn : nro ≤ h.length) :
    vcall F nro k_impl_Graph_around [gv n s, .int .i64 a, .int .i64 b] h = some (.int .i64 (arF rows a b), h) := by
  refine v_impl_Graph_around (by simp [i_impl_Graph_around]) ?_
  rw [fbody_eq]
  have hn' := fun k => Nat.le_trans hn (Nat.le_add_right h.length k)
  obtain ⟨ha, hb⟩ := rbit_lt g.rok hab
  obtain ⟨R2, _⟩ := cut_rok g ha hb hab
  have R := g.rok
  have hl := R.len
  have hle := R.le
  have hne := g.ne hab
  have ho := c_impl_own (nro := nro) n s rows (h ++ [⟨0, [.int .i64 n, s]⟩]) (hs.app _) (by intro e; rw [e] at hl; simp at hl; omega) (by omega) (by simp; omega)
  obtain ⟨r1, r2⟩ := R.row a ha
  obtain ⟨q1, q2⟩ := R.row b hb
  have r3 := le62 hle r2
  have q3 := le62 hle q2
  have ht := c_impl_Graph_take (nro := nro) n (h.length + 1) n a b rows (h ++ [⟨0, [.int .i64 n, s]⟩, ⟨1, ints rows⟩, ⟨0, [.int .i64 n, .slice (some ⟨h.length + 1, 0, none⟩) n n]⟩]) (by simp) hl (by omega) (by omega) (by omega) (by omega) (by omega) hle (by omega)
    (by rw [Int.toNat_natCast]; exact r1) (by rw [Int.toNat_natCast]; omega) (by rw [Int.toNat_natCast, Int.toNat_natCast]; exact hab) (by rw [Int.toNat_natCast]; exact q1) (by rw [Int.toNat_natCast]; omega) (by rw [Int.toNat_natCast, Int.toNat_natCast]; exact g.sym' hab)
  have hl2 := R2.len
  have hd := c_impl_Graph_distances (nro := nro) n a (.slice (some ⟨h.length + 1, 0, none⟩) n n) (cut2 rows a b) (h ++ [⟨0, [.int .i64 n, s]⟩, ⟨1, ints (cut2 rows a b)⟩, ⟨0, [.int .i64 n, .slice (some ⟨h.length + 1, 0, none⟩) n n]⟩]) (by
    have := sli_at (h := h ++ [⟨0, [.int .i64 n, s]⟩, ⟨1, ints (cut2 rows a b)⟩, ⟨0, [.int .i64 n, .slice (some ⟨h.length + 1, 0, none⟩) n n]⟩]) (b := h.length + 1) (xs := cut2 rows a b) (by simp)
    rw [hl2] at this
    exact this) R2 ha (by simp; omega)
  have f1 := far_le R2 ha b
  have f2 := far_ge (cut2 rows a b) a b
  have f3 := dists_get R2 ha hb
  have f4 := dists_len (cut2 rows a b) n a
  unfold arF
  obtain ⟨x, hx⟩ : ∃ x, x = far (cut2 rows a b) a b := ⟨_, rfl⟩
  rw [← hx] at f1 f2 f3 ⊢
  obtain ⟨D, hD⟩ : ∃ D, D = dists (cut2 rows a b) n a := ⟨_, rfl⟩
  rw [← hD] at hd f3 f4
  obtain ⟨c, hc⟩ : ∃ c, c = cut2 rows a b := ⟨_, rfl⟩
  rw [← hc] at ht hd
  have hbD : b < D.length := by omega
  rw [getD_at D hbD] at f3
  have t1 := take1_ints hbD
  rw [f3] at t1
  have hb' : (b : Int) < n := by omega
  have w1 : IntKind.i64.wrap (x + 1) = x + 1 := wrap64 (by omega) (by omega)
  simp at ht hd
  rw [hl] at ho
  simp at ho
  clear hx hD hc R2 hl2
  simp (disch := first | assumption | omega | (simp [*] <;> omega) | fail) [i_impl_Graph_around, ho, ht, hd, hn, hn', f4, hb, hb', t1, w1]

/-! ### the least of lengths -/
/-- The lesser one of two lengths; 0 stands for none. -/
def minP (best n : Int) : Int := if 0 < n ∧ (best = 0 ∨ n < best) then n else best
theorem minP_ok {best n c : Int} (hb : 0 ≤ best) (hc : 1 ≤ c) : (minP best n = 0 ∨ c ≤ minP best n) ↔ (best = 0 ∨ c ≤ best) ∧ (n ≤ 0 ∨ c ≤ n) := by
  unfold minP
  split <;> omega
theorem minP_ge {best n : Int} (hb : 0 ≤ best) : 0 ≤ minP best n := by
  unfold minP
  split <;> omega
/-- The least length at v with the vertices of a list. -/
def gaL (rows : List Int) (v : Nat) (best : Int) : List Int → Int
  | [] => best
  | y :: l => gaL rows v (minP best (arF rows v y.toNat)) l
theorem gaL_ge {rows : List Int} {v : Nat} : ∀ (l : List Int) (best : Int), 0 ≤ best → 0 ≤ gaL rows v best l
  | [], _, h => h
  | y :: l, best, h => gaL_ge l _ (minP_ge h)
theorem gaL_ok {rows : List Int} {v : Nat} {c : Int} (hc : 1 ≤ c) : ∀ (l : List Int) (best : Int), 0 ≤ best → ((gaL rows v best l = 0 ∨ c ≤ gaL rows v best l) ↔ (best = 0 ∨ c ≤ best) ∧ ∀ y ∈ l, arF rows v y.toNat ≤ 0 ∨ c ≤ arF rows v y.toNat)
  | [], best, h => by simp [gaL]
  | y :: l, best, h => by
    rw [gaL, gaL_ok hc l _ (minP_ge h), minP_ok h hc]
    simp only [List.mem_cons, forall_eq_or_imp]
    exact ⟨fun ⟨⟨a, b⟩, c⟩ => ⟨a, b, c⟩, fun ⟨a, b, c⟩ => ⟨⟨a, b⟩, c⟩⟩
/-- The neighbours of v. -/
def nbL (rows : List Int) (v : Nat) : List Int := bitL (rows.getD v 0).toNat
theorem nbL_mem (rows : List Int) (v : Nat) (y : Int) : y ∈ nbL rows v ↔ 0 ≤ y ∧ y < 62 ∧ rbit rows v y.toNat = true := bitL_mem _ y
theorem nbL_nat {rows : List Int} {v j : Nat} (hj : j < (nbL rows v).length) : ∃ y : Nat, (nbL rows v)[j] = (y : Int) ∧ rbit rows v y = true := by
  have h := (nbL_mem rows v (nbL rows v)[j]).mp (List.getElem_mem hj)
  exact ⟨((nbL rows v)[j]).toNat, by omega, h.2.2⟩

theorem c_impl_listRow (n v : Nat) (rows : List Int) (R : Rok n rows) (hv : v < n) (h : VH) (hn : nro ≤ h.length) :
    vcall F nro k_impl_list [.int .i64 (rows[v]'(by have := R.len; omega))] h = some (.slice (some ⟨h.length, 0, none⟩) (nbL rows v).length (nbL rows v).length, h ++ [⟨1, ints (nbL rows v)⟩]) := by
  have hl := R.len
  obtain ⟨r1, r2⟩ := R.row v hv
  have := c_impl_list (nro := nro) (rows.getD v 0).toNat (le62 R.le r2) h hn
  rw [Int.toNat_of_nonneg r1] at this
  rw [← getD_at rows (by omega)]
  exact this

theorem l_impl_Graph_girthAt (h : VH) (n v : Nat) (s : Value) (rows : List Int) (hs : Sli h s rows) (g : GV n rows) (hn : nro ≤ h.length) (k j : Nat) (hk : k = (nbL rows v).length - j) (hj : j ≤ (nbL rows v).length) (best : Int) (hb : 0 ≤ best) :
    floop (vcall F nro) nro [1, 2, 5, 14, 15, 16] i_impl_Graph_girthAt_B1 (h ++ [⟨0, [.int .i64 n, s]⟩, ⟨1, ints (nbL rows v)⟩]) [.int .i64 v, bp h, .int .i64 best, .slice (some ⟨h.length + 1, 0, none⟩) (nbL rows v).length (nbL rows v).length, .int .i64 (nbL rows v).length, .int .i64 j] (h ++ [⟨0, [.int .i64 n, s]⟩, ⟨1, ints (nbL rows v)⟩]) =
      some (.exit 0, fl [(5, .int .i64 (gaL rows v best ((nbL rows v).drop j)))], h ++ [⟨0, [.int .i64 n, s]⟩, ⟨1, ints (nbL rows v)⟩]) := by
  have hn' := fun k => Nat.le_trans hn (Nat.le_add_right h.length k)
  have hsc := fun k => hs.oldCk (k := k)
  rw [floop_at i_impl_Graph_girthAt_B1.eq_1]
  by_cases hlt : j < (nbL rows v).length
  · obtain ⟨y, hy, hvy⟩ := nbL_nat hlt
    have hc := c_impl_Graph_around (nro := nro) n v y s rows (h ++ [⟨0, [.int .i64 n, s]⟩, ⟨1, ints (nbL rows v)⟩]) (hs.app _) g hvy (by simp; omega)
    have a1 := arF_ge (n := n) (rows := rows) v y
    have ih := l_impl_Graph_girthAt h n v s rows hs g hn (k - 1) (j + 1) (by omega) hlt (minP best (arF rows v y)) (minP_ge hb)
    rw [show ((j + 1 : Nat) : Int) = (j : Int) + 1 by omega] at ih
    rw [List.drop_eq_getElem_cons hlt, hy, gaL, Int.toNat_natCast]
    have hll : (nbL rows v).length ≤ 62 := bitL_len _
    have t1 := take1_ints hlt
    rw [hy] at t1
    obtain ⟨q, hq⟩ : ∃ q, q = gaL rows v (minP best (arF rows v y)) ((nbL rows v).drop (j + 1)) := ⟨_, rfl⟩
    rw [← hq] at ih ⊢
    obtain ⟨x, hx⟩ : ∃ x, x = arF rows v y := ⟨_, rfl⟩
    rw [← hx] at hc a1 ih
    have hlt' : (j : Int) < (nbL rows v).length := by omega
    clear hq hx hk
    unfold minP at ih
    by_cases c1 : 0 < x
    · by_cases c2 : best = 0
      · rw [if_pos ⟨c1, .inl c2⟩] at ih
        simp (disch := first | assumption | omega | (simp [*] <;> omega) | fail) [wrap64, hlt', hlt, hc, c1, c2, ih, hsc, t1, hy]
      · by_cases c3 : x < best
        · rw [if_pos ⟨c1, .inr c3⟩] at ih
          simp (disch := first | assumption | omega | (simp [*] <;> omega) | fail) [wrap64, hlt', hlt, hc, c1, c2, c3, ih, hsc, t1, hy]
        · rw [if_neg (by omega)] at ih
          simp (disch := first | assumption | omega | (simp [*] <;> omega) | fail) [wrap64, hlt', hlt, hc, c1, c2, c3, ih, hsc, t1, hy]
    · rw [if_neg (fun h => c1 h.1)] at ih
      simp (disch := first | assumption | omega | (simp [*] <;> omega) | fail) [wrap64, hlt', hlt, hc, c1, ih, hsc, t1, hy]
  · have hlt' : ¬ (j : Int) < (nbL rows v).length := by omega
    rw [List.drop_eq_nil_of_le (by omega), gaL]
    simp (disch := first | assumption | omega | (simp [*] <;> omega) | fail) [hlt', hlt]
 termination_by k
 decreasing_by omega

theorem c_impl_Graph_girthAt (n v : Nat) (s : Value) (rows : List Int) (h : VH) (hs : Sli h s rows) (g : GV n rows) (hv : v < n) (hn : nro ≤ h.length) :
    vcall F nro k_impl_Graph_girthAt [gv n s, .int .i64 v] h = some (.int .i64 (gaL rows v 0 (nbL rows v)), h) := by
  refine v_impl_Graph_girthAt (by simp [i_impl_Graph_girthAt]) ?_
  rw [fbody_eq]
  have hn' := fun k => Nat.le_trans hn (Nat.le_add_right h.length k)
  have R := g.rok
  have hl := R.len
  have hvl : v < rows.length := by omega
  have hL := c_impl_listRow (nro := nro) n v rows R hv (h ++ [⟨0, [.int .i64 n, s]⟩]) (by simp; omega)
  have lp := l_impl_Graph_girthAt (nro := nro) h n v s rows hs g hn (nbL rows v).length 0 (by omega) (Nat.zero_le _) 0 (by omega)
  rw [List.drop_zero] at lp
  have vx := fun L => (hs.app L).vidx (k := .i64) (j := (v : Int)) (by omega) (by omega)
  have vl := fun L => (hs.app L).vload hvl
  obtain ⟨q, hq⟩ : ∃ q, q = gaL rows v 0 (nbL rows v) := ⟨_, rfl⟩
  rw [← hq] at lp ⊢
  clear hq
  simp only [Int.natCast_zero] at lp
  simp at hL
  simp (disch := first | assumption | omega | (simp [*] <;> omega) | fail) [i_impl_Graph_girthAt, vx, vl, hL, lp, hn, hn']

/-- The girth, from v on. -/
def girF (rows : List Int) (n : Nat) (best : Int) (v : Nat) : Int := if h : v < n then girF rows n (minP best (gaL rows v 0 (nbL rows v))) (v + 1) else best
 termination_by n - v
theorem girF_end {rows : List Int} {n v : Nat} {best : Int} (h : ¬ v < n) : girF rows n best v = best := by rw [girF, dif_neg h]
theorem girF_step {rows : List Int} {n v : Nat} {best : Int} (h : v < n) : girF rows n best v = girF rows n (minP best (gaL rows v 0 (nbL rows v))) (v + 1) := by rw [girF, dif_pos h]
theorem girF_ok {rows : List Int} {n : Nat} {c : Int} (hc : 1 ≤ c) (v : Nat) (best : Int) (hb : 0 ≤ best) : (girF rows n best v = 0 ∨ c ≤ girF rows n best v) ↔ (best = 0 ∨ c ≤ best) ∧ ∀ u, v ≤ u → u < n → ∀ y ∈ nbL rows u, arF rows u y.toNat ≤ 0 ∨ c ≤ arF rows u y.toNat := by
  by_cases h : v < n
  · rw [girF_step h, girF_ok hc (v + 1) _ (minP_ge hb), minP_ok hb hc]
    have h1 := gaL_ok (rows := rows) (v := v) hc (nbL rows v) 0 (by omega)
    have h2 := gaL_ge (rows := rows) (v := v) (nbL rows v) 0 (by omega)
    constructor
    · rintro ⟨⟨a, b⟩, c'⟩
      refine ⟨a, fun u hu hun => ?_⟩
      by_cases e : u = v
      · subst e
        exact (h1.mp (by omega)).2
      · exact c' u (by omega) hun
    · rintro ⟨a, b⟩
      refine ⟨⟨a, ?_⟩, fun u hu hun => b u (by omega) hun⟩
      have := h1.mpr ⟨.inl rfl, b v (Nat.le_refl _) h⟩
      omega
  · rw [girF_end h]
    constructor
    · intro h1; exact ⟨h1, fun u hu hun => by omega⟩
    · intro h1; exact h1.1
 termination_by n - v

theorem l_impl_Graph_girth (h : VH) (n : Nat) (s : Value) (rows : List Int) (hs : Sli h s rows) (g : GV n rows) (hn : nro ≤ h.length) (v : Nat) (best : Int) (hb : 0 ≤ best) :
    floop (vcall F nro) nro [1, 3, 7, 8] i_impl_Graph_girth_B1 (bx h n s) [bp h, .int .i64 best, .int .i64 n, .int .i64 v] (bx h n s) =
      some (.exit 0, fl [(3, .int .i64 (girF rows n best v))], bx h n s) := by
  have hn' := fun k => Nat.le_trans hn (Nat.le_add_right h.length k)
  have hsc := fun k => hs.oldCk (k := k)
  have hle := g.rok.le
  rw [floop_at i_impl_Graph_girth_B1.eq_1]
  by_cases hlt : v < n
  · have hlt' : (v : Int) < n := by omega
    have hc := c_impl_Graph_girthAt (nro := nro) n v s rows (bx h n s) (hs.app _) g hlt (by simp; omega)
    have ih := l_impl_Graph_girth h n s rows hs g hn (v + 1) (minP best (gaL rows v 0 (nbL rows v))) (minP_ge hb)
    rw [show ((v + 1 : Nat) : Int) = (v : Int) + 1 by omega] at ih
    rw [girF_step hlt]
    obtain ⟨q, hq⟩ : ∃ q, q = girF rows n (minP best (gaL rows v 0 (nbL rows v))) (v + 1) := ⟨_, rfl⟩
    rw [← hq] at ih ⊢
    obtain ⟨x, hx⟩ : ∃ x, x = gaL rows v 0 (nbL rows v) := ⟨_, rfl⟩
    rw [← hx] at hc ih
    clear hq hx
    unfold minP at ih
    by_cases c1 : 0 < x
    · by_cases c2 : best = 0
      · rw [if_pos ⟨c1, .inl c2⟩] at ih
        simp (disch := first | assumption | omega | (simp [*] <;> omega) | fail) [wrap64, hlt', hlt, hc, c1, c2, ih, hsc]
      · by_cases c3 : x < best
        · rw [if_pos ⟨c1, .inr c3⟩] at ih
          simp (disch := first | assumption | omega | (simp [*] <;> omega) | fail) [wrap64, hlt', hlt, hc, c1, c2, c3, ih, hsc]
        · rw [if_neg (by omega)] at ih
          simp (disch := first | assumption | omega | (simp [*] <;> omega) | fail) [wrap64, hlt', hlt, hc, c1, c2, c3, ih, hsc]
    · rw [if_neg (fun h => c1 h.1)] at ih
      simp (disch := first | assumption | omega | (simp [*] <;> omega) | fail) [wrap64, hlt', hlt, hc, c1, ih, hsc]
  · have hlt' : ¬ (v : Int) < n := by omega
    rw [girF_end hlt]
    simp (disch := first | assumption | omega | (simp [*] <;> omega) | fail) [hlt', hlt]
 termination_by n - v

theorem c_impl_Graph_girth (n : Nat) (s : Value) (rows : List Int) (h : VH) (hs : Sli h s rows) (g : GV n rows) (hn : nro ≤ h.length) :
    vcall F nro k_impl_Graph_girth [gv n s] h = some (.int .i64 (girF rows n 0 0), h) := by
  refine v_impl_Graph_girth (by simp [i_impl_Graph_girth]) ?_
  rw [fbody_eq]
  have lp := l_impl_Graph_girth (nro := nro) h n s rows hs g hn 0 0 (by omega)
  obtain ⟨q, hq⟩ : ∃ q, q = girF rows n 0 0 := ⟨_, rfl⟩
  rw [← hq] at lp ⊢
  clear hq
  simp only [Int.natCast_zero] at lp
  simp (disch := first | assumption | omega | (simp [*] <;> omega) | fail) [i_impl_Graph_girth, lp]
end Go.Proofs.YtghondlbkjponaaDoor.Zv

/- Lists of lists in new memory. -/
namespace Go.Proofs.YtghondlbkjponaaDoor.Zv
open Go
variable {nro : Nat}

/-- Where nothing is handed on that is new, a cleaning drops all that is new, or nothing. -/
theorem cleanup_old {h0 h : VH} {vs : List Value} (hv : ∀ v ∈ vs, Old h0.length v) : kclean h0 vs h = (vs, h) ∨ (okT h0.length h0 (h.take h0.length) ∧ kclean h0 vs h = (vs, h.take h0.length)) := by
  unfold kclean cleanup
  rw [keepL_nil hv]
  by_cases hc : okT h0.length h0 (h.take h0.length) ∧ flatL h0.length [] h
  · rw [if_pos hc]
    refine .inr ⟨hc.1, ?_⟩
    simp only [List.filterMap_nil, List.append_nil, Prod.mk.injEq, and_true]
    have : ∀ v ∈ vs, tren (renOf h0.length []) v = v := fun v h => tren_old (hv v h) fun i hi => by simp only [renOf, if_pos hi]
    exact (List.map_congr_left this).trans (by simp)
  · rw [if_neg hc]
    exact .inl rfl

/-- A list of lists in new memory from n on: each inner list in an object of its own. -/
structure EI (n : Nat) (vs : List Value) (G : VH) (ess : List (List Int)) : Prop where
  len : vs.length = ess.length
  at_ : ∀ i : Nat, i < ess.length → ∃ k, vs[i]? = some (.slice (some ⟨n + k, 0, none⟩) (ess.getD i []).length (ess.getD i []).length) ∧ G[k]? = some ⟨1, ints (ess.getD i [])⟩
  nd : (vs.flatMap arefs).Nodup

theorem EI.nil (n : Nat) (G : VH) : EI n [] G [] := ⟨rfl, fun i hi => by simp at hi, by simp⟩
theorem EI.more {n : Nat} {vs : List Value} {G : VH} {ess : List (List Int)} (e : EI n vs G ess) (L : VH) : EI n vs (G ++ L) ess := by
  refine ⟨e.len, fun i hi => ?_, e.nd⟩
  obtain ⟨k, h1, h2⟩ := e.at_ i hi
  exact ⟨k, h1, by rw [List.getElem?_append_left (List.getElem?_eq_some_iff.mp h2).1]; exact h2⟩
theorem EI.lt {n : Nat} {vs : List Value} {G : VH} {ess : List (List Int)} (e : EI n vs G ess) {r : Nat} (hr : r ∈ vs.flatMap arefs) : n ≤ r ∧ r < n + G.length := by
  obtain ⟨v, hv, hr⟩ := List.mem_flatMap.mp hr
  obtain ⟨i, hi, rfl⟩ := List.mem_iff_getElem.mp hv
  have hl := e.len
  obtain ⟨k, h1, h2⟩ := e.at_ i (by omega)
  have h3 := (List.getElem?_eq_some_iff.mp h1).2
  have h4 := (List.getElem?_eq_some_iff.mp h2).1
  rw [h3] at hr
  simp [arefs] at hr
  omega
theorem EI.push {n : Nat} {vs : List Value} {G : VH} {ess : List (List Int)} (e : EI n vs G ess) (xs : List Int) (L : VH) : EI n (vs ++ [.slice (some ⟨n + G.length, 0, none⟩) xs.length xs.length]) (G ++ ⟨1, ints xs⟩ :: L) (ess ++ [xs]) := by
  have hl := e.len
  have e2 := e.more (⟨1, ints xs⟩ :: L)
  refine ⟨by simp [hl], fun i hi => ?_, ?_⟩
  · by_cases h : i < ess.length
    · obtain ⟨k', h1, h2⟩ := e2.at_ i h
      have e1 : (ess ++ [xs]).getD i [] = ess.getD i [] := by simp only [List.getD_eq_getElem?_getD]; rw [List.getElem?_append_left h]
      rw [e1]
      exact ⟨k', by rw [List.getElem?_append_left (by omega)]; exact h1, h2⟩
    · have hi2 : i = ess.length := by simp at hi; omega
      subst hi2
      have e1 : (ess ++ [xs]).getD ess.length [] = xs := by simp [List.getD_eq_getElem?_getD]
      rw [e1]
      exact ⟨G.length, by rw [← hl]; simp, by simp⟩
  · rw [List.flatMap_append]
    refine List.nodup_append.mpr ⟨e.nd, by simp [arefs], fun a ha b hb => ?_⟩
    have := (e.lt ha).2
    simp [arefs] at hb
    omega

/-- A list of lists that a call has handed out: in memory from n on. -/
def SL2 (n : Nat) (M : VH) (v : Value) (ess : List (List Int)) : Prop := ∃ b vs, v = .slice (some ⟨n + b, 0, none⟩) ess.length ess.length ∧ M[b]? = some ⟨1, vs⟩ ∧ EI n vs M ess

theorem EI.cleanP {P0 P : VH} {vs0 vs vals : List Value} {G0 G : VH} {ess0 ess : List (List Int)} (e0 : EI (P.length + 1) vs0 G0 ess0) (e : EI (P.length + 1) vs G ess) (hP : P0.length = P.length) (hG : G0.length ≤ G.length) (hv : ∀ v ∈ vals, Old (P.length + 1 + G0.length) v) :
    ∃ G1, kclean (P0 ++ ⟨1, vs0⟩ :: G0) vals (P ++ ⟨1, vs⟩ :: G) = (vals, P ++ ⟨1, vs⟩ :: G1) ∧ EI (P.length + 1) vs G1 ess ∧ G0.length ≤ G1.length := by
  have hlen : (P0 ++ (⟨1, vs0⟩ : VO) :: G0).length = P.length + 1 + G0.length := by simp; omega
  rcases cleanup_old (h0 := P0 ++ ⟨1, vs0⟩ :: G0) (h := P ++ ⟨1, vs⟩ :: G) (vs := vals) (by rw [hlen]; exact hv) with hk | ⟨hok, hk⟩
  · exact ⟨G, hk, e, hG⟩
  · have e1 : (P ++ (⟨1, vs⟩ : VO) :: G).take (P0 ++ (⟨1, vs0⟩ : VO) :: G0).length = P ++ ⟨1, vs⟩ :: G.take G0.length := by
      rw [hlen, List.take_append, List.take_of_length_le (by omega)]
      rw [show P.length + 1 + G0.length - P.length = G0.length + 1 by omega]
      rfl
    rw [e1] at hk hok
    refine ⟨G.take G0.length, hk, ⟨e.len, fun i hi => ?_, e.nd⟩, by simp; omega⟩
    obtain ⟨k, h1, h2⟩ := e.at_ i hi
    have hk : k < G0.length := by
      have h3 := hok P.length ⟨1, vs⟩ (by rw [hget0]; rfl)
      have hmem : P.length + 1 + k ∈ orefs ⟨1, vs⟩ := by
        unfold orefs
        refine List.mem_flatMap.mpr ⟨_, List.mem_of_getElem? h1, ?_⟩
        simp [crefs, arefs]
      rcases h3 with h3 | h3
      · rw [← hP, hget0] at h3
        simp at h3
        subst h3
        have hi0 : i < ess0.length := by
          have := (List.getElem?_eq_some_iff.mp h1).1
          rw [← e0.len]; exact this
        obtain ⟨k', h4, h5⟩ := e0.at_ i hi0
        rw [h1] at h4
        simp at h4
        have : k = k' := h4.1
        subst this
        exact (List.getElem?_eq_some_iff.mp h5).1
      · have := h3 _ hmem
        rw [hlen] at this
        omega
    exact ⟨k, h1, by rw [List.getElem?_take, if_pos hk]; exact h2⟩

/-- A function's end: a list of lists is handed out, perhaps beside something flat. -/
theorem EI.fin {h pre : VH} {vs : List Value} {G : VH} {ess : List (List Int)} (e : EI (h.length + pre.length + 1) vs G ess) (w : Value → Value) (hw1 : ∀ a n t, trefs (w (.slice (some a) n t)) = [a.block]) (hw2 : ∀ r a n t, tren r (w (.slice (some a) n t)) = w (.slice (some { a with block := r a.block }) n t)) :
    ∃ v M, kclean h [w (.slice (some ⟨h.length + pre.length, 0, none⟩) vs.length vs.length)] (h ++ (pre ++ ⟨1, vs⟩ :: G)) = ([w v], h ++ M) ∧ SL2 h.length M v ess := by
  have hl2 := e.len
  have hk : keepL h.length [w (.slice (some ⟨h.length + pre.length, 0, none⟩) vs.length vs.length)] = [h.length + pre.length] := by
    unfold keepL
    simp [hw1, dedup]
  have hget : (h ++ (pre ++ ⟨1, vs⟩ :: G))[h.length + pre.length]? = some ⟨1, vs⟩ := by rw [hgetk]; simp
  by_cases hf : flatL h.length [h.length + pre.length] (h ++ (pre ++ ⟨1, vs⟩ :: G))
  · have hvs : vs = [] := by
      obtain ⟨o, ho, hr⟩ := hf (h.length + pre.length) (by simp)
      have : o = ⟨1, vs⟩ := by rw [hget] at ho; simpa using ho.symm
      subst this
      cases hv : ess with
      | nil => rw [hv] at hl2; exact List.length_eq_zero_iff.mp hl2
      | cons x r =>
        exfalso
        obtain ⟨j, h1, _⟩ := e.at_ 0 (by rw [hv]; simp)
        have := hr (h.length + pre.length + 1 + j) (by
          unfold orefs
          refine List.mem_flatMap.mpr ⟨_, List.mem_of_getElem? h1, ?_⟩
          simp [crefs, arefs])
        omega
    subst hvs
    have hes : ess = [] := List.length_eq_zero_iff.mp hl2.symm
    rw [hes]
    refine ⟨.slice (some ⟨h.length + 0, 0, none⟩) 0 0, [⟨1, []⟩], ?_, 0, [], by simp, rfl, EI.nil _ _⟩
    rw [cleanup_keep hk hf]
    simp [hw2, renOf_one, hget]
  · refine ⟨.slice (some ⟨h.length + pre.length, 0, none⟩) vs.length vs.length, pre ++ ⟨1, vs⟩ :: G, ?_, pre.length, vs, by rw [hl2], by simp, hl2, fun i hi => ?_, e.nd⟩
    · unfold kclean cleanup
      rw [hk, if_neg (fun h => hf h.2)]
    · obtain ⟨j, h1, h2⟩ := e.at_ i hi
      exact ⟨pre.length + 1 + j, by rw [h1]; congr 4; omega, by
        rw [List.getElem?_append_right (by omega), show pre.length + 1 + j - pre.length = j + 1 by omega]
        exact h2⟩
theorem EI.fin1 {h pre : VH} {vs : List Value} {G : VH} {ess : List (List Int)} (e : EI (h.length + pre.length + 1) vs G ess) :
    ∃ v M, kclean h [.slice (some ⟨h.length + pre.length, 0, none⟩) vs.length vs.length] (h ++ (pre ++ ⟨1, vs⟩ :: G)) = ([v], h ++ M) ∧ SL2 h.length M v ess :=
  e.fin (fun v => v) (fun a n t => by simp [trefs, vrefs, crefs, arefs]) (fun r a n t => by simp [tren, vren, cren, aren])
theorem EI.finC {h pre : VH} {vs : List Value} {G : VH} {ess : List (List Int)} (e : EI (h.length + pre.length + 1) vs G ess) (k : IntKind) (x : Int) :
    ∃ v M, kclean h [.tuple #[.slice (some ⟨h.length + pre.length, 0, none⟩) vs.length vs.length, .int k x]] (h ++ (pre ++ ⟨1, vs⟩ :: G)) = ([.tuple #[v, .int k x]], h ++ M) ∧ SL2 h.length M v ess :=
  e.fin (fun v => .tuple #[v, .int k x]) (fun a n t => by simp [trefs, vrefs, crefs, arefs]) (fun r a n t => by simp [tren, vren, cren, aren])
/-- What a call has handed out is handed on. -/
theorem SL2.fwd {h pre M : VH} {q : Value} {ess : List (List Int)} (hS : SL2 (h.length + pre.length) M q ess) (w : Value → Value) (hw1 : ∀ a n t, trefs (w (.slice (some a) n t)) = [a.block]) (hw2 : ∀ r a n t, tren r (w (.slice (some a) n t)) = w (.slice (some { a with block := r a.block }) n t)) :
    ∃ v M', kclean h [w q] (h ++ (pre ++ M)) = ([w v], h ++ M') ∧ SL2 h.length M' v ess := by
  obtain ⟨b, vs, rfl, hb, e⟩ := hS
  have hk : keepL h.length [w (.slice (some ⟨h.length + pre.length + b, 0, none⟩) ess.length ess.length)] = [h.length + pre.length + b] := by
    unfold keepL
    have : h.length ≤ h.length + pre.length + b := by omega
    simp [hw1, dedup, this]
  have hget : (h ++ (pre ++ M))[h.length + pre.length + b]? = some ⟨1, vs⟩ := by
    rw [Nat.add_assoc, hgetk, List.getElem?_append_right (by omega), Nat.add_sub_cancel_left]
    exact hb
  by_cases hf : flatL h.length [h.length + pre.length + b] (h ++ (pre ++ M))
  · have hes : ess = [] := by
      obtain ⟨o, ho, hr⟩ := hf (h.length + pre.length + b) (by simp)
      have : o = ⟨1, vs⟩ := by rw [hget] at ho; simpa using ho.symm
      subst this
      cases hv : ess with
      | nil => rfl
      | cons x r =>
        exfalso
        obtain ⟨j, h1, _⟩ := e.at_ 0 (by rw [hv]; simp)
        have := hr (h.length + pre.length + j) (by
          unfold orefs
          refine List.mem_flatMap.mpr ⟨_, List.mem_of_getElem? h1, ?_⟩
          simp [crefs, arefs])
        omega
    have hvs : vs = [] := List.length_eq_zero_iff.mp (by rw [e.len, hes]; rfl)
    subst hvs hes
    refine ⟨.slice (some ⟨h.length + 0, 0, none⟩) 0 0, [⟨1, []⟩], ?_, 0, [], by simp, rfl, EI.nil _ _⟩
    rw [cleanup_keep hk hf]
    have : renOf h.length [h.length + pre.length + b] (h.length + pre.length + b) = h.length := by simp [renOf]; omega
    simp only [List.map_cons, List.map_nil, hw2, this, List.filterMap_cons, hget, List.filterMap_nil]
    rfl
  · refine ⟨.slice (some ⟨h.length + pre.length + b, 0, none⟩) ess.length ess.length, pre ++ M, ?_, pre.length + b, vs, by rw [Nat.add_assoc], by rw [List.getElem?_append_right (by omega), Nat.add_sub_cancel_left]; exact hb, e.len, fun i hi => ?_, e.nd⟩
    · unfold kclean cleanup
      rw [hk, if_neg (fun h => hf h.2)]
    · obtain ⟨j, h1, h2⟩ := e.at_ i hi
      exact ⟨pre.length + j, by rw [h1]; congr 4; omega, by rw [List.getElem?_append_right (by omega), Nat.add_sub_cancel_left]; exact h2⟩
theorem SL2.fwdC {h pre M : VH} {q : Value} {ess : List (List Int)} (hS : SL2 (h.length + pre.length) M q ess) (k : IntKind) (x : Int) :
    ∃ v M', kclean h [.tuple #[q, .int k x]] (h ++ (pre ++ M)) = ([.tuple #[v, .int k x]], h ++ M') ∧ SL2 h.length M' v ess :=
  hS.fwd (fun v => .tuple #[v, .int k x]) (fun a n t => by simp [trefs, vrefs, crefs, arefs]) (fun r a n t => by simp [tren, vren, cren, aren])

theorem SL2.shape {n : Nat} {M : VH} {v : Value} {ess : List (List Int)} (h : SL2 n M v ess) : ∃ a m, v = .slice (some a) m m := by
  obtain ⟨b, vs, rfl, _⟩ := h
  exact ⟨_, _, rfl⟩

/-! ### lists of lists that are read -/
/-- What a list of lists reads as. -/
def LL (h : VH) (v : Value) (ess : List (List Int)) : Prop := ∃ vs, vs.length = ess.length ∧ Sl h v vs ∧ ∀ (i : Nat) (hi : i < vs.length), Sli h vs[i] (ess.getD i [])
theorem LL.app {h : VH} {v : Value} {ess : List (List Int)} (hl : LL h v ess) (L : VH) : LL (h ++ L) v ess := by
  obtain ⟨vs, h1, h2, h3⟩ := hl
  exact ⟨vs, h1, h2.app L, fun i hi => (h3 i hi).app L⟩
theorem LL.nil (h : VH) : LL h (.slice none 0 0) [] := ⟨[], rfl, by simp [Sl, vsrc], fun i hi => by simp at hi⟩
theorem LL.old {h : VH} {v : Value} {ess : List (List Int)} (hl : LL h v ess) : Old h.length v := by
  obtain ⟨vs, h1, h2, h3⟩ := hl
  exact h2.old
theorem SL2.read {h M L : VH} {q : Value} {es : List (List Int)} (hs : SL2 h.length M q es) : ∃ vs, vs.length = es.length ∧ Sl (h ++ M ++ L) q vs ∧ ∀ (i : Nat) (hi : i < vs.length), Sli (h ++ M ++ L) vs[i] (es.getD i []) := by
  obtain ⟨b, vs, rfl, h1, h2⟩ := hs
  have hget : ∀ k, (h ++ M ++ L)[h.length + k]? = (M ++ L)[k]? := fun k => by
    rw [List.append_assoc, List.getElem?_append_right (by simp), Nat.add_sub_cancel_left]
  refine ⟨vs, h2.len, ?_, fun i hi => ?_⟩
  · have h3 : (M ++ L)[b]? = some ⟨1, vs⟩ := by rw [List.getElem?_append_left (List.getElem?_eq_some_iff.mp h1).1]; exact h1
    unfold Sl
    rw [vsrc_ref]
    simp only [hget, h3, h2.len]
    simp [h2.len]
    rw [List.take_of_length_le (by rw [h2.len]; exact Nat.le_refl _)]
  · have hi' : i < es.length := by rw [← h2.len]; exact hi
    obtain ⟨k, k1, k2⟩ := h2.at_ i hi'
    have e : vs[i] = .slice (some ⟨h.length + k, 0, none⟩) (es.getD i []).length (es.getD i []).length := (List.getElem?_eq_some_iff.mp k1).2
    rw [e]
    refine sli_at ?_
    rw [hget, List.getElem?_append_left (List.getElem?_eq_some_iff.mp k2).1]
    exact k2

theorem SL2.ll {h M : VH} {q : Value} {es : List (List Int)} (hs : SL2 h.length M q es) : LL (h ++ M) q es := by
  obtain ⟨vs, h1, h2, h3⟩ := hs.read (L := [])
  rw [List.append_nil] at h2
  refine ⟨vs, h1, h2, fun i hi => ?_⟩
  have := h3 i hi
  rw [List.append_nil] at this
  exact this

/-! ### marks -/
def tot : List (List Int) → Nat
  | [] => 0
  | e :: es => e.length + tot es
theorem EI.set {n : Nat} {vs : List Value} {G : VH} {A : List (List Int)} {e : List Int} {B : List (List Int)} (h : EI n vs G (A ++ e :: B)) (xs : List Int) (hx : xs.length = e.length) : ∃ k, vs[A.length]? = some (.slice (some ⟨n + k, 0, none⟩) e.length e.length) ∧ G[k]? = some ⟨1, ints e⟩ ∧ EI n vs (G.set k ⟨1, ints xs⟩) (A ++ xs :: B) := by
  have hlt : A.length < (A ++ e :: B).length := by simp
  have eA : (A ++ e :: B).getD A.length [] = e := by simp [List.getD_eq_getElem?_getD]
  obtain ⟨k, h1, h2⟩ := h.at_ A.length hlt
  rw [eA] at h1 h2
  have hk := (List.getElem?_eq_some_iff.mp h2).1
  refine ⟨k, h1, h2, by rw [h.len]; simp, fun i hi => ?_, h.nd⟩
  by_cases e1 : i = A.length
  · subst e1
    have e2 : (A ++ xs :: B).getD A.length [] = xs := by simp [List.getD_eq_getElem?_getD]
    rw [e2, hx]
    exact ⟨k, h1, by simp [hk]⟩
  · have e3 : (A ++ xs :: B).getD i [] = (A ++ e :: B).getD i [] := by
      simp only [List.getD_eq_getElem?_getD, List.getElem?_append]
      split
      · rfl
      · have : i - A.length = (i - A.length - 1) + 1 := by omega
        rw [this]
        rfl
    have hi' : i < (A ++ e :: B).length := by simpa using hi
    obtain ⟨k', h3, h4⟩ := h.at_ i hi'
    rw [e3]
    refine ⟨k', h3, ?_⟩
    rw [List.getElem?_set, if_neg]
    · exact h4
    · intro e4
      subst e4
      -- two places with one object
      have hnd := h.nd
      have l1 := (List.getElem?_eq_some_iff.mp h1)
      have l3 := (List.getElem?_eq_some_iff.mp h3)
      obtain ⟨p1, q1⟩ := l1
      obtain ⟨p3, q3⟩ := l3
      have key : ∀ (us : List Value), (us.flatMap arefs).Nodup → ∀ i j (hi : i < us.length) (hj : j < us.length), i < j → ∀ r, r ∈ arefs us[i] → r ∉ arefs us[j] := by
        intro us
        induction us with
        | nil => intro _ i j hi; simp at hi
        | cons u us ih =>
          intro hn i j hi hj hij r hr hr2
          rw [List.flatMap_cons] at hn
          obtain ⟨_, n2, n3⟩ := List.nodup_append.mp hn
          cases j with
          | zero => omega
          | succ j =>
            cases i with
            | zero =>
              refine n3 r (by simpa using hr) r (List.mem_flatMap.mpr ⟨_, List.getElem_mem (by simpa using hj), by simpa using hr2⟩) rfl
            | succ i => exact ih n2 i j (by simpa using hi) (by simpa using hj) (by omega) r (by simpa using hr) (by simpa using hr2)
      rcases Nat.lt_or_gt_of_ne e1 with hlt2 | hgt
      · exact key vs hnd i A.length p3 p1 hlt2 (n + k) (by rw [q3]; simp [arefs]) (by rw [q1]; simp [arefs])
      · exact key vs hnd A.length i p1 p3 hgt (n + k) (by rw [q1]; simp [arefs]) (by rw [q3]; simp [arefs])

/-- A function's end that hands on nothing new. -/
theorem kclean_take {h H : VH} {vs : List Value} (ht : H.take h.length = h) (hv : ∀ v ∈ vs, Old h.length v) : kclean h vs H = (vs, h) := by
  have e : H = h ++ H.drop h.length := by
    conv => lhs; rw [← List.take_append_drop h.length H, ht]
  rw [e]
  exact cleanup_drop hv

end Go.Proofs.YtghondlbkjponaaDoor.Zv

/- Lists of lists: all edges. -/
namespace Go.Proofs.YtghondlbkjponaaDoor.Zv
open Go
variable {nro : Nat}

/-- The edges of v from w on. -/
def edgF (rows : List Int) (v n w : Nat) : List (List Int) := if h : w < n then (if rbit rows v w = true then [[(v : Int), (w : Int)]] else []) ++ edgF rows v n (w + 1) else []
 termination_by n - w
theorem edgF_end {rows : List Int} {v n w : Nat} (h : ¬ w < n) : edgF rows v n w = [] := by rw [edgF, dif_neg h]
theorem edgF_step {rows : List Int} {v n w : Nat} (h : w < n) : edgF rows v n w = (if rbit rows v w = true then [[(v : Int), (w : Int)]] else []) ++ edgF rows v n (w + 1) := by rw [edgF, dif_pos h]
/-- All edges from v on. -/
def edgesF (rows : List Int) (n v : Nat) : List (List Int) := if h : v < n then edgF rows v n (v + 1) ++ edgesF rows n (v + 1) else []
 termination_by n - v
theorem edgesF_end {rows : List Int} {n v : Nat} (h : ¬ v < n) : edgesF rows n v = [] := by rw [edgesF, dif_neg h]
theorem edgesF_step {rows : List Int} {n v : Nat} (h : v < n) : edgesF rows n v = edgF rows v n (v + 1) ++ edgesF rows n (v + 1) := by rw [edgesF, dif_pos h]
theorem edgF_mem (rows : List Int) (v n w : Nat) (e : List Int) : e ∈ edgF rows v n w ↔ ∃ k : Nat, w ≤ k ∧ k < n ∧ rbit rows v k = true ∧ e = [(v : Int), (k : Int)] := by
  by_cases h : w < n
  · rw [edgF_step h, List.mem_append, edgF_mem rows v n (w + 1) e]
    split
    · rename_i hb
      simp only [List.mem_singleton]
      constructor
      · rintro (rfl | ⟨k, h1, h2, h3, h4⟩)
        · exact ⟨w, Nat.le_refl _, h, hb, rfl⟩
        · exact ⟨k, by omega, h2, h3, h4⟩
      · rintro ⟨k, h1, h2, h3, h4⟩
        by_cases e : k = w
        · subst e; exact .inl h4
        · exact .inr ⟨k, by omega, h2, h3, h4⟩
    · rename_i hb
      simp only [List.not_mem_nil, false_or]
      constructor
      · rintro ⟨k, h1, h2, h3, h4⟩
        exact ⟨k, by omega, h2, h3, h4⟩
      · rintro ⟨k, h1, h2, h3, h4⟩
        by_cases e : k = w
        · subst e; exact absurd h3 hb
        · exact ⟨k, by omega, h2, h3, h4⟩
  · rw [edgF_end h]
    simp only [List.not_mem_nil, false_iff]
    rintro ⟨k, h1, h2, _⟩
    omega
 termination_by n - w
theorem edgesF_mem (rows : List Int) (n v : Nat) (e : List Int) : e ∈ edgesF rows n v ↔ ∃ u k : Nat, v ≤ u ∧ u < k ∧ k < n ∧ rbit rows u k = true ∧ e = [(u : Int), (k : Int)] := by
  by_cases h : v < n
  · rw [edgesF_step h, List.mem_append, edgF_mem, edgesF_mem rows n (v + 1) e]
    constructor
    · rintro (⟨k, h1, h2, h3, h4⟩ | ⟨u, k, h1, h2, h3, h4, h5⟩)
      · exact ⟨v, k, Nat.le_refl _, by omega, h2, h3, h4⟩
      · exact ⟨u, k, by omega, h2, h3, h4, h5⟩
    · rintro ⟨u, k, h1, h2, h3, h4, h5⟩
      by_cases e : u = v
      · subst e; exact .inl ⟨k, by omega, h3, h4, h5⟩
      · exact .inr ⟨u, k, by omega, h2, h3, h4, h5⟩
  · rw [edgesF_end h]
    simp only [List.not_mem_nil, false_iff]
    rintro ⟨u, k, h1, h2, h3, _⟩
    omega
 termination_by n - v
theorem edgF_len (rows : List Int) (v n w : Nat) (hw : w ≤ n) : (edgF rows v n w).length ≤ n - w := by
  by_cases h : w < n
  · rw [edgF_step h, List.length_append]
    have := edgF_len rows v n (w + 1) h
    split <;> simp <;> omega
  · rw [edgF_end h]; simp
 termination_by n - w

/-- The heap in the loops. -/
abbrev eH (h : VH) (n : Int) (s : Value) (vs : List Value) (G : VH) : VH := h ++ ⟨0, [.int .i64 n, s]⟩ :: ⟨1, vs⟩ :: G
abbrev eq1 (h : VH) (m : Nat) : Value := .slice (some ⟨h.length + 1, 0, none⟩) m m
theorem eH_clean {h : VH} {n : Int} {s : Value} {vs0 vs vals : List Value} {G0 G : VH} {ess0 ess : List (List Int)} (e0 : EI (h.length + 2) vs0 G0 ess0) (e : EI (h.length + 2) vs G ess) (hG : G0.length ≤ G.length) (hv : ∀ v ∈ vals, Old (h.length + 2 + G0.length) v) :
    ∃ G1, kclean (eH h n s vs0 G0) vals (eH h n s vs G) = (vals, eH h n s vs G1) ∧ EI (h.length + 2) vs G1 ess ∧ G0.length ≤ G1.length := by
  have := EI.cleanP (P0 := h ++ [⟨0, [.int .i64 n, s]⟩]) (P := h ++ [⟨0, [.int .i64 n, s]⟩]) (by simpa using e0) (by simpa using e) rfl hG (by simpa using hv)
  simpa using this

theorem l_spec_l01Edges_1 (n : Int) (s : Value) (rows : List Int) (h : VH) (hs : Sli h s rows) (hn : nro ≤ h.length) (g : GV n rows) (v : Nat) (hv : v < n.toNat) (vs0 : List Value) (G0 : VH) (ess0 : List (List Int)) (e0 : EI (h.length + 2) vs0 G0 ess0) (hm : vs0.length ≤ v * 62) :
    ∃ a : List Value × VH, (EI (h.length + 2) a.1 a.2 (ess0 ++ edgF rows v n.toNat (v + 1)) ∧ G0.length ≤ a.2.length) ∧ floop (vcall F nro) nro [1, 3, 4, 5] i_spec_l01Edges_B1 (eH h n s vs0 G0) [bp h, eq1 h vs0.length, .int .i64 v, .int .i64 ((v + 1 : Nat) : Int)] (eH h n s vs0 G0) =
      some (.exit 2, fl [(1, bp h), (3, eq1 h a.1.length), (4, .int .i64 v)], eH h n s a.1 a.2) := by
  have hlen := g.len
  have g0 := g.hi
  have hp := pow_le62 g.hi
  obtain ⟨g1, g2, _⟩ := g.row v (by omega)
  refine Exists.elim (for_upR (call := vcall F nro) (nro := nro) (live := [1, 3, 4, 5]) (c := i_spec_l01Edges_B1) (h0 := eH h n s vs0 G0) (n := n.toNat) (fun i (a : List Value × VH) => [bp h, eq1 h a.1.length, .int .i64 v, .int .i64 i]) (fun i a => eH h n s a.1 a.2)
    (fun i a => (∃ ess, EI (h.length + 2) a.1 a.2 ess ∧ ess ++ edgF rows v n.toNat i = ess0 ++ edgF rows v n.toNat (v + 1)) ∧ G0.length ≤ a.2.length ∧ a.1.length ≤ v * 62 + i) (fun a => some (.exit 2, fl [(1, bp h), (3, eq1 h a.1.length), (4, .int .i64 v)], eH h n s a.1 a.2)) ?_ ?_ (v + 1) (vs0, G0) (by omega) ⟨⟨ess0, e0, rfl⟩, Nat.le_refl _, by simp; omega⟩) ?_
  · rintro w ⟨vs, G⟩ hlt hlt0 ⟨⟨ess, e, hess⟩, hG, hm⟩
    dsimp only at e hG hm ⊢
    have hlt' : (w : Int) < n := by omega
    rw [floop_at i_spec_l01Edges_B1.eq_1]
    rw [edgF_step hlt, ← List.append_assoc] at hess
    obtain ⟨H, hH⟩ : ∃ H, H = eH h n s vs G := ⟨_, rfl⟩
    have hc := c_spec_l01Has' (nro := nro) n v w s rows H (by rw [hH]; exact hs.app _) (by omega) (by omega) (by omega) (by omega) (by rw [Int.toNat_natCast]; exact g1) (by rw [Int.toNat_natCast]; omega)
    rw [Int.toNat_natCast, Int.toNat_natCast] at hc
    have hq : H[h.length + 1]? = some ⟨1, vs⟩ := by rw [hH]; simp
    have hbx : H[h.length]? = some ⟨0, [.int .i64 n, s]⟩ := by rw [hH]; simp
    have hHl : H.length = h.length + 2 + G.length := by rw [hH]; simp; omega
    have hnH : nro ≤ H.length := by omega
    have hn2 := fun k => Nat.le_trans hnH (Nat.le_add_right H.length k)
    have hn1 := fun k => Nat.le_trans hn (Nat.le_add_right h.length k)
    obtain ⟨K, hK⟩ : ∃ K, K = eH h n s vs0 G0 := ⟨_, rfl⟩
    have hold : ∀ m, ∀ x ∈ [bp h, eq1 h m, Value.int .i64 v, Value.int .i64 ((w : Int) + 1)], Old (h.length + 2 + G0.length) x := by
      intro m x hx
      simp at hx
      rcases hx with rfl | rfl | rfl | rfl <;> intro r hr <;> simp [trefs, vrefs, crefs, arefs] at hr ⊢ <;> omega
    by_cases hb : rbit rows v w = true
    · rw [if_pos hb] at hess
      have b1 : (vs.length + 1) * 24 ≤ 1099511627776 := by omega
      have b2 : vs.length < 1099511627776 := by omega
      have hnew : H.set (h.length + 1) ⟨1, vs ++ [.slice (some ⟨H.length, 0, none⟩) 2 2]⟩ ++ [⟨1, [.int .i64 v, .int .i64 w]⟩, ⟨1, [.slice (some ⟨H.length, 0, none⟩) 2 2]⟩] = eH h n s (vs ++ [.slice (some ⟨h.length + 2 + G.length, 0, none⟩) 2 2]) (G ++ ⟨1, [.int .i64 v, .int .i64 w]⟩ :: [⟨1, [.slice (some ⟨h.length + 2 + G.length, 0, none⟩) 2 2]⟩]) := by
        rw [hHl, hH]; simp
      have e1 := e.push [(v : Int), (w : Int)] [⟨1, [.slice (some ⟨h.length + 2 + G.length, 0, none⟩) 2 2]⟩]
      obtain ⟨G1, hk, e2, e3⟩ := eH_clean (n := n) (s := s) e0 e1 (by simp; omega) (hold (vs.length + 1))
      refine ⟨(_, G1), ⟨⟨_, e2, hess⟩, e3, by simp; omega⟩, ?_⟩
      rw [← hK] at hk ⊢
      rw [← hH]
      simp at hk
      simp only [List.length_append, List.length_singleton, List.length_cons, List.length_nil]
      clear hold hHl hH hK e1 e e0 e2 hess
      simp (disch := first | assumption | omega | (simp [*] <;> omega) | fail) [hbx, hq, hget_old hq, hset_old hq, hc, hb, wrap64, hlt', hn1, hnH, hn2, b1, b2, hnew, hk]
    · rw [if_neg hb, List.append_nil] at hess
      obtain ⟨G1, hk, e2, e3⟩ := eH_clean (n := n) (s := s) e0 e hG (hold vs.length)
      refine ⟨(vs, G1), ⟨⟨_, e2, hess⟩, e3, by simp; omega⟩, ?_⟩
      rw [← hK, ← hH] at hk
      rw [← hK, ← hH]
      clear hold hHl hH hK e e0 e2 hess
      simp (disch := first | assumption | omega | (simp [*] <;> omega) | fail) [hbx, hq, hc, hb, wrap64, hlt', hnH, hn2, hk]
  · rintro ⟨vs, G⟩ _
    have e : ((n.toNat : Nat) : Int) = n := by omega
    rw [floop_at i_spec_l01Edges_B1.eq_1]
    simp (disch := first | assumption | omega | (simp [*] <;> omega) | fail) [e]
  · rintro a ⟨⟨⟨ess, k1, k2⟩, k3, k4⟩, h2⟩
    rw [edgF_end (by omega), List.append_nil] at k2
    rw [k2] at k1
    exact ⟨a, ⟨k1, k3⟩, h2⟩

theorem l_spec_l01Edges_2 (n : Int) (s : Value) (rows : List Int) (h : VH) (hs : Sli h s rows) (hn : nro ≤ h.length) (g : GV n rows) :
    ∃ a : List Value × VH, EI (h.length + 2) a.1 a.2 (edgesF rows n.toNat 0) ∧ floop (vcall F nro) nro [1, 3, 4] i_spec_l01Edges_B2 (eH h n s [] []) [bp h, eq1 h 0, .int .i64 0] (eH h n s [] []) =
      some (.exit 0, fl [(3, eq1 h a.1.length)], eH h n s a.1 a.2) := by
  have hlen := g.len
  have g0 := g.hi
  refine Exists.elim (for_upR (call := vcall F nro) (nro := nro) (live := [1, 3, 4]) (c := i_spec_l01Edges_B2) (h0 := eH h n s [] []) (n := n.toNat) (fun i (a : List Value × VH) => [bp h, eq1 h a.1.length, .int .i64 i]) (fun i a => eH h n s a.1 a.2)
    (fun i a => (∃ ess, EI (h.length + 2) a.1 a.2 ess ∧ ess ++ edgesF rows n.toNat i = edgesF rows n.toNat 0) ∧ a.1.length ≤ i * 62) (fun a => some (.exit 0, fl [(3, eq1 h a.1.length)], eH h n s a.1 a.2)) ?_ ?_ 0 ([], []) (by omega) ⟨⟨[], EI.nil _ _, rfl⟩, by simp⟩) ?_
  · rintro v ⟨vs, G⟩ hlt hlt0 ⟨⟨ess, e, hess⟩, hm⟩
    dsimp only at e hm ⊢
    have hlt' : (v : Int) < n := by omega
    obtain ⟨⟨vs1, G1⟩, ⟨i2, i3⟩, i1⟩ := l_spec_l01Edges_1 (nro := nro) n s rows h hs hn g v hlt vs G ess e hm
    dsimp only at i1 i2 i3
    have i4 : vs1.length ≤ (v + 1) * 62 := by
      have := i2.len
      have := e.len
      have := edgF_len rows v n.toNat (v + 1) (by omega)
      simp at *
      omega
    have hold : ∀ x ∈ [bp h, eq1 h vs1.length, Value.int .i64 ((v : Int) + 1)], Old (h.length + 2 + ([] : VH).length) x := by
      intro x hx
      simp at hx
      rcases hx with rfl | rfl | rfl <;> intro r hr <;> simp [trefs, vrefs, crefs, arefs] at hr ⊢ <;> omega
    obtain ⟨G2, hk, e2, e3⟩ := eH_clean (n := n) (s := s) (EI.nil (h.length + 2) []) i2 (by simp) hold
    rw [edgesF_step hlt, ← List.append_assoc] at hess
    refine ⟨(vs1, G2), ⟨⟨_, e2, hess⟩, i4⟩, ?_⟩
    rw [floop_at i_spec_l01Edges_B2.eq_1]
    obtain ⟨K, hK⟩ : ∃ K, K = eH h n s [] [] := ⟨_, rfl⟩
    obtain ⟨H, hH⟩ : ∃ H, H = eH h n s vs G := ⟨_, rfl⟩
    obtain ⟨H1, hH1⟩ : ∃ H1, H1 = eH h n s vs1 G1 := ⟨_, rfl⟩
    have hbx : H[h.length]? = some ⟨0, [.int .i64 n, s]⟩ := by rw [hH]; simp
    rw [← hK, ← hH1] at hk
    rw [← hH, ← hH1] at i1
    rw [← hK, ← hH]
    clear hold hH hH1 hK e e2 i2 hess
    simp at i1
    simp (disch := first | assumption | omega | (simp [*] <;> omega) | fail) [hbx, wrap64, hlt', i1, hk]
  · rintro ⟨vs, G⟩ _
    have e : ((n.toNat : Nat) : Int) = n := by omega
    rw [floop_at i_spec_l01Edges_B2.eq_1]
    simp (disch := first | assumption | omega | (simp [*] <;> omega) | fail) [e]
  · rintro a ⟨⟨⟨ess, k1, k2⟩, _⟩, h2⟩
    rw [edgesF_end (by omega), List.append_nil] at k2
    rw [k2] at k1
    exact ⟨a, k1, h2⟩

theorem c_spec_l01Edges (n : Int) (s : Value) (rows : List Int) (h : VH) (hs : Sli h s rows) (hn : nro ≤ h.length) (g : GV n rows) :
    ∃ v M, vcall F nro k_spec_l01Edges [gv n s] h = some (v, h ++ M) ∧ SL2 h.length M v (edgesF rows n.toNat 0) := by
  have hn' := fun k => Nat.le_trans hn (Nat.le_add_right h.length k)
  obtain ⟨⟨vs', G'⟩, l2, l1⟩ := l_spec_l01Edges_2 (nro := nro) n s rows h hs hn g
  obtain ⟨v, M, k1, k2⟩ := EI.fin1 (h := h) (pre := [⟨0, [.int .i64 n, s]⟩]) l2
  refine ⟨v, M, ?_, k2⟩
  refine v_spec_l01Edges (by simp [i_spec_l01Edges]) ?_
  rw [fbody_eq]
  simp at l1 k1
  simp (disch := first | assumption | omega | (simp [*] <;> omega) | fail) [i_spec_l01Edges, l1, hn', k1]
end Go.Proofs.YtghondlbkjponaaDoor.Zv

/- The law of GreedyGraph. -/
namespace Go.Proofs.YtghondlbkjponaaDoor.Zv
open Go
variable {nro : Nat}

/-- k and c are as told. -/
def kcB (k c : Int) : Bool := decide (1 ≤ k ∧ k ≤ 6) && decide (3 ≤ c ∧ c ≤ 12)
theorem c_spec_l07Numbers (k c : Int) (h : VH) : vcall F nro k_spec_l07Numbers [.int .i64 k, .int .i64 c] h = some (.bool (kcB k c), h) := by
  refine v_spec_l07Numbers (by simp [i_spec_l07Numbers]) ?_
  rw [fbody_eq]
  have h1 := c_spec_l01In (nro := nro) k 1 6 h
  have h2 := c_spec_l01In (nro := nro) c 3 12 h
  unfold kcB
  by_cases g : 1 ≤ k ∧ k ≤ 6
  · rw [decide_eq_true g] at h1 ⊢
    simp (disch := first | assumption | omega | (simp [*] <;> omega) | fail) [i_spec_l07Numbers, h1, h2]
  · rw [decide_eq_false g] at h1 ⊢
    simp (disch := first | assumption | omega | (simp [*] <;> omega) | fail) [i_spec_l07Numbers, h1]
theorem c_impl_isBoth (k c : Int) (h : VH) : vcall F nro k_impl_isBoth [.int .i64 k, .int .i64 c] h = some (.bool (kcB k c), h) := by
  refine v_impl_isBoth (by simp [i_impl_isBoth]) ?_
  rw [fbody_eq]
  unfold kcB
  by_cases g1 : 1 ≤ k
  · by_cases g2 : k ≤ 6
    · by_cases g3 : 3 ≤ c
      · by_cases g4 : c ≤ 12
        · simp (disch := first | assumption | omega | (simp [*] <;> omega) | fail) [i_impl_isBoth, g1, g2, g3, g4]
        · simp (disch := first | assumption | omega | (simp [*] <;> omega) | fail) [i_impl_isBoth, g1, g2, g3, g4]
      · simp (disch := first | assumption | omega | (simp [*] <;> omega) | fail) [i_impl_isBoth, g1, g2, g3]
    · simp (disch := first | assumption | omega | (simp [*] <;> omega) | fail) [i_impl_isBoth, g1, g2]
  · simp (disch := first | assumption | omega | (simp [*] <;> omega) | fail) [i_impl_isBoth, g1]

/-- What the function answers. -/
noncomputable def greedyAns (n k c : Int) : GAns := if (1 ≤ n ∧ n ≤ 62) ∧ kcB k c = true then .inl (n, fillA k c n.toNat (List.replicate n.toNat 0) 0) else .inr 2

theorem c_spec_GreedyGraph (n k c : Int) (h : VH) (hn : nro ≤ h.length) : vcall F nro k_spec_GreedyGraph [.int .i64 n, .int .i64 k, .int .i64 c] h = some (gres h (greedyAns n k c)) := by
  have hn' := fun k => Nat.le_trans hn (Nat.le_add_right h.length k)
  refine v_spec_GreedyGraph (by simp [i_spec_GreedyGraph]) ?_
  rw [fbody_eq]
  have h1 := fun L => c_spec_l01In (nro := nro) n 1 62 (h ++ L)
  have h2 := fun L => c_spec_l07Numbers (nro := nro) k c (h ++ L)
  unfold greedyAns
  by_cases g : 1 ≤ n ∧ n ≤ 62
  · rw [decide_eq_true g] at h1
    by_cases g2 : kcB k c = true
    · rw [g2] at h2
      rw [if_pos ⟨g, g2⟩]
      have h3 := c_spec_l01Empty (nro := nro) n (h ++ [⟨0, [.int .i64 0, .slice none 0 0]⟩]) (by omega) (by omega) (by simp; omega)
      obtain ⟨N, rfl⟩ : ∃ N : Nat, n = N := ⟨n.toNat, by omega⟩
      rw [Int.toNat_natCast] at h3 ⊢
      have h4 := c_spec_l07Fill (nro := nro) N k c (.slice (some ⟨h.length + 1, 0, none⟩) N N) (List.replicate N 0) (h ++ [⟨0, [.int .i64 0, .slice none 0 0]⟩, ⟨1, ints (List.replicate N 0)⟩]) (by
        have := sli_at (h := h ++ [⟨0, [.int .i64 0, .slice none 0 0]⟩, ⟨1, ints (List.replicate N 0)⟩]) (b := h.length + 1) (xs := List.replicate N 0) (by simp)
        rw [List.length_replicate] at this
        exact this) (Rok.zero (by omega)) (by omega) (by simp; omega)
      have hl := ((Rok.zero (n := N) (by omega)).fillA k c 0).len
      obtain ⟨r, hr⟩ : ∃ r, r = fillA k c N (List.replicate N 0) 0 := ⟨_, rfl⟩
      rw [← hr] at h4 hl ⊢
      clear hr
      simp at h3 h4
      simp (disch := first | assumption | omega | (simp [*] <;> omega) | fail) [i_spec_GreedyGraph, h1, h2, h3, h4, hl, fresults, fresL, fres1, hn', hn]
    · rw [if_neg (fun h => g2 h.2)]
      have g3 : kcB k c = false := by simpa using g2
      rw [g3] at h2
      simp (disch := first | assumption | omega | (simp [*] <;> omega) | fail) [i_spec_GreedyGraph, h1, h2, fresults, fresL, fres1, hn', hn]
  · rw [decide_eq_false g] at h1
    rw [if_neg (fun h => g h.1)]
    simp (disch := first | assumption | omega | (simp [*] <;> omega) | fail) [i_spec_GreedyGraph, h1, fresults, fresL, fres1, hn', hn]

theorem c_impl_GreedyGraph (n k c : Int) (h : VH) (hn : nro ≤ h.length) : vcall F nro k_impl_GreedyGraph [.int .i64 n, .int .i64 k, .int .i64 c] h = some (gres h (greedyAns n k c)) := by
  have hn' := fun k => Nat.le_trans hn (Nat.le_add_right h.length k)
  refine v_impl_GreedyGraph (by simp [i_impl_GreedyGraph]) ?_
  rw [fbody_eq]
  have h2 := fun L => c_impl_isBoth (nro := nro) k c (h ++ L)
  unfold greedyAns
  by_cases g : 1 ≤ n ∧ n ≤ 62
  · have ga : ¬ n < 1 := by omega
    have gb : ¬ 62 < n := by omega
    by_cases g2 : kcB k c = true
    · rw [g2] at h2
      rw [if_pos ⟨g, g2⟩]
      have h3 := c_impl_empty (nro := nro) n (h ++ [⟨0, [.int .i64 0, .slice none 0 0]⟩]) (by omega) (by omega) (by simp; omega)
      obtain ⟨N, rfl⟩ : ∃ N : Nat, n = N := ⟨n.toNat, by omega⟩
      rw [Int.toNat_natCast] at h3 ⊢
      have h4 := c_impl_filled (nro := nro) N k c (.slice (some ⟨h.length + 1, 0, none⟩) N N) (List.replicate N 0) (h ++ [⟨0, [.int .i64 0, .slice none 0 0]⟩, ⟨1, ints (List.replicate N 0)⟩]) (by
        have := sli_at (h := h ++ [⟨0, [.int .i64 0, .slice none 0 0]⟩, ⟨1, ints (List.replicate N 0)⟩]) (b := h.length + 1) (xs := List.replicate N 0) (by simp)
        rw [List.length_replicate] at this
        exact this) (Rok.zero (by omega)) (by omega) (by simp; omega)
      have hl := ((Rok.zero (n := N) (by omega)).fillA k c 0).len
      obtain ⟨r, hr⟩ : ∃ r, r = fillA k c N (List.replicate N 0) 0 := ⟨_, rfl⟩
      rw [← hr] at h4 hl ⊢
      clear hr
      simp at h3 h4
      simp (disch := first | assumption | omega | (simp [*] <;> omega) | fail) [i_impl_GreedyGraph, ga, gb, h2, h3, h4, hl, fresults, fresL, fres1, hn', hn]
    · rw [if_neg (fun h => g2 h.2)]
      have g3 : kcB k c = false := by simpa using g2
      rw [g3] at h2
      simp (disch := first | assumption | omega | (simp [*] <;> omega) | fail) [i_impl_GreedyGraph, ga, gb, h2, fresults, fresL, fres1, hn', hn]
  · rw [if_neg (fun h => g h.1)]
    by_cases ga : n < 1
    · simp (disch := first | assumption | omega | (simp [*] <;> omega) | fail) [i_impl_GreedyGraph, ga, fresults, fresL, fres1, hn', hn]
    · have gb : 62 < n := by omega
      simp (disch := first | assumption | omega | (simp [*] <;> omega) | fail) [i_impl_GreedyGraph, ga, gb, fresults, fresL, fres1, hn', hn]

end Go.Proofs.YtghondlbkjponaaDoor.Zv

/- Does a graph fit k and c: the program's test and the reference's are one. -/
namespace Go.Proofs.YtghondlbkjponaaDoor.Zv
open Go
variable {nro : Nat}

/-! ### degrees, the greatest of numbers -/
def degF (rows : List Int) (n v : Nat) : List Int := if h : v < n then (deg rows v : Int) :: degF rows n (v + 1) else []
 termination_by n - v
theorem degF_end {rows : List Int} {n v : Nat} (h : ¬ v < n) : degF rows n v = [] := by rw [degF, dif_neg h]
theorem degF_step {rows : List Int} {n v : Nat} (h : v < n) : degF rows n v = (deg rows v : Int) :: degF rows n (v + 1) := by rw [degF, dif_pos h]
theorem degF_len (rows : List Int) (n v : Nat) : (degF rows n v).length = n - v := by
  by_cases h : v < n
  · rw [degF_step h, List.length_cons, degF_len rows n (v + 1)]; omega
  · rw [degF_end h]; simp; omega
 termination_by n - v
theorem degF_all (rows : List Int) (n v : Nat) (k : Int) : (∀ x ∈ degF rows n v, x ≤ k) ↔ ∀ u, v ≤ u → u < n → (deg rows u : Int) ≤ k := by
  by_cases h : v < n
  · rw [degF_step h]
    simp only [List.mem_cons, forall_eq_or_imp]
    rw [degF_all rows n (v + 1) k]
    constructor
    · rintro ⟨a, b⟩ u hu hun
      by_cases e : u = v
      · subst e; exact a
      · exact b u (by omega) hun
    · intro a
      exact ⟨a v (Nat.le_refl _) h, fun u hu hun => a u (by omega) hun⟩
  · rw [degF_end h]
    simp
    intro u hu hun
    omega
 termination_by n - v

theorem l_impl_Graph_degrees (h : VH) (n : Nat) (s : Value) (rows : List Int) (hs : Sli h s rows) (R : Rok n rows) (hn : nro ≤ h.length) (y0 : List Int) (v : Nat) (hv : v ≤ n) (ys : List Int) (hy : ys.length ≤ v) :
    floop (vcall F nro) nro [1, 3, 7, 8] i_impl_Graph_degrees_B1 (bx h n s ++ [⟨1, ints y0⟩]) [bp h, .slice (some ⟨h.length + 1, 0, none⟩) ys.length ys.length, .int .i64 n, .int .i64 v] (bx h n s ++ [⟨1, ints ys⟩]) =
      some (.exit 0, fl [(3, .slice (some ⟨h.length + 1, 0, none⟩) (ys ++ degF rows n v).length (ys ++ degF rows n v).length)], bx h n s ++ [⟨1, ints (ys ++ degF rows n v)⟩]) := by
  have hn' := fun k => Nat.le_trans hn (Nat.le_add_right h.length k)
  have hsc := fun k => hs.oldCk (k := k)
  have hle := R.le
  rw [floop_at i_impl_Graph_degrees_B1.eq_1]
  by_cases hlt : v < n
  · have hlt' : (v : Int) < n := by omega
    have hc := c_impl_degree (nro := nro) n v s rows (bx h n s ++ [⟨1, ints ys⟩]) ((hs.app _).app _) R hlt
    have ih := l_impl_Graph_degrees h n s rows hs R hn y0 (v + 1) (by omega) (ys ++ [(deg rows v : Int)]) (by simp; omega)
    rw [show ((v + 1 : Nat) : Int) = (v : Int) + 1 by omega] at ih
    rw [degF_step hlt]
    obtain ⟨d, hd⟩ : ∃ d, d = deg rows v := ⟨_, rfl⟩
    rw [← hd] at hc ih ⊢
    clear hd
    simp at ih hc
    have b1 : (ys.length + 1) * 8 ≤ 1099511627776 := by omega
    have b2 : ys.length < 1099511627776 := by omega
    simp (disch := first | assumption | omega | (simp [*] <;> omega) | fail) [wrap64, hlt', hlt, hc, hn', ih, hsc, b1, b2, ints_snoc]
  · have hlt' : ¬ (v : Int) < n := by omega
    rw [degF_end hlt]
    simp (disch := first | assumption | omega | (simp [*] <;> omega) | fail) [hlt', hlt]
 termination_by n - v

theorem c_impl_Graph_degrees (n : Nat) (s : Value) (rows : List Int) (h : VH) (hs : Sli h s rows) (R : Rok n rows) (hn : nro ≤ h.length) :
    vcall F nro k_impl_Graph_degrees [gv n s] h = some (.slice (some ⟨h.length, 0, none⟩) n n, h ++ [⟨1, ints (degF rows n 0)⟩]) := by
  refine v_impl_Graph_degrees (by simp [i_impl_Graph_degrees]) ?_
  rw [fbody_eq]
  have lp := l_impl_Graph_degrees (nro := nro) h n s rows hs R hn [] 0 (by omega) [] (by simp)
  have hdl := degF_len rows n 0
  simp at lp
  rw [hdl, Nat.sub_zero] at lp
  simp (disch := first | assumption | omega | (simp [*] <;> omega) | fail) [i_impl_Graph_degrees, lp, hdl]

def mxL (m : Int) : List Int → Int
  | [] => m
  | x :: l => mxL (if m < x then x else m) l
theorem mxL_le (k : Int) : ∀ (l : List Int) (m : Int), mxL m l ≤ k ↔ m ≤ k ∧ ∀ x ∈ l, x ≤ k
  | [], m => by simp [mxL]
  | x :: l, m => by
    rw [mxL, mxL_le k l]
    simp only [List.mem_cons, forall_eq_or_imp]
    by_cases h : m < x
    · rw [if_pos h]
      exact ⟨fun ⟨a, b⟩ => ⟨by omega, a, b⟩, fun ⟨_, a, b⟩ => ⟨a, b⟩⟩
    · rw [if_neg h]
      exact ⟨fun ⟨a, b⟩ => ⟨a, by omega, b⟩, fun ⟨a, _, b⟩ => ⟨a, b⟩⟩

theorem l_slices_Max (h : VH) (s : Value) (xs : List Int) (hs : Sli h s xs) (hl : xs.length ≤ 1000) (k j : Nat) (hk : k = xs.length - j) (hj : j ≤ xs.length) (m : Int) :
    floop (vcall F nro) nro [0, 3, 4] i_slices_Max_int64_int64_B1 h [s, .int .i64 m, .int .i64 j] h = some (.exit 0, fl [(3, .int .i64 (mxL m (xs.drop j)))], h) := by
  have hso := hs.old
  rw [floop_at i_slices_Max_int64_int64_B1.eq_1]
  by_cases hlt : j < xs.length
  · have hlt' : (j : Int) < xs.length := by omega
    have vl := hs.vlen
    have vx := hs.vidx (k := .i64) (j := (j : Int)) (by omega) hlt'
    have vd := hs.vload hlt
    have ih := l_slices_Max h s xs hs hl (k - 1) (j + 1) (by omega) hlt (if m < xs[j] then xs[j] else m)
    rw [show ((j + 1 : Nat) : Int) = (j : Int) + 1 by omega] at ih
    rw [List.drop_eq_getElem_cons hlt, mxL]
    obtain ⟨x, hx⟩ : ∃ x, x = xs[j] := ⟨_, rfl⟩
    rw [← hx] at vd ih ⊢
    by_cases c1 : m < x
    · rw [if_pos c1] at ih ⊢
      simp (disch := first | assumption | omega | (simp [*] <;> omega) | fail) [wrap64, hlt', vl, vx, vd, ih, c1, vminmax, vminmaxL, vminmax2]
    · rw [if_neg c1] at ih ⊢
      simp (disch := first | assumption | omega | (simp [*] <;> omega) | fail) [wrap64, hlt', vl, vx, vd, ih, c1, vminmax, vminmaxL, vminmax2]
  · have hlt' : ¬ (j : Int) < xs.length := by omega
    have vl := hs.vlen
    rw [List.drop_eq_nil_of_le (by omega), mxL]
    simp (disch := first | assumption | omega | (simp [*] <;> omega) | fail) [hlt', vl]
 termination_by k
 decreasing_by omega

theorem c_slices_Max (s : Value) (x : Int) (xs : List Int) (h : VH) (hs : Sli h s (x :: xs)) (hl : xs.length ≤ 999) :
    vcall F nro k_slices_Max_int64_int64 [s] h = some (.int .i64 (mxL x xs), h) := by
  refine v_slices_Max_int64_int64 (by simp [i_slices_Max_int64_int64]) ?_
  rw [fbody_eq]
  have vl := hs.vlen
  have vx := hs.vidx (k := .i64) (j := 0) (by omega) (by simp)
  have vd := hs.vload (j := 0) (by simp)
  have lp := l_slices_Max (nro := nro) h s (x :: xs) hs (by simp; omega) xs.length 1 (by simp) (by simp) x
  rw [List.drop_succ_cons, List.drop_zero] at lp
  simp only [Int.natCast_one] at lp
  simp at vl vd
  have e : ¬ ((xs.length : Int) + 1 < 1) := by omega
  obtain ⟨q, hq⟩ : ∃ q, q = mxL x xs := ⟨_, rfl⟩
  rw [← hq] at lp ⊢
  clear hq
  simp (disch := first | assumption | omega | (simp [*] <;> omega) | fail) [i_slices_Max_int64_int64, vl, vx, vd, lp, e]

/-! ### does a graph fit -/
def FitsP (rows : List Int) (n : Nat) (k c : Int) : Prop := (∀ v, v < n → (deg rows v : Int) ≤ k) ∧ ∀ u w, rbit rows u w = true → arF rows u w ≤ 0 ∨ c ≤ arF rows u w

open Classical in
theorem c_impl_Graph_fits (n : Nat) (k c : Int) (s : Value) (rows : List Int) (h : VH) (hs : Sli h s rows) (g : GV n rows) (hc : 1 ≤ c) (hn : nro ≤ h.length) :
    vcall F nro k_impl_Graph_fits [gv n s, .int .i64 k, .int .i64 c] h = some (.bool (decide (FitsP rows n k c)), h) := by
  refine v_impl_Graph_fits (by simp [i_impl_Graph_fits]) ?_
  rw [fbody_eq]
  have R := g.rok
  have hl := R.len
  have hle := R.le
  have hlo := g.lo
  have hg := c_impl_Graph_girth (nro := nro) n s rows (bx h n s) (hs.app _) g (by simp; omega)
  have hd := c_impl_Graph_degrees (nro := nro) n s rows (bx h n s) (hs.app _) R (by simp; omega)
  have e0 : degF rows n 0 = (deg rows 0 : Int) :: degF rows n 1 := degF_step (by omega)
  have hdl := degF_len rows n 1
  have hm := c_slices_Max (nro := nro) (.slice (some ⟨h.length + 1, 0, none⟩) n n) (deg rows 0) (degF rows n 1) (bx h n s ++ [⟨1, ints (degF rows n 0)⟩]) (by
    have := sli_at (h := bx h n s ++ [⟨1, ints (degF rows n 0)⟩]) (b := h.length + 1) (xs := degF rows n 0) (by simp)
    rw [degF_len rows n 0, Nat.sub_zero] at this
    rw [← e0]
    exact this) (by omega)
  have h1 := (girF_ok (rows := rows) (n := n) (c := c) hc 0 0 (by omega))
  have h2 : mxL (deg rows 0) (degF rows n 1) ≤ k ↔ ∀ v, v < n → (deg rows v : Int) ≤ k := by
    rw [mxL_le]
    have := degF_all rows n 0 k
    rw [e0] at this
    simp only [List.mem_cons, forall_eq_or_imp] at this
    rw [this]
    exact ⟨fun h v hv => h v (Nat.zero_le _) hv, fun h v _ hv => h v hv⟩
  have h3 : (girF rows n 0 0 = 0 ∨ c ≤ girF rows n 0 0) ↔ ∀ u w, rbit rows u w = true → arF rows u w ≤ 0 ∨ c ≤ arF rows u w := by
    rw [h1]
    constructor
    · rintro ⟨_, a⟩ u w huw
      obtain ⟨hu, hw⟩ := rbit_lt R huw
      have := a u (Nat.zero_le _) hu w ((nbL_mem rows u w).mpr ⟨by omega, by omega, by rw [Int.toNat_natCast]; exact huw⟩)
      rwa [Int.toNat_natCast] at this
    · intro a
      exact ⟨.inl rfl, fun u _ _ y hy => a u y.toNat ((nbL_mem rows u y).mp hy).2.2⟩
  have h4 : decide (FitsP rows n k c) = (decide (mxL (deg rows 0) (degF rows n 1) ≤ k) && (decide (girF rows n 0 0 = 0) || decide (c ≤ girF rows n 0 0))) := by
    unfold FitsP
    rw [Bool.eq_iff_iff]
    simp only [decide_eq_true_eq, Bool.and_eq_true, Bool.or_eq_true]
    rw [← h2, ← h3]
  rw [h4]
  obtain ⟨x, hx⟩ : ∃ x, x = mxL (deg rows 0) (degF rows n 1) := ⟨_, rfl⟩
  rw [← hx] at hm ⊢
  obtain ⟨y, hy⟩ : ∃ y, y = girF rows n 0 0 := ⟨_, rfl⟩
  rw [← hy] at hg ⊢
  obtain ⟨D, hD⟩ : ∃ D, D = degF rows n 0 := ⟨_, rfl⟩
  rw [← hD] at hd hm
  clear h1 h2 h3 h4 hx hy hD e0 hdl
  simp at hd hm
  by_cases c1 : x ≤ k
  · by_cases c2 : y = 0
    · simp (disch := first | assumption | omega | (simp [*] <;> omega) | fail) [i_impl_Graph_fits, hg, hd, hm, c1, c2]
    · simp (disch := first | assumption | omega | (simp [*] <;> omega) | fail) [i_impl_Graph_fits, hg, hd, hm, c1, c2]
  · simp (disch := first | assumption | omega | (simp [*] <;> omega) | fail) [i_impl_Graph_fits, hg, hd, hm, c1]

/-! ### lists of edges -/
theorem arF_ne1 {n : Nat} {rows : List Int} (g : GV n rows) {a b : Nat} (hab : rbit rows a b = true) : far (cut2 rows a b) a b ≠ 0 := by
  obtain ⟨ha, hb⟩ := rbit_lt g.rok hab
  have h := far_dist (cut_rok g ha hb hab).1 ha b
  intro e
  rw [e] at h
  rcases h with ⟨h, _⟩ | ⟨d, h1, h2⟩
  · omega
  · have : d = 0 := by omega
    subst this
    exact g.ne hab h2.1

open Classical in
theorem l_spec_l07Fits_1 (h : VH) (n : Nat) (k c : Int) (s : Value) (rows : List Int) (hs : Sli h s rows) (R : Rok n rows) (v : Nat) :
    floop (vcall F nro) nro [1, 2, 3, 7] i_spec_l07Fits_B1 (bx h n s) [.int .i64 k, .int .i64 c, bp h, .int .i64 v] (bx h n s) =
      if ∃ u, v ≤ u ∧ u < n ∧ k < (deg rows u : Int) then some (.ret, fl [(6, .bool false)], bx h n s) else some (.exit 0, fl [(2, .int .i64 c), (3, bp h)], bx h n s) := by
  have hsc := fun k => hs.oldCk (k := k)
  have hle := R.le
  rw [floop_at i_spec_l07Fits_B1.eq_1]
  by_cases hlt : v < n
  · have hlt' : (v : Int) < n := by omega
    have hc := c_spec_l01Degree (nro := nro) n v s rows (bx h n s) (hs.app _) R hlt
    by_cases hb : k < (deg rows v : Int)
    · rw [if_pos ⟨v, Nat.le_refl _, hlt, hb⟩]
      obtain ⟨d, hd⟩ : ∃ d, d = deg rows v := ⟨_, rfl⟩
      rw [← hd] at hc hb
      simp (disch := first | assumption | omega | (simp [*] <;> omega) | fail) [hlt', hlt, hc, hb]
    · have ih := l_spec_l07Fits_1 h n k c s rows hs R (v + 1)
      rw [show ((v + 1 : Nat) : Int) = (v : Int) + 1 by omega] at ih
      have e : (∃ u, v ≤ u ∧ u < n ∧ k < (deg rows u : Int)) ↔ ∃ u, v + 1 ≤ u ∧ u < n ∧ k < (deg rows u : Int) := by
        constructor
        · rintro ⟨u, h1, h2, h3⟩
          by_cases e : u = v
          · subst e; exact absurd h3 hb
          · exact ⟨u, by omega, h2, h3⟩
        · rintro ⟨u, h1, h2, h3⟩; exact ⟨u, by omega, h2, h3⟩
      simp only [e]
      obtain ⟨d, hd⟩ : ∃ d, d = deg rows v := ⟨_, rfl⟩
      rw [← hd] at hc hb
      obtain ⟨r, hr⟩ : ∃ r, r = (if ∃ u, v + 1 ≤ u ∧ u < n ∧ k < (deg rows u : Int) then some (VX.ret, fl [(6, .bool false)], bx h n s) else some (.exit 0, fl [(2, .int .i64 c), (3, bp h)], bx h n s)) := ⟨_, rfl⟩
      rw [← hr] at ih ⊢
      clear hr e hd
      simp (disch := first | assumption | omega | (simp [*] <;> omega) | fail) [wrap64, hlt', hlt, hc, hb, ih, hsc]
  · have hlt' : ¬ (v : Int) < n := by omega
    rw [if_neg (by rintro ⟨u, h1, h2, _⟩; omega)]
    simp (disch := first | assumption | omega | (simp [*] <;> omega) | fail) [hlt', hlt]
 termination_by n - v

theorem l_spec_l07Fits_2 (H : VH) (i3 n : Nat) (c : Int) (s q : Value) (rows : List Int) (hs : Sli H s rows) (g : GV n rows) (hn : nro ≤ H.length) (h3 : H[i3]? = some ⟨0, [.int .i64 n, s]⟩) (es : List (List Int)) (vs : List Value) (hl : vs.length = es.length) (hll : es.length ≤ 100000) (S : ∀ L, Sl (H ++ L) q vs) (I : ∀ L (i : Nat) (hi : i < vs.length), Sli (H ++ L) vs[i] (es.getD i [])) (hE : ∀ e ∈ es, ∃ u w : Nat, rbit rows u w = true ∧ e = [(u : Int), (w : Int)]) (k i : Nat) (hk : k = es.length - i) (hi : i ≤ es.length) :
    ((∃ e ∈ es.drop i, ∃ u w : Nat, e = [(u : Int), (w : Int)] ∧ ¬ (arF rows u w ≤ 0 ∨ c ≤ arF rows u w)) → ∃ L, floop (vcall F nro) nro [2, 3, 8, 9] i_spec_l07Fits_B2 H [.int .i64 c, .pointer (some ⟨i3, 0, some 2⟩), q, .int .i64 i] H = some (.ret, fl [(6, .bool false)], H ++ [L])) ∧
    ((¬ ∃ e ∈ es.drop i, ∃ u w : Nat, e = [(u : Int), (w : Int)] ∧ ¬ (arF rows u w ≤ 0 ∨ c ≤ arF rows u w)) → floop (vcall F nro) nro [2, 3, 8, 9] i_spec_l07Fits_B2 H [.int .i64 c, .pointer (some ⟨i3, 0, some 2⟩), q, .int .i64 i] H = some (.exit 2, fl [], H)) := by
  have hi3 : i3 < H.length := (List.getElem?_eq_some_iff.mp h3).1
  have po3 : Old H.length (.pointer (some ⟨i3, 0, some 2⟩)) := fun r hr => by simp [trefs, vrefs, crefs, arefs] at hr; omega
  have S0 := S []
  rw [List.append_nil] at S0
  have oq : Old H.length q := S0.old
  clear hi3
  rw [floop_at i_spec_l07Fits_B2.eq_1]
  by_cases hlt : i < es.length
  · have hlt' : (i : Int) < vs.length := by omega
    have hlv : i < vs.length := by omega
    have hget : es.getD i [] = es[i] := by rw [List.getD_eq_getElem?_getD, List.getElem?_eq_getElem hlt]; rfl
    obtain ⟨u, w, huw, heq⟩ := hE es[i] (List.getElem_mem hlt)
    obtain ⟨hu, hw⟩ := rbit_lt g.rok huw
    obtain ⟨R2, _⟩ := cut_rok g hu hw huw
    have hrl := g.rok.len
    have hle := g.rok.le
    have hne := g.ne huw
    have I0 := I [] i hlv
    rw [List.append_nil, hget, heq] at I0
    have I1 := I [⟨1, ints (cut2 rows u w)⟩] i hlv
    rw [hget, heq] at I1
    have S1 := S [⟨1, ints (cut2 rows u w)⟩]
    have hcut := c_spec_l01Cut (nro := nro) n u w s rows H hs hn g (by omega) (by omega) (by omega) (by omega) (by omega) (by rw [Int.toNat_natCast, Int.toNat_natCast]; exact huw)
    rw [hrl] at hcut
    have hl2 := R2.len
    have hfar := c_spec_l07Far (nro := nro) n u w (.slice (some ⟨H.length, 0, none⟩) n n) (cut2 rows u w) (H ++ [⟨1, ints (cut2 rows u w)⟩]) (by
      have := sli_at (h := H ++ [⟨1, ints (cut2 rows u w)⟩]) (b := H.length) (xs := cut2 rows u w) (by simp)
      rw [hl2] at this
      exact this) R2 hu hw
    have f1 := far_le R2 hu w
    have f2 := far_ge (cut2 rows u w) u w
    have f3 := arF_ne1 g huw
    have ih := l_spec_l07Fits_2 H i3 n c s q rows hs g hn h3 es vs hl hll S I hE (k - 1) (i + 1) (by omega) hlt
    rw [show ((i + 1 : Nat) : Int) = (i : Int) + 1 by omega] at ih
    rw [List.drop_eq_getElem_cons hlt]
    have hA : arF rows u w = far (cut2 rows u w) u w + 1 := rfl
    have e : (∃ e ∈ es[i] :: es.drop (i + 1), ∃ u w : Nat, e = [(u : Int), (w : Int)] ∧ ¬ (arF rows u w ≤ 0 ∨ c ≤ arF rows u w)) ↔ ¬ (arF rows u w ≤ 0 ∨ c ≤ arF rows u w) ∨ ∃ e ∈ es.drop (i + 1), ∃ u w : Nat, e = [(u : Int), (w : Int)] ∧ ¬ (arF rows u w ≤ 0 ∨ c ≤ arF rows u w) := by
      constructor
      · rintro ⟨e, he, u', w', h1, h2⟩
        rcases List.mem_cons.mp he with rfl | he
        · rw [heq] at h1
          simp at h1
          have q1 : u' = u := by omega
          have q2 : w' = w := by omega
          subst q1 q2
          exact .inl h2
        · exact .inr ⟨e, he, u', w', h1, h2⟩
      · rintro (h1 | ⟨e, he, h1⟩)
        · exact ⟨_, List.mem_cons_self .., u, w, heq, h1⟩
        · exact ⟨e, List.mem_cons_of_mem _ he, h1⟩
    simp only [e]
    rw [hA]
    obtain ⟨x, hx⟩ : ∃ x, x = far (cut2 rows u w) u w := ⟨_, rfl⟩
    rw [← hx] at hfar f1 f2 f3 ⊢
    obtain ⟨cr, hcr⟩ : ∃ cr, cr = cut2 rows u w := ⟨_, rfl⟩
    rw [← hcr] at hcut hfar I1 S1
    obtain ⟨r, hr⟩ : ∃ r, r = (∃ e ∈ es.drop (i + 1), ∃ u w : Nat, e = [(u : Int), (w : Int)] ∧ ¬ (arF rows u w ≤ 0 ∨ c ≤ arF rows u w)) := ⟨_, rfl⟩
    simp only [← hr] at ih ⊢
    clear e hr hA hcr hx hE I S R2 hl2 hget heq hk
    have w1 : IntKind.i64.wrap (x + 1) = x + 1 := wrap64 (by omega) (by omega)
    have hn1 : nro ≤ H.length + 1 := by omega
    obtain ⟨fl0, hfl0⟩ : ∃ fl0, fl0 = floop (vcall F nro) nro [2, 3, 8, 9] i_spec_l07Fits_B2 H [.int .i64 c, .pointer (some ⟨i3, 0, some 2⟩), q, .int .i64 ((i : Int) + 1)] H := ⟨_, rfl⟩
    rw [← hfl0] at ih
    have hfl1 := hfl0.symm
    clear hfl0
    by_cases c1 : 0 < x
    · by_cases c2 : x + 1 < c
      · refine ⟨fun _ => ⟨⟨1, ints cr⟩, ?_⟩, fun h => absurd (.inl (by omega)) h⟩
        simp (disch := first | assumption | omega | (simp [*] <;> omega) | fail) [S0.vlen, S0.vidx, S0.vload, I0.vidx, I0.vload, S1.vidx, S1.vload, I1.vidx, I1.vload, h3, hcut, hfar, hlt', hlv, c1, c2, w1]
      · have e2 : (¬ (x + 1 ≤ 0 ∨ c ≤ x + 1) ∨ r) ↔ r := by
          constructor
          · rintro (h | h)
            · omega
            · exact h
          · exact .inr
        simp only [e2]
        simp (disch := first | assumption | omega | (simp [*] <;> omega) | fail) [S0.vlen, S0.vidx, S0.vload, I0.vidx, I0.vload, S1.vidx, S1.vload, I1.vidx, I1.vload, h3, hcut, hfar, hlt', hlv, c1, c2, w1, hfl1, wrap64]
        exact ih
    · have e2 : (¬ (x + 1 ≤ 0 ∨ c ≤ x + 1) ∨ r) ↔ r := by
        constructor
        · rintro (h | h)
          · omega
          · exact h
        · exact .inr
      simp only [e2]
      simp (disch := first | assumption | omega | (simp [*] <;> omega) | fail) [S0.vlen, S0.vidx, S0.vload, I0.vidx, I0.vload, S1.vidx, S1.vload, I1.vidx, I1.vload, h3, hcut, hfar, hlt', hlv, c1, hfl1, wrap64]
      exact ih
  · have hlt' : ¬ (i : Int) < vs.length := by omega
    rw [List.drop_eq_nil_of_le (by omega)]
    refine ⟨fun h => ?_, fun _ => ?_⟩
    · obtain ⟨e, he, _⟩ := h
      cases he
    · simp (disch := first | assumption | omega | (simp [*] <;> omega) | fail) [S0.vlen, hlt']
 termination_by k
 decreasing_by omega
end Go.Proofs.YtghondlbkjponaaDoor.Zv

/- The search for regular graphs: both searches are one. -/
namespace Go.Proofs.YtghondlbkjponaaDoor.Zv
open Go
variable {nro : Nat}

theorem GV.put2 {n : Nat} {r : List Int} (g : GV n r) {v w : Nat} (hv : v < n) (hw : w < n) (hne : v ≠ w) : GV n (put2 r v w) := by
  have hlo := g.lo
  have R := g.rok
  have h := R.isAdj.put2 (a := (v : Int)) (b := (w : Int)) (by omega) (by omega) (by omega) (by omega) R.le
  simp only [Int.toNat_natCast] at h
  have R2 := R.put2 hv hw
  refine ⟨by omega, g.hi, by rw [h.1], fun x hx => ?_, fun x y hx hy => ?_⟩
  · rw [h.1] at hx
    obtain ⟨r1, r2⟩ := R2.row x hx
    refine ⟨r1, ?_, ?_⟩
    · have e : ((2 ^ n : Nat) : Int) = (2 : Int) ^ ((n : Int).toNat) := by simp
      rw [← e]; omega
    · have := (h.2 x hx).2.2 x
      cases hb : rbit (Zv.put2 r v w) x x
      · rfl
      · rcases this.mp hb with h1 | ⟨h1, h2⟩ | ⟨h1, h2⟩
        · exact absurd rfl (g.ne h1)
        · omega
        · omega
  · rw [h.1] at hx hy
    have a := (h.2 x hx).2.2 y
    have b := (h.2 y hy).2.2 x
    rw [Bool.eq_iff_iff, a, b]
    constructor
    · rintro (h1 | ⟨h1, h2⟩ | ⟨h1, h2⟩)
      · exact .inl (g.sym' h1)
      · exact .inr (.inr ⟨h2, h1⟩)
      · exact .inr (.inl ⟨h2, h1⟩)
    · rintro (h1 | ⟨h1, h2⟩ | ⟨h1, h2⟩)
      · exact .inl (g.sym' h1)
      · exact .inr (.inr ⟨h2, h1⟩)
      · exact .inr (.inl ⟨h2, h1⟩)
/-- An edge put in and taken out again. -/
theorem cut_put {n : Nat} {r : List Int} (g : GV n r) {v w : Nat} (hv : v < n) (hw : w < n) (hne : v ≠ w) (hb : rbit r v w = false) : cut2 (put2 r v w) v w = r ∧ rbit (put2 r v w) v w = true ∧ rbit (put2 r v w) w v = true := by
  have R := g.rok
  have h := R.isAdj.put2 (a := (v : Int)) (b := (w : Int)) (by omega) (by omega) (by omega) (by omega) R.le
  simp only [Int.toNat_natCast] at h
  have b1 : rbit (put2 r v w) v w = true := ((h.2 v hv).2.2 w).mpr (.inr (.inl ⟨rfl, rfl⟩))
  have b2 : rbit (put2 r v w) w v = true := ((h.2 w hw).2.2 v).mpr (.inr (.inr ⟨rfl, rfl⟩))
  refine ⟨?_, b1, b2⟩
  have h2 := h.cut2 (a := (v : Int)) (b := (w : Int)) (by omega) (by omega) (by omega) (by omega) (by omega) (.inr (.inl (by simp))) (.inr (.inr (by simp)))
  simp only [Int.toNat_natCast] at h2
  refine (h2.congr fun x y hx => ?_).unique R.isAdj
  constructor
  · rintro ⟨h3 | h3, h4⟩
    · exact h3
    · exact absurd h3 h4
  · intro h3
    refine ⟨.inl h3, ?_⟩
    rintro (⟨rfl, rfl⟩ | ⟨rfl, rfl⟩)
    · rw [hb] at h3; cases h3
    · rw [g.sym' h3] at hb; cases hb
/-- What the search leaves behind. -/
def lefto (r : List Int) (o : Option (List Int)) : List Int := o.getD r
@[simp] theorem lefto_some (r r' : List Int) : lefto r (some r') = r' := rfl
@[simp] theorem lefto_none (r : List Int) : lefto r none = r := rfl

end Go.Proofs.YtghondlbkjponaaDoor.Zv

/- Lists that are told by functions; sums. -/
namespace Go.Proofs.YtghondlbkjponaaDoor.Zv
open Go

/-- The list of a function's values. -/
def tbl (n : Nat) (g : Nat → Int) : List Int := (List.range n).map g
def upd (g : Nat → Int) (u : Nat) (x : Int) : Nat → Int := fun j => if j = u then x else g j
@[simp] theorem tbl_length (n : Nat) (g : Nat → Int) : (tbl n g).length = n := by simp [tbl]
theorem tbl_get {n : Nat} {g : Nat → Int} {i : Nat} (hi : i < (tbl n g).length) : (tbl n g)[i] = g i := by simp [tbl]
theorem tbl_getD {n : Nat} {g : Nat → Int} {i : Nat} (hi : i < n) : (tbl n g).getD i 0 = g i := by
  rw [List.getD_eq_getElem?_getD, List.getElem?_eq_getElem (by simpa using hi), tbl_get]; rfl
theorem tbl_set {n : Nat} {g : Nat → Int} {i : Nat} {x : Int} : (tbl n g).set i x = tbl n (upd g i x) := by
  apply List.ext_getElem
  · simp
  · intro j h1 h2
    simp only [List.getElem_set, tbl_get, upd]
    by_cases h : i = j
    · subst h; simp
    · rw [if_neg h, if_neg (fun e => h e.symm)]
theorem tbl_congr {n : Nat} {g g' : Nat → Int} (h : ∀ i, i < n → g i = g' i) : tbl n g = tbl n g' := by
  unfold tbl
  apply List.map_congr_left
  intro i hi
  exact h i (by simpa using hi)
theorem tbl_const (n : Nat) (x : Int) : tbl n (fun _ => x) = List.replicate n x := by
  apply List.ext_getElem <;> simp [tbl]
theorem tbl_snoc (n : Nat) (g : Nat → Int) : tbl n g ++ [g n] = tbl (n + 1) g := by simp [tbl, List.range_succ]
theorem upd_same (g : Nat → Int) (u : Nat) (x : Int) : upd g u x u = x := by simp [upd]
theorem upd_ne {g : Nat → Int} {u j : Nat} {x : Int} (h : j ≠ u) : upd g u x j = g j := by simp [upd, h]
theorem tbl_splice {n : Nat} {g : Nat → Int} {i : Nat} {x : Int} (hi : i < n) : splice i [.int .i64 x] (ints (tbl n g)) = ints (tbl n (upd g i x)) := by
  rw [splice_ints (by simpa using hi), tbl_set]

/-- A sum. -/
def sumF (f : Nat → Int) : Nat → Int
  | 0 => 0
  | k + 1 => sumF f k + f k
theorem sumF_congr {f g : Nat → Int} : ∀ {n : Nat}, (∀ i, i < n → f i = g i) → sumF f n = sumF g n
  | 0, _ => rfl
  | n + 1, h => by rw [sumF, sumF, sumF_congr (fun i hi => h i (by omega)), h n (by omega)]
theorem sumF_add (f g : Nat → Int) : ∀ n, sumF (fun i => f i + g i) n = sumF f n + sumF g n
  | 0 => rfl
  | n + 1 => by rw [sumF, sumF, sumF, sumF_add f g n]; omega
theorem sumF_zero : ∀ n, sumF (fun _ => 0) n = 0
  | 0 => rfl
  | n + 1 => by rw [sumF, sumF_zero n]; rfl
theorem sumF_one {f : Nat → Int} {k : Nat} : ∀ {n : Nat}, k < n → (∀ i, i < n → i ≠ k → f i = 0) → sumF f n = f k
  | 0, h, _ => by omega
  | n + 1, h, h0 => by
    rw [sumF]
    by_cases e : k = n
    · subst e
      have : sumF f k = sumF (fun _ => 0) k := sumF_congr fun i hi => h0 i (by omega) (by omega)
      rw [this, sumF_zero]; omega
    · rw [sumF_one (k := k) (n := n) (by omega) (fun i hi hne => h0 i (by omega) hne), h0 n (by omega) (fun e2 => e e2.symm)]; omega
theorem sumF_le {f g : Nat → Int} : ∀ {n : Nat}, (∀ i, i < n → f i ≤ g i) → sumF f n ≤ sumF g n
  | 0, _ => Int.le_refl _
  | n + 1, h => by
    have h1 := sumF_le (f := f) (g := g) (n := n) (fun i hi => h i (by omega))
    have h2 := h n (by omega)
    rw [sumF, sumF]; omega
end Go.Proofs.YtghondlbkjponaaDoor.Zv

/- The reference's search for distances: a queue. -/
namespace Go.Proofs.YtghondlbkjponaaDoor.Zv
open Go
variable {nro : Nat}

/-! ### the search, without memory -/
/-! ### the code -/
/-- The start. -/
def b0 (v : Nat) : (Nat → Int) × List Int := (upd (fun _ => -1) v 0, [(v : Int)])
end Go.Proofs.YtghondlbkjponaaDoor.Zv

/- Layers and walks count alike; the least length of a cycle with an edge, and how many there are. -/
namespace Go.Proofs.YtghondlbkjponaaDoor.Zv
open Go
variable {nro : Nat}

theorem far_of {rows : List Int} {n a : Nat} (R : Rok n rows) (ha : a < n) {y d : Nat} (h : Dst rows d a y) : far rows a y = d := by
  rcases far_dist R ha y with ⟨_, h2⟩ | ⟨e, h1, h2⟩
  · exact absurd h.1 (h2 d)
  · rw [h1, h2.unique h]

/-! ### the girth of the reference -/
end Go.Proofs.YtghondlbkjponaaDoor.Zv

/- The sums of powers, and the girth bound. -/
namespace Go.Proofs.YtghondlbkjponaaDoor.Zv
open Go
variable {nro : Nat}

/-- The powers, and their sums, as far as they are told. -/
def pw (q : Int) : Nat → Int
  | 0 => 1
  | i + 1 => min (pw q i * q) 1000000000001
def pS (q : Int) : Nat → Int
  | 0 => 0
  | i + 1 => min (pS q i + pw q i) 1000000000001
/-- The least number of vertices. -/
def gB (k : Int) (c : Nat) : Int := if c % 2 = 1 then 1 + k * pS (k - 1) ((c - 1) / 2) else 2 * pS (k - 1) (c / 2)
end Go.Proofs.YtghondlbkjponaaDoor.Zv

/- A regular graph without short cycles has many vertices. -/
namespace Go.Proofs.YtghondlbkjponaaDoor.Zv
open Go
open Classical

section
variable {n : Nat} {rows : List Int} (g : GV n rows)
include g

theorem cut_iff {p q : Nat} (h : rbit rows p q = true) (v w : Nat) : rbit (cut2 rows p q) v w = true ↔ rbit rows v w = true ∧ ¬ ((v = p ∧ w = q) ∨ (v = q ∧ w = p)) := by
  obtain ⟨h1, h2⟩ := rbit_lt g.rok h
  exact (cut_rok g h1 h2 h).2 v w
end

/-! ### counts -/
noncomputable def oneIf (p : Prop) : Int := if p then 1 else 0
theorem one_nonneg (p : Prop) : 0 ≤ oneIf p := by unfold oneIf; split <;> omega
theorem one_pos {p : Prop} (h : p) : oneIf p = 1 := if_pos h
theorem one_neg {p : Prop} (h : ¬ p) : oneIf p = 0 := if_neg h
theorem one_le (p : Prop) : oneIf p ≤ 1 := by unfold oneIf; split <;> omega
theorem one_imp {p q : Prop} (h : p → q) : oneIf p ≤ oneIf q := by
  by_cases hp : p
  · rw [one_pos hp, one_pos (h hp)]; omega
  · rw [one_neg hp]; exact one_nonneg q
theorem sumF_front (f : Nat → Int) : ∀ n, sumF f (n + 1) = f 0 + sumF (fun i => f (i + 1)) n
  | 0 => by simp [sumF]
  | n + 1 => by rw [sumF, sumF_front f n, sumF]; omega
theorem pc_sum : ∀ (n x : Nat), x < 2 ^ n → (pc x : Int) = sumF (fun i => oneIf (x.testBit i = true)) n
  | 0, x, h => by
    have : x = 0 := by omega
    subst this
    simp [sumF, pc_zero]
  | n + 1, x, h => by
    rw [sumF_front, pc_step]
    have h2 := pc_sum n (x / 2) (by rw [Nat.pow_succ] at h; omega)
    have e : sumF (fun i => oneIf (x.testBit (i + 1) = true)) n = sumF (fun i => oneIf ((x / 2).testBit i = true)) n := sumF_congr fun i _ => by rw [Nat.testBit_succ]
    rw [e, ← h2]
    have h3 : oneIf (x.testBit 0 = true) = ((x % 2 : Nat) : Int) := by
      rw [Nat.testBit_zero]
      rcases Nat.mod_two_eq_zero_or_one x with h | h <;> rw [h] <;> simp [oneIf]
    rw [h3]; omega
theorem deg_sum {n : Nat} {rows : List Int} (R : Rok n rows) {v : Nat} (hv : v < n) : (deg rows v : Int) = sumF (fun w => oneIf (rbit rows v w = true)) n := pc_sum n _ (R.row v hv).2
end Go.Proofs.YtghondlbkjponaaDoor.Zv

/- What the search finds is regular and has no short cycle. -/
namespace Go.Proofs.YtghondlbkjponaaDoor.Zv
open Go

section
variable {n : Nat} {r : List Int} (g : GV n r)
include g
theorem put_iff {v w : Nat} (hv : v < n) (hw : w < n) (x y : Nat) : rbit (put2 r v w) x y = true ↔ rbit r x y = true ∨ (x = v ∧ y = w) ∨ (x = w ∧ y = v) := by
  have R := g.rok
  have h := R.isAdj.put2 (a := (v : Int)) (b := (w : Int)) (by omega) (by omega) (by omega) (by omega) R.le
  simp only [Int.toNat_natCast] at h
  by_cases hx : x < n
  · rw [(h.2 x hx).2.2 y]
  · constructor
    · intro e; exact absurd (rbit_lt (R.put2 hv hw) e).1 hx
    · rintro (e | ⟨rfl, _⟩ | ⟨rfl, _⟩)
      · exact absurd (rbit_lt R e).1 hx
      · exact absurd hv hx
      · exact absurd hw hx
theorem deg_put {v w u : Nat} (hv : v < n) (hw : w < n) (h1 : u ≠ v) (h2 : u ≠ w) (hu : u < n) : deg (put2 r v w) u = deg r u := by
  have R2 := g.rok.put2 hv hw
  have e : (deg (put2 r v w) u : Int) = deg r u := by
    rw [deg_sum R2 hu, deg_sum g.rok hu]
    refine sumF_congr fun y _ => ?_
    have := put_iff g hv hw u y
    have e : rbit (put2 r v w) u y = rbit r u y := by
      rw [Bool.eq_iff_iff, this]
      constructor
      · rintro (h | ⟨h, _⟩ | ⟨h, _⟩)
        · exact h
        · exact absurd h h1
        · exact absurd h h2
      · exact .inl
    rw [e]
  omega
theorem deg_put1 {v w : Nat} (hv : v < n) (hw : w < n) (hne : v ≠ w) (hb : rbit r v w = false) : deg (put2 r v w) v = deg r v + 1 ∧ deg (put2 r v w) w = deg r w + 1 := by
  have R2 := g.rok.put2 hv hw
  have one : ∀ a b, a < n → b < n → rbit r a b = false → (∀ y, rbit (put2 r v w) a y = true ↔ rbit r a y = true ∨ y = b) → (deg (put2 r v w) a : Int) = deg r a + 1 := by
    intro a b ha hbn hab e
    rw [deg_sum R2 ha, deg_sum g.rok ha]
    have h1 : sumF (fun y => oneIf (rbit (put2 r v w) a y = true)) n = sumF (fun y => oneIf (rbit r a y = true) + oneIf (y = b)) n := sumF_congr fun y _ => by
      have ey := e y
      by_cases h1 : rbit r a y = true
      · have h2 : ¬ y = b := by rintro rfl; rw [hab] at h1; cases h1
        rw [one_pos h1, one_neg h2, one_pos (ey.mpr (.inl h1))]; omega
      · by_cases h2 : y = b
        · rw [one_neg h1, one_pos h2, one_pos (ey.mpr (.inr h2))]; omega
        · rw [one_neg h1, one_neg h2, one_neg (fun e => (ey.mp e).elim h1 h2)]; omega
    rw [h1, sumF_add, sumF_one (f := fun y => oneIf (y = b)) hbn fun i _ hne => one_neg hne, one_pos rfl]
  have a1 := one v w hv hw hb fun y => by
    rw [put_iff g hv hw]
    constructor
    · rintro (h | ⟨_, h⟩ | ⟨h, _⟩)
      · exact .inl h
      · exact .inr h
      · exact absurd h hne
    · rintro (h | h)
      · exact .inl h
      · exact .inr (.inl ⟨rfl, h⟩)
  have hb2 : rbit r w v = false := by
    cases h : rbit r w v
    · rfl
    · rw [g.sym' h] at hb; cases hb
  have a2 := one w v hw hv hb2 fun y => by
    rw [put_iff g hv hw]
    constructor
    · rintro (h | ⟨h, _⟩ | ⟨_, h⟩)
      · exact .inl h
      · exact absurd h.symm hne
      · exact .inr h
    · rintro (h | h)
      · exact .inl h
      · exact .inr (.inr ⟨rfl, h⟩)
  omega

omit g in
theorem mayB_iff {k c : Int} {v w : Nat} : mayB r k c v w = true ↔ rbit r v w = false ∧ (deg r v : Int) < k ∧ (deg r w : Int) < k ∧ (far r v w < 0 ∨ c ≤ far r v w + 1) := by
  unfold mayB
  cases h : rbit r v w <;> simp <;> omega

/-- Walks with one more edge. -/
theorem walk_put {v w : Nat} (hv : v < n) (hw : w < n) {a b : Nat} (hab : rbit r a b = true) (gq : GV n (put2 r v w)) : ∀ (k x : Nat), Wk (cut2 (put2 r v w) a b) k a x →
    (∃ e, e ≤ k ∧ Wk (cut2 r a b) e a x) ∨ ∃ i j, i + j + 1 ≤ k ∧ ((Wk (cut2 r a b) i a v ∧ Wk (cut2 r a b) j w x) ∨ (Wk (cut2 r a b) i a w ∧ Wk (cut2 r a b) j v x))
  | 0, x, h => .inl ⟨0, Nat.le_refl _, h⟩
  | k + 1, y, h => by
    obtain ⟨x, h1, h2⟩ := h
    have hab' : rbit (put2 r v w) a b = true := (put_iff g hv hw a b).mpr (.inl hab)
    rw [cut_iff gq hab', put_iff g hv hw] at h2
    have ih := walk_put hv hw hab gq k x h1
    obtain ⟨h3 | ⟨rfl, rfl⟩ | ⟨rfl, rfl⟩, h4⟩ := h2
    · have h5 : rbit (cut2 r a b) x y = true := (cut_iff g hab x y).mpr ⟨h3, h4⟩
      rcases ih with ⟨e, i1, i2⟩ | ⟨i, j, i1, ⟨i2, i3⟩ | ⟨i2, i3⟩⟩
      · exact .inl ⟨e + 1, by omega, x, i2, h5⟩
      · exact .inr ⟨i, j + 1, by omega, .inl ⟨i2, x, i3, h5⟩⟩
      · exact .inr ⟨i, j + 1, by omega, .inr ⟨i2, x, i3, h5⟩⟩
    · rcases ih with ⟨e, i1, i2⟩ | ⟨i, j, i1, ⟨i2, i3⟩ | ⟨i2, i3⟩⟩
      · exact .inr ⟨e, 0, by omega, .inl ⟨i2, rfl⟩⟩
      · exact .inr ⟨i, 0, by omega, .inl ⟨i2, rfl⟩⟩
      · exact .inl ⟨i, by omega, i2⟩
    · rcases ih with ⟨e, i1, i2⟩ | ⟨i, j, i1, ⟨i2, i3⟩ | ⟨i2, i3⟩⟩
      · exact .inr ⟨e, 0, by omega, .inr ⟨i2, rfl⟩⟩
      · exact .inl ⟨i, by omega, i2⟩
      · exact .inr ⟨i, 0, by omega, .inr ⟨i2, rfl⟩⟩

omit g in
theorem Wk.mono {rows rows' : List Int} (h : ∀ x y, rbit rows x y = true → rbit rows' x y = true) : ∀ {k a b : Nat}, Wk rows k a b → Wk rows' k a b
  | 0, _, _, e => e
  | _ + 1, _, _, ⟨c, h1, h2⟩ => ⟨c, Wk.mono h h1, h _ _ h2⟩

/-- An edge that may be put in leaves the graph without short cycles. -/
theorem fits_put {k c : Int} {v w : Nat} (hv : v < n) (hw : w < n) (hne : v ≠ w) (hm : mayB r k c v w = true) (hf : FitsP r n k c) : FitsP (put2 r v w) n k c := by
  obtain ⟨m1, m2, m3, m4⟩ := mayB_iff.mp hm
  have gq := g.put2 hv hw hne
  obtain ⟨d1, d2⟩ := deg_put1 g hv hw hne m1
  refine ⟨fun u hu => ?_, fun a b hab => ?_⟩
  · by_cases h1 : u = v
    · subst h1; omega
    · by_cases h2 : u = w
      · subst h2; omega
      · rw [deg_put g hv hw h1 h2 hu]; exact hf.1 u hu
  · obtain ⟨c1, c2, c3⟩ := cut_put g hv hw hne m1
    have key : arF (put2 r v w) v w ≤ 0 ∨ c ≤ arF (put2 r v w) v w := by
      unfold arF
      rw [c1]; omega
    rcases (put_iff g hv hw a b).mp hab with h | ⟨rfl, rfl⟩ | ⟨rfl, rfl⟩
    · obtain ⟨ha, hb⟩ := rbit_lt g.rok h
      have hRq := (cut_rok gq ha hb hab).1
      have hR := (cut_rok g ha hb h).1
      unfold arF
      rcases far_dist hRq ha b with ⟨e, _⟩ | ⟨d, e, hd⟩
      · omega
      · right
        rw [e]
        have sub : ∀ x y, rbit (cut2 r a b) x y = true → rbit r x y = true := fun x y h2 => ((cut_iff g h x y).mp h2).1
        have fin : ∀ k', Wk r k' v w → c ≤ k' + 1 := by
          intro k' hw2
          obtain ⟨d', h1, h2⟩ := Wk.dst k' hw2
          have := far_of g.rok hv h2
          omega
        rcases walk_put g hv hw h gq d b hd.1 with ⟨e2, i1, i2⟩ | ⟨i, j, i1, ⟨i2, i3⟩ | ⟨i2, i3⟩⟩
        · obtain ⟨d', h1, h2⟩ := Wk.dst e2 i2
          have h3 := far_of hR ha h2
          have h4 := hf.2 a b h
          unfold arF at h4
          omega
        · have s2 := Wk.symm (fun _ _ => g.sym') _ _ _ (i2.mono sub)
          have s3 : Wk r 1 a b := ⟨a, rfl, h⟩
          have s4 := (s2.comp 1 b s3).comp j w (Wk.symm (fun _ _ => g.sym') _ _ _ (i3.mono sub))
          have := fin _ s4
          omega
        · have s2 := i3.mono sub
          have s3 : Wk r 1 b a := ⟨b, rfl, g.sym' h⟩
          have s4 := (s2.comp 1 a s3).comp i w (i2.mono sub)
          have := fin _ s4
          omega
    · exact key
    · rw [arF_symm gq hab]; exact key
end

end Go.Proofs.YtghondlbkjponaaDoor.Zv

/- The first cage graph: the program's and the reference's answers. -/
namespace Go.Proofs.YtghondlbkjponaaDoor.Zv
open Go
variable {nro : Nat}

theorem GV.zero {n : Nat} (h1 : 1 ≤ n) (h2 : n ≤ 62) : GV n (List.replicate n 0) := by
  have hr : ∀ v w, rbit (List.replicate n 0) v w = false := fun v w => by
    unfold rbit
    rw [List.getD_eq_getElem?_getD, List.getElem?_replicate]
    split <;> simp
  refine ⟨by omega, by omega, by simp, fun v hv => ⟨?_, ?_, hr v v⟩, fun v w _ _ => by rw [hr, hr]⟩
  · rw [List.getD_eq_getElem?_getD, List.getElem?_replicate]; split <;> simp
  · rw [List.getD_eq_getElem?_getD, List.getElem?_replicate]
    have : (0 : Int) < 2 ^ n := Int.pow_pos (by omega)
    split <;> simpa using this
/-- Why there is none: the reference's reasons, the program's. -/
def prS (n : Nat) (k c : Int) : Prop := (n * k) % 2 ≠ 0 ∨ n ≤ k ∨ (1 < k ∧ n < c)
def prI (n : Nat) (k c : Int) : Prop := (n * k) % 2 ≠ 0 ∨ n ≤ k ∨ (2 ≤ k ∧ n < gB k c.toNat)
instance (n : Nat) (k c : Int) : Decidable (prS n k c) := by unfold prS; infer_instance
instance (n : Nat) (k c : Int) : Decidable (prI n k c) := by unfold prI; infer_instance

end Go.Proofs.YtghondlbkjponaaDoor.Zv

/- Draws of graphs: graphs of so many vertices. -/
namespace Go.Proofs.YtghondlbkjponaaDoor.Zv
open Go
variable {nro : Nat}
theorem cleanup_one_upd {h h' L : VH} {v : Value} {k : Nat} {o : VO} (hu : Upd h h') (hv : trefs v = [h.length + k]) (hk : L[k]? = some o) (hf : flatO h.length o) :
    kclean h [v] (h' ++ L) = ([tren (renOf h.length [h.length + k]) v], h' ++ [o]) := by
  have e : keepL h.length [v] = [h.length + k] := by
    unfold keepL
    simp [hv, dedup]
  have hl : h'.length = h.length := hu.1
  have hg : (h' ++ L)[h.length + k]? = some o := by rw [← hl, hgetk]; exact hk
  have htake : (h' ++ L).take h.length = h' := by rw [← hl]; simp
  have hc : okT h.length h ((h' ++ L).take h.length) ∧ flatL h.length [h.length + k] (h' ++ L) := by
    refine ⟨by rw [htake]; exact hu.2, fun i hi => ⟨o, ?_, hf⟩⟩
    simp only [List.mem_singleton] at hi
    rw [hi]; exact hg
  unfold kclean cleanup
  rw [e, if_pos hc, htake]
  simp [hg]
theorem hgetS (H L : VH) (b : Nat) (o : VO) (k : Nat) : (H.set b o ++ L)[H.length + k]? = L[k]? := by
  rw [show H.length = (H.set b o).length by simp, hgetk]
theorem hsetS (H L : VH) (b : Nat) (o : VO) (k : Nat) (p : VO) : (H.set b o ++ L).set (H.length + k) p = H.set b o ++ L.set k p := by
  rw [show H.length = (H.set b o).length by simp, hsetk]
theorem hgetS0 (H L : VH) (b : Nat) (o : VO) : (H.set b o ++ L)[H.length]? = L[0]? := hgetS H L b o 0
theorem hsetS0 (H L : VH) (b : Nat) (o : VO) (p : VO) : (H.set b o ++ L).set H.length p = H.set b o ++ L.set 0 p := hsetS H L b o 0 p
section
variable {H : VH} {b : Nat} {cd : Value} {xs : List Int} {s : SS} (S : Srce nro H b cd xs s)
include S

/-- The heap while a graph is drawn. -/
def dgH (H : VH) (b : Nat) (cd : Value) (A B C : VO) (s : SS) (r : List Int) : VH := H.set b (srcO cd s) ++ [A, ⟨1, ints r⟩, B, C]
theorem dg_upd (A B C : VO) (s0 s1 : SS) (r0 r1 : List Int) : Upd (dgH H b cd A B C s0 r0) (dgH H b cd A B C s1 r1) := by
  have hlt := S.lt
  have hself : H.set b (srcO cd s) = H := hset_self S.at'
  have ho : Old H.length cd := by
    have := (S.sl (srcO cd s)).old
    rwa [hself] at this
  have h1 := ((Upd.rfl' (dgH H b cd A B C s0 r0)).set' (b := b) (o := srcO cd s1) (flatO_src (ho.le (by simp [dgH])) _)).set' (b := H.length + 1) (o := ⟨1, ints r1⟩) (flatO_ints _ _ _)
  have e : ((dgH H b cd A B C s0 r0).set b (srcO cd s1)).set (H.length + 1) ⟨1, ints r1⟩ = dgH H b cd A B C s1 r1 := by
    unfold dgH
    rw [List.set_append_left _ _ (by simpa using hlt), List.set_set, show H.length + 1 = (H.set b (srcO cd s1)).length + 1 by simp, hsetk]
    rfl
  rwa [e] at h1
theorem dg_clean {A B C : VO} {s0 s1 : SS} {r0 r1 : List Int} {vs : List Value} (hv : ∀ v ∈ vs, Old (H.length + 4) v) : kclean (dgH H b cd A B C s0 r0) vs (dgH H b cd A B C s1 r1) = (vs, dgH H b cd A B C s1 r1) := by
  have := cleanup_upd (L := []) (dg_upd S A B C s0 s1 r0 r1) (vs := vs) (fun v h => by simpa [dgH] using hv v h)
  rwa [List.append_nil] at this
theorem dg_next {A B C : VO} {s1 : SS} (h : SOK xs s1) (r : List Int) (n : Int) (h1 : n ≤ 9223372036854775807) : vcall F nro k_spec_l01Next [.pointer (some ⟨b, 0, some 3⟩), .int .i64 n] (dgH H b cd A B C s1 r) = some (.int .i64 (srcN xs s1 n), dgH H b cd A B C (srcS xs s1 n) r) := S.nextA h _ n h1
theorem dg_put {A B C : VO} {s1 : SS} {N : Nat} {r : List Int} (hl : r.length = N) (hN : N ≤ 62) (v w : Nat) (hv : v < N) (hw : w < N) :
    vcall F nro k_spec_l01Put [gv N (.slice (some ⟨H.length + 1, 0, none⟩) N N), .int .i64 v, .int .i64 w] (dgH H b cd A B C s1 r) = some (.tuple #[], dgH H b cd A B C s1 (put2 r v w)) := by
  have hn := S.nr
  have hlt := S.lt
  have hg : (dgH H b cd A B C s1 r)[H.length + 1]? = some ⟨1, ints r⟩ := by
    unfold dgH
    rw [show H.length + 1 = (H.set b (srcO cd s1)).length + 1 by simp, hgetk]; rfl
  rw [c_spec_l01Put (nro := nro) N (H.length + 1) N v w r _ hg hl (by omega) (by omega) (by omega) (by omega) (by omega) hN]
  unfold dgH
  rw [show H.length + 1 = (H.set b (srcO cd s1)).length + 1 by simp, hsetk]; rfl

theorem l_l01DrawOf_1 {A B : VO} (s0 : SS) (o0 : SOK xs s0) (N : Nat) (h62 : N ≤ 62) (r0 : List Int) (g0 : GV N r0) (few : Int) (v : Nat) (hv : v < N) :
    ∃ s1 r1, SOK xs s1 ∧ GV N r1 ∧ floop (vcall F nro) nro [0, 1, 4, 5, 6, 7, 8] i_spec_l01DrawOf_B1 (dgH H b cd A B ⟨0, [.int .i64 N, .slice (some ⟨H.length + 1, 0, none⟩) N N]⟩ s0 r0) [.pointer (some ⟨b, 0, some 3⟩), .int .i64 N, .pointer (some ⟨H.length, 0, some 2⟩), .pointer (some ⟨H.length + 3, 0, some 2⟩), .int .i64 few, .int .i64 v, .int .i64 0] (dgH H b cd A B ⟨0, [.int .i64 N, .slice (some ⟨H.length + 1, 0, none⟩) N N]⟩ s0 r0) =
      some (.exit 2, fl [(0, .pointer (some ⟨b, 0, some 3⟩)), (1, .int .i64 N), (4, .pointer (some ⟨H.length, 0, some 2⟩)), (5, .pointer (some ⟨H.length + 3, 0, some 2⟩)), (6, .int .i64 few), (7, .int .i64 v)], dgH H b cd A B ⟨0, [.int .i64 N, .slice (some ⟨H.length + 1, 0, none⟩) N N]⟩ s1 r1) := by
  have hlt := S.lt
  refine Exists.elim (for_upR (call := vcall F nro) (nro := nro) (live := [0, 1, 4, 5, 6, 7, 8]) (c := i_spec_l01DrawOf_B1) (h0 := dgH H b cd A B ⟨0, [.int .i64 N, .slice (some ⟨H.length + 1, 0, none⟩) N N]⟩ s0 r0) (n := v) (fun w (_ : SS × List Int) => [.pointer (some ⟨b, 0, some 3⟩), .int .i64 N, .pointer (some ⟨H.length, 0, some 2⟩), .pointer (some ⟨H.length + 3, 0, some 2⟩), .int .i64 few, .int .i64 v, .int .i64 w]) (fun _ p => dgH H b cd A B ⟨0, [.int .i64 N, .slice (some ⟨H.length + 1, 0, none⟩) N N]⟩ p.1 p.2)
    (fun _ p => SOK xs p.1 ∧ GV N p.2) (fun p => some (.exit 2, fl [(0, .pointer (some ⟨b, 0, some 3⟩)), (1, .int .i64 N), (4, .pointer (some ⟨H.length, 0, some 2⟩)), (5, .pointer (some ⟨H.length + 3, 0, some 2⟩)), (6, .int .i64 few), (7, .int .i64 v)], dgH H b cd A B ⟨0, [.int .i64 N, .slice (some ⟨H.length + 1, 0, none⟩) N N]⟩ p.1 p.2)) ?_ ?_ 0 (s0, r0) (Nat.zero_le _) ⟨o0, g0⟩) ?_
  · rintro w ⟨s1, r1⟩ hw hw2 ⟨o1, g1⟩
    dsimp only at o1 g1 ⊢
    have e1 := dg_next (nro := nro) S (A := A) (B := B) (C := ⟨0, [.int .i64 N, .slice (some ⟨H.length + 1, 0, none⟩) N N]⟩) o1 r1 N (by omega)
    have o2 := srcS_ok o1 (N : Int)
    obtain ⟨x, hx⟩ : ∃ x, x = srcN xs s1 N := ⟨_, rfl⟩
    obtain ⟨s2, hs2⟩ : ∃ q, q = srcS xs s1 N := ⟨_, rfl⟩
    rw [← hx, ← hs2] at e1
    rw [← hs2] at o2
    have w1 : IntKind.i64.wrap ((w : Int) + 1) = (w : Int) + 1 := wrap64 (by omega) (by omega)
    have hcl := fun (r : List Int) (vs : List Value) => dg_clean S (A := A) (B := B) (C := ⟨0, [.int .i64 N, .slice (some ⟨H.length + 1, 0, none⟩) N N]⟩) (s0 := s0) (s1 := s2) (r0 := r0) (r1 := r) (vs := vs)
    have hg5 : ∀ (s1 : SS) (r : List Int), (dgH H b cd A B ⟨0, [.int .i64 N, .slice (some ⟨H.length + 1, 0, none⟩) N N]⟩ s1 r)[H.length + 3]? = some ⟨0, [.int .i64 N, .slice (some ⟨H.length + 1, 0, none⟩) N N]⟩ := fun s1 r => by
      unfold dgH
      rw [show H.length + 3 = (H.set b (srcO cd s1)).length + 3 by simp, hgetk]; rfl
    have hlen : (dgH H b cd A B ⟨0, [.int .i64 N, .slice (some ⟨H.length + 1, 0, none⟩) N N]⟩ s0 r0).length = H.length + 4 := by simp [dgH]
    have hb4 : b < H.length + 4 := by omega
    by_cases c : x < few
    · have e2 := dg_put (nro := nro) S (A := A) (B := B) (C := ⟨0, [.int .i64 N, .slice (some ⟨H.length + 1, 0, none⟩) N N]⟩) (s1 := s2) g1.rok.len h62 v w hv (by omega)
      have g2 := g1.put2 hv (show w < N by omega) (by omega)
      refine ⟨(s2, put2 r1 v w), ⟨o2, g2⟩, ?_⟩
      obtain ⟨r2, hr2⟩ : ∃ r, r = put2 r1 v w := ⟨_, rfl⟩
      rw [← hr2] at e2 ⊢
      clear hx hs2 hr2 g1 g2 g0 S
      rw [floop_at i_spec_l01DrawOf_B1.eq_1]
      simp (disch := first | assumption | omega | (simp [*] <;> omega) | fail) [-getElem?_pos, List.getElem?_cons_zero, List.getElem?_cons_succ, hw, hw2, e1, e2, c, w1, hcl, hg5, hlen, hb4]
    · refine ⟨(s2, r1), ⟨o2, g1⟩, ?_⟩
      clear hx hs2 g1 g0 S
      rw [floop_at i_spec_l01DrawOf_B1.eq_1]
      simp (disch := first | assumption | omega | (simp [*] <;> omega) | fail) [-getElem?_pos, List.getElem?_cons_zero, List.getElem?_cons_succ, hw, hw2, e1, c, w1, hcl, hg5, hlen, hb4]
  · rintro ⟨s1, r1⟩ _
    have hlen : (dgH H b cd A B ⟨0, [.int .i64 N, .slice (some ⟨H.length + 1, 0, none⟩) N N]⟩ s0 r0).length = H.length + 4 := by simp [dgH]
    rw [floop_at i_spec_l01DrawOf_B1.eq_1]
    simp (disch := first | assumption | omega | (simp [*] <;> omega) | fail) [-getElem?_pos, List.getElem?_cons_zero, List.getElem?_cons_succ, hlen]
  · rintro ⟨s1, r1⟩ ⟨⟨o1, g1⟩, hf⟩
    exact ⟨s1, r1, o1, g1, hf⟩

theorem l_l01DrawOf_2 {A B : VO} (s0 : SS) (o0 : SOK xs s0) (N : Nat) (h62 : N ≤ 62) (r0 : List Int) (g0 : GV N r0) (few : Int) :
    ∃ s1 r1, SOK xs s1 ∧ GV N r1 ∧ floop (vcall F nro) nro [0, 1, 4, 5, 6, 7] i_spec_l01DrawOf_B2 (dgH H b cd A B ⟨0, [.int .i64 N, .slice (some ⟨H.length + 1, 0, none⟩) N N]⟩ s0 r0) [.pointer (some ⟨b, 0, some 3⟩), .int .i64 N, .pointer (some ⟨H.length, 0, some 2⟩), .pointer (some ⟨H.length + 3, 0, some 2⟩), .int .i64 few, .int .i64 0] (dgH H b cd A B ⟨0, [.int .i64 N, .slice (some ⟨H.length + 1, 0, none⟩) N N]⟩ s0 r0) =
      some (.exit 0, fl [(4, .pointer (some ⟨H.length, 0, some 2⟩)), (5, .pointer (some ⟨H.length + 3, 0, some 2⟩))], dgH H b cd A B ⟨0, [.int .i64 N, .slice (some ⟨H.length + 1, 0, none⟩) N N]⟩ s1 r1) := by
  have hlt := S.lt
  refine Exists.elim (for_upR (call := vcall F nro) (nro := nro) (live := [0, 1, 4, 5, 6, 7]) (c := i_spec_l01DrawOf_B2) (h0 := dgH H b cd A B ⟨0, [.int .i64 N, .slice (some ⟨H.length + 1, 0, none⟩) N N]⟩ s0 r0) (n := N) (fun v (_ : SS × List Int) => [.pointer (some ⟨b, 0, some 3⟩), .int .i64 N, .pointer (some ⟨H.length, 0, some 2⟩), .pointer (some ⟨H.length + 3, 0, some 2⟩), .int .i64 few, .int .i64 v]) (fun _ p => dgH H b cd A B ⟨0, [.int .i64 N, .slice (some ⟨H.length + 1, 0, none⟩) N N]⟩ p.1 p.2)
    (fun _ p => SOK xs p.1 ∧ GV N p.2) (fun p => some (.exit 0, fl [(4, .pointer (some ⟨H.length, 0, some 2⟩)), (5, .pointer (some ⟨H.length + 3, 0, some 2⟩))], dgH H b cd A B ⟨0, [.int .i64 N, .slice (some ⟨H.length + 1, 0, none⟩) N N]⟩ p.1 p.2)) ?_ ?_ 0 (s0, r0) (Nat.zero_le _) ⟨o0, g0⟩) ?_
  · rintro v ⟨s1, r1⟩ hv hv2 ⟨o1, g1⟩
    dsimp only at o1 g1 ⊢
    obtain ⟨s2, r2, o2, g2, lp⟩ := l_l01DrawOf_1 (nro := nro) S (A := A) (B := B) s1 o1 N h62 r1 g1 few v hv
    have w1 : IntKind.i64.wrap ((v : Int) + 1) = (v : Int) + 1 := wrap64 (by omega) (by omega)
    have hcl := fun (vs : List Value) => dg_clean S (A := A) (B := B) (C := ⟨0, [.int .i64 N, .slice (some ⟨H.length + 1, 0, none⟩) N N]⟩) (s0 := s0) (s1 := s2) (r0 := r0) (r1 := r2) (vs := vs)
    have hlen : ∀ s r, (dgH H b cd A B ⟨0, [.int .i64 N, .slice (some ⟨H.length + 1, 0, none⟩) N N]⟩ s r).length = H.length + 4 := fun s r => by simp [dgH]
    have hb4 : b < H.length + 4 := by omega
    refine ⟨(s2, r2), ⟨o2, g2⟩, ?_⟩
    clear g1 g2 g0 S
    rw [floop_at i_spec_l01DrawOf_B2.eq_1]
    simp (disch := first | assumption | omega | (simp [*] <;> omega) | fail) [-getElem?_pos, List.getElem?_cons_zero, List.getElem?_cons_succ, hv, hv2, lp, w1, hcl, hlen, hb4]
  · rintro ⟨s1, r1⟩ _
    have hlen : (dgH H b cd A B ⟨0, [.int .i64 N, .slice (some ⟨H.length + 1, 0, none⟩) N N]⟩ s0 r0).length = H.length + 4 := by simp [dgH]
    rw [floop_at i_spec_l01DrawOf_B2.eq_1]
    simp (disch := first | assumption | omega | (simp [*] <;> omega) | fail) [-getElem?_pos, List.getElem?_cons_zero, List.getElem?_cons_succ, hlen]
  · rintro ⟨s1, r1⟩ ⟨⟨o1, g1⟩, hf⟩
    exact ⟨s1, r1, o1, g1, hf⟩

/-- A drawn graph of n vertices. -/
theorem c_spec_l01DrawOf (N : Nat) (h1 : 1 ≤ N) (h62 : N ≤ 62) : ∃ rows s', SOK xs s' ∧ GV N rows ∧
    vcall F nro k_spec_l01DrawOf [.pointer (some ⟨b, 0, some 3⟩), .int .i64 N] H = some (gv N (.slice (some ⟨H.length, 0, none⟩) N N), H.set b (srcO cd s') ++ [⟨1, ints rows⟩]) := by
  have hlt := S.lt
  have hnb := S.nr
  have hn : nro ≤ H.length := by omega
  have hn' := fun k => Nat.le_trans hn (Nat.le_add_right H.length k)
  have hself : H.set b (srcO cd s) = H := hset_self S.at'
  have he := c_spec_l01Empty (nro := nro) N (H ++ [⟨0, [.int .i64 0, .slice none 0 0]⟩]) (by omega) (by omega) (by simp; omega)
  rw [Int.toNat_natCast] at he
  have o1 := srcS_ok S.ok ((5 : Nat) : Int)
  have e2 := S.pickA S.ok [⟨0, [.int .i64 0, .slice none 0 0]⟩, ⟨1, ints (List.replicate N 0)⟩, ⟨1, ints [1, 2, 3, 4, (N : Int)]⟩] 2 5 [1, 2, 3, 4, (N : Int)] rfl rfl (by omega) (by omega)
  obtain ⟨few, hfew⟩ : ∃ x, x = [1, 2, 3, 4, (N : Int)].getD (srcN xs s ((5 : Nat) : Int)).toNat 0 := ⟨_, rfl⟩
  obtain ⟨s1, hs1⟩ : ∃ q, q = srcS xs s ((5 : Nat) : Int) := ⟨_, rfl⟩
  rw [← hfew, ← hs1, hself] at e2
  rw [← hs1] at o1
  obtain ⟨s2, r2, o2, g2, lp⟩ := l_l01DrawOf_2 (nro := nro) S (A := ⟨0, [.int .i64 0, .slice none 0 0]⟩) (B := ⟨1, ints [1, 2, 3, 4, (N : Int)]⟩) s1 o1 N h62 (List.replicate N 0) (GV.zero h1 h62) few
  refine ⟨r2, s2, o2, g2, ?_⟩
  have hl2 := g2.rok.len
  have ho : Old H.length cd := by
    have := (S.sl (srcO cd s)).old
    rwa [hself] at this
  have hcl : ∀ (L : VH), L[1]? = some ⟨1, ints r2⟩ → kclean H [.agg #[.int .i64 N, .slice (some ⟨H.length + 1, 0, none⟩) N N]] (H.set b (srcO cd s2) ++ L) = ([.agg #[.int .i64 N, .slice (some ⟨H.length, 0, none⟩) N N]], H.set b (srcO cd s2) ++ [⟨1, ints r2⟩]) := fun L hL => by
    rw [cleanup_one_upd (k := 1) (o := ⟨1, ints r2⟩) ((Upd.rfl' H).set' (b := b) (flatO_src ho s2)) (by simp [trefs, vrefs, crefs, arefs]) hL (flatO_ints _ _ _)]
    simp [tren, vren, cren, aren, renOf_one]
  refine v_spec_l01DrawOf (by simp [i_spec_l01DrawOf]) ?_
  rw [fbody_eq]
  unfold dgH at lp
  have hi5 : ints [1, 2, 3, 4, (N : Int)] = [.int .i64 1, .int .i64 2, .int .i64 3, .int .i64 4, .int .i64 N] := rfl
  rw [hi5] at e2 lp
  simp [-List.reduceReplicate] at he lp
  clear hfew hs1 g2 hi5 hself o1 o2 hl2 hnb
  simp (disch := first | assumption | omega | (simp [*] <;> omega) | fail) [-getElem?_pos, List.getElem?_cons_zero, List.getElem?_cons_succ, i_spec_l01DrawOf, fresults, fresL, fres1, he, e2, lp, hgetS, hsetS, hgetS0, hsetS0, hcl, hn, hn']
end
end Go.Proofs.YtghondlbkjponaaDoor.Zv

/- Graphs made edge by edge: jump graphs, renumbered graphs. -/
namespace Go.Proofs.YtghondlbkjponaaDoor.Zv
open Go
variable {nro : Nat}

/-- An edge put in a graph in the making. -/
theorem mk_put {P C : VH} {N : Nat} {r : List Int} (hn : nro ≤ P.length) (hl : r.length = N) (hN : N ≤ 62) (v w : Nat) (hv : v < N) (hw : w < N) :
    vcall F nro k_spec_l01Put [gv N (.slice (some ⟨P.length, 0, none⟩) N N), .int .i64 v, .int .i64 w] (P ++ ⟨1, ints r⟩ :: C) = some (.tuple #[], P ++ ⟨1, ints (put2 r v w)⟩ :: C) := by
  rw [c_spec_l01Put (nro := nro) N P.length N v w r _ (by rw [hget0]; rfl) hl hn (by omega) (by omega) (by omega) (by omega) hN, hset0]
  rfl
theorem mk_upd (P C : VH) (r0 r1 : List Int) : Upd (P ++ ⟨1, ints r0⟩ :: C) (P ++ ⟨1, ints r1⟩ :: C) := by
  have h1 := (Upd.rfl' (P ++ ⟨1, ints r0⟩ :: C)).set' (b := P.length) (o := ⟨1, ints r1⟩) (flatO_ints _ _ _)
  rwa [hset0] at h1
theorem mk_clean {P C : VH} {r0 r1 : List Int} {vs : List Value} (hv : ∀ v ∈ vs, Old (P ++ ⟨1, ints r0⟩ :: C).length v) : kclean (P ++ ⟨1, ints r0⟩ :: C) vs (P ++ ⟨1, ints r1⟩ :: C) = (vs, P ++ ⟨1, ints r1⟩ :: C) := by
  have := cleanup_upd (L := []) (mk_upd P C r0 r1) (vs := vs) hv
  rwa [List.append_nil] at this

theorem l_l01Jumps (h : VH) (t : Value) (js : List Int) (ht : Sli h t js) (hn : nro ≤ h.length) (N : Nat) (h3 : 3 ≤ N) (h62 : N ≤ 62) (hj : ∀ x ∈ js, 1 ≤ x ∧ x < N) (hjl : js.length ≤ 100) (r0 : List Int) (g0 : GV N r0) :
    ∃ r1, GV N r1 ∧ floop (vcall F nro) nro [0, 1, 4, 5, 6] i_spec_l01Jumps_B1 (h ++ [⟨0, [.int .i64 0, .slice none 0 0]⟩, ⟨1, ints r0⟩, ⟨0, [.int .i64 N, .slice (some ⟨h.length + 1, 0, none⟩) N N]⟩]) [.int .i64 N, t, .pointer (some ⟨h.length, 0, some 2⟩), .pointer (some ⟨h.length + 2, 0, some 2⟩), .int .i64 0] (h ++ [⟨0, [.int .i64 0, .slice none 0 0]⟩, ⟨1, ints r0⟩, ⟨0, [.int .i64 N, .slice (some ⟨h.length + 1, 0, none⟩) N N]⟩]) =
      some (.exit 0, fl [(4, .pointer (some ⟨h.length, 0, some 2⟩)), (5, .pointer (some ⟨h.length + 2, 0, some 2⟩))], h ++ [⟨0, [.int .i64 0, .slice none 0 0]⟩, ⟨1, ints r1⟩, ⟨0, [.int .i64 N, .slice (some ⟨h.length + 1, 0, none⟩) N N]⟩]) := by
  have hto : ∀ k, Old (h.length + k) t := fun k => ht.oldk (k := k)
  have e0 := fun L => ht.vlen' (L := L)
  refine Exists.elim (for_upR (call := vcall F nro) (nro := nro) (live := [0, 1, 4, 5, 6]) (c := i_spec_l01Jumps_B1) (h0 := h ++ [⟨0, [.int .i64 0, .slice none 0 0]⟩, ⟨1, ints r0⟩, ⟨0, [.int .i64 N, .slice (some ⟨h.length + 1, 0, none⟩) N N]⟩]) (n := N) (fun i (_ : List Int) => [.int .i64 N, t, .pointer (some ⟨h.length, 0, some 2⟩), .pointer (some ⟨h.length + 2, 0, some 2⟩), .int .i64 i]) (fun _ r => h ++ [⟨0, [.int .i64 0, .slice none 0 0]⟩, ⟨1, ints r⟩, ⟨0, [.int .i64 N, .slice (some ⟨h.length + 1, 0, none⟩) N N]⟩])
    (fun _ r => GV N r) (fun r => some (.exit 0, fl [(4, .pointer (some ⟨h.length, 0, some 2⟩)), (5, .pointer (some ⟨h.length + 2, 0, some 2⟩))], h ++ [⟨0, [.int .i64 0, .slice none 0 0]⟩, ⟨1, ints r⟩, ⟨0, [.int .i64 N, .slice (some ⟨h.length + 1, 0, none⟩) N N]⟩])) ?_ ?_ 0 r0 (Nat.zero_le _) g0) ?_
  · intro i r1 hi hi2 g1
    have w1 : IntKind.i64.wrap ((i : Int) + 1) = (i : Int) + 1 := wrap64 (by omega) (by omega)
    obtain ⟨k, hk⟩ : ∃ k : Nat, k = (i + 1) % N := ⟨_, rfl⟩
    have hkN : k < N := by rw [hk]; exact Nat.mod_lt _ (by omega)
    have hki : i ≠ k := by
      rw [hk]
      by_cases c : i + 1 = N
      · rw [c, Nat.mod_self]; omega
      · rw [Nat.mod_eq_of_lt (by omega)]; omega
    have q1 : IntKind.i64.wrap (((i : Int) + 1) % N) = k := by
      have : ((i : Int) + 1) % N = k := by rw [hk]; simp
      rw [this]; exact wrap64 (by omega) (by omega)
    have t1 : ((i : Int) + 1).tmod N = k := by rw [Int.tmod_eq_emod_of_nonneg (by omega), hk]; simp
    have e1 := mk_put (nro := nro) (P := h ++ [⟨0, [.int .i64 0, .slice none 0 0]⟩]) (C := [⟨0, [.int .i64 N, .slice (some ⟨h.length + 1, 0, none⟩) N N]⟩]) (by simp; omega) g1.rok.len h62 i k hi hkN
    have g2 := g1.put2 hi hkN hki
    obtain ⟨r2, hr2⟩ : ∃ r, r = put2 r1 i k := ⟨_, rfl⟩
    rw [← hr2] at e1 g2
    simp at e1
    have hN0 : ¬ (N : Int) = 0 := by omega
    have hcl := fun (r : List Int) (vs : List Value) => mk_clean (P := h ++ [⟨0, [.int .i64 0, .slice none 0 0]⟩]) (C := [⟨0, [.int .i64 N, .slice (some ⟨h.length + 1, 0, none⟩) N N]⟩]) (r0 := r0) (r1 := r) (vs := vs)
    simp only [List.append_assoc, List.cons_append, List.nil_append, List.length_append, List.length_cons, List.length_nil] at hcl
    by_cases c : js.length = 0
    · have c' : ¬ 0 < js.length := by omega
      refine ⟨r2, g2, ?_⟩
      clear hk hr2 g1 g2 g0
      rw [floop_at i_spec_l01Jumps_B1.eq_1]
      simp (disch := first | assumption | omega | (simp [*] <;> omega) | fail) [hi, hi2, e0, e1, c', w1, q1, t1, hN0, hcl, hto]
    · have c' : 0 < js.length := by omega
      obtain ⟨m, hm⟩ : ∃ m : Nat, m = i % js.length := ⟨_, rfl⟩
      have hml : m < js.length := by rw [hm]; exact Nat.mod_lt _ (by omega)
      have q2 : IntKind.i64.wrap ((i : Int) % js.length) = m := by
        have : ((i : Int)) % js.length = m := by rw [hm]; simp
        rw [this]; exact wrap64 (by omega) (by omega)
      have t2 : (i : Int).tmod js.length = m := by rw [Int.tmod_eq_emod_of_nonneg (by omega), hm]; simp
      have w4 : IntKind.i64.wrap (m : Int) = m := wrap64 (by omega) (by omega)
      have e2 := fun L => ht.vidx' (L := L) (k := .i64) (j := (m : Int)) (by omega) (by omega)
      have e3 := fun L => ht.vload' (L := L) (j := m) hml
      obtain ⟨y1, y2⟩ := hj js[m] (List.getElem_mem hml)
      obtain ⟨y, hy⟩ : ∃ y : Nat, js[m] = y := ⟨js[m].toNat, by omega⟩
      rw [hy] at y1 y2
      simp only [hy] at e3
      obtain ⟨z, hz⟩ : ∃ z : Nat, z = (i + y) % N := ⟨_, rfl⟩
      have hzN : z < N := by rw [hz]; exact Nat.mod_lt _ (by omega)
      have hzi : i ≠ z := by
        rw [hz]
        by_cases c : i + y < N
        · rw [Nat.mod_eq_of_lt c]; omega
        · rw [Nat.mod_eq_sub_mod (by omega), Nat.mod_eq_of_lt (by omega)]; omega
      have w2 : IntKind.i64.wrap ((i : Int) + y) = (i : Int) + y := wrap64 (by omega) (by omega)
      have q3 : IntKind.i64.wrap (((i : Int) + y) % N) = z := by
        have : ((i : Int) + y) % N = z := by rw [hz]; simp
        rw [this]; exact wrap64 (by omega) (by omega)
      have t3 : ((i : Int) + y).tmod N = z := by rw [Int.tmod_eq_emod_of_nonneg (by omega), hz]; simp
      have e4 := mk_put (nro := nro) (P := h ++ [⟨0, [.int .i64 0, .slice none 0 0]⟩]) (C := [⟨0, [.int .i64 N, .slice (some ⟨h.length + 1, 0, none⟩) N N]⟩]) (by simp; omega) g2.rok.len h62 i z hi hzN
      have g3 := g2.put2 hi hzN hzi
      obtain ⟨r3, hr3⟩ : ∃ r, r = put2 r2 i z := ⟨_, rfl⟩
      rw [← hr3] at e4 g3
      simp at e4
      have hj0 : ¬ (js.length : Int) = 0 := by omega
      refine ⟨r3, g3, ?_⟩
      clear hk hr2 hr3 g1 g2 g3 g0 hm hz hj hy
      rw [floop_at i_spec_l01Jumps_B1.eq_1]
      simp (disch := first | assumption | omega | (simp [*] <;> omega) | fail) [hi, hi2, e0, e1, e2, e3, e4, c', w1, w2, q1, q2, q3, t1, t2, t3, w4, hN0, hj0, hcl, hto]
  · intro r1 _
    rw [floop_at i_spec_l01Jumps_B1.eq_1]
    simp (disch := first | assumption | omega | (simp [*] <;> omega) | fail) [hto]
  · rintro r1 ⟨g1, hf⟩
    exact ⟨r1, g1, hf⟩

/-- A jump graph. -/
theorem c_spec_l01Jumps (h : VH) (t : Value) (js : List Int) (ht : Sli h t js) (hn : nro ≤ h.length) (N : Nat) (h3 : 3 ≤ N) (h62 : N ≤ 62) (hj : ∀ x ∈ js, 1 ≤ x ∧ x < N) (hjl : js.length ≤ 100) :
    ∃ rows, GV N rows ∧ vcall F nro k_spec_l01Jumps [.int .i64 N, t] h = some (gv N (.slice (some ⟨h.length, 0, none⟩) N N), h ++ [⟨1, ints rows⟩]) := by
  have hn' := fun k => Nat.le_trans hn (Nat.le_add_right h.length k)
  have he := c_spec_l01Empty (nro := nro) N (h ++ [⟨0, [.int .i64 0, .slice none 0 0]⟩]) (by omega) (by omega) (by simp; omega)
  rw [Int.toNat_natCast] at he
  obtain ⟨r1, g1, lp⟩ := l_l01Jumps (nro := nro) h t js ht hn N h3 h62 hj hjl (List.replicate N 0) (GV.zero (by omega) h62)
  have hl := g1.rok.len
  refine ⟨r1, g1, ?_⟩
  refine v_spec_l01Jumps (by simp [i_spec_l01Jumps]) ?_
  rw [fbody_eq]
  simp [-List.reduceReplicate] at he
  clear g1
  simp (disch := first | assumption | omega | (simp [*] <;> omega) | fail) [i_spec_l01Jumps, he, lp, hl, fresults, fresL, fres1, hn', hn]
end Go.Proofs.YtghondlbkjponaaDoor.Zv

/- Complements of graphs. -/
namespace Go.Proofs.YtghondlbkjponaaDoor.Zv
open Go
variable {nro : Nat}

/-- A row of the complement. -/
def cmpR (N : Nat) (x v : Nat) : Nat := 2 ^ N - 1 - x - 2 ^ v
theorem cmpR_bit {N x v : Nat} (hx : x < 2 ^ N) (hv : v < N) (hb : x.testBit v = false) (w : Nat) : (cmpR N x v).testBit w = (decide (w < N) && !x.testBit w && decide (w ≠ v)) := by
  have e : 2 ^ N - 1 - x = 2 ^ N - (x + 1) := by omega
  have h1 : ∀ w, (2 ^ N - 1 - x).testBit w = (decide (w < N) && !x.testBit w) := fun w => by rw [e, Nat.testBit_two_pow_sub_succ hx]
  have h2 : (2 ^ N - 1 - x).testBit v = true := by rw [h1, hb]; simp [hv]
  unfold cmpR
  rw [(sub_bit h2).2, h1]
theorem cmpR_le {N x v : Nat} (hx : x < 2 ^ N) (hv : v < N) (hb : x.testBit v = false) : 2 ^ v ≤ 2 ^ N - 1 - x ∧ cmpR N x v < 2 ^ N := by
  have e : 2 ^ N - 1 - x = 2 ^ N - (x + 1) := by omega
  have h2 : (2 ^ N - 1 - x).testBit v = true := by rw [e, Nat.testBit_two_pow_sub_succ hx, hb]; simp [hv]
  refine ⟨(sub_bit h2).1, ?_⟩
  unfold cmpR
  have h3 := Nat.two_pow_pos N
  refine Nat.lt_of_le_of_lt (Nat.sub_le _ _) ?_
  obtain ⟨q, hq⟩ : ∃ q, q = 2 ^ N := ⟨_, rfl⟩
  rw [← hq] at h3 ⊢
  omega
def cmpG (rows : List Int) (N v : Nat) : Int := cmpR N (rows.getD v 0).toNat v
theorem GV.compl {N : Nat} {rows : List Int} (g : GV N rows) : GV N (tbl N (cmpG rows N)) := by
  have R := g.rok
  have hlo := g.lo
  have hl := g.len
  have nob : ∀ v, v < N → (rows.getD v 0).toNat.testBit v = false := fun v hv => (g.row v (by omega)).2.2
  have bit : ∀ v w, v < N → rbit (tbl N (cmpG rows N)) v w = (decide (w < N) && !rbit rows v w && decide (w ≠ v)) := fun v w hv => by
    unfold rbit
    rw [tbl_getD hv]
    unfold cmpG
    rw [Int.toNat_natCast]
    exact cmpR_bit (R.row v hv).2 hv (nob v hv) w
  refine ⟨by omega, g.hi, by simp, fun v hv => ?_, fun v w hv hw => ?_⟩
  · rw [tbl_length] at hv
    refine ⟨?_, ?_, ?_⟩
    · rw [tbl_getD hv]; unfold cmpG; omega
    · rw [tbl_getD hv]
      unfold cmpG
      have := (cmpR_le (R.row v hv).2 hv (nob v hv)).2
      have e : ((2 ^ N : Nat) : Int) = (2 : Int) ^ ((N : Int).toNat) := by simp
      rw [← e]; omega
    · rw [bit v v hv]; simp
  · rw [tbl_length] at hv hw
    rw [bit v w hv, bit w v hw, g.sym v w (by omega) (by omega)]
    simp [hv, hw, eq_comm]

/-- The heap while a complement is made. -/
def cpH (h : VH) (N : Nat) (s : Value) (f : Nat → Int) : VH := (h ++ [⟨0, [.int .i64 N, s]⟩, ⟨0, [.int .i64 0, .slice none 0 0]⟩]) ++ [⟨1, ints (tbl N f)⟩, ⟨0, [.int .i64 N, .slice (some ⟨h.length + 2, 0, none⟩) N N]⟩]

theorem l_l01Complement (h : VH) (N : Nat) (s : Value) (rows : List Int) (hs : Sli h s rows) (g : GV N rows) (hn : nro ≤ h.length) :
    floop (vcall F nro) nro [1, 2, 3, 4] i_spec_l01Complement_B1 (cpH h N s (fun _ => 0)) [.pointer (some ⟨h.length, 0, some 2⟩), .pointer (some ⟨h.length + 1, 0, some 2⟩), .pointer (some ⟨h.length + 3, 0, some 2⟩), .int .i64 0] (cpH h N s (fun _ => 0)) =
      some (.exit 0, fl [(2, .pointer (some ⟨h.length + 1, 0, some 2⟩)), (3, .pointer (some ⟨h.length + 3, 0, some 2⟩))], cpH h N s (cmpG rows N)) := by
  have hle := g.rok.le
  have R := g.rok
  have hlen := R.len
  have hgl := g.len
  have hso := fun k => hs.oldCk (k := k)
  have hn' := fun k => Nat.le_trans hn (Nat.le_add_right h.length k)
  refine Exists.elim (for_upR (call := vcall F nro) (nro := nro) (live := [1, 2, 3, 4]) (c := i_spec_l01Complement_B1) (h0 := cpH h N s (fun _ => 0)) (n := N) (fun v (_ : Nat → Int) => [.pointer (some ⟨h.length, 0, some 2⟩), .pointer (some ⟨h.length + 1, 0, some 2⟩), .pointer (some ⟨h.length + 3, 0, some 2⟩), .int .i64 v]) (fun _ f => cpH h N s f)
    (fun v f => ∀ w, w < v → f w = cmpG rows N w) (fun f => some (.exit 0, fl [(2, .pointer (some ⟨h.length + 1, 0, some 2⟩)), (3, .pointer (some ⟨h.length + 3, 0, some 2⟩))], cpH h N s f)) ?_ ?_ 0 (fun _ => 0) (Nat.zero_le _) (fun w hw => by omega)) ?_
  · intro v f hv hv2 hf
    have hb : (rows.getD v 0).toNat.testBit v = false := (g.row v (by omega)).2.2
    obtain ⟨r1, r2⟩ := R.row v hv
    obtain ⟨c1, c2⟩ := cmpR_le r2 hv hb
    have w1 : IntKind.i64.wrap ((v : Int) + 1) = (v : Int) + 1 := wrap64 (by omega) (by omega)
    have e1 := fun L => hs.vidx' (L := L) (k := .i64) (j := (v : Int)) (by omega) (by omega)
    have e2 := fun L => hs.vload' (L := L) (j := v) (by omega)
    have ex : rows[v]'(by omega) = rows.getD v 0 := (getD_at rows (by omega)).symm
    simp only [ex] at e2
    obtain ⟨x, hx⟩ : ∃ x : Nat, rows.getD v 0 = x := ⟨(rows.getD v 0).toNat, by omega⟩
    have hg : cmpG rows N v = cmpR N x v := by unfold cmpG; rw [hx, Int.toNat_natCast]
    rw [hx] at e2 r2 hb
    rw [hx, Int.toNat_natCast] at c1 c2
    rw [Int.toNat_natCast] at r2
    have p62 : 2 ^ N ≤ 4611686018427387904 := by
      have := Nat.pow_le_pow_right (show 0 < 2 by omega) hle
      exact Nat.le_trans this (by decide)
    have s1 : ishl .i64 1 (N : Int) = ((2 ^ N : Nat) : Int) := by rw [ishl_one' (by omega) (by omega), Int.toNat_natCast]; simp
    have s2 : ishl .i64 1 (v : Int) = ((2 ^ v : Nat) : Int) := by rw [ishl_one' (by omega) (by omega), Int.toNat_natCast]; simp
    have u1 : IntKind.u64.wrap (N : Int) = N := wrapu64 (by omega) (by omega)
    have u2 : IntKind.u64.wrap (v : Int) = v := wrapu64 (by omega) (by omega)
    unfold cmpR at hg c2
    obtain ⟨A, hA⟩ : ∃ A, A = 2 ^ N := ⟨_, rfl⟩
    obtain ⟨B, hB⟩ : ∃ B, B = 2 ^ v := ⟨_, rfl⟩
    rw [← hA] at s1 r2 c1 c2 p62 hg
    rw [← hB] at s2 c1 c2 hg
    have t1 : IntKind.i64.wrap ((A : Int) - 1) = (A : Int) - 1 := wrap64 (by omega) (by omega)
    have t2 : IntKind.i64.wrap ((A : Int) - 1 - x) = (A : Int) - 1 - x := wrap64 (by omega) (by omega)
    have t3 : IntKind.i64.wrap ((A : Int) - 1 - x - B) = cmpG rows N v := by rw [hg, wrap64 (by omega) (by omega)]; omega
    obtain ⟨y, hy⟩ : ∃ y, y = cmpG rows N v := ⟨_, rfl⟩
    rw [← hy] at t3
    have hsp : splice v [.int .i64 y] (ints (tbl N f)) = ints (tbl N (upd f v y)) := tbl_splice hv
    have hcl := fun (r : List Int) (vs : List Value) => mk_clean (P := h ++ [⟨0, [.int .i64 N, s]⟩, ⟨0, [.int .i64 0, .slice none 0 0]⟩]) (C := [⟨0, [.int .i64 N, .slice (some ⟨h.length + 2, 0, none⟩) N N]⟩]) (r0 := tbl N fun _ => 0) (r1 := r) (vs := vs)
    refine ⟨upd f v y, fun w hw => ?_, ?_⟩
    · by_cases e : w = v
      · rw [e, upd_same, hy]
      · rw [upd_ne e]; exact hf w (by omega)
    · unfold cpH
      simp only [List.append_assoc, List.cons_append, List.nil_append, List.length_append, List.length_cons, List.length_nil] at hcl ⊢
      clear hg hA hB hy hx g R hf hb r1 r2 c1 c2 p62 ex hlen hgl
      rw [floop_at i_spec_l01Complement_B1.eq_1]
      simp (disch := first | assumption | omega | (simp [*] <;> omega) | fail) [hv, hv2, e1, e2, s1, s2, u1, u2, t1, t2, t3, w1, hsp, hcl, hso, hn', hn]
  · intro f _
    unfold cpH
    rw [floop_at i_spec_l01Complement_B1.eq_1]
    simp (disch := first | assumption | omega | (simp [*] <;> omega) | fail) [hso]
  · rintro f ⟨hf, e⟩
    refine Eq.trans e ?_
    have : tbl N f = tbl N (cmpG rows N) := tbl_congr hf
    unfold cpH
    rw [this]

/-- The complement. -/
theorem c_spec_l01Complement (h : VH) (N : Nat) (s : Value) (rows : List Int) (hs : Sli h s rows) (g : GV N rows) (hn : nro ≤ h.length) :
    vcall F nro k_spec_l01Complement [gv N s] h = some (gv N (.slice (some ⟨h.length, 0, none⟩) N N), h ++ [⟨1, ints (tbl N (cmpG rows N))⟩]) := by
  have hn' := fun k => Nat.le_trans hn (Nat.le_add_right h.length k)
  have hle := g.rok.le
  have hlo := g.lo
  have hso := fun k => hs.oldCk (k := k)
  have he := c_spec_l01Empty (nro := nro) N (h ++ [⟨0, [.int .i64 N, s]⟩, ⟨0, [.int .i64 0, .slice none 0 0]⟩]) (by omega) (by omega) (by simp; omega)
  rw [Int.toNat_natCast, ← tbl_const] at he
  have lp := l_l01Complement (nro := nro) h N s rows hs g hn
  refine v_spec_l01Complement (by simp [i_spec_l01Complement]) ?_
  rw [fbody_eq]
  simp only [List.append_assoc, List.cons_append, List.nil_append, List.length_append, List.length_cons, List.length_nil] at he
  unfold cpH at lp
  simp only [List.append_assoc, List.cons_append, List.nil_append] at lp
  clear g
  simp (disch := first | assumption | omega | (simp [*] <;> omega) | fail) [i_spec_l01Complement, he, lp, hso, fresults, fresL, fres1, hn', hn]
end Go.Proofs.YtghondlbkjponaaDoor.Zv

/- Two graphs beside each other. -/
namespace Go.Proofs.YtghondlbkjponaaDoor.Zv
open Go
variable {nro : Nat}

/-- The rows of two graphs beside each other, the first v of the second one. -/
def bsR (r1 r2 : List Int) (n : Nat) (v : Nat) : List Int := r1 ++ tbl v (fun w => ((r2.getD w 0).toNat * 2 ^ n : Nat))
theorem bsR_len (r1 r2 : List Int) (n v : Nat) : (bsR r1 r2 n v).length = r1.length + v := by simp [bsR]
theorem bsR_next (r1 r2 : List Int) (n v : Nat) : ints (bsR r1 r2 n v) ++ [.int .i64 (((r2.getD v 0).toNat * 2 ^ n : Nat) : Int)] = ints (bsR r1 r2 n (v + 1)) := by
  unfold bsR
  rw [← tbl_snoc, ← List.append_assoc]
  simp [ints]
theorem GV.beside {n m : Nat} {r1 r2 : List Int} (g1 : GV n r1) (g2 : GV m r2) (h : n + m ≤ 62) : GV (n + m : Nat) (bsR r1 r2 n m) := by
  have R1 := g1.rok
  have R2 := g2.rok
  have l1 := R1.len
  have l2 := R2.len
  have lo := g1.lo
  have at1 : ∀ v, v < n → (bsR r1 r2 n m).getD v 0 = r1.getD v 0 := fun v hv => by
    unfold bsR
    rw [List.getD_eq_getElem?_getD, List.getElem?_append_left (by omega), List.getD_eq_getElem?_getD]
  have at2 : ∀ v, v < m → (bsR r1 r2 n m).getD (n + v) 0 = (((r2.getD v 0).toNat * 2 ^ n : Nat) : Int) := fun v hv => by
    unfold bsR
    rw [List.getD_eq_getElem?_getD, List.getElem?_append_right (by omega), l1, Nat.add_sub_cancel_left, ← List.getD_eq_getElem?_getD, tbl_getD hv]
  have b1 : ∀ v w, v < n → rbit (bsR r1 r2 n m) v w = rbit r1 v w := fun v w hv => by unfold rbit; rw [at1 v hv]
  have b2 : ∀ v w, v < m → rbit (bsR r1 r2 n m) (n + v) w = (decide (n ≤ w) && rbit r2 v (w - n)) := fun v w hv => by
    unfold rbit
    rw [at2 v hv, Int.toNat_natCast, Nat.testBit_mul_two_pow]
  have z1 : ∀ v w, n ≤ w → rbit r1 v w = false := fun v w hw => by
    cases hb : rbit r1 v w
    · rfl
    · have := (rbit_lt R1 hb).2; omega
  have p : ∀ k : Nat, ((2 ^ k : Nat) : Int) = (2 : Int) ^ ((k : Int).toNat) := fun k => by simp
  refine ⟨by omega, by omega, by rw [bsR_len, l1], fun v hv => ?_, fun v w hv hw => ?_⟩
  · rw [bsR_len, l1] at hv
    by_cases c : v < n
    · obtain ⟨a1, a2, a3⟩ := g1.row v (by omega)
      refine ⟨by rw [at1 v c]; exact a1, ?_, by rw [b1 v v c]; exact a3⟩
      rw [at1 v c]
      have := (R1.row v c).2
      have h3 := Nat.pow_le_pow_right (show 0 < 2 by omega) (show n ≤ n + m by omega)
      rw [← p]; omega
    · obtain ⟨u, rfl⟩ : ∃ u, v = n + u := ⟨v - n, by omega⟩
      have hu : u < m := by omega
      refine ⟨by rw [at2 u hu]; omega, ?_, ?_⟩
      · rw [at2 u hu, ← p]
        have := (R2.row u hu).2
        have h3 : (r2.getD u 0).toNat * 2 ^ n < 2 ^ m * 2 ^ n := Nat.mul_lt_mul_of_pos_right this (Nat.two_pow_pos n)
        rw [← Nat.pow_add, Nat.add_comm m n] at h3
        omega
      · rw [b2 u _ hu, Nat.add_sub_cancel_left, (g2.row u (by omega)).2.2, Bool.and_false]
  · rw [bsR_len, l1] at hv hw
    by_cases c : v < n <;> by_cases e : w < n
    · rw [b1 v w c, b1 w v e, g1.sym v w (by omega) (by omega)]
    · obtain ⟨u, rfl⟩ : ∃ u, w = n + u := ⟨w - n, by omega⟩
      rw [b1 v _ c, b2 u v (by omega), z1 v _ (by omega)]
      simp; omega
    · obtain ⟨u, rfl⟩ : ∃ u, v = n + u := ⟨v - n, by omega⟩
      rw [b1 w _ e, b2 u w (by omega), z1 w _ (by omega)]
      simp; omega
    · obtain ⟨u, rfl⟩ : ∃ u, v = n + u := ⟨v - n, by omega⟩
      obtain ⟨u', rfl⟩ : ∃ u, w = n + u := ⟨w - n, by omega⟩
      rw [b2 u _ (by omega), b2 u' _ (by omega), Nat.add_sub_cancel_left, Nat.add_sub_cancel_left, g2.sym u u' (by omega) (by omega)]
      simp

/-- The heap while two graphs are put together. -/
def bsH (h : VH) (n m : Nat) (s1 s2 : Value) (r1 r2 : List Int) (v : Nat) : VH := h ++ [⟨0, [.int .i64 n, s1]⟩, ⟨0, [.int .i64 m, s2]⟩, ⟨0, [.int .i64 0, .slice none 0 0]⟩, ⟨1, ints (bsR r1 r2 n v)⟩, ⟨0, [.int .i64 ((n : Int) + m), .slice (some ⟨h.length + 3, 0, none⟩) (n + v) (n + v)]⟩]
theorem bs_upd (h : VH) (n m : Nat) (s1 s2 : Value) (r1 r2 : List Int) (v w : Nat) : Upd (bsH h n m s1 s2 r1 r2 v) (bsH h n m s1 s2 r1 r2 w) := by
  have h1 := ((Upd.rfl' (bsH h n m s1 s2 r1 r2 v)).set' (b := h.length + 3) (o := ⟨1, ints (bsR r1 r2 n w)⟩) (flatO_ints _ _ _)).set' (b := h.length + 4) (o := ⟨0, [.int .i64 ((n : Int) + m), .slice (some ⟨h.length + 3, 0, none⟩) (n + w) (n + w)]⟩) (by
    intro r hr
    simp [orefs, crefs, arefs] at hr
    simp [bsH]; omega)
  unfold bsH at *
  rw [hsetk, hsetk] at h1
  exact h1

theorem l_l01Beside (h : VH) (n m : Nat) (s1 s2 : Value) (r1 r2 : List Int) (hs1 : Sli h s1 r1) (hs2 : Sli h s2 r2) (g1 : GV n r1) (g2 : GV m r2) (h62 : n + m ≤ 62) (hn : nro ≤ h.length) :
    floop (vcall F nro) nro [2, 3, 4, 5, 6] i_spec_l01Beside_B1 (bsH h n m s1 s2 r1 r2 0) [.pointer (some ⟨h.length, 0, some 2⟩), .pointer (some ⟨h.length + 1, 0, some 2⟩), .pointer (some ⟨h.length + 2, 0, some 2⟩), .pointer (some ⟨h.length + 4, 0, some 2⟩), .int .i64 0] (bsH h n m s1 s2 r1 r2 0) =
      some (.exit 0, fl [(4, .pointer (some ⟨h.length + 2, 0, some 2⟩)), (5, .pointer (some ⟨h.length + 4, 0, some 2⟩))], bsH h n m s1 s2 r1 r2 m) := by
  have R1 := g1.rok
  have R2 := g2.rok
  have l1 := R1.len
  have l2 := R2.len
  have hso1 := fun k => hs1.oldCk (k := k)
  have hso2 := fun k => hs2.oldCk (k := k)
  have hn' := fun k => Nat.le_trans hn (Nat.le_add_right h.length k)
  refine (for_up (call := vcall F nro) (nro := nro) (live := [2, 3, 4, 5, 6]) (c := i_spec_l01Beside_B1) (h0 := bsH h n m s1 s2 r1 r2 0) (n := m) (fun v (_ : Unit) => [.pointer (some ⟨h.length, 0, some 2⟩), .pointer (some ⟨h.length + 1, 0, some 2⟩), .pointer (some ⟨h.length + 2, 0, some 2⟩), .pointer (some ⟨h.length + 4, 0, some 2⟩), .int .i64 v]) (fun v _ => bsH h n m s1 s2 r1 r2 v) (fun _ u => u)
    (fun _ _ => True) (fun _ => some (.exit 0, fl [(4, .pointer (some ⟨h.length + 2, 0, some 2⟩)), (5, .pointer (some ⟨h.length + 4, 0, some 2⟩))], bsH h n m s1 s2 r1 r2 m)) ?_ ?_ 0 () (Nat.zero_le _) trivial).1
  · intro v _ hv hv2 _
    refine ⟨trivial, ?_⟩
    have w1 : IntKind.i64.wrap ((v : Int) + 1) = (v : Int) + 1 := wrap64 (by omega) (by omega)
    have e1 := fun L => hs2.vidx' (L := L) (k := .i64) (j := (v : Int)) (by omega) (by omega)
    have e2 := fun L => hs2.vload' (L := L) (j := v) (by omega)
    have ex : r2[v]'(by omega) = r2.getD v 0 := (getD_at r2 (by omega)).symm
    simp only [ex] at e2
    obtain ⟨q1, q2⟩ := R2.row v hv
    obtain ⟨x, hx⟩ : ∃ x : Nat, r2.getD v 0 = x := ⟨(r2.getD v 0).toNat, by omega⟩
    have hnx := bsR_next r1 r2 n v
    rw [hx, Int.toNat_natCast] at hnx q2
    rw [hx] at e2
    have hlt : x * 2 ^ n < 4611686018427387904 := by
      have h3 : x * 2 ^ n < 2 ^ m * 2 ^ n := Nat.mul_lt_mul_of_pos_right q2 (Nat.two_pow_pos n)
      rw [← Nat.pow_add] at h3
      have h4 := Nat.pow_le_pow_right (show 0 < 2 by omega) (show m + n ≤ 62 by omega)
      exact Nat.lt_of_lt_of_le h3 (Nat.le_trans h4 (by decide))
    have sh : ishl .i64 (x : Int) (n : Int) = ((x * 2 ^ n : Nat) : Int) := by
      rw [ishl_eq]
      have e : min ((n : Int).toNat) IntKind.i64.bits = n := by
        have : IntKind.i64.bits = 64 := rfl
        rw [this]; omega
      rw [e]
      have e2 : (x : Int) * 2 ^ n = ((x * 2 ^ n : Nat) : Int) := by simp
      rw [e2]
      exact wrap64 (by omega) (by omega)
    have u1 : IntKind.u64.wrap (n : Int) = n := wrapu64 (by omega) (by omega)
    have hbl := bsR_len r1 r2 n v
    have hbl2 := bsR_len r1 r2 n (v + 1)
    rw [l1] at hbl hbl2
    obtain ⟨y, hy⟩ : ∃ y, y = x * 2 ^ n := ⟨_, rfl⟩
    rw [← hy] at sh hnx
    have hcl := fun (L : VH) (vs : List Value) => cleanup_upd (bs_upd h n m s1 s2 r1 r2 0 (v + 1)) (L := L) (vs := vs)
    have ea : n + (v + 1) = n + v + 1 := rfl
    have c1 : ((n + v + 1) * 8 ≤ 1099511627776) = True := by simp; omega
    have c2 : (n + v < 1099511627776) = True := by simp; omega
    unfold bsH at hcl ⊢
    obtain ⟨Q, hQ⟩ : ∃ Q, Q = bsR r1 r2 n v := ⟨_, rfl⟩
    obtain ⟨Q2, hQ2⟩ : ∃ Q, Q = bsR r1 r2 n (v + 1) := ⟨_, rfl⟩
    rw [← hQ] at hnx hbl ⊢
    rw [← hQ2] at hnx hcl hbl2 ⊢
    clear hQ hQ2 hx hy hlt ex R1 R2 g1 g2 q1 q2 l1 l2
    rw [floop_at i_spec_l01Beside_B1.eq_1]
    simp (disch := first | assumption | omega | (simp [*] <;> omega) | fail) [hv, hv2, e1, e2, sh, u1, w1, hnx, hbl, hbl2, hcl, c1, c2, hso1, hso2, hn', hn, ea]
  · intro _ _
    unfold bsH
    rw [floop_at i_spec_l01Beside_B1.eq_1]
    simp (disch := first | assumption | omega | (simp [*] <;> omega) | fail) [hso1, hso2]

/-- Two graphs beside each other. -/
theorem c_spec_l01Beside (h : VH) (n m : Nat) (s1 s2 : Value) (r1 r2 : List Int) (hs1 : Sli h s1 r1) (hs2 : Sli h s2 r2) (g1 : GV n r1) (g2 : GV m r2) (h62 : n + m ≤ 62) (hn : nro ≤ h.length) :
    vcall F nro k_spec_l01Beside [gv n s1, gv m s2] h = some (gv ((n : Int) + m) (.slice (some ⟨h.length, 0, none⟩) (n + m) (n + m)), h ++ [⟨1, ints (bsR r1 r2 n m)⟩]) := by
  have hn' := fun k => Nat.le_trans hn (Nat.le_add_right h.length k)
  have l1 := g1.rok.len
  have hso1 := fun k => hs1.oldCk (k := k)
  have hso2 := fun k => hs2.oldCk (k := k)
  have he := c_spec_l01Own (nro := nro) s1 r1 (h ++ [⟨0, [.int .i64 n, s1]⟩, ⟨0, [.int .i64 m, s2]⟩, ⟨0, [.int .i64 0, .slice none 0 0]⟩]) (hs1.app _) (by omega) (by simp; omega)
  have lp := l_l01Beside (nro := nro) h n m s1 s2 r1 r2 hs1 hs2 g1 g2 h62 hn
  have e0 : bsR r1 r2 n 0 = r1 := by simp [bsR, tbl]
  have hl := bsR_len r1 r2 n m
  have w1 : IntKind.i64.wrap ((n : Int) + m) = (n : Int) + m := wrap64 (by omega) (by omega)
  refine v_spec_l01Beside (by simp [i_spec_l01Beside]) ?_
  rw [fbody_eq]
  rw [l1] at he hl
  simp only [List.append_assoc, List.cons_append, List.nil_append, List.length_append, List.length_cons, List.length_nil] at he
  unfold bsH at lp
  rw [e0] at lp
  simp only [Nat.add_zero] at lp
  obtain ⟨Q, hQ⟩ : ∃ Q, Q = bsR r1 r2 n m := ⟨_, rfl⟩
  rw [← hQ] at lp hl ⊢
  clear hQ g1 g2 e0 l1
  simp (disch := first | assumption | omega | (simp [*] <;> omega) | fail) [i_spec_l01Beside, he, lp, hl, w1, hso1, hso2, fresults, fresL, fres1, hn', hn]
end Go.Proofs.YtghondlbkjponaaDoor.Zv

/- Graphs with names: each of the fifteen is a graph. -/
namespace Go.Proofs.YtghondlbkjponaaDoor.Zv
open Go
variable {nro : Nat}

theorem GV.put2I {n : Int} {r : List Int} (g : GV n r) {a b : Int} (ha : 0 ≤ a) (ha2 : a < n) (hb : 0 ≤ b) (hb2 : b < n) (hne : a ≠ b) : GV n (Zv.put2 r a b) := by
  obtain ⟨v, rfl⟩ : ∃ v : Nat, a = v := ⟨a.toNat, by omega⟩
  obtain ⟨w, rfl⟩ : ∃ w : Nat, b = w := ⟨b.toNat, by omega⟩
  obtain ⟨N, rfl⟩ : ∃ N : Nat, n = N := ⟨n.toNat, by omega⟩
  exact g.put2 (by omega) (by omega) (by omega)

/-- A graph in the making among the places of l01Named. -/
def nmH (h : VH) (N : Nat) (r : List Int) : VH := h ++ [⟨0, [.int .i64 0, .slice none 0 0]⟩, ⟨1, ints r⟩, ⟨0, [.int .i64 N, .slice (some ⟨h.length + 1, 0, none⟩) N N]⟩]
theorem nm_put {h : VH} {N : Nat} {r : List Int} (hn : nro ≤ h.length) (hN : N ≤ 62) (v w : Int) (hl : r.length = N) (hv0 : 0 ≤ v) (hv : v < N) (hw0 : 0 ≤ w) (hw : w < N) :
    vcall F nro k_spec_l01Put [gv N (.slice (some ⟨h.length + 1, 0, none⟩) N N), .int .i64 v, .int .i64 w] (nmH h N r) = some (.tuple #[], nmH h N (put2 r v w)) := by
  obtain ⟨a, rfl⟩ : ∃ a : Nat, v = a := ⟨v.toNat, by omega⟩
  obtain ⟨b, rfl⟩ : ∃ b : Nat, w = b := ⟨w.toNat, by omega⟩
  have e := mk_put (nro := nro) (P := h ++ [⟨0, [.int .i64 0, .slice none 0 0]⟩]) (C := [⟨0, [.int .i64 N, .slice (some ⟨h.length + 1, 0, none⟩) N N]⟩]) (by simp; omega) hl hN a b (by omega) (by omega)
  unfold nmH
  simpa using e
theorem nm_clean {h : VH} {N : Nat} {r0 r1 : List Int} {vs : List Value} (hv : ∀ v ∈ vs, Old (h.length + 3) v) : kclean (nmH h N r0) vs (nmH h N r1) = (vs, nmH h N r1) := by
  have e := mk_clean (P := h ++ [⟨0, [.int .i64 0, .slice none 0 0]⟩]) (C := [⟨0, [.int .i64 N, .slice (some ⟨h.length + 1, 0, none⟩) N N]⟩]) (r0 := r0) (r1 := r1) (vs := vs) (by simpa using hv)
  unfold nmH
  simpa using e
theorem nm_get0 (h : VH) (N : Nat) (r : List Int) : (nmH h N r)[h.length]? = some ⟨0, [.int .i64 0, .slice none 0 0]⟩ := by simp [nmH]
theorem nm_get2 (h : VH) (N : Nat) (r : List Int) : (nmH h N r)[h.length + 2]? = some ⟨0, [.int .i64 N, .slice (some ⟨h.length + 1, 0, none⟩) N N]⟩ := by simp [nmH]
theorem nm_len (h : VH) (N : Nat) (r : List Int) : (nmH h N r).length = h.length + 3 := by simp [nmH]

noncomputable def f3 (i : Nat) (r : List Int) : List Int := put2 (put2 (put2 r i ((i + 1) % 5 : Nat)) i (i + 5 : Nat)) (i + 5 : Nat) ((i + 2) % 5 + 5 : Nat)
theorem l_l01Named_3 (h : VH) (hn : nro ≤ h.length) (r0 : List Int) (g0 : GV 10 r0) :
    ∃ r1, GV 10 r1 ∧ floop (vcall F nro) nro [2, 8, 9] i_spec_l01Named_B3 (nmH h 10 r0) [.pointer (some ⟨h.length, 0, some 2⟩), .pointer (some ⟨h.length + 2, 0, some 2⟩), .int .i64 0] (nmH h 10 r0) =
      some (.exit 5, fl [(2, .pointer (some ⟨h.length, 0, some 2⟩)), (8, .pointer (some ⟨h.length + 2, 0, some 2⟩))], nmH h 10 r1) := by
  have hp := fun r v w => nm_put (nro := nro) (h := h) (N := 10) (r := r) hn (by omega) v w
  simp only [gv, Int.cast_ofNat_Int] at hp
  refine Exists.elim (for_upR (call := vcall F nro) (nro := nro) (live := [2, 8, 9]) (c := i_spec_l01Named_B3) (h0 := nmH h 10 r0) (n := 5) (fun i (_ : List Int) => [.pointer (some ⟨h.length, 0, some 2⟩), .pointer (some ⟨h.length + 2, 0, some 2⟩), .int .i64 i]) (fun _ r => nmH h 10 r)
    (fun _ r => GV 10 r) (fun r => some (.exit 5, fl [(2, .pointer (some ⟨h.length, 0, some 2⟩)), (8, .pointer (some ⟨h.length + 2, 0, some 2⟩))], nmH h 10 r)) ?_ ?_ 0 r0 (Nat.zero_le _) g0) ?_
  · intro i r1 hi hi2 g1
    have hl := g1.rok.len
    clear hi2 g0
    have g2 : GV 10 (f3 i r1) := by
      unfold f3
      have : i = 0 ∨ i = 1 ∨ i = 2 ∨ i = 3 ∨ i = 4 := by omega
      rcases this with rfl | rfl | rfl | rfl | rfl <;> exact ((g1.put2I (by decide) (by decide) (by decide) (by decide) (by decide)).put2I (by decide) (by decide) (by decide) (by decide) (by decide)).put2I (by decide) (by decide) (by decide) (by decide) (by decide)
    refine ⟨f3 i r1, g2, ?_⟩
    clear g1 g2
    unfold f3
    have : i = 0 ∨ i = 1 ∨ i = 2 ∨ i = 3 ∨ i = 4 := by omega
    clear hi
    rw [floop_at i_spec_l01Named_B3.eq_1]
    rcases this with rfl | rfl | rfl | rfl | rfl <;> simp (disch := first | assumption | omega | (simp [*] <;> omega) | fail) [-getElem?_pos, List.getElem?_cons_zero, List.getElem?_cons_succ, hp, hl, nm_get0, nm_get2, nm_clean, nm_len, wrap64]
  · intro r1 _
    rw [floop_at i_spec_l01Named_B3.eq_1]
    simp (disch := first | assumption | omega | (simp [*] <;> omega) | fail) [-getElem?_pos, List.getElem?_cons_zero, List.getElem?_cons_succ, nm_clean, nm_len]
  · rintro r1 ⟨g1, hf⟩
    exact ⟨r1, g1, hf⟩

noncomputable def f4 (i : Nat) (r : List Int) : List Int :=
  put2 (put2 (put2 (put2 (put2 (put2 r 0 (1 + i : Nat)) 11 (6 + i : Nat)) (1 + i : Nat) (1 + (i + 1) % 5 : Nat)) (6 + i : Nat) (6 + (i + 1) % 5 : Nat)) (1 + i : Nat) (6 + i : Nat)) (1 + i : Nat) (6 + (i + 1) % 5 : Nat)
theorem l_l01Named_4 (h : VH) (hn : nro ≤ h.length) (r0 : List Int) (g0 : GV 12 r0) :
    ∃ r1, GV 12 r1 ∧ floop (vcall F nro) nro [2, 10, 11] i_spec_l01Named_B4 (nmH h 12 r0) [.pointer (some ⟨h.length, 0, some 2⟩), .pointer (some ⟨h.length + 2, 0, some 2⟩), .int .i64 0] (nmH h 12 r0) =
      some (.exit 7, fl [(2, .pointer (some ⟨h.length, 0, some 2⟩)), (10, .pointer (some ⟨h.length + 2, 0, some 2⟩))], nmH h 12 r1) := by
  have hp := fun r v w => nm_put (nro := nro) (h := h) (N := 12) (r := r) hn (by omega) v w
  simp only [gv, Int.cast_ofNat_Int] at hp
  refine Exists.elim (for_upR (call := vcall F nro) (nro := nro) (live := [2, 10, 11]) (c := i_spec_l01Named_B4) (h0 := nmH h 12 r0) (n := 5) (fun i (_ : List Int) => [.pointer (some ⟨h.length, 0, some 2⟩), .pointer (some ⟨h.length + 2, 0, some 2⟩), .int .i64 i]) (fun _ r => nmH h 12 r)
    (fun _ r => GV 12 r) (fun r => some (.exit 7, fl [(2, .pointer (some ⟨h.length, 0, some 2⟩)), (10, .pointer (some ⟨h.length + 2, 0, some 2⟩))], nmH h 12 r)) ?_ ?_ 0 r0 (Nat.zero_le _) g0) ?_
  · intro i r1 hi hi2 g1
    have hl := g1.rok.len
    clear hi2 g0
    have g2 : GV 12 (f4 i r1) := by
      unfold f4
      have : i = 0 ∨ i = 1 ∨ i = 2 ∨ i = 3 ∨ i = 4 := by omega
      rcases this with rfl | rfl | rfl | rfl | rfl <;> exact (((((g1.put2I (by decide) (by decide) (by decide) (by decide) (by decide)).put2I (by decide) (by decide) (by decide) (by decide) (by decide)).put2I (by decide) (by decide) (by decide) (by decide) (by decide)).put2I (by decide) (by decide) (by decide) (by decide) (by decide)).put2I (by decide) (by decide) (by decide) (by decide) (by decide)).put2I (by decide) (by decide) (by decide) (by decide) (by decide)
    refine ⟨f4 i r1, g2, ?_⟩
    clear g1 g2
    unfold f4
    have : i = 0 ∨ i = 1 ∨ i = 2 ∨ i = 3 ∨ i = 4 := by omega
    clear hi
    rw [floop_at i_spec_l01Named_B4.eq_1]
    rcases this with rfl | rfl | rfl | rfl | rfl <;> simp (disch := first | assumption | omega | (simp [*] <;> omega) | fail) [-getElem?_pos, List.getElem?_cons_zero, List.getElem?_cons_succ, hp, hl, nm_get0, nm_get2, nm_clean, nm_len, wrap64]
  · intro r1 _
    rw [floop_at i_spec_l01Named_B4.eq_1]
    simp (disch := first | assumption | omega | (simp [*] <;> omega) | fail) [-getElem?_pos, List.getElem?_cons_zero, List.getElem?_cons_succ, nm_clean, nm_len]
  · rintro r1 ⟨g1, hf⟩
    exact ⟨r1, g1, hf⟩

/-! ### cube and Clebsch -/
theorem l_l01Named_1 (h : VH) (hn : nro ≤ h.length) (n : Nat) (hn2 : n = 8 ∨ n = 16) (v : Nat) (hv : v < n) (r0 : List Int) (g0 : GV n r0) :
    ∃ r1, GV n r1 ∧ floop (vcall F nro) nro [2, 4, 5, 6, 7] i_spec_l01Named_B1 (nmH h n r0) [.pointer (some ⟨h.length, 0, some 2⟩), .int .i64 n, .pointer (some ⟨h.length + 2, 0, some 2⟩), .int .i64 v, .int .i64 1] (nmH h n r0) =
      some (.exit 3, fl [(2, .pointer (some ⟨h.length, 0, some 2⟩)), (4, .int .i64 n), (5, .pointer (some ⟨h.length + 2, 0, some 2⟩)), (6, .int .i64 v)], nmH h n r1) := by
  have hp := fun r v w => nm_put (nro := nro) (h := h) (N := n) (r := r) hn (by omega) v w
  have step : ∀ (k : Nat) (r : List Int), 1 ≤ k → k < n → GV n r → ∃ r1, GV n r1 ∧ floop (vcall F nro) nro [2, 4, 5, 6, 7] i_spec_l01Named_B1 (nmH h n r0) [.pointer (some ⟨h.length, 0, some 2⟩), .int .i64 n, .pointer (some ⟨h.length + 2, 0, some 2⟩), .int .i64 v, .int .i64 k] (nmH h n r) =
      floop (vcall F nro) nro [2, 4, 5, 6, 7] i_spec_l01Named_B1 (nmH h n r0) [.pointer (some ⟨h.length, 0, some 2⟩), .int .i64 n, .pointer (some ⟨h.length + 2, 0, some 2⟩), .int .i64 v, .int .i64 (2 * k : Nat)] (nmH h n r1) := by
    intro k r hk1 hk g
    have hx : v ^^^ k < n := by
      rcases hn2 with rfl | rfl
      · exact Nat.xor_lt_two_pow (n := 3) hv hk
      · exact Nat.xor_lt_two_pow (n := 4) hv hk
    have hne : v ≠ v ^^^ k := by
      intro e
      have : v ^^^ (v ^^^ k) = 0 := by rw [← e, Nat.xor_self]
      rw [← Nat.xor_assoc, Nat.xor_self, Nat.zero_xor] at this
      omega
    have e1 := ixor_nat (a := v) (b := k) (by omega) (by omega)
    have hl := g.rok.len
    have g2 := g.put2 hv hx hne
    obtain ⟨x, hx2⟩ : ∃ x, x = v ^^^ k := ⟨_, rfl⟩
    rw [← hx2] at e1 hx g2
    refine ⟨put2 r v x, g2, ?_⟩
    have w1 : IntKind.i64.wrap (2 * (k : Int)) = 2 * (k : Int) := wrap64 (by omega) (by omega)
    clear g g2 hne hx2 g0
    rw [floop_at i_spec_l01Named_B1.eq_1]
    simp (disch := first | assumption | omega | (simp [*] <;> omega) | fail) [-getElem?_pos, List.getElem?_cons_zero, List.getElem?_cons_succ, hp, hl, hk, nm_get0, nm_get2, nm_clean, nm_len, e1, w1]
  have stop : ∀ r, floop (vcall F nro) nro [2, 4, 5, 6, 7] i_spec_l01Named_B1 (nmH h n r0) [.pointer (some ⟨h.length, 0, some 2⟩), .int .i64 n, .pointer (some ⟨h.length + 2, 0, some 2⟩), .int .i64 v, .int .i64 n] (nmH h n r) =
      some (.exit 3, fl [(2, .pointer (some ⟨h.length, 0, some 2⟩)), (4, .int .i64 n), (5, .pointer (some ⟨h.length + 2, 0, some 2⟩)), (6, .int .i64 v)], nmH h n r) := by
    intro r
    rw [floop_at i_spec_l01Named_B1.eq_1]
    simp (disch := first | assumption | omega | (simp [*] <;> omega) | fail) [-getElem?_pos, List.getElem?_cons_zero, List.getElem?_cons_succ, nm_clean, nm_len]
  obtain ⟨r1, g1, e1⟩ := step 1 r0 (by omega) (by omega) g0
  obtain ⟨r2, g2, e2⟩ := step 2 r1 (by omega) (by omega) g1
  obtain ⟨r3, g3, e3⟩ := step 4 r2 (by omega) (by omega) g2
  have f1 : floop (vcall F nro) nro [2, 4, 5, 6, 7] i_spec_l01Named_B1 (nmH h n r0) [.pointer (some ⟨h.length, 0, some 2⟩), .int .i64 n, .pointer (some ⟨h.length + 2, 0, some 2⟩), .int .i64 v, .int .i64 1] (nmH h n r0) = floop (vcall F nro) nro [2, 4, 5, 6, 7] i_spec_l01Named_B1 (nmH h n r0) [.pointer (some ⟨h.length, 0, some 2⟩), .int .i64 n, .pointer (some ⟨h.length + 2, 0, some 2⟩), .int .i64 v, .int .i64 (8 : Nat)] (nmH h n r3) := e1.trans (e2.trans e3)
  by_cases c : n = 8
  · subst c
    exact ⟨r3, g3, f1.trans (stop r3)⟩
  · have c2 : n = 16 := by omega
    subst c2
    obtain ⟨r4, g4, e4⟩ := step 8 r3 (by omega) (by omega) g3
    exact ⟨r4, g4, f1.trans (e4.trans (stop r4))⟩

theorem l_l01Named_2 (h : VH) (hn : nro ≤ h.length) (n : Nat) (hn2 : n = 8 ∨ n = 16) (r0 : List Int) (g0 : GV n r0) :
    ∃ r1, GV n r1 ∧ floop (vcall F nro) nro [2, 4, 5, 6] i_spec_l01Named_B2 (nmH h n r0) [.pointer (some ⟨h.length, 0, some 2⟩), .int .i64 n, .pointer (some ⟨h.length + 2, 0, some 2⟩), .int .i64 0] (nmH h n r0) =
      some (.exit 1, fl [(2, .pointer (some ⟨h.length, 0, some 2⟩)), (5, .pointer (some ⟨h.length + 2, 0, some 2⟩))], nmH h n r1) := by
  have hp := fun r v w => nm_put (nro := nro) (h := h) (N := n) (r := r) hn (by omega) v w
  refine Exists.elim (for_upR (call := vcall F nro) (nro := nro) (live := [2, 4, 5, 6]) (c := i_spec_l01Named_B2) (h0 := nmH h n r0) (n := n) (fun i (_ : List Int) => [.pointer (some ⟨h.length, 0, some 2⟩), .int .i64 n, .pointer (some ⟨h.length + 2, 0, some 2⟩), .int .i64 i]) (fun _ r => nmH h n r)
    (fun _ r => GV n r) (fun r => some (.exit 1, fl [(2, .pointer (some ⟨h.length, 0, some 2⟩)), (5, .pointer (some ⟨h.length + 2, 0, some 2⟩))], nmH h n r)) ?_ ?_ 0 r0 (Nat.zero_le _) g0) ?_
  · intro v r1 hv hv2 g1
    obtain ⟨r2, g2, e2⟩ := l_l01Named_1 (nro := nro) h hn n hn2 v hv r1 g1
    have hl := g2.rok.len
    have w1 : IntKind.i64.wrap ((v : Int) + 1) = (v : Int) + 1 := wrap64 (by omega) (by omega)
    by_cases c : n = 16
    · subst c
      have g3 := g2.put2I (a := v) (b := 15 - (v : Int)) (by omega) (by omega) (by omega) (by omega) (by omega)
      refine ⟨put2 r2 v (15 - (v : Int)), g3, ?_⟩
      have hv3 : (v : Int) < 16 := by omega
      have w2 : IntKind.i64.wrap (15 - (v : Int)) = 15 - (v : Int) := wrap64 (by omega) (by omega)
      have k1 : 0 ≤ 15 - (v : Int) := by omega
      have k2 : 15 - (v : Int) < 16 := by omega
      simp only [gv, Int.cast_ofNat_Int] at hp e2
      clear g1 g2 g3 g0 hn2
      rw [floop_at i_spec_l01Named_B2.eq_1]
      simp (disch := first | assumption | omega | (simp [*] <;> omega) | fail) [-getElem?_pos, List.getElem?_cons_zero, List.getElem?_cons_succ, hp, hl, hv, hv3, nm_get0, nm_get2, nm_clean, nm_len, e2, w1, w2, k1, k2]
    · have c2 : ¬ (n : Int) = 16 := by omega
      refine ⟨r2, g2, ?_⟩
      clear g1 g2 g0 hn2
      rw [floop_at i_spec_l01Named_B2.eq_1]
      simp (disch := first | assumption | omega | (simp [*] <;> omega) | fail) [-getElem?_pos, List.getElem?_cons_zero, List.getElem?_cons_succ, hl, hv, nm_get0, nm_get2, nm_clean, nm_len, e2, w1, c2, c]
  · intro r1 _
    rw [floop_at i_spec_l01Named_B2.eq_1]
    simp (disch := first | assumption | omega | (simp [*] <;> omega) | fail) [-getElem?_pos, List.getElem?_cons_zero, List.getElem?_cons_succ, nm_clean, nm_len]
  · rintro r1 ⟨g1, hf⟩
    exact ⟨r1, g1, hf⟩

/-! ### Hoffman and Singleton -/
theorem l_l01Named_5 (h : VH) (hn : nro ≤ h.length) (u j : Nat) (hu : u < 5) (hj : j < 5) (r0 : List Int) (g0 : GV 50 r0) :
    ∃ r1, GV 50 r1 ∧ floop (vcall F nro) nro [2, 13, 14, 15, 16] i_spec_l01Named_B5 (nmH h 50 r0) [.pointer (some ⟨h.length, 0, some 2⟩), .pointer (some ⟨h.length + 2, 0, some 2⟩), .int .i64 u, .int .i64 j, .int .i64 0] (nmH h 50 r0) =
      some (.exit 13, fl [(2, .pointer (some ⟨h.length, 0, some 2⟩)), (13, .pointer (some ⟨h.length + 2, 0, some 2⟩)), (14, .int .i64 u), (15, .int .i64 j)], nmH h 50 r1) := by
  have hp := fun r v w => nm_put (nro := nro) (h := h) (N := 50) (r := r) hn (by omega) v w
  simp only [gv, Int.cast_ofNat_Int] at hp
  refine Exists.elim (for_upR (call := vcall F nro) (nro := nro) (live := [2, 13, 14, 15, 16]) (c := i_spec_l01Named_B5) (h0 := nmH h 50 r0) (n := 5) (fun i (_ : List Int) => [.pointer (some ⟨h.length, 0, some 2⟩), .pointer (some ⟨h.length + 2, 0, some 2⟩), .int .i64 u, .int .i64 j, .int .i64 i]) (fun _ r => nmH h 50 r)
    (fun _ r => GV 50 r) (fun r => some (.exit 13, fl [(2, .pointer (some ⟨h.length, 0, some 2⟩)), (13, .pointer (some ⟨h.length + 2, 0, some 2⟩)), (14, .int .i64 u), (15, .int .i64 j)], nmH h 50 r)) ?_ ?_ 0 r0 (Nat.zero_le _) g0) ?_
  · intro i r1 hi hi2 g1
    have hl := g1.rok.len
    have hm : u * i ≤ 16 := Nat.le_trans (Nat.mul_le_mul (show u ≤ 4 by omega) (show i ≤ 4 by omega)) (by omega)
    obtain ⟨m, hm2⟩ : ∃ m, m = u * i := ⟨_, rfl⟩
    have e0 : (u : Int) * (i : Int) = m := by rw [hm2, Int.natCast_mul]
    have k1 : m ≤ 16 := by omega
    have w1 : IntKind.i64.wrap (5 * (u : Int)) = 5 * (u : Int) := wrap64 (by omega) (by omega)
    have w2 : IntKind.i64.wrap (5 * (u : Int) + j) = 5 * (u : Int) + j := wrap64 (by omega) (by omega)
    have w3 : IntKind.i64.wrap (5 * (i : Int)) = 5 * (i : Int) := wrap64 (by omega) (by omega)
    have w4 : IntKind.i64.wrap (25 + 5 * (i : Int)) = 25 + 5 * (i : Int) := wrap64 (by omega) (by omega)
    have w5 : IntKind.i64.wrap (m : Int) = m := wrap64 (by omega) (by omega)
    have w6 : IntKind.i64.wrap ((m : Int) + j) = (m : Int) + j := wrap64 (by omega) (by omega)
    obtain ⟨q, hq⟩ : ∃ q : Nat, q = (m + j) % 5 := ⟨_, rfl⟩
    have hq5 : q < 5 := by rw [hq]; omega
    have t1 : ((m : Int) + j).tmod 5 = q := by
      clear e0 hm2
      rw [Int.tmod_eq_emod_of_nonneg (by omega), hq]; omega
    have w7 : IntKind.i64.wrap (q : Int) = q := wrap64 (by omega) (by omega)
    have w8 : IntKind.i64.wrap (25 + 5 * (i : Int) + q) = 25 + 5 * (i : Int) + q := wrap64 (by omega) (by omega)
    have w9 : IntKind.i64.wrap ((i : Int) + 1) = (i : Int) + 1 := wrap64 (by omega) (by omega)
    have g2 := g1.put2I (a := 5 * (u : Int) + j) (b := 25 + 5 * (i : Int) + q) (by omega) (by omega) (by omega) (by omega) (by omega)
    have a1 : 0 ≤ 5 * (u : Int) + j := by omega
    have a2 : 5 * (u : Int) + j < 50 := by omega
    have a3 : 0 ≤ 25 + 5 * (i : Int) + q := by omega
    have a4 : 25 + 5 * (i : Int) + q < 50 := by omega
    refine ⟨put2 r1 (5 * (u : Int) + j) (25 + 5 * (i : Int) + q), g2, ?_⟩
    clear g1 g2 g0 hq hm2 hm
    have hi3 : (i : Int) < 5 := by omega
    rw [floop_at i_spec_l01Named_B5.eq_1]
    simp (disch := first | assumption | omega | (simp [*] <;> omega) | fail) [-getElem?_pos, List.getElem?_cons_zero, List.getElem?_cons_succ, hp, hl, hi3, nm_get0, nm_get2, nm_clean, nm_len, e0, w1, w2, w3, w4, w5, w6, w7, w8, w9, t1, a1, a2, a3, a4]
  · intro r1 _
    rw [floop_at i_spec_l01Named_B5.eq_1]
    simp (disch := first | assumption | omega | (simp [*] <;> omega) | fail) [-getElem?_pos, List.getElem?_cons_zero, List.getElem?_cons_succ, nm_clean, nm_len]
  · rintro r1 ⟨g1, hf⟩
    exact ⟨r1, g1, hf⟩

set_option maxHeartbeats 4000000 in
theorem l_l01Named_6 (h : VH) (hn : nro ≤ h.length) (u : Nat) (hu : u < 5) (r0 : List Int) (g0 : GV 50 r0) :
    ∃ r1, GV 50 r1 ∧ floop (vcall F nro) nro [2, 13, 14, 15] i_spec_l01Named_B6 (nmH h 50 r0) [.pointer (some ⟨h.length, 0, some 2⟩), .pointer (some ⟨h.length + 2, 0, some 2⟩), .int .i64 u, .int .i64 0] (nmH h 50 r0) =
      some (.exit 11, fl [(2, .pointer (some ⟨h.length, 0, some 2⟩)), (13, .pointer (some ⟨h.length + 2, 0, some 2⟩)), (14, .int .i64 u)], nmH h 50 r1) := by
  have hp := fun r v w => nm_put (nro := nro) (h := h) (N := 50) (r := r) hn (by omega) v w
  simp only [gv, Int.cast_ofNat_Int] at hp
  refine Exists.elim (for_upR (call := vcall F nro) (nro := nro) (live := [2, 13, 14, 15]) (c := i_spec_l01Named_B6) (h0 := nmH h 50 r0) (n := 5) (fun i (_ : List Int) => [.pointer (some ⟨h.length, 0, some 2⟩), .pointer (some ⟨h.length + 2, 0, some 2⟩), .int .i64 u, .int .i64 i]) (fun _ r => nmH h 50 r)
    (fun _ r => GV 50 r) (fun r => some (.exit 11, fl [(2, .pointer (some ⟨h.length, 0, some 2⟩)), (13, .pointer (some ⟨h.length + 2, 0, some 2⟩)), (14, .int .i64 u)], nmH h 50 r)) ?_ ?_ 0 r0 (Nat.zero_le _) g0) ?_
  · intro j r1 hj hj2 g1
    have hl := g1.rok.len
    have w1 : IntKind.i64.wrap (5 * (u : Int)) = 5 * (u : Int) := wrap64 (by omega) (by omega)
    have w2 : IntKind.i64.wrap (5 * (u : Int) + j) = 5 * (u : Int) + j := wrap64 (by omega) (by omega)
    have w3 : IntKind.i64.wrap ((j : Int) + 1) = (j : Int) + 1 := wrap64 (by omega) (by omega)
    have w4 : IntKind.i64.wrap ((j : Int) + 2) = (j : Int) + 2 := wrap64 (by omega) (by omega)
    have w5 : IntKind.i64.wrap (25 + 5 * (u : Int)) = 25 + 5 * (u : Int) := wrap64 (by omega) (by omega)
    have w6 : IntKind.i64.wrap (25 + 5 * (u : Int) + j) = 25 + 5 * (u : Int) + j := wrap64 (by omega) (by omega)
    obtain ⟨p, hp1⟩ : ∃ p : Nat, p = (j + 1) % 5 := ⟨_, rfl⟩
    obtain ⟨q, hq1⟩ : ∃ q : Nat, q = (j + 2) % 5 := ⟨_, rfl⟩
    have hp5 : p < 5 ∧ p ≠ j := by omega
    have hq5 : q < 5 ∧ q ≠ j := by omega
    have t1 : ((j : Int) + 1).tmod 5 = p := by rw [Int.tmod_eq_emod_of_nonneg (by omega)]; omega
    have t2 : ((j : Int) + 2).tmod 5 = q := by rw [Int.tmod_eq_emod_of_nonneg (by omega)]; omega
    have w7 : IntKind.i64.wrap (p : Int) = p := wrap64 (by omega) (by omega)
    have w8 : IntKind.i64.wrap (q : Int) = q := wrap64 (by omega) (by omega)
    have w9 : IntKind.i64.wrap (5 * (u : Int) + p) = 5 * (u : Int) + p := wrap64 (by omega) (by omega)
    have w10 : IntKind.i64.wrap (25 + 5 * (u : Int) + q) = 25 + 5 * (u : Int) + q := wrap64 (by omega) (by omega)
    have a1 : 0 ≤ 5 * (u : Int) + j := by omega
    have a2 : 5 * (u : Int) + j < 50 := by omega
    have a3 : 0 ≤ 5 * (u : Int) + p := by omega
    have a4 : 5 * (u : Int) + p < 50 := by omega
    have a5 : 0 ≤ 25 + 5 * (u : Int) + j := by omega
    have a6 : 25 + 5 * (u : Int) + j < 50 := by omega
    have a7 : 0 ≤ 25 + 5 * (u : Int) + q := by omega
    have a8 : 25 + 5 * (u : Int) + q < 50 := by omega
    have g2 := (g1.put2I (a := 5 * (u : Int) + j) (b := 5 * (u : Int) + p) (by omega) (by omega) (by omega) (by omega) (by omega)).put2I (a := 25 + 5 * (u : Int) + j) (b := 25 + 5 * (u : Int) + q) (by omega) (by omega) (by omega) (by omega) (by omega)
    obtain ⟨r3, g3, e3⟩ := l_l01Named_5 (nro := nro) h hn u j hu hj _ g2
    refine ⟨r3, g3, ?_⟩
    clear g1 g2 g3 g0 hp1 hq1 hp5 hq5
    have hj3 : (j : Int) < 5 := by omega
    rw [floop_at i_spec_l01Named_B6.eq_1]
    simp (disch := first | assumption | omega | (simp [*] <;> omega) | fail) [-getElem?_pos, List.getElem?_cons_zero, List.getElem?_cons_succ, hp, hl, hj3, nm_get0, nm_get2, nm_clean, nm_len, w1, w2, w3, w4, w5, w6, w7, w8, w9, w10, t1, t2, a1, a2, a3, a4, a5, a6, a7, a8, e3]
  · intro r1 _
    rw [floop_at i_spec_l01Named_B6.eq_1]
    simp (disch := first | assumption | omega | (simp [*] <;> omega) | fail) [-getElem?_pos, List.getElem?_cons_zero, List.getElem?_cons_succ, nm_clean, nm_len]
  · rintro r1 ⟨g1, hf⟩
    exact ⟨r1, g1, hf⟩

theorem l_l01Named_7 (h : VH) (hn : nro ≤ h.length) (r0 : List Int) (g0 : GV 50 r0) :
    ∃ r1, GV 50 r1 ∧ floop (vcall F nro) nro [2, 13, 14] i_spec_l01Named_B7 (nmH h 50 r0) [.pointer (some ⟨h.length, 0, some 2⟩), .pointer (some ⟨h.length + 2, 0, some 2⟩), .int .i64 0] (nmH h 50 r0) =
      some (.exit 9, fl [(2, .pointer (some ⟨h.length, 0, some 2⟩)), (13, .pointer (some ⟨h.length + 2, 0, some 2⟩))], nmH h 50 r1) := by
  refine Exists.elim (for_upR (call := vcall F nro) (nro := nro) (live := [2, 13, 14]) (c := i_spec_l01Named_B7) (h0 := nmH h 50 r0) (n := 5) (fun i (_ : List Int) => [.pointer (some ⟨h.length, 0, some 2⟩), .pointer (some ⟨h.length + 2, 0, some 2⟩), .int .i64 i]) (fun _ r => nmH h 50 r)
    (fun _ r => GV 50 r) (fun r => some (.exit 9, fl [(2, .pointer (some ⟨h.length, 0, some 2⟩)), (13, .pointer (some ⟨h.length + 2, 0, some 2⟩))], nmH h 50 r)) ?_ ?_ 0 r0 (Nat.zero_le _) g0) ?_
  · intro u r1 hu hu2 g1
    obtain ⟨r3, g3, e3⟩ := l_l01Named_6 (nro := nro) h hn u hu _ g1
    have w3 : IntKind.i64.wrap ((u : Int) + 1) = (u : Int) + 1 := wrap64 (by omega) (by omega)
    refine ⟨r3, g3, ?_⟩
    clear g1 g3 g0
    have hu3 : (u : Int) < 5 := by omega
    rw [floop_at i_spec_l01Named_B7.eq_1]
    simp (disch := first | assumption | omega | (simp [*] <;> omega) | fail) [-getElem?_pos, List.getElem?_cons_zero, List.getElem?_cons_succ, hu3, nm_get0, nm_get2, nm_clean, nm_len, w3, e3]
  · intro r1 _
    rw [floop_at i_spec_l01Named_B7.eq_1]
    simp (disch := first | assumption | omega | (simp [*] <;> omega) | fail) [-getElem?_pos, List.getElem?_cons_zero, List.getElem?_cons_succ, nm_clean, nm_len]
  · rintro r1 ⟨g1, hf⟩
    exact ⟨r1, g1, hf⟩
end Go.Proofs.YtghondlbkjponaaDoor.Zv

