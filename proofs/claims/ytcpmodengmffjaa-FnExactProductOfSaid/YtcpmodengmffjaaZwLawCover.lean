/- Covers; the law of IsCover. -/
import Derived.Test.YtcpmodengmffjaaZwCover
namespace Go.Proofs.Ytcpmodengmffjaa.Zv
open Go
variable {nro : Nat}

/-! ### bits put into a set -/
theorem bit_clear {m : Nat} {x : Int} (hm : m < 2 ^ 62) (h1 : x ≤ 62) : iand .i64 (m : Int) (ishl .i64 1 x) = 0 ↔ m.testBit x.toNat = false := by
  rw [ishl_one h1, iand_nat (by omega) (by have : 2 ^ x.toNat ≤ 2 ^ 62 := Nat.pow_le_pow_right (by omega) (by omega); omega)]
  have : m &&& 2 ^ x.toNat = 0 ↔ m.testBit x.toNat = false := by
    constructor
    · intro h
      have := congrArg (·.testBit x.toNat) h
      simpa [Nat.testBit_and, Nat.testBit_two_pow] using this
    · intro h
      apply Nat.eq_of_testBit_eq
      intro i
      rw [Nat.testBit_and, Nat.testBit_two_pow]
      by_cases e : x.toNat = i
      · subst e; simp [h]
      · simp [e]
  rw [← this]
  omega
theorem bit_put {m : Nat} {x : Int} (hm : m < 2 ^ 62) (h1 : x ≤ 61) : ior .i64 (m : Int) (ishl .i64 1 x) = ((m ||| 2 ^ x.toNat : Nat) : Int) := by
  have : 2 ^ x.toNat ≤ 2 ^ 61 := Nat.pow_le_pow_right (by omega) (by omega)
  rw [ishl_one (by omega), ior_nat (by omega) (by omega)]
theorem put_lt {m : Nat} {x : Int} (hm : m < 2 ^ 62) (h1 : x ≤ 61) : m ||| 2 ^ x.toNat < 2 ^ 62 := by
  have : 2 ^ x.toNat < 2 ^ 62 := Nat.pow_lt_pow_right (by omega) (by omega)
  exact Nat.or_lt_two_pow hm this

theorem pc_or_bit : ∀ (b m : Nat), pc (m ||| 2 ^ b) = pc m + if m.testBit b then 0 else 1
  | 0, m => by
    rw [pc_step (m ||| 2 ^ 0), pc_step m]
    have h1 : (m ||| 2 ^ 0) / 2 = m / 2 := by
      have := Nat.or_div_two_pow (a := m) (b := 1) (n := 1)
      simpa using this
    have h2 : (m ||| 2 ^ 0) % 2 = 1 := by
      have := Nat.or_mod_two_pow (a := m) (b := 1) (n := 1)
      simp at this
      rw [Nat.pow_zero, this]
      rcases Nat.mod_two_eq_zero_or_one m with e | e <;> rw [e] <;> rfl
    rw [h1, h2, Nat.testBit_zero]
    rcases Nat.mod_two_eq_zero_or_one m with e | e <;> simp [e] <;> omega
  | b + 1, m => by
    rw [pc_step (m ||| 2 ^ (b + 1)), pc_step m]
    have h1 : (m ||| 2 ^ (b + 1)) / 2 = m / 2 ||| 2 ^ b := by
      have := Nat.or_div_two_pow (a := m) (b := 2 ^ (b + 1)) (n := 1)
      simpa [Nat.pow_succ] using this
    have h2 : (m ||| 2 ^ (b + 1)) % 2 = m % 2 := by
      have := Nat.or_mod_two_pow (a := m) (b := 2 ^ (b + 1)) (n := 1)
      simpa [Nat.pow_succ] using this
    rw [h1, h2, pc_or_bit b (m / 2), Nat.testBit_succ]
    omega

/-- The set of the images, and none if two are the same. -/
def covGo (xs : List Int) : List Int → Nat → Option Nat
  | [], m => some m
  | w :: r, m => if m.testBit (xs.getD w.toNat 0).toNat then none else covGo xs r (m ||| 2 ^ (xs.getD w.toNat 0).toNat)
/-- The set of the images. -/
def imgs (xs : List Int) : List Int → Nat → Nat
  | [], m => m
  | w :: r, m => imgs xs r (m ||| 2 ^ (xs.getD w.toNat 0).toNat)
theorem imgs_pc (xs : List Int) : ∀ (r : List Int) (m : Nat), pc (imgs xs r m) ≤ pc m + r.length
  | [], m => by simp [imgs]
  | w :: r, m => by
    have := imgs_pc xs r (m ||| 2 ^ (xs.getD w.toNat 0).toNat)
    rw [pc_or_bit] at this
    simp only [imgs, List.length_cons]
    split at this <;> omega
theorem covGo_iff (xs : List Int) : ∀ (r : List Int) (m z : Nat), covGo xs r m = some z ↔ imgs xs r m = z ∧ pc (imgs xs r m) = pc m + r.length
  | [], m, z => by simp [covGo, imgs]
  | w :: r, m, z => by
    have e1 : imgs xs (w :: r) m = imgs xs r (m ||| 2 ^ (xs.getD w.toNat 0).toNat) := rfl
    have e2 : covGo xs (w :: r) m = if m.testBit (xs.getD w.toNat 0).toNat then none else covGo xs r (m ||| 2 ^ (xs.getD w.toNat 0).toNat) := rfl
    have h1 := pc_or_bit (xs.getD w.toNat 0).toNat m
    rw [e1, e2, List.length_cons]
    by_cases hb : m.testBit (xs.getD w.toNat 0).toNat = true
    · rw [if_pos hb] at h1 ⊢
      have := imgs_pc xs r (m ||| 2 ^ (xs.getD w.toNat 0).toNat)
      constructor
      · intro e; cases e
      · rintro ⟨_, e⟩; omega
    · rw [if_neg hb] at h1 ⊢
      rw [covGo_iff xs r, h1, show pc m + 1 + r.length = pc m + (r.length + 1) by omega]

/-- A row's bits are as many as the neighbours. -/
theorem nbF_pc (rows : List Int) (v : Nat) (x : Nat) (hx : x = (rows.getD v 0).toNat) (n w : Nat) (hn : x < 2 ^ n) (hw : w ≤ n) : (nbF rows v n w).length = pc (x / 2 ^ w) := by
  by_cases h : w < n
  · rw [nbF_step h, List.length_append, nbF_pc rows v x hx n (w + 1) hn h, pc_step (x / 2 ^ w), Nat.div_div_eq_div_mul, ← Nat.pow_succ]
    have : rbit rows v w = decide (x / 2 ^ w % 2 = 1) := by
      unfold rbit
      rw [← hx, Nat.testBit_eq_decide_div_mod_eq]
    rw [this]
    rcases Nat.mod_two_eq_zero_or_one (x / 2 ^ w) with e | e <;> simp [e]
  · have : w = n := by omega
    subst this
    rw [nbF_end h, Nat.div_eq_of_lt hn, pc_zero]
    rfl
 termination_by n - w
theorem nb_pc {n : Int} {rows : List Int} (g : GV n rows) {v : Nat} (hv : v < rows.length) : (nb rows v n.toNat).length = pc (rows.getD v 0).toNat := by
  obtain ⟨g1, g2, _⟩ := g.row v hv
  have := nbF_pc rows v _ rfl n.toNat 0 (by
    have h2 : ((2 ^ n.toNat : Nat) : Int) = (2 : Int) ^ n.toNat := by simp
    omega) (by omega)
  simpa [nb] using this

/-- A vertex and its neighbours are laid over. -/
def covAt (n : Int) (rows hrows xs : List Int) (v : Nat) : Prop := covGo xs (nb rows v n.toNat) 0 = some (hrows.getD (xs.getD v 0).toNat 0).toNat
theorem covAt_iff {n : Int} {rows hrows xs : List Int} (g : GV n rows) {v : Nat} (hv : v < rows.length) : covAt n rows hrows xs v ↔ imgs xs (nb rows v n.toNat) 0 = (hrows.getD (xs.getD v 0).toNat 0).toNat ∧ pc (imgs xs (nb rows v n.toNat) 0) = pc (rows.getD v 0).toNat := by
  unfold covAt
  rw [covGo_iff, pc_zero, Nat.zero_add, nb_pc g hv]

open Classical in
noncomputable def coverAns (n : Int) (rows : List Int) (m : Int) (hrows xs : List Int) : Bool × Int :=
  if ¬ (GV n rows ∧ GV m hrows) then (false, 1) else if (xs.length : Int) ≠ n ∨ badV m xs then (false, 2) else (decide (∀ v, v < rows.length → covAt n rows hrows xs v), 0)

/-! ### the reference's -/
theorem l_spec_IsCover_2 (u q x3 x4 x9 : Value) (xs L : List Int) (H : VH) (hu : Sli H u xs) (hq : Sli H q L) (h3 : Old H.length x3) (h4 : Old H.length x4) (h9 : Old H.length x9) (hL : ∀ w ∈ L, 0 ≤ w ∧ w < xs.length) (hx : ∀ j : Nat, j < xs.length → 0 ≤ xs.getD j 0 ∧ xs.getD j 0 ≤ 61) (hl : L.length ≤ 1000) (i : Nat) (hi : i ≤ L.length) (m : Nat) (hm : m < 2 ^ 62) :
    floop (vcall F nro) nro [2, 3, 4, 9, 10, 11, 12] i_spec_IsCover_B2 H [u, x3, x4, x9, q, .int .i64 m, .int .i64 i] H =
      match covGo xs (L.drop i) m with
      | none => some (.ret, fl [(6, .bool false), (7, .int .i64 0)], H)
      | some m' => some (.exit 4, fl [(2, u), (3, x3), (4, x4), (9, x9), (11, .int .i64 m')], H) := by
  have huo := hu.old
  have hqo := hq.old
  rw [floop_at i_spec_IsCover_B2.eq_1]
  by_cases hlt : i < L.length
  · have hlt' : (i : Int) < L.length := by omega
    obtain ⟨w1, w2⟩ := hL L[i] (List.getElem_mem _)
    obtain ⟨x1, x2⟩ := hx L[i].toNat (by omega)
    have e1 : xs.getD L[i].toNat 0 = xs[L[i].toNat]'(by omega) := getD_at _ (by omega)
    rw [List.drop_eq_getElem_cons hlt, covGo]
    rw [e1] at x1 x2 ⊢
    have c1 := bit_clear (m := m) (x := xs[L[i].toNat]'(by omega)) hm (by omega)
    have c2 := bit_put (m := m) (x := xs[L[i].toNat]'(by omega)) hm (by omega)
    by_cases hb : m.testBit (xs[L[i].toNat]'(by omega)).toNat = true
    · have c3 := mt c1.mp (by rw [hb]; simp)
      rw [if_pos hb]
      simp (disch := first | assumption | omega | (simp [*] <;> omega) | fail) [hu.vidx, hu.vload, hq.vlen, hq.vidx, hq.vload, wrapu64, hlt', c3]
    · have c3 := c1.mpr (by simpa using hb)
      have ih := l_spec_IsCover_2 u q x3 x4 x9 xs L H hu hq h3 h4 h9 hL hx hl (i + 1) hlt _ (put_lt hm (show xs[L[i].toNat]'(by omega) ≤ 61 by omega))
      rw [show ((i + 1 : Nat) : Int) = (i : Int) + 1 by omega] at ih
      rw [if_neg hb]
      simp (disch := first | assumption | omega | (simp [*] <;> omega) | fail) [hu.vidx, hu.vload, hq.vlen, hq.vidx, hq.vload, wrapu64, wrap64, hlt', c3, c2, ih]
  · have hlt' : ¬ (i : Int) < L.length := by omega
    rw [List.drop_eq_nil_of_le (by omega), covGo]
    simp (disch := first | assumption | omega | (simp [*] <;> omega) | fail) [hq.vlen, hlt']
 termination_by L.length - i


/-- The heap with two graphs' values in boxes. -/
abbrev cH (h : VH) (n : Int) (s : Value) (m : Int) (t : Value) : VH := h ++ [⟨0, [.int .i64 n, s]⟩, ⟨0, [.int .i64 m, t]⟩]

open Classical in
theorem l_spec_IsCover_1 (n m : Int) (s t u : Value) (xs : List Int) (h : VH) (hu : Sli h u xs) (hsc : ∀ k, OldC (h.length + k) s) (htc : ∀ k, OldC (h.length + k) t) (hl : xs.length ≤ 9223372036854775806) (hm : 1 ≤ m) (hm2 : m ≤ 62) :
    floop (vcall F nro) nro [2, 3, 4, 8] i_spec_IsCover_B1 (cH h n s m t) [u, bp h, cp h, .int .i64 0] (cH h n s m t) =
      if badV m xs then some (.ret, fl [(6, .bool false), (7, .int .i64 2)], cH h n s m t) else some (.exit 0, fl [(2, u), (3, bp h), (4, cp h)], cH h n s m t) := by
  have huo := fun k => hu.oldk (k := k)
  refine search (fun i => floop (vcall F nro) nro [2, 3, 4, 8] i_spec_IsCover_B1 (cH h n s m t) [u, bp h, cp h, .int .i64 i] (cH h n s m t)) (fun i => ¬ (0 ≤ xs.getD i.toNat 0 ∧ xs.getD i.toNat 0 < m)) _ _ xs.length 0 ?_ ?_ 0 (by omega)
  · intro i hi hlt
    have e1 : xs.getD i.toNat 0 = xs[i.toNat]'(by omega) := getD_at _ (by omega)
    have hc := fun L (x a b : Int) => c_spec_l01In (nro := nro) x a b (h ++ L)
    rw [floop_at i_spec_IsCover_B1.eq_1, e1]
    have e2 : xs[i.toNat]'(by omega) ≤ m - 1 ↔ xs[i.toNat]'(by omega) < m := by omega
    constructor <;> intro hb
    · by_cases h0 : 0 ≤ xs[i.toNat]'(by omega)
      · have h1 : ¬ xs[i.toNat]'(by omega) < m := fun h1 => hb ⟨h0, h1⟩
        simp (disch := first | assumption | omega | (simp [*] <;> omega) | fail) [hu.vlen', hu.vidx', hu.vload', wrap64, hlt, h0, h1, hc, e2]
      · simp (disch := first | assumption | omega | (simp [*] <;> omega) | fail) [hu.vlen', hu.vidx', hu.vload', wrap64, hlt, h0, hc, e2]
    · obtain ⟨h0, h1⟩ := Classical.not_not.mp hb
      simp (disch := first | assumption | omega | (simp [*] <;> omega) | fail) [hu.vlen', hu.vidx', hu.vload', wrap64, hlt, h0, h1, hc, e2]
  · intro i hi hlt
    rw [floop_at i_spec_IsCover_B1.eq_1]
    simp (disch := first | assumption | omega | (simp [*] <;> omega) | fail) [hu.vlen', hlt]

theorem mem_nb {n : Int} {rows : List Int} {v : Nat} (g : GV n rows) {w : Int} (h : w ∈ nb rows v n.toNat) : 0 ≤ w ∧ w < n := by
  have := (nbF_mem rows v n.toNat 0 w).mp h
  have := g.lo
  omega
theorem notBad {m : Int} {xs : List Int} (h : ¬ badV m xs) (j : Nat) (hj : j < xs.length) : 0 ≤ xs.getD j 0 ∧ xs.getD j 0 < m := by
  apply Classical.byContradiction
  intro hb
  exact h ⟨j, by omega, by omega, by simpa using hb⟩
theorem nb_len {n : Int} {rows : List Int} {v : Nat} (g : GV n rows) : (nb rows v n.toNat).length ≤ 62 := by
  have := nbF_len rows v n.toNat 0 (by omega)
  have := g.hi
  unfold nb
  omega

/-- A loop that looks for something bad, where what it comes to then is not always the same. -/
theorem search2 {α : Type} (f : Int → α) (bad : Int → Prop) (R : α → Prop) (d : α) (n lo : Int) (hstep : ∀ i, lo ≤ i → i < n → (bad i → R (f i)) ∧ (¬ bad i → f i = f (i + 1))) (hend : ∀ i, lo ≤ i → ¬ i < n → f i = d) (i : Int) (hi : lo ≤ i) :
    ((∃ j, i ≤ j ∧ j < n ∧ bad j) → R (f i)) ∧ ((¬ ∃ j, i ≤ j ∧ j < n ∧ bad j) → f i = d) := by
  by_cases hlt : i < n
  · by_cases hb : bad i
    · exact ⟨fun _ => (hstep i hi hlt).1 hb, fun h => absurd ⟨i, Int.le_refl _, hlt, hb⟩ h⟩
    · rw [(hstep i hi hlt).2 hb]
      have ih := search2 f bad R d n lo hstep hend (i + 1) (by omega)
      have : (∃ j, i + 1 ≤ j ∧ j < n ∧ bad j) ↔ ∃ j, i ≤ j ∧ j < n ∧ bad j := by
        constructor
        · rintro ⟨j, h1, h2, h3⟩; exact ⟨j, by omega, h2, h3⟩
        · rintro ⟨j, h1, h2, h3⟩
          refine ⟨j, ?_, h2, h3⟩
          have : j ≠ i := fun e => hb (e ▸ h3)
          omega
      rw [this] at ih
      exact ih
  · refine ⟨?_, fun _ => hend i hi hlt⟩
    rintro ⟨j, h1, h2, _⟩
    omega
 termination_by (n - i).toNat

theorem l_spec_IsCover_3 (n m : Int) (s t u : Value) (rows hrows xs : List Int) (h : VH) (hs : Sli h s rows) (ht : Sli h t hrows) (hu : Sli h u xs) (hn : nro ≤ h.length) (g : GV n rows) (gm : GV m hrows) (hl : (xs.length : Int) = n) (hb : ¬ badV m xs) :
    ((∃ j : Int, 0 ≤ j ∧ j < n ∧ ¬ covAt n rows hrows xs j.toNat) → ∃ M, floop (vcall F nro) nro [2, 3, 4, 9] i_spec_IsCover_B3 (cH h n s m t) [u, bp h, cp h, .int .i64 0] (cH h n s m t) = some (.ret, fl [(6, .bool false), (7, .int .i64 0)], h ++ M)) ∧
    ((¬ ∃ j : Int, 0 ≤ j ∧ j < n ∧ ¬ covAt n rows hrows xs j.toNat) → floop (vcall F nro) nro [2, 3, 4, 9] i_spec_IsCover_B3 (cH h n s m t) [u, bp h, cp h, .int .i64 0] (cH h n s m t) = some (.exit 2, fl [], cH h n s m t)) := by
  have huo := fun k => hu.oldk (k := k)
  have hsc := fun k => hs.oldCk (k := k)
  have htc := fun k => ht.oldCk (k := k)
  have hn' := fun k => Nat.le_trans hn (Nat.le_add_right h.length k)
  have g0 := g.hi
  have gm0 := gm.hi
  have gml := gm.len
  refine search2 (fun i => floop (vcall F nro) nro [2, 3, 4, 9] i_spec_IsCover_B3 (cH h n s m t) [u, bp h, cp h, .int .i64 i] (cH h n s m t)) (fun i => ¬ covAt n rows hrows xs i.toNat) (fun z => ∃ M, z = some (.ret, fl [(6, .bool false), (7, .int .i64 0)], h ++ M)) _ n 0 ?_ ?_ 0 (by omega)
  · intro i hi hlt
    obtain ⟨L, hL⟩ : ∃ L, L = nb rows i.toNat n.toNat := ⟨_, rfl⟩
    have hc := c_spec_l01Neighbours (nro := nro) n s rows (cH h n s m t) (hs.app _) (by simp; omega) g i hi hlt
    have hl2 := l_spec_IsCover_2 (nro := nro) u (.slice (some ⟨h.length + 2, 0, none⟩) L.length L.length) (bp h) (cp h) (.int .i64 i) xs L (cH h n s m t ++ [⟨1, ints L⟩]) ((hu.app _).app _) (sli_at (by simp)) (by simp) (by simp) (by simp)
      (fun w hw => by have := mem_nb g (hL ▸ hw); omega) (fun j hj => by have := notBad hb j hj; omega) (by have := nb_len (v := i.toNat) g; rw [hL]; omega) 0 (by omega) 0 (by omega)
    obtain ⟨x1, x2⟩ := notBad hb i.toNat (by omega)
    have e1 : xs.getD i.toNat 0 = xs[i.toNat]'(by omega) := getD_at _ (by omega)
    obtain ⟨r1, _, _⟩ := gm.row (xs.getD i.toNat 0).toNat (by omega)
    have hcov : covAt n rows hrows xs i.toNat ↔ covGo xs L 0 = some (hrows.getD (xs.getD i.toNat 0).toNat 0).toNat := by rw [hL]; rfl
    rw [e1] at x1 x2 r1
    have e2 : hrows.getD (xs[i.toNat]'(by omega)).toNat 0 = hrows[(xs[i.toNat]'(by omega)).toNat]'(by omega) := getD_at _ (by omega)
    rw [e1, e2] at hcov
    rw [e2] at r1
    rw [floop_at i_spec_IsCover_B3.eq_1, hcov]
    rw [← hL] at hc
    simp at hc hl2
    cases hg : covGo xs L 0 with
    | none =>
      rw [hg] at hl2
      simp at hl2
      constructor <;> intro hb2
      · refine ⟨[⟨0, [.int .i64 n, s]⟩, ⟨0, [.int .i64 m, t]⟩, ⟨1, ints L⟩], ?_⟩
        simp (disch := first | assumption | omega | (simp [*] <;> omega) | fail) [wrap64, hlt, hc, hl2, hn', hsc, htc]
      · simp at hb2
    | some z =>
      rw [hg] at hl2
      simp at hl2
      have e3 : ((z : Int) = hrows[(xs[i.toNat]'(by omega)).toNat]'(by omega)) ↔ z = (hrows[(xs[i.toNat]'(by omega)).toNat]'(by omega)).toNat := by omega
      constructor <;> intro hb2
      · have hb3 : ¬ (z : Int) = hrows[(xs[i.toNat]'(by omega)).toNat]'(by omega) := by
          rw [e3]; intro e; exact hb2 (by rw [e])
        refine ⟨[⟨0, [.int .i64 n, s]⟩, ⟨0, [.int .i64 m, t]⟩, ⟨1, ints L⟩], ?_⟩
        simp (disch := first | assumption | omega | (simp [*] <;> omega) | fail) [wrap64, hlt, hc, hl2, hn', hsc, htc, hu.vidx', hu.vload', ht.vidx', ht.vload', hb3]
      · have hb3 : (z : Int) = hrows[(xs[i.toNat]'(by omega)).toNat]'(by omega) := by
          rw [e3]; have := Classical.not_not.mp hb2; exact Option.some.inj this
        simp (disch := first | assumption | omega | (simp [*] <;> omega) | fail) [wrap64, hlt, hc, hl2, hn', hsc, htc, hu.vidx', hu.vload', ht.vidx', ht.vload', hb3]
  · intro i hi hlt
    rw [floop_at i_spec_IsCover_B3.eq_1]
    simp (disch := first | assumption | omega | (simp [*] <;> omega) | fail) [hlt]

theorem cov_all {n : Int} {rows hrows xs : List Int} (g : GV n rows) : (∀ v, v < rows.length → covAt n rows hrows xs v) ↔ ¬ ∃ j : Int, 0 ≤ j ∧ j < n ∧ ¬ covAt n rows hrows xs j.toNat := by
  have hlen := g.len
  constructor
  · rintro h1 ⟨j, h2, h3, h4⟩; exact h4 (h1 _ (by omega))
  · intro h1 v hv
    apply Classical.byContradiction
    intro h2
    exact h1 ⟨v, by omega, by omega, by simpa using h2⟩

open Classical in
theorem c_spec_IsCover (n m : Int) (s t u : Value) (rows hrows xs : List Int) (h : VH) (hs : Sli h s rows) (ht : Sli h t hrows) (hu : Sli h u xs) (hl : xs.length ≤ 9223372036854775806) (hn : nro ≤ h.length) :
    vcall F nro k_spec_IsCover [gv n s, gv m t, u] h = some (.tuple #[.bool (coverAns n rows m hrows xs).1, .int .i64 (coverAns n rows m hrows xs).2], h) := by
  refine v_spec_IsCover (by simp [i_spec_IsCover]) ?_
  rw [fbody_eq]
  have hsc := fun k => hs.oldCk (k := k)
  have htc := fun k => ht.oldCk (k := k)
  have hn' := fun k => Nat.le_trans hn (Nat.le_add_right h.length k)
  have hc1 := c_spec_l01Is (nro := nro) n s rows (cH h n s m t) (hs.app _)
  have hc2 := c_spec_l01Is (nro := nro) m t hrows (cH h n s m t) (ht.app _)
  by_cases g : GV n rows
  · by_cases gm : GV m hrows
    · by_cases hx : (xs.length : Int) = n
      · have l1 := l_spec_IsCover_1 (nro := nro) n m s t u xs h hu hsc htc hl gm.lo gm.hi
        by_cases hb : badV m xs
        · have e : coverAns n rows m hrows xs = (false, 2) := by simp [coverAns, g, gm, hb]
          rw [if_pos hb] at l1
          simp (disch := first | assumption | omega | (simp [*] <;> omega) | fail) [i_spec_IsCover, hc1, hc2, g, gm, hu.vlen', hx, l1, e]
        · have l3 := l_spec_IsCover_3 (nro := nro) n m s t u rows hrows xs h hs ht hu hn g gm hx hb
          have hiff := cov_all (hrows := hrows) (xs := xs) g
          rw [if_neg hb] at l1
          by_cases hc : ∃ j : Int, 0 ≤ j ∧ j < n ∧ ¬ covAt n rows hrows xs j.toNat
          · obtain ⟨M, l4⟩ := l3.1 hc
            have e : coverAns n rows m hrows xs = (false, 0) := by
              have := mt hiff.mp (Classical.not_not.mpr hc)
              simp only [coverAns, g, gm, hb, hx, this]
              simp
            clear l3 hiff hc
            simp (disch := first | assumption | omega | (simp [*] <;> omega) | fail) [i_spec_IsCover, hc1, hc2, g, gm, hu.vlen', hx, l1, l4, e]
          · have l4 := l3.2 hc
            have e : coverAns n rows m hrows xs = (true, 0) := by
              have := hiff.mpr hc
              simp only [coverAns, g, gm, hb, hx]
              simp
              exact this
            clear l3 hiff hc
            simp (disch := first | assumption | omega | (simp [*] <;> omega) | fail) [i_spec_IsCover, hc1, hc2, g, gm, hu.vlen', hx, l1, l4, e]
      · have e : coverAns n rows m hrows xs = (false, 2) := by simp [coverAns, g, gm, hx]
        simp (disch := first | assumption | omega | (simp [*] <;> omega) | fail) [i_spec_IsCover, hc1, hc2, g, gm, hu.vlen', hx, e]
    · have e : coverAns n rows m hrows xs = (false, 1) := by simp [coverAns, gm]
      simp (disch := first | assumption | omega | (simp [*] <;> omega) | fail) [i_spec_IsCover, hc1, hc2, g, gm, e]
  · have e : coverAns n rows m hrows xs = (false, 1) := by simp [coverAns, g]
    simp (disch := first | assumption | omega | (simp [*] <;> omega) | fail) [i_spec_IsCover, hc1, hc2, g, e]

/-! ### the program's -/
theorem imgs_lt (xs : List Int) (hx : ∀ j : Nat, j < xs.length → 0 ≤ xs.getD j 0 ∧ xs.getD j 0 ≤ 61) : ∀ (r : List Int) (m : Nat), (∀ w ∈ r, 0 ≤ w ∧ w < xs.length) → m < 2 ^ 62 → imgs xs r m < 2 ^ 62
  | [], m, _, hm => hm
  | w :: r, m, hr, hm => by
    obtain ⟨h1, h2⟩ := hr w (by simp)
    obtain ⟨h3, h4⟩ := hx w.toNat (by omega)
    exact imgs_lt xs hx r _ (fun v hv => hr v (List.mem_cons_of_mem _ hv)) (put_lt hm h4)

abbrev cA (h : VH) (n : Int) (s : Value) (m : Int) (t : Value) : VH := h ++ [⟨0, [.int .i64 n, s]⟩, ⟨0, [.int .i64 m, t]⟩, ⟨2, [.int .i64 n, s, .int .i64 m, t]⟩]
theorem l_impl_IsCover_1 (n m : Int) (s t u : Value) (rows xs : List Int) (h : VH) (hs : Sli h s rows) (hu : Sli h u xs) (hsc : ∀ k, OldC (h.length + k) s) (htc : ∀ k, OldC (h.length + k) t) (g : GV n rows) (hl : (xs.length : Int) = n) (hx : ∀ j : Nat, j < xs.length → 0 ≤ xs.getD j 0 ∧ xs.getD j 0 ≤ 61) (v : Int) (hv : 0 ≤ v) (hvn : v < n) (w : Nat) (hw : w ≤ n.toNat) (z : Nat) (hz : z < 2 ^ 62) :
    floop (vcall F nro) nro [2, 3, 4, 8, 9, 28, 29, 33, 34] i_impl_IsCover_B1 (cA h n s m t) [u, bp h, cp h, .int .i64 v, .int .i64 z, .int .i64 n, .int .i64 v, .int .i64 n, .int .i64 w] (cA h n s m t) =
      some (.exit 2, fl [(2, u), (3, bp h), (4, cp h), (8, .int .i64 v), (9, .int .i64 (imgs xs (nbF rows v.toNat n.toNat w) z : Nat)), (28, .int .i64 n), (29, .int .i64 v)], cA h n s m t) := by
  have huo := fun k => hu.oldk (k := k)
  have g0 := g.hi
  have hlen := g.len
  have hp := pow_le62 g.hi
  obtain ⟨g1, g2, _⟩ := g.row v.toNat (by omega)
  rw [floop_at i_impl_IsCover_B1.eq_1]
  by_cases hlt : w < n.toNat
  · have hlt' : (w : Int) < n := by omega
    have hc := c_impl_Graph_has (nro := nro) n v w s rows (cA h n s m t) (hs.app _) hv (by omega) (by omega) (by omega) g1 (by omega)
    rw [nbF_step hlt]
    by_cases hb : rbit rows v.toNat w = true
    · obtain ⟨x1, x2⟩ := hx w (by omega)
      have e1 : xs.getD w 0 = xs[w]'(by omega) := getD_at _ (by omega)
      rw [e1] at x1 x2
      have c2 := bit_put (m := z) (x := xs[w]'(by omega)) hz x2
      have ih := l_impl_IsCover_1 n m s t u rows xs h hs hu hsc htc g hl hx v hv hvn (w + 1) hlt (z ||| 2 ^ (xs[w]'(by omega)).toNat) (put_lt hz x2)
      rw [show ((w + 1 : Nat) : Int) = (w : Int) + 1 by omega] at ih
      have e2 : imgs xs ([(w : Int)] ++ nbF rows v.toNat n.toNat (w + 1)) z = imgs xs (nbF rows v.toNat n.toNat (w + 1)) (z ||| 2 ^ (xs[w]'(by omega)).toNat) := by
        simp only [List.cons_append, List.nil_append, imgs, Int.toNat_natCast, e1]
      rw [if_pos hb, e2]
      simp (disch := first | assumption | omega | (simp [*] <;> omega) | fail) [wrap64, hlt', hc, hb, hsc, htc, hu.vidx', hu.vload', c2, ih]
    · have ih := l_impl_IsCover_1 n m s t u rows xs h hs hu hsc htc g hl hx v hv hvn (w + 1) hlt z hz
      rw [show ((w + 1 : Nat) : Int) = (w : Int) + 1 by omega] at ih
      rw [if_neg hb]
      simp (disch := first | assumption | omega | (simp [*] <;> omega) | fail) [wrap64, hlt', hc, hb, hsc, htc, ih]
  · have hlt' : ¬ (w : Int) < n := by omega
    rw [nbF_end hlt]
    simp (disch := first | assumption | omega | (simp [*] <;> omega) | fail) [hlt', imgs]
 termination_by n.toNat - w

theorem l_impl_IsCover_2 (n m : Int) (s t u : Value) (rows hrows xs : List Int) (h : VH) (hs : Sli h s rows) (ht : Sli h t hrows) (hu : Sli h u xs) (g : GV n rows) (gm : GV m hrows) (hl : (xs.length : Int) = n) (hb : ¬ badV m xs) :
    ((∃ j : Int, 0 ≤ j ∧ j < n ∧ ¬ covAt n rows hrows xs j.toNat) → ∃ M, floop (vcall F nro) nro [2, 3, 4, 28, 29] i_impl_IsCover_B2 (cA h n s m t) [u, bp h, cp h, .int .i64 n, .int .i64 0] (cA h n s m t) = some (.ret, fl [(6, .bool false), (7, .int .i64 0)], h ++ M)) ∧
    ((¬ ∃ j : Int, 0 ≤ j ∧ j < n ∧ ¬ covAt n rows hrows xs j.toNat) → floop (vcall F nro) nro [2, 3, 4, 28, 29] i_impl_IsCover_B2 (cA h n s m t) [u, bp h, cp h, .int .i64 n, .int .i64 0] (cA h n s m t) = some (.exit 0, fl [], cA h n s m t)) := by
  have huo := fun k => hu.oldk (k := k)
  have hsc := fun k => hs.oldCk (k := k)
  have htc := fun k => ht.oldCk (k := k)
  have g0 := g.hi
  have hlen := g.len
  have gm0 := gm.hi
  have gml := gm.len
  have hp := pow_le62 g.hi
  have hpm := pow_le62 gm.hi
  refine search2 (fun i => floop (vcall F nro) nro [2, 3, 4, 28, 29] i_impl_IsCover_B2 (cA h n s m t) [u, bp h, cp h, .int .i64 n, .int .i64 i] (cA h n s m t)) (fun i => ¬ covAt n rows hrows xs i.toNat) (fun z => ∃ M, z = some (.ret, fl [(6, .bool false), (7, .int .i64 0)], h ++ M)) _ n 0 ?_ ?_ 0 (by omega)
  · intro i hi hlt
    have hx : ∀ j : Nat, j < xs.length → 0 ≤ xs.getD j 0 ∧ xs.getD j 0 ≤ 61 := fun j hj => by have := notBad hb j hj; omega
    have hl2 := l_impl_IsCover_1 (nro := nro) n m s t u rows xs h hs hu hsc htc g hl hx i hi hlt 0 (by omega) 0 (by omega)
    have hzl := imgs_lt xs hx (nb rows i.toNat n.toNat) 0 (fun w hw => by have := mem_nb g hw; omega) (by omega)
    obtain ⟨z, hz⟩ : ∃ z, z = imgs xs (nb rows i.toNat n.toNat) 0 := ⟨_, rfl⟩
    have hcov := covAt_iff (hrows := hrows) (xs := xs) g (v := i.toNat) (by omega)
    unfold nb at hz
    rw [← hz] at hl2
    unfold nb at hzl hcov
    rw [← hz] at hzl hcov
    obtain ⟨x1, x2⟩ := notBad hb i.toNat (by omega)
    have e1 : xs.getD i.toNat 0 = xs[i.toNat]'(by omega) := getD_at _ (by omega)
    obtain ⟨r1, _, _⟩ := gm.row (xs.getD i.toNat 0).toNat (by omega)
    obtain ⟨g1, g2, _⟩ := g.row i.toNat (by omega)
    rw [e1] at x1 x2 r1 hcov
    have e2 : hrows.getD (xs[i.toNat]'(by omega)).toNat 0 = hrows[(xs[i.toNat]'(by omega)).toNat]'(by omega) := getD_at _ (by omega)
    rw [e2] at r1 hcov
    have hs1 := c_impl_size (nro := nro) z (cA h n s m t) (by omega) (by omega)
    have hd1 := c_impl_Graph_degree (nro := nro) n i s rows (cA h n s m t) (hs.app _) hi (by omega) g1 (by omega)
    rw [Int.toNat_natCast] at hs1
    have hrow : (z : Int) = hrows[(xs[i.toNat]'(by omega)).toNat]'(by omega) ↔ z = (hrows[(xs[i.toNat]'(by omega)).toNat]'(by omega)).toNat := by omega
    rw [floop_at i_impl_IsCover_B2.eq_1, hcov, ← hrow]
    obtain ⟨dg, hdg⟩ : ∃ dg, dg = pc (rows.getD i.toNat 0).toNat := ⟨_, rfl⟩
    rw [← hdg] at hd1 ⊢
    simp at hl2
    constructor <;> intro hb2
    · refine ⟨[⟨0, [.int .i64 n, s]⟩, ⟨0, [.int .i64 m, t]⟩, ⟨2, [.int .i64 n, s, .int .i64 m, t]⟩], ?_⟩
      by_cases h1 : (z : Int) = hrows[(xs[i.toNat]'(by omega)).toNat]'(by omega)
      · have h2 : ¬ pc z = dg := fun h2 => hb2 ⟨h1, h2⟩
        simp (disch := first | assumption | omega | (simp [*] <;> omega) | fail) [wrap64, hlt, hl2, hsc, htc, hu.vidx', hu.vload', ht.vidx', ht.vload', h1.symm, hs1, hd1, h2]
        intro h3
        omega
      · simp (disch := first | assumption | omega | (simp [*] <;> omega) | fail) [wrap64, hlt, hl2, hsc, htc, hu.vidx', hu.vload', ht.vidx', ht.vload', h1]
    · obtain ⟨h1, h2⟩ := Classical.not_not.mp hb2
      simp (disch := first | assumption | omega | (simp [*] <;> omega) | fail) [wrap64, hlt, hl2, hsc, htc, hu.vidx', hu.vload', ht.vidx', ht.vload', h1.symm, hs1, hd1, h2]
  · intro i hi hlt
    rw [floop_at i_impl_IsCover_B2.eq_1]
    simp (disch := first | assumption | omega | (simp [*] <;> omega) | fail) [hlt]

/-! ### two graphs in a list -/
theorem Sli.nj {h : VH} {v : Value} {xs : List Int} (hs : Sli h v xs) : isJunk v = false := by
  cases v <;> first | rfl | (simp [Sli, Sl, vsrc] at hs)
theorem c_impl_areGraphs2 (n m : Int) (s t : Value) (rows hrows : List Int) (b : Nat) (h : VH) (hs : Sli h s rows) (ht : Sli h t hrows) (hb : h[b]? = some ⟨2, [.int .i64 n, s, .int .i64 m, t]⟩) (hn : nro ≤ h.length) :
    vcall F nro k_impl_areGraphs [.slice (some ⟨b, 0, none⟩) 2 4] h = some (.bool (open Classical in decide (GV n rows ∧ GV m hrows)), h) := by
  refine v_impl_areGraphs (by simp [i_impl_areGraphs]) ?_
  rw [fbody_eq]
  have hbl := (List.getElem?_eq_some_iff.mp hb).1
  have ho : ∀ k, Old (h.length + k) (.slice (some ⟨b, 0, none⟩) 2 4) := fun k r hr => by simp [trefs, vrefs, crefs, arefs] at hr; omega
  have ho0 : Old h.length (.slice (some ⟨b, 0, none⟩) 2 4) := ho 0
  have hn' := fun k => Nat.le_trans hn (Nat.le_add_right h.length k)
  clear hbl
  have js := hs.nj
  have jt := ht.nj
  unfold isJunk at js jt
  have hc1 := fun L => c_impl_IsGraph (nro := nro) n s rows (h ++ L) (hs.app _)
  have hc2 := fun L => c_impl_IsGraph (nro := nro) m t hrows (h ++ L) (ht.app _)
  have l2 : floop (vcall F nro) nro [5, 6, 7] i_impl_areGraphs_B1 h [.slice (some ⟨b, 0, none⟩) 2 4, .int .i64 2, .int .i64 2] h = some (.exit 0, fl [], h) := by
    rw [floop_at i_impl_areGraphs_B1.eq_1]
    simp (disch := first | assumption | omega | (simp [*] <;> omega) | fail) []
  by_cases g : GV n rows
  · by_cases gm : GV m hrows
    · have l1 : floop (vcall F nro) nro [5, 6, 7] i_impl_areGraphs_B1 h [.slice (some ⟨b, 0, none⟩) 2 4, .int .i64 2, .int .i64 1] h = some (.exit 0, fl [], h) := by
        rw [floop_at i_impl_areGraphs_B1.eq_1]
        simp (disch := first | assumption | omega | (simp [*] <;> omega) | fail) [hget_old hb, hb, hc2, gm, wrap64, l2, hn', hn, js, jt]
      have l0 : floop (vcall F nro) nro [5, 6, 7] i_impl_areGraphs_B1 h [.slice (some ⟨b, 0, none⟩) 2 4, .int .i64 2, .int .i64 0] h = some (.exit 0, fl [], h) := by
        rw [floop_at i_impl_areGraphs_B1.eq_1]
        simp (disch := first | assumption | omega | (simp [*] <;> omega) | fail) [hget_old hb, hb, hc1, g, wrap64, l1, hn', hn, js, jt]
      simp (disch := first | assumption | omega | (simp [*] <;> omega) | fail) [i_impl_areGraphs, hb, l0, g, gm]
    · have l1 : ∃ M, floop (vcall F nro) nro [5, 6, 7] i_impl_areGraphs_B1 h [.slice (some ⟨b, 0, none⟩) 2 4, .int .i64 2, .int .i64 1] h = some (.ret, fl [(2, .bool false)], h ++ M) := by
        refine ⟨[⟨0, [.int .i64 m, t]⟩], ?_⟩
        rw [floop_at i_impl_areGraphs_B1.eq_1]
        simp (disch := first | assumption | omega | (simp [*] <;> omega) | fail) [hget_old hb, hb, hc2, gm, wrap64, hn', hn, js, jt]
      obtain ⟨M, l1⟩ := l1
      have l0 : floop (vcall F nro) nro [5, 6, 7] i_impl_areGraphs_B1 h [.slice (some ⟨b, 0, none⟩) 2 4, .int .i64 2, .int .i64 0] h = some (.ret, fl [(2, .bool false)], h ++ M) := by
        rw [floop_at i_impl_areGraphs_B1.eq_1]
        simp (disch := first | assumption | omega | (simp [*] <;> omega) | fail) [hget_old hb, hb, hc1, g, wrap64, l1, hn', hn, js, jt]
      simp (disch := first | assumption | omega | (simp [*] <;> omega) | fail) [i_impl_areGraphs, hb, l0, g, gm]
  · have l0 : ∃ M, floop (vcall F nro) nro [5, 6, 7] i_impl_areGraphs_B1 h [.slice (some ⟨b, 0, none⟩) 2 4, .int .i64 2, .int .i64 0] h = some (.ret, fl [(2, .bool false)], h ++ M) := by
      refine ⟨[⟨0, [.int .i64 n, s]⟩], ?_⟩
      rw [floop_at i_impl_areGraphs_B1.eq_1]
      simp (disch := first | assumption | omega | (simp [*] <;> omega) | fail) [hget_old hb, hb, hc1, g, wrap64, hn', hn, js, jt]
    obtain ⟨M, l0⟩ := l0
    simp (disch := first | assumption | omega | (simp [*] <;> omega) | fail) [i_impl_areGraphs, hb, l0, g]

open Classical in
theorem c_impl_IsCover (n m : Int) (s t u : Value) (rows hrows xs : List Int) (h : VH) (hs : Sli h s rows) (ht : Sli h t hrows) (hu : Sli h u xs) (hl : xs.length ≤ 9223372036854775806) (hn : nro ≤ h.length) :
    vcall F nro k_impl_IsCover [gv n s, gv m t, u] h = some (.tuple #[.bool (coverAns n rows m hrows xs).1, .int .i64 (coverAns n rows m hrows xs).2], h) := by
  refine v_impl_IsCover (by simp [i_impl_IsCover]) ?_
  rw [fbody_eq]
  have hsc := fun k => hs.oldCk (k := k)
  have htc := fun k => ht.oldCk (k := k)
  have hn' := fun k => Nat.le_trans hn (Nat.le_add_right h.length k)
  let A : VO := ⟨2, [.int .i64 n, s, .int .i64 m, t]⟩
  have hc1 := c_impl_areGraphs2 (nro := nro) n m s t rows hrows (h.length + 2) (h ++ [⟨0, [.int .i64 n, s]⟩, ⟨0, [.int .i64 m, t]⟩, A]) (hs.app _) (ht.app _) (by simp [A]) (by simp; omega)
  have hc2 := fun L => c_impl_graphCode (nro := nro) m t u hrows xs (h ++ L) (ht.app _) (hu.app _) hl
  have js := hs.nj
  have jt := ht.nj
  unfold isJunk at js jt
  simp only [A] at hc1
  by_cases gg : GV n rows ∧ GV m hrows
  · obtain ⟨g, gm⟩ := gg
    by_cases hx : (xs.length : Int) = n
    · by_cases hb : badV m xs
      · have e : coverAns n rows m hrows xs = (false, 2) := by simp [coverAns, g, gm, hb]
        have e2 : vtxCode m hrows xs = 2 := by simp [vtxCode, gm, hb]
        simp (disch := first | assumption | omega | (simp [*] <;> omega) | fail) [i_impl_IsCover, hc1, hc2, g, gm, hu.vlen', hx, e, e2, js, jt]
      · have e2 : vtxCode m hrows xs = 0 := by simp [vtxCode, gm, hb]
        have l3 := l_impl_IsCover_2 (nro := nro) n m s t u rows hrows xs h hs ht hu g gm hx hb
        by_cases hc : ∃ j : Int, 0 ≤ j ∧ j < n ∧ ¬ covAt n rows hrows xs j.toNat
        · obtain ⟨M, l4⟩ := l3.1 hc
          have e : coverAns n rows m hrows xs = (false, 0) := by
            have := mt (cov_all g).mp (Classical.not_not.mpr hc)
            simp only [coverAns, g, gm, hb, hx, this]
            simp
          clear l3 hc
          simp (disch := first | assumption | omega | (simp [*] <;> omega) | fail) [i_impl_IsCover, hc1, hc2, g, gm, hu.vlen', hx, l4, e, e2, js, jt]
        · have l4 := l3.2 hc
          have e : coverAns n rows m hrows xs = (true, 0) := by
            have := (cov_all g).mpr hc
            simp only [coverAns, g, gm, hb, hx]
            simp
            exact this
          clear l3 hc
          simp (disch := first | assumption | omega | (simp [*] <;> omega) | fail) [i_impl_IsCover, hc1, hc2, g, gm, hu.vlen', hx, l4, e, e2, js, jt]
    · have e : coverAns n rows m hrows xs = (false, 2) := by simp [coverAns, g, gm, hx]
      simp (disch := first | assumption | omega | (simp [*] <;> omega) | fail) [i_impl_IsCover, hc1, hc2, g, gm, hu.vlen', hx, e, js, jt]
  · have e : coverAns n rows m hrows xs = (false, 1) := by simp only [coverAns]; rw [if_pos gg]
    rw [decide_eq_false gg] at hc1
    simp (disch := first | assumption | omega | (simp [*] <;> omega) | fail) [i_impl_IsCover, hc1, e, js, jt]

theorem r_spec_IsCover (n m : Int) (s t u : Value) (h : VH) (hs : isSli h s) (ht : isSli h t) (hu : isSli h u) (hl : (rd h u).length ≤ 9223372036854775806) (hn : nro ≤ h.length) :
    vcall F nro k_spec_IsCover [gv n s, gv m t, u] h = some (.tuple #[.bool (coverAns n (rd h s) m (rd h t) (rd h u)).1, .int .i64 (coverAns n (rd h s) m (rd h t) (rd h u)).2], h) := c_spec_IsCover n m s t u _ _ _ h hs.sli ht.sli hu.sli hl hn
theorem r_impl_IsCover (n m : Int) (s t u : Value) (h : VH) (hs : isSli h s) (ht : isSli h t) (hu : isSli h u) (hl : (rd h u).length ≤ 9223372036854775806) (hn : nro ≤ h.length) :
    vcall F nro k_impl_IsCover [gv n s, gv m t, u] h = some (.tuple #[.bool (coverAns n (rd h s) m (rd h t) (rd h u)).1, .int .i64 (coverAns n (rd h s) m (rd h t) (rd h u)).2], h) := c_impl_IsCover n m s t u _ _ _ h hs.sli ht.sli hu.sli hl hn

theorem law_IsCover (n : Int) (s : Value) (rows : List Int) (m : Int) (t : Value) (hrows : List Int) (u : Value) (xs : List Int) (h : VH) (hs : Sli h s rows) (ht : Sli h t hrows) (hu : Sli h u xs) (h3 : rows.length ≤ 9223372036854775807) (h4 : hrows.length ≤ 9223372036854775807) (h5 : xs.length ≤ 9223372036854775807) (hn : nro ≤ h.length) :
    vcall F nro k_laws_FnExactIsCover [gv n s, gv m t, u] h = some (.bool true, h) := by
  refine v_laws_FnExactIsCover (by simp [i_laws_FnExactIsCover]) ?_
  rw [fbody_eq]
  by_cases hx : 1048576 < (xs.length : Int)
  · simp (disch := first | assumption | omega | (simp [*] <;> omega) | fail) [i_laws_FnExactIsCover, hu.vlen', hx]
  · have hc1 := c_laws_szGraph (nro := nro) n s rows 1048576 (cH h n s m t) (hs.app _) (by omega) (by omega) h3
    by_cases hr : 1048576 < (rows.length : Int)
    · rw [if_pos hr] at hc1
      simp (disch := first | assumption | omega | (simp [*] <;> omega) | fail) [i_laws_FnExactIsCover, hu.vlen', hx, hc1]
    · rw [if_neg hr] at hc1
      have hr2 : ¬ (1048576 - (rows.length : Int) < 0) := by omega
      have hc2 := c_laws_szGraph (nro := nro) m t hrows (1048576 - rows.length) (cH h n s m t) (ht.app _) (by omega) (by omega) h4
      by_cases hq : 1048576 - (rows.length : Int) < (hrows.length : Int)
      · rw [if_pos hq] at hc2
        simp (disch := first | assumption | omega | (simp [*] <;> omega) | fail) [i_laws_FnExactIsCover, hu.vlen', hx, hc1, hr2, hc2]
      · rw [if_neg hq] at hc2
        have hq2 : ¬ (1048576 - (rows.length : Int) - hrows.length < 0) := by omega
        have h6 : rows.length ≤ 1048576 := by omega
        have h7 : hrows.length ≤ 1048576 := by omega
        have h8 : xs.length ≤ 1048576 := by omega
        have hn' := fun k => Nat.le_trans hn (Nat.le_add_right h.length k)
        have hsi := fun L => hs.is' (L := L)
        have hti := fun L => ht.is' (L := L)
        have hui := fun L => hu.is' (L := L)
        have hsr := fun L => hs.rd' (L := L)
        have htr := fun L => ht.rd' (L := L)
        have hur := fun L => hu.rd' (L := L)
        have hul := fun L => hu.vlen' (L := L)
        clear hs ht hu
        obtain ⟨⟨b, c⟩, hp⟩ : ∃ z, z = coverAns n rows m hrows xs := ⟨_, rfl⟩
        simp (disch := first | assumption | omega | (simp [*] <;> omega) | fail) [i_laws_FnExactIsCover, hul, hx, hc1, hr2, hc2, hq2, r_laws_toGraph, r_laws_toInt64S, r_spec_IsCover, r_impl_IsCover, r_laws_eqGraph, r_laws_eqInt64S, ← hp, hsi, hti, hui, hsr, htr, hur, hn', h6, h7, h8]
end Go.Proofs.Ytcpmodengmffjaa.Zv
