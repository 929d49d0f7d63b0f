/- What a graph is, and what the two tests for it compute. -/
import Derived.Test.YthpgiimaadohcaaDoorZwLaws
namespace Go.Proofs.YthpgiimaadohcaaDoor.Zv
open Go
variable {nro : Nat}

/-- Bit w of row v. -/
def rbit (rows : List Int) (v w : Nat) : Bool := (rows.getD v 0).toNat.testBit w

/-- What holds of row v of a graph by itself. -/
def RowOK (n : Int) (rows : List Int) (v : Nat) : Prop := 0 ≤ rows.getD v 0 ∧ rows.getD v 0 < 2 ^ n.toNat ∧ rbit rows v v = false

/-- A graph. -/
structure GV (n : Int) (rows : List Int) : Prop where
  lo : 1 ≤ n
  hi : n ≤ 62
  len : (rows.length : Int) = n
  row : ∀ v, v < rows.length → RowOK n rows v
  sym : ∀ v w, v < rows.length → w < rows.length → rbit rows v w = rbit rows w v

theorem pow_le62 {n : Int} (h : n ≤ 62) : (2 : Int) ^ n.toNat ≤ 4611686018427387904 := by
  have h1 : (2 : Nat) ^ n.toNat ≤ 4611686018427387904 := Nat.le_trans (Nat.pow_le_pow_right (by decide : 0 < 2) (by omega : n.toNat ≤ 62)) (by decide)
  have h2 : ((2 ^ n.toNat : Nat) : Int) = (2 : Int) ^ n.toNat := by simp
  rw [← h2]; omega
theorem pow_pos2 (k : Nat) : (1 : Int) ≤ 2 ^ k := by
  have h1 : 1 ≤ (2 : Nat) ^ k := Nat.one_le_two_pow
  have h2 : ((2 ^ k : Nat) : Int) = (2 : Int) ^ k := by simp
  rw [← h2]; omega

/-- The test of a bit, as the code has it. -/
theorem bit_int {a b : Int} (ha : 0 ≤ a) (ha2 : a ≤ 9223372036854775807) (hb : b ≤ 64) : (iand .i64 (ishr .i64 a b) 1 = 1) ↔ a.toNat.testBit b.toNat = true := by
  have := bit_nat (a := a.toNat) (b := b) (by omega) hb
  rw [Int.toNat_of_nonneg ha] at this
  exact this
theorem bit_two {a b : Int} (ha : 0 ≤ a) (ha2 : a ≤ 9223372036854775807) (hb : b ≤ 64) : iand .i64 (ishr .i64 a b) 1 = if a.toNat.testBit b.toNat = true then 1 else 0 := by
  have h1 := bit_int ha ha2 hb
  split
  · rename_i h; exact h1.mpr h
  · rename_i h
    have h2 : iand .i64 (ishr .i64 a b) 1 = ((a.toNat >>> b.toNat % 2 : Nat) : Int) := by
      have e : a = (a.toNat : Int) := (Int.toNat_of_nonneg ha).symm
      rw [e, ishr_nat hb, iand_one, Int.toNat_natCast]
      rw [Nat.shiftRight_eq_div_pow]
      exact Nat.lt_of_le_of_lt (Nat.div_le_self _ _) (by omega)
    have h3 : ¬ iand .i64 (ishr .i64 a b) 1 = 1 := fun e => h (h1.mp e)
    omega

theorem c_spec_l01In (n lo hi : Int) (h : VH) : vcall F nro k_spec_l01In [.int .i64 n, .int .i64 lo, .int .i64 hi] h = some (.bool (decide (lo ≤ n ∧ n ≤ hi)), h) := by
  refine v_spec_l01In (by simp [i_spec_l01In]) ?_
  rw [fbody_eq]
  simp [i_spec_l01In]
  split <;> simp <;> omega

theorem c_spec_l01Has (n a b : Int) (s : Value) (rows : List Int) (h : VH) (hs : Sli h s rows) (h1 : 0 ≤ a) (h2 : a < rows.length) (h3 : 0 ≤ b) (h4 : b ≤ 64) :
    vcall F nro k_spec_l01Has [gv n s, .int .i64 a, .int .i64 b] h = some (.bool (decide (iand .i64 (ishr .i64 (rows.getD a.toNat 0) b) 1 = 1)), h) := by
  refine v_spec_l01Has (by simp [i_spec_l01Has]) ?_
  rw [fbody_eq, getD_at rows (by omega)]
  simp (disch := first | assumption | omega | (simp [*] <;> omega) | fail) [i_spec_l01Has, hs.vidx', hs.vload', wrapu64]

/-- The same of a row that is not negative. -/
theorem c_spec_l01Has' (n a b : Int) (s : Value) (rows : List Int) (h : VH) (hs : Sli h s rows) (h1 : 0 ≤ a) (h2 : a < rows.length) (h3 : 0 ≤ b) (h4 : b ≤ 64) (h5 : 0 ≤ rows.getD a.toNat 0) (h6 : rows.getD a.toNat 0 ≤ 9223372036854775807) :
    vcall F nro k_spec_l01Has [gv n s, .int .i64 a, .int .i64 b] h = some (.bool (rbit rows a.toNat b.toNat), h) := by
  rw [c_spec_l01Has n a b s rows h hs h1 h2 h3 h4]
  have := bit_int h5 h6 h4
  simp only [this, rbit]
  simp

theorem ishl_one' {n : Int} (h0 : 0 ≤ n) (h1 : n ≤ 62) : ishl .i64 1 n = 2 ^ n.toNat := by
  rw [ishl_one h1]; simp

/-- The heap with a graph's value in a box of its own. -/
abbrev bx (h : VH) (n : Int) (s : Value) : VH := h ++ [⟨0, [.int .i64 n, s]⟩]
abbrev bp (h : VH) : Value := .pointer (some ⟨h.length, 0, some 2⟩)

theorem rowOK_iff {n i : Int} {rows : List Int} (hn2 : n ≤ 62) (hi : 0 ≤ i) (hin : i < n) (hl : (rows.length : Int) = n) :
    RowOK n rows i.toNat ↔ (0 ≤ rows[i.toNat]'(by omega) ∧ rows[i.toNat]'(by omega) ≤ 2 ^ n.toNat - 1) ∧ ¬ iand .i64 (ishr .i64 (rows[i.toNat]'(by omega)) i) 1 = 1 := by
  have hp := pow_le62 hn2
  unfold RowOK rbit
  rw [getD_at rows (by omega)]
  constructor
  · rintro ⟨h1, h2, h3⟩
    refine ⟨⟨h1, by omega⟩, fun e => ?_⟩
    rw [(bit_int h1 (by omega) (by omega)).mp e] at h3
    cases h3
  · rintro ⟨⟨h1, h2⟩, h3⟩
    refine ⟨h1, by omega, ?_⟩
    rw [bit_int h1 (by omega) (by omega)] at h3
    simpa using h3

open Classical in
theorem l_spec_l01Is_1 (n : Int) (s : Value) (rows : List Int) (h : VH) (hs : Sli h s rows) (hn1 : 1 ≤ n) (hn2 : n ≤ 62) (hl : (rows.length : Int) = n) :
    floop (vcall F nro) nro [1, 3] i_spec_l01Is_B1 (bx h n s) [bp h, .int .i64 0] (bx h n s) =
      if ∃ j : Int, 0 ≤ j ∧ j < n ∧ ¬ RowOK n rows j.toNat then some (.ret, fl [(2, .bool false)], bx h n s) else some (.exit 0, fl [(1, bp h)], bx h n s) := by
  refine search (fun i => floop (vcall F nro) nro [1, 3] i_spec_l01Is_B1 (bx h n s) [bp h, .int .i64 i] (bx h n s)) (fun i => ¬ RowOK n rows i.toNat) _ _ n 0 ?_ ?_ 0 (by omega)
  · intro i hi hlt
    have hc := fun (x a b : Int) => c_spec_l01In (nro := nro) x a b (bx h n s)
    have hc2 := c_spec_l01Has (nro := nro) n i i s rows (bx h n s) (hs.app _) hi (by omega) hi (by omega)
    have hp := pow_le62 hn2
    have hp1 := pow_pos2 n.toNat
    rw [floop_at i_spec_l01Is_B1.eq_1, rowOK_iff hn2 hi hlt hl]
    constructor <;> intro hb
    · simp (disch := first | assumption | omega | (simp [*] <;> omega) | fail) [hs.vlen', hs.vidx', hs.vload', wrap64, wrapu64, hlt, hc, hc2, ishl_one']
      intro h1 h2 h3
      exact absurd ⟨⟨h1, h2⟩, h3⟩ hb
    · obtain ⟨⟨g1, g2⟩, g3⟩ := Classical.not_not.mp hb
      simp (disch := first | assumption | omega | (simp [*] <;> omega) | fail) [hs.vlen', hs.vidx', hs.vload', wrap64, wrapu64, hlt, hc, hc2, ishl_one', g1, g2, g3]
  · intro i hi hlt
    rw [floop_at i_spec_l01Is_B1.eq_1]
    simp (disch := first | assumption | omega | (simp [*] <;> omega) | fail) [hlt]

open Classical in
theorem l_spec_l01Is_2 (n : Int) (s : Value) (rows : List Int) (h : VH) (hs : Sli h s rows) (hn1 : 1 ≤ n) (hn2 : n ≤ 62) (hl : (rows.length : Int) = n) (hr : ∀ j : Int, 0 ≤ j → j < n → RowOK n rows j.toNat) (v : Int) (hv : 0 ≤ v) (hvn : v < n) :
    floop (vcall F nro) nro [1, 4, 5] i_spec_l01Is_B2 (bx h n s) [bp h, .int .i64 v, .int .i64 0] (bx h n s) =
      if ∃ j : Int, 0 ≤ j ∧ j < v ∧ rbit rows v.toNat j.toNat ≠ rbit rows j.toNat v.toNat then some (.ret, fl [(2, .bool false)], bx h n s) else some (.exit 4, fl [(1, bp h), (4, .int .i64 v)], bx h n s) := by
  refine search (fun i => floop (vcall F nro) nro [1, 4, 5] i_spec_l01Is_B2 (bx h n s) [bp h, .int .i64 v, .int .i64 i] (bx h n s)) (fun j => rbit rows v.toNat j.toNat ≠ rbit rows j.toNat v.toNat) _ _ v 0 ?_ ?_ 0 (by omega)
  · intro i hi hlt
    have hp := pow_le62 hn2
    obtain ⟨r1, r2, _⟩ := hr i hi (by omega)
    obtain ⟨q1, q2, _⟩ := hr v hv hvn
    have hc1 := c_spec_l01Has' (nro := nro) n v i s rows (bx h n s) (hs.app _) hv (by omega) hi (by omega) q1 (by omega)
    have hc2 := c_spec_l01Has' (nro := nro) n i v s rows (bx h n s) (hs.app _) hi (by omega) hv (by omega) r1 (by omega)
    rw [floop_at i_spec_l01Is_B2.eq_1]
    constructor <;> intro hb
    · simp (disch := first | assumption | omega | (simp [*] <;> omega) | fail) [wrap64, hlt, hc1, hc2, hb]
    · simp (disch := first | assumption | omega | (simp [*] <;> omega) | fail) [wrap64, hlt, hc1, hc2, Classical.not_not.mp hb]
  · intro i hi hlt
    rw [floop_at i_spec_l01Is_B2.eq_1]
    simp (disch := first | assumption | omega | (simp [*] <;> omega) | fail) [hlt]

open Classical in
theorem l_spec_l01Is_3 (n : Int) (s : Value) (rows : List Int) (h : VH) (hs : Sli h s rows) (hn1 : 1 ≤ n) (hn2 : n ≤ 62) (hl : (rows.length : Int) = n) (hr : ∀ j : Int, 0 ≤ j → j < n → RowOK n rows j.toNat) :
    floop (vcall F nro) nro [1, 4] i_spec_l01Is_B3 (bx h n s) [bp h, .int .i64 0] (bx h n s) =
      if ∃ v : Int, 0 ≤ v ∧ v < n ∧ ∃ j : Int, 0 ≤ j ∧ j < v ∧ rbit rows v.toNat j.toNat ≠ rbit rows j.toNat v.toNat then some (.ret, fl [(2, .bool false)], bx h n s) else some (.exit 2, fl [], bx h n s) := by
  refine search (fun i => floop (vcall F nro) nro [1, 4] i_spec_l01Is_B3 (bx h n s) [bp h, .int .i64 i] (bx h n s)) (fun v => ∃ j : Int, 0 ≤ j ∧ j < v ∧ rbit rows v.toNat j.toNat ≠ rbit rows j.toNat v.toNat) _ _ n 0 ?_ ?_ 0 (by omega)
  · intro i hi hlt
    have hin := l_spec_l01Is_2 (nro := nro) n s rows h hs hn1 hn2 hl hr i hi hlt
    rw [floop_at i_spec_l01Is_B3.eq_1]
    constructor <;> intro hb
    · rw [if_pos hb] at hin
      simp (disch := first | assumption | omega | (simp [*] <;> omega) | fail) [wrap64, hlt, hin]
    · rw [if_neg hb] at hin
      simp (disch := first | assumption | omega | (simp [*] <;> omega) | fail) [wrap64, hlt, hin]
  · intro i hi hlt
    rw [floop_at i_spec_l01Is_B3.eq_1]
    simp (disch := first | assumption | omega | (simp [*] <;> omega) | fail) [hlt]

theorem GV_iff {n : Int} {rows : List Int} : GV n rows ↔ 1 ≤ n ∧ n ≤ 62 ∧ (rows.length : Int) = n ∧ (∀ j : Int, 0 ≤ j → j < n → RowOK n rows j.toNat) ∧ ¬ ∃ v : Int, 0 ≤ v ∧ v < n ∧ ∃ j : Int, 0 ≤ j ∧ j < v ∧ rbit rows v.toNat j.toNat ≠ rbit rows j.toNat v.toNat := by
  constructor
  · rintro ⟨h1, h2, h3, h4, h5⟩
    refine ⟨h1, h2, h3, fun j h6 h7 => h4 _ (by omega), ?_⟩
    rintro ⟨v, h6, h7, j, h8, h9, h10⟩
    exact h10 (h5 _ _ (by omega) (by omega))
  · rintro ⟨h1, h2, h3, h4, h5⟩
    have key : ∀ v w : Nat, w < v → v < rows.length → rbit rows v w = rbit rows w v := by
      intro v w h6 h7
      apply Classical.byContradiction
      intro h8
      exact h5 ⟨v, by omega, by omega, w, by omega, by omega, by simpa using h8⟩
    refine ⟨h1, h2, h3, fun v hv => by simpa using h4 v (by omega) (by omega), fun v w hv hw => ?_⟩
    rcases Nat.lt_trichotomy v w with h6 | h6 | h6
    · exact (key w v h6 hw).symm
    · rw [h6]
    · exact key v w h6 hv

open Classical in
theorem c_spec_l01Is (n : Int) (s : Value) (rows : List Int) (h : VH) (hs : Sli h s rows) :
    vcall F nro k_spec_l01Is [gv n s] h = some (.bool (decide (GV n rows)), h) := by
  refine v_spec_l01Is (by simp [i_spec_l01Is]) ?_
  rw [fbody_eq]
  have hc := fun (x a b : Int) => c_spec_l01In (nro := nro) x a b (bx h n s)
  by_cases hn : 1 ≤ n ∧ n ≤ 62
  · obtain ⟨hn1, hn2⟩ := hn
    by_cases hl : (rows.length : Int) = n
    · have hl1 := l_spec_l01Is_1 (nro := nro) n s rows h hs hn1 hn2 hl
      by_cases hb : ∃ j : Int, 0 ≤ j ∧ j < n ∧ ¬ RowOK n rows j.toNat
      · rw [if_pos hb] at hl1
        have : ¬ GV n rows := by
          rw [GV_iff]
          rintro ⟨_, _, _, h4, _⟩
          obtain ⟨j, h5, h6, h7⟩ := hb
          exact h7 (h4 j h5 h6)
        simp (disch := first | assumption | omega | (simp [*] <;> omega) | fail) [i_spec_l01Is, hc, hn1, hn2, hs.vlen', hl, hl1, this]
      · rw [if_neg hb] at hl1
        have hr : ∀ j : Int, 0 ≤ j → j < n → RowOK n rows j.toNat := fun j h1 h2 => Classical.byContradiction fun h3 => hb ⟨j, h1, h2, h3⟩
        have hl3 := l_spec_l01Is_3 (nro := nro) n s rows h hs hn1 hn2 hl hr
        by_cases hb2 : ∃ v : Int, 0 ≤ v ∧ v < n ∧ ∃ j : Int, 0 ≤ j ∧ j < v ∧ rbit rows v.toNat j.toNat ≠ rbit rows j.toNat v.toNat
        · rw [if_pos hb2] at hl3
          have : ¬ GV n rows := by
            rw [GV_iff]
            rintro ⟨_, _, _, _, h4⟩
            exact h4 hb2
          simp (disch := first | assumption | omega | (simp [*] <;> omega) | fail) [i_spec_l01Is, hc, hn1, hn2, hs.vlen', hl, hl1, hl3, this]
        · rw [if_neg hb2] at hl3
          have : GV n rows := GV_iff.mpr ⟨hn1, hn2, hl, hr, hb2⟩
          simp (disch := first | assumption | omega | (simp [*] <;> omega) | fail) [i_spec_l01Is, hc, hn1, hn2, hs.vlen', hl, hl1, hl3, this]
    · have : ¬ GV n rows := fun g => hl g.len
      simp (disch := first | assumption | omega | (simp [*] <;> omega) | fail) [i_spec_l01Is, hc, hn1, hn2, hs.vlen', hl, this]
  · have : ¬ GV n rows := fun g => hn ⟨g.lo, g.hi⟩
    simp (disch := first | assumption | omega | (simp [*] <;> omega) | fail) [i_spec_l01Is, hc, hn, this]
end Go.Proofs.YthpgiimaadohcaaDoor.Zv
