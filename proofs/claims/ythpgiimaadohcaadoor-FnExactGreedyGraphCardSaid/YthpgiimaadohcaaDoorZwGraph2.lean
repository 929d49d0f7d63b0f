/- The program's own test for a graph. -/
import Derived.Test.YthpgiimaadohcaaDoorZwGraph
namespace Go.Proofs.YthpgiimaadohcaaDoor.Zv
open Go
variable {nro : Nat}

open Classical in
theorem l_impl_IsGraph_1 (n : Int) (s : Value) (rows : List Int) (h : VH) (hs : Sli h s rows) (hn1 : 1 ≤ n) (hn2 : n ≤ 62) (hl : (rows.length : Int) = n) (v x : Int) (hv : 0 ≤ v) (hvn : v < n) :
    floop (vcall F nro) nro [1, 3, 4, 5, 23, 24, 25, 45, 46] i_impl_IsGraph_B1 (bx h n s) [bp h, .int .i64 n, .int .i64 v, .int .i64 (x), s, .int .i64 n, .int .i64 v, .int .i64 n, .int .i64 0] (bx h n s) =
      if ∃ j : Int, 0 ≤ j ∧ j < n ∧ iand .i64 (ishr .i64 (x) j) 1 ≠ iand .i64 (ishr .i64 (rows.getD j.toNat 0) v) 1 then some (.ret, fl [(2, .bool false)], bx h n s) else some (.exit 2, fl [(1, bp h), (3, .int .i64 n), (23, s), (24, .int .i64 n), (25, .int .i64 v)], bx h n s) := by
  refine search (fun i => floop (vcall F nro) nro [1, 3, 4, 5, 23, 24, 25, 45, 46] i_impl_IsGraph_B1 (bx h n s) [bp h, .int .i64 n, .int .i64 v, .int .i64 (x), s, .int .i64 n, .int .i64 v, .int .i64 n, .int .i64 i] (bx h n s)) (fun j => iand .i64 (ishr .i64 (x) j) 1 ≠ iand .i64 (ishr .i64 (rows.getD j.toNat 0) v) 1) _ _ n 0 ?_ ?_ 0 (by omega)
  · intro i hi hlt
    have hso := fun k => hs.oldk (k := k)
    rw [floop_at i_impl_IsGraph_B1.eq_1, getD_at rows (i := i.toNat) (by omega)]
    constructor <;> intro hb
    · simp (disch := first | assumption | omega | (simp [*] <;> omega) | fail) [hs.vlen', hs.vidx', hs.vload', wrap64, hlt, hb]
    · simp (disch := first | assumption | omega | (simp [*] <;> omega) | fail) [hs.vlen', hs.vidx', hs.vload', wrap64, hlt, Classical.not_not.mp hb]
  · intro i hi hlt
    rw [floop_at i_impl_IsGraph_B1.eq_1]
    simp (disch := first | assumption | omega | (simp [*] <;> omega) | fail) [hlt]

/-- What the program asks of row v. -/
def RowAll (n : Int) (rows : List Int) (v : Nat) : Prop := RowOK n rows v ∧ ¬ ∃ j : Int, 0 ≤ j ∧ j < n ∧ iand .i64 (ishr .i64 (rows.getD v 0) j) 1 ≠ iand .i64 (ishr .i64 (rows.getD j.toNat 0) (v : Int)) 1

open Classical in
theorem l_impl_IsGraph_2 (n : Int) (s : Value) (rows : List Int) (h : VH) (hs : Sli h s rows) (hn1 : 1 ≤ n) (hn2 : n ≤ 62) (hl : (rows.length : Int) = n) :
    floop (vcall F nro) nro [1, 3, 23, 24, 25] i_impl_IsGraph_B2 (bx h n s) [bp h, .int .i64 n, s, .int .i64 n, .int .i64 0] (bx h n s) =
      if ∃ j : Int, 0 ≤ j ∧ j < n ∧ ¬ RowAll n rows j.toNat then some (.ret, fl [(2, .bool false)], bx h n s) else some (.exit 0, fl [], bx h n s) := by
  refine search (fun i => floop (vcall F nro) nro [1, 3, 23, 24, 25] i_impl_IsGraph_B2 (bx h n s) [bp h, .int .i64 n, s, .int .i64 n, .int .i64 i] (bx h n s)) (fun i => ¬ RowAll n rows i.toNat) _ _ n 0 ?_ ?_ 0 (by omega)
  · intro i hi hlt
    have hso := fun k => hs.oldk (k := k)
    have hp := pow_le62 hn2
    have hp1 := pow_pos2 n.toNat
    have hok := rowOK_iff hn2 hi hlt hl
    have e : rows.getD i.toNat 0 = rows[i.toNat]'(by omega) := getD_at _ (by omega)
    rw [floop_at i_impl_IsGraph_B2.eq_1]
    by_cases hr : RowOK n rows i.toNat
    · obtain ⟨⟨g1, g2⟩, g3⟩ := hok.mp hr
      have g4 : ¬ rows[i.toNat]'(by omega) < 0 := by omega
      have g5 : ¬ 2 ^ n.toNat ≤ rows[i.toNat]'(by omega) := by omega
      have hin := l_impl_IsGraph_1 (nro := nro) n s rows h hs hn1 hn2 hl i (rows[i.toNat]'(by omega)) hi hlt
      have e2 : ((i.toNat : Nat) : Int) = i := Int.toNat_of_nonneg hi
      unfold RowAll
      rw [e]
      constructor <;> intro hb
      · have hb' : ∃ j : Int, 0 ≤ j ∧ j < n ∧ iand .i64 (ishr .i64 (rows[i.toNat]'(by omega)) j) 1 ≠ iand .i64 (ishr .i64 (rows.getD j.toNat 0) i) 1 := Classical.byContradiction fun hno => hb ⟨hr, by simpa [e2] using hno⟩
        rw [if_pos hb'] at hin
        simp (disch := first | assumption | omega | (simp [*] <;> omega) | fail) [hs.vlen', hs.vidx', hs.vload', wrap64, hlt, ishl_one', g3, g4, g5, hin]
      · rw [if_neg (by simpa [e2] using (Classical.not_not.mp hb).2)] at hin
        simp (disch := first | assumption | omega | (simp [*] <;> omega) | fail) [hs.vlen', hs.vidx', hs.vload', wrap64, hlt, ishl_one', g3, g4, g5, hin]
    · constructor <;> intro hb
      · simp (disch := first | assumption | omega | (simp [*] <;> omega) | fail) [hs.vlen', hs.vidx', hs.vload', wrap64, hlt, ishl_one']
        intro h1 h2 h3
        exact absurd (hok.mpr ⟨⟨h1, by omega⟩, h3⟩) hr
      · exact absurd (Classical.not_not.mp hb).1 hr
  · intro i hi hlt
    rw [floop_at i_impl_IsGraph_B2.eq_1]
    simp (disch := first | assumption | omega | (simp [*] <;> omega) | fail) [hlt]

theorem rowAll_iff {n : Int} {rows : List Int} (hn1 : 1 ≤ n) (hn2 : n ≤ 62) (hl : (rows.length : Int) = n) : (∀ j : Int, 0 ≤ j → j < n → RowAll n rows j.toNat) ↔ GV n rows := by
  have hp := pow_le62 hn2
  -- what the rows' own bits are
  have hbits : (∀ v, v < rows.length → RowOK n rows v) → ∀ v j : Nat, v < rows.length → j < rows.length → (iand .i64 (ishr .i64 (rows.getD v 0) j) 1 = iand .i64 (ishr .i64 (rows.getD j 0) v) 1 ↔ rbit rows v j = rbit rows j v) := by
    intro hr v j hv hj
    obtain ⟨a1, a2, _⟩ := hr v hv
    obtain ⟨b1, b2, _⟩ := hr j hj
    rw [bit_two a1 (by omega) (by omega), bit_two b1 (by omega) (by omega)]
    simp only [rbit, Int.toNat_natCast]
    by_cases x : (rows.getD v 0).toNat.testBit j = true <;> by_cases y : (rows.getD j 0).toNat.testBit v = true <;> simp only [x, y] <;> simp_all
  constructor
  · intro h
    have hr : ∀ v, v < rows.length → RowOK n rows v := fun v hv => by simpa using (h v (by omega) (by omega)).1
    refine ⟨hn1, hn2, hl, hr, fun v w hv hw => ?_⟩
    rw [← hbits hr v w hv hw]
    have h2 := (h v (by omega) (by omega)).2
    apply Classical.byContradiction
    intro hno
    exact h2 ⟨w, by omega, by omega, by simpa using hno⟩
  · intro g j h0 h1
    refine ⟨g.row _ (by omega), ?_⟩
    rintro ⟨k, h2, h3, h4⟩
    have := (hbits g.row j.toNat k.toNat (by omega) (by omega)).mpr (g.sym _ _ (by omega) (by omega))
    rw [Int.toNat_of_nonneg h2] at this
    exact h4 (by simpa [Int.toNat_of_nonneg h2] using this)

open Classical in
theorem c_impl_IsGraph (n : Int) (s : Value) (rows : List Int) (h : VH) (hs : Sli h s rows) :
    vcall F nro k_impl_IsGraph [gv n s] h = some (.bool (decide (GV n rows)), h) := by
  refine v_impl_IsGraph (by simp [i_impl_IsGraph]) ?_
  rw [fbody_eq]
  by_cases hn : 1 ≤ n ∧ n ≤ 62
  · obtain ⟨hn1, hn2⟩ := hn
    have hn1' : ¬ n < 1 := by omega
    have hn2' : ¬ 62 < n := by omega
    by_cases hl : (rows.length : Int) = n
    · have hl1 := l_impl_IsGraph_2 (nro := nro) n s rows h hs hn1 hn2 hl
      by_cases hb : ∃ j : Int, 0 ≤ j ∧ j < n ∧ ¬ RowAll n rows j.toNat
      · rw [if_pos hb] at hl1
        have : ¬ GV n rows := by
          rw [← rowAll_iff hn1 hn2 hl]
          intro h4
          obtain ⟨j, h5, h6, h7⟩ := hb
          exact h7 (h4 j h5 h6)
        simp (disch := first | assumption | omega | (simp [*] <;> omega) | fail) [i_impl_IsGraph, hn1', hn2', hs.vlen', hl, hl1, this]
      · rw [if_neg hb] at hl1
        have : GV n rows := (rowAll_iff hn1 hn2 hl).mp fun j h1 h2 => Classical.byContradiction fun h3 => hb ⟨j, h1, h2, h3⟩
        simp (disch := first | assumption | omega | (simp [*] <;> omega) | fail) [i_impl_IsGraph, hn1', hn2', hs.vlen', hl, hl1, this]
    · have : ¬ GV n rows := fun g => hl g.len
      simp (disch := first | assumption | omega | (simp [*] <;> omega) | fail) [i_impl_IsGraph, hn1', hn2', hs.vlen', hl, this]
  · have : ¬ GV n rows := fun g => hn ⟨g.lo, g.hi⟩
    by_cases h1 : n < 1
    · simp (disch := first | assumption | omega | (simp [*] <;> omega) | fail) [i_impl_IsGraph, h1, this]
    · have h2 : 62 < n := by omega
      simp (disch := first | assumption | omega | (simp [*] <;> omega) | fail) [i_impl_IsGraph, h1, h2, this]
end Go.Proofs.YthpgiimaadohcaaDoor.Zv
