/- Part E of the proof: ZwConn, ZwLL, ZwEdges, ZwParts, ZwGiven, ZwLawPartOn, ZwHalf, ZwLawHalf, ZwLawHalf2. Conditions: none. -/
import Derived.Test.YthpgiimaadohcaaDoorZpD
set_option linter.unusedSimpArgs false
set_option linter.unusedVariables false
/- Parts: all vertices to which there is a way; connected graphs. -/
namespace Go.Proofs.YthpgiimaadohcaaDoor.Zv
open Go
variable {nro : Nat}

/-- All that is met. -/
def pt (rows : List Int) (met f : Nat) : Nat :=
  if f = 0 then met else if h : met < (met ||| nxt rows f) ∧ (met ||| nxt rows f) < 2 ^ 62 then pt rows (met ||| nxt rows f) (nand (nxt rows f) met) else met
 termination_by 2 ^ 62 - met
 decreasing_by omega
theorem pt_zero {rows : List Int} {met : Nat} : pt rows met 0 = met := by rw [pt, if_pos rfl]
theorem pt_step {n : Nat} {rows : List Int} (R : Rok n rows) {met f : Nat} (hm : met < 2 ^ n) (hf : f < 2 ^ n) (h0 : ¬ f = 0) : pt rows met f = pt rows (met ||| nxt rows f) (nand (nxt rows f) met) := by
  have h2 := le62 R.le (Nat.or_lt_two_pow hm (nxt_lt R hf))
  by_cases h1 : met < met ||| nxt rows f
  · conv => lhs; rw [pt]
    rw [if_neg h0, dif_pos ⟨h1, h2⟩]
  · conv => lhs; rw [pt]
    have e : met ||| nxt rows f = met := Nat.le_antisymm (Nat.le_of_not_lt h1) Nat.left_le_or
    rw [if_neg h0, dif_neg (fun h => h1 h.1), or_or_zero (rows := rows) h1, pt_zero, e]
theorem pt_bit {n : Nat} {rows : List Int} (R : Rok n rows) (b met f d : Nat) (hm : met < 2 ^ n) (hf : f < 2 ^ n) (hsub : ∀ j, f.testBit j = true → met.testBit j = true) :
    pt rows met f < 2 ^ n ∧ ((pt rows met f).testBit b = true ↔ met.testBit b = true ∨ 0 ≤ lev rows met f d b) := by
  by_cases h0 : f = 0
  · subst h0
    rw [pt_zero, lev_zero]
    exact ⟨hm, by simp⟩
  · rw [pt_step R hm hf h0]
    have hx := nxt_lt R hf
    have hnl := nand_le (nxt rows f) met
    by_cases h3 : met < met ||| nxt rows f
    · have ih := pt_bit R b (met ||| nxt rows f) (nand (nxt rows f) met) (d + 1) (Nat.or_lt_two_pow hm hx) (by omega) (fun j hj => by
        rw [nand_bit] at hj
        rw [Nat.testBit_or]
        simp only [Bool.and_eq_true] at hj
        simp [hj.1])
      refine ⟨ih.1, ih.2.trans ?_⟩
      by_cases hb : f.testBit b = true
      · have := hsub b hb
        rw [Nat.testBit_or, this]
        simp
      · rw [lev_step R hm hf h0 (by simpa using hb), Nat.testBit_or, Bool.or_eq_true]
        constructor
        · rintro ((h | h) | h)
          · exact .inl h
          · by_cases c : met.testBit b = true
            · exact .inl c
            · refine .inr ?_
              rw [lev_bit (by rw [nand_bit, h]; simpa using c)]
              omega
          · exact .inr h
        · rintro (h | h)
          · exact .inl (.inl h)
          · exact .inr h
    · have e : met ||| nxt rows f = met := Nat.le_antisymm (Nat.le_of_not_lt h3) Nat.left_le_or
      rw [or_or_zero (rows := rows) h3, pt_zero, e]
      refine ⟨hm, ?_⟩
      by_cases hb : f.testBit b = true
      · have := hsub b hb
        simp [this]
      · rw [lev_step R hm hf h0 (by simpa using hb), or_or_zero (rows := rows) h3, lev_zero]
        simp
 termination_by 2 ^ n - met
 decreasing_by
  have := Nat.or_lt_two_pow hm hx
  omega

/-- The part of a vertex. -/
def part (rows : List Int) (v : Nat) : Nat := pt rows (2 ^ v) (2 ^ v)
theorem part_lt {n : Nat} {rows : List Int} (R : Rok n rows) {v : Nat} (hv : v < n) : part rows v < 2 ^ n := by
  have hp : 2 ^ v < 2 ^ n := Nat.pow_lt_pow_right (by omega) hv
  exact (pt_bit R 0 _ _ 0 hp hp (fun _ h => h)).1
theorem far_self {n : Nat} {rows : List Int} (R : Rok n rows) {v : Nat} (hv : v < n) : far rows v v = 0 := far_of R hv (d := 0) ⟨rfl, fun e he => by omega⟩
theorem part_bit {n : Nat} {rows : List Int} (R : Rok n rows) {v : Nat} (hv : v < n) (w : Nat) : (part rows v).testBit w = true ↔ 0 ≤ far rows v w := by
  have hp : 2 ^ v < 2 ^ n := Nat.pow_lt_pow_right (by omega) hv
  unfold part far
  rw [(pt_bit R w _ _ 0 hp hp (fun _ h => h)).2, Nat.testBit_two_pow, decide_eq_true_eq]
  constructor
  · rintro (rfl | h)
    · rw [lev_bit (by simp)]; omega
    · exact h
  · exact .inr

theorem l_impl_Graph_part_1 (h : VH) (n : Nat) (s : Value) (rows : List Int) (hs : Sli h s rows) (R : Rok n rows) (hn : nro ≤ h.length) (met : Nat) (L : List Int) (hL : ∀ y ∈ L, 0 ≤ y ∧ y < n) (hl : L.length ≤ 62) (k j : Nat) (hk : k = L.length - j) (hj : j ≤ L.length) (acc : Nat) (ha : acc < 2 ^ 62) :
    floop (vcall F nro) nro [2, 5, 7, 16, 17, 18] i_impl_Graph_part_B1 (bx h n s ++ [⟨1, ints L⟩]) [bp h, .int .i64 met, .int .i64 acc, .slice (some ⟨h.length + 1, 0, none⟩) L.length L.length, .int .i64 L.length, .int .i64 j] (bx h n s ++ [⟨1, ints L⟩]) =
      some (.exit 2, fl [(2, bp h), (5, .int .i64 met), (7, .int .i64 ((acc ||| orL rows (L.drop j) : Nat) : Int))], bx h n s ++ [⟨1, ints L⟩]) := by
  have hn' := fun k => Nat.le_trans hn (Nat.le_add_right h.length k)
  have hso := fun k => hs.oldCk (k := k)
  have hle := R.le
  have hlen := R.len
  rw [floop_at i_impl_Graph_part_B1.eq_1]
  by_cases hlt : j < L.length
  · have hlt' : (j : Int) < L.length := by omega
    obtain ⟨y0, y1⟩ := hL L[j] (List.getElem_mem hlt)
    obtain ⟨y, hy⟩ : ∃ y : Nat, L[j] = y := ⟨L[j].toNat, by omega⟩
    have t1 := take1_ints hlt
    rw [hy] at t1 y1
    obtain ⟨r1, r2⟩ := R.row y (by omega)
    have r3 := le62 hle r2
    have hvl : y < rows.length := by omega
    have vx := fun L => (hs.app L).vidx (k := .i64) (j := (y : Int)) (by omega) (by omega)
    have vl := fun L => (hs.app L).vload hvl
    have hor := ior_nat (a := acc) (b := (rows.getD y 0).toNat) (by omega) (by omega)
    have e1 : (((rows.getD y 0).toNat : Nat) : Int) = rows[y] := by rw [getD_at rows hvl] at r1 ⊢; omega
    rw [e1] at hor
    have ih := l_impl_Graph_part_1 h n s rows hs R hn met L hL hl (k - 1) (j + 1) (by omega) hlt (acc ||| (rows.getD y 0).toNat) (Nat.or_lt_two_pow ha r3)
    rw [show ((j + 1 : Nat) : Int) = (j : Int) + 1 by omega] at ih
    rw [List.drop_eq_getElem_cons hlt, hy, orL, Int.toNat_natCast, ← Nat.or_assoc]
    obtain ⟨a2, ha2⟩ : ∃ a2, a2 = acc ||| (rows.getD y 0).toNat := ⟨_, rfl⟩
    rw [← ha2] at ih hor ⊢
    obtain ⟨q, hq⟩ : ∃ q, q = orL rows (L.drop (j + 1)) := ⟨_, rfl⟩
    rw [← hq] at ih ⊢
    simp only [List.append_assoc, List.cons_append, List.nil_append] at ih
    clear ha2 hq r1 r2 r3 e1 hk hL
    simp (disch := first | assumption | omega | (simp [*] <;> omega) | fail) [hlt, hlt', t1, vx, vl, hor, ih, hn', hso, wrap64]
  · have hlt' : ¬ (j : Int) < L.length := by omega
    rw [List.drop_eq_nil_of_le (by omega), orL, Nat.or_zero]
    simp (disch := first | assumption | omega | (simp [*] <;> omega) | fail) [hlt, hlt']
 termination_by k
 decreasing_by omega

theorem l_impl_Graph_part_2 (h : VH) (n : Nat) (s : Value) (rows : List Int) (hs : Sli h s rows) (R : Rok n rows) (hn : nro ≤ h.length) (met f : Nat) (hm : met < 2 ^ n) (hf : f < 2 ^ n) :
    floop (vcall F nro) nro [2, 5, 6] i_impl_Graph_part_B2 (bx h n s) [bp h, .int .i64 met, .int .i64 f] (bx h n s) = some (.exit 0, fl [(5, .int .i64 (pt rows met f))], bx h n s) := by
  have hn' := fun k => Nat.le_trans hn (Nat.le_add_right h.length k)
  have hso := fun k => hs.oldCk (k := k)
  have hle := R.le
  have hm62 := le62 hle hm
  have hf62 := le62 hle hf
  rw [floop_at i_impl_Graph_part_B2.eq_1]
  by_cases h0 : f = 0
  · subst h0
    rw [pt_zero]
    simp (disch := first | assumption | omega | (simp [*] <;> omega) | fail) []
  · have h0' : ¬ (f : Int) = 0 := by omega
    rw [pt_step R hm hf h0]
    have hx := nxt_lt R hf
    have hx62 := le62 hle hx
    have hnl := nand_le (nxt rows f) met
    have hc := c_impl_list (nro := nro) f hf62 (bx h n s) (by simp; omega)
    have hlL := bitL_len f
    have lp := l_impl_Graph_part_1 (nro := nro) h n s rows hs R hn met (bitL f) (bitL_lt hf) hlL (bitL f).length 0 (by omega) (Nat.zero_le _) 0 (by omega)
    rw [List.drop_zero, Nat.zero_or, show orL rows (bitL f) = nxt rows f from rfl] at lp
    have hih := l_impl_Graph_part_2 h n s rows hs R hn (met ||| nxt rows f) (nand (nxt rows f) met) (Nat.or_lt_two_pow hm hx) (by omega)
    have a1 := iandNot_nat (a := nxt rows f) (b := met) hx62 hm62
    have a2 := ior_nat (a := met) (b := nxt rows f) (by omega) (by omega)
    obtain ⟨q, hq⟩ : ∃ q, q = pt rows (met ||| nxt rows f) (nand (nxt rows f) met) := ⟨_, rfl⟩
    rw [← hq] at hih ⊢
    obtain ⟨x, hxx⟩ : ∃ x, x = nxt rows f := ⟨_, rfl⟩
    rw [← hxx] at lp hih a1 a2
    obtain ⟨z, hz⟩ : ∃ z, z = nand x met := ⟨_, rfl⟩
    rw [← hz] at a1 hih
    obtain ⟨m2, hm2⟩ : ∃ m2, m2 = met ||| x := ⟨_, rfl⟩
    rw [← hm2] at a2 hih
    obtain ⟨Lf, hLf⟩ : ∃ Lf, Lf = bitL f := ⟨_, rfl⟩
    rw [← hLf] at hc lp hlL
    simp only [Int.natCast_zero] at lp
    simp at hc lp
    clear hxx hz hm2 hq hLf hnl hm hf hx hx62
    simp (disch := first | assumption | omega | (simp [*] <;> omega) | fail) [h0, h0', hc, lp, a1, a2, hih, hn, hn', hso]
 termination_by (if f = 0 then 0 else 2 ^ 62 - met + 1)
 decreasing_by
  rw [if_neg h0]
  split
  · omega
  · rename_i hne
    rcases Nat.lt_or_ge met (met ||| nxt rows f) with h1 | h1
    · omega
    · exact absurd (or_or_zero (rows := rows) (by omega)) hne

theorem c_impl_Graph_part (n v : Nat) (s : Value) (rows : List Int) (h : VH) (hs : Sli h s rows) (R : Rok n rows) (hv : v < n) (hn : nro ≤ h.length) :
    vcall F nro k_impl_Graph_part [gv n s, .int .i64 v] h = some (.int .i64 (part rows v), h) := by
  refine v_impl_Graph_part (by simp [i_impl_Graph_part]) ?_
  rw [fbody_eq]
  have hle := R.le
  have hp : 2 ^ v < 2 ^ n := Nat.pow_lt_pow_right (by omega) hv
  have lp := l_impl_Graph_part_2 (nro := nro) h n s rows hs R hn (2 ^ v) (2 ^ v) hp hp
  have w2 : ishl .i64 1 (v : Int) = ((2 ^ v : Nat) : Int) := by
    have := ishl_one (b := (v : Int)) (by omega)
    rwa [Int.toNat_natCast] at this
  rw [show pt rows (2 ^ v) (2 ^ v) = part rows v from rfl] at lp
  obtain ⟨q, hq⟩ : ∃ q, q = part rows v := ⟨_, rfl⟩
  rw [← hq] at lp ⊢
  obtain ⟨p, hpp⟩ : ∃ p, p = 2 ^ v := ⟨_, rfl⟩
  rw [← hpp] at lp w2
  clear hq hpp hp
  simp (disch := first | assumption | omega | (simp [*] <;> omega) | fail) [i_impl_Graph_part, w2, lp]

theorem c_impl_all (n : Nat) (hn : n ≤ 62) (h : VH) : vcall F nro k_impl_all [.int .i64 n] h = some (.int .i64 ((2 ^ n - 1 : Nat) : Int), h) := by
  refine v_impl_all (by simp [i_impl_all]) ?_
  rw [fbody_eq]
  have w2 : ishl .i64 1 (n : Int) = ((2 ^ n : Nat) : Int) := by
    have := ishl_one (b := (n : Int)) (by omega)
    rwa [Int.toNat_natCast] at this
  have hp : 2 ^ n ≤ 2 ^ 62 := Nat.pow_le_pow_right (by omega) hn
  have hp0 : 0 < 2 ^ n := Nat.two_pow_pos n
  obtain ⟨p, hpp⟩ : ∃ p, p = 2 ^ n := ⟨_, rfl⟩
  rw [← hpp] at w2 hp hp0 ⊢
  have w1 : IntKind.i64.wrap ((p : Int) - 1) = ((p - 1 : Nat) : Int) := by rw [wrap64 (by omega) (by omega)]; omega
  clear hpp
  simp (disch := first | assumption | omega | (simp [*] <;> omega) | fail) [i_impl_all, w2, w1]

/-- Is there a way from vertex 0 to all? -/
def connP (rows : List Int) (n : Nat) : Prop := ∀ w, w < n → 0 ≤ far rows 0 w
theorem conn_all {n : Nat} {rows : List Int} (R : Rok n rows) (h1 : 1 ≤ n) : part rows 0 = 2 ^ n - 1 ↔ connP rows n := by
  have hb := fun w => part_bit R (v := 0) (by omega) w
  constructor
  · intro h w hw
    rw [← hb, h, Nat.testBit_two_pow_sub_one]
    simpa using hw
  · intro h
    apply Nat.eq_of_testBit_eq
    intro w
    rw [Nat.testBit_two_pow_sub_one]
    by_cases hw : w < n
    · rw [(hb w).mpr (h w hw)]; simp [hw]
    · have := Nat.testBit_lt_two_pow (i := w) (Nat.lt_of_lt_of_le (part_lt R (v := 0) (by omega)) (Nat.pow_le_pow_right (n := 2) (by omega) (show n ≤ w by omega)))
      rw [this]; simp [hw]

open Classical in
theorem c_impl_Graph_connected (n : Nat) (s : Value) (rows : List Int) (h : VH) (hs : Sli h s rows) (R : Rok n rows) (h1 : 1 ≤ n) (hn : nro ≤ h.length) :
    vcall F nro k_impl_Graph_connected [gv n s] h = some (.bool (decide (connP rows n)), h) := by
  refine v_impl_Graph_connected (by simp [i_impl_Graph_connected]) ?_
  rw [fbody_eq]
  have hp := c_impl_Graph_part (nro := nro) n 0 s rows (bx h n s) (hs.app _) R (by omega) (by simp; omega)
  have ha := c_impl_all (nro := nro) n R.le (bx h n s)
  have e := conn_all R h1
  simp only [← e]
  obtain ⟨p, hpp⟩ : ∃ p, p = part rows 0 := ⟨_, rfl⟩
  rw [← hpp] at hp ⊢
  obtain ⟨q, hq⟩ : ∃ q, q = 2 ^ n - 1 := ⟨_, rfl⟩
  rw [← hq] at ha ⊢
  have e2 : ((p : Int) = q) ↔ p = q := by omega
  simp only [Int.natCast_zero] at hp
  clear hpp hq e
  simp (disch := first | assumption | omega | (simp [*] <;> omega) | fail) [i_impl_Graph_connected, hp, ha, e2]

open Classical in
theorem c_spec_l02Connected (n : Nat) (s : Value) (rows : List Int) (h : VH) (hs : Sli h s rows) (R : Rok n rows) (h1 : 1 ≤ n) (hn : nro ≤ h.length) :
    vcall F nro k_spec_l02Connected [gv n s] h = some (.bool (decide (connP rows n)), h) := by
  refine v_spec_l02Connected (by simp [i_spec_l02Connected]) ?_
  rw [fbody_eq]
  have hn' := fun k => Nat.le_trans hn (Nat.le_add_right h.length k)
  have hso := fun k => hs.oldCk (k := k)
  have hle := R.le
  have hD := c_spec_from (nro := nro) n 0 s rows (bx h n s) (hs.app _) R (by omega) (by simp; omega)
  have hDl := dists_len rows n 0
  have hDg : ∀ w, w < n → (dists rows n 0).getD w 0 = far rows 0 w := fun w hw => dists_get R (by omega) hw
  obtain ⟨D, hDD⟩ : ∃ D, D = dists rows n 0 := ⟨_, rfl⟩
  rw [← hDD] at hD hDl hDg
  have lp := for_find (call := vcall F nro) (nro := nro) (live := [3, 4]) (c := i_spec_l02Connected_B1) (h0 := bx h n s ++ [⟨1, ints D⟩]) (n := n) (fun i => [.slice (some ⟨h.length + 1, 0, none⟩) n n, .int .i64 i]) (bx h n s ++ [⟨1, ints D⟩]) (fun i => D.getD i 0 < 0) (some (.ret, fl [(2, .bool false)], bx h n s ++ [⟨1, ints D⟩])) (some (.exit 0, fl [], bx h n s ++ [⟨1, ints D⟩])) (fun i hi hi2 => ?_) ?_ 0 (Nat.zero_le _)
  · have e : (∃ j, 0 ≤ j ∧ j < n ∧ D.getD j 0 < 0) ↔ ¬ connP rows n := by
      unfold connP
      constructor
      · rintro ⟨j, _, h2, h3⟩ h4
        have := h4 j h2
        rw [hDg j h2] at h3
        omega
      · intro h4
        apply Classical.byContradiction
        intro h5
        apply h4
        intro w hw
        rcases Int.lt_or_le (far rows 0 w) 0 with h6 | h6
        · exact absurd ⟨w, Nat.zero_le _, hw, by rw [hDg w hw]; exact h6⟩ h5
        · exact h6
    simp only [e] at lp
    simp only [Int.natCast_zero] at lp hD
    simp at hD
    by_cases c : connP rows n
    · rw [if_neg (fun h => h c)] at lp
      rw [decide_eq_true c]
      clear e hDg hDD
      simp at lp
      simp (disch := first | assumption | omega | (simp [*] <;> omega) | fail) [i_spec_l02Connected, hD, lp]
    · rw [if_pos c] at lp
      rw [decide_eq_false c]
      clear e hDg hDD
      simp at lp
      simp (disch := first | assumption | omega | (simp [*] <;> omega) | fail) [i_spec_l02Connected, hD, lp]
  · have hiD : i < D.length := by omega
    have t1 := take1_ints hiD
    rw [getD_at D hiD]
    obtain ⟨z, hz⟩ : ∃ z, z = D[i] := ⟨_, rfl⟩
    rw [← hz] at t1 ⊢
    rw [floop_at i_spec_l02Connected_B1.eq_1]
    clear hDg hDD hz
    constructor <;> intro hb <;> simp (disch := first | assumption | omega | (simp [*] <;> omega) | fail) [hi, hi2, t1, hb, hDl, hn', hso, wrap64]
  · rw [floop_at i_spec_l02Connected_B1.eq_1]
    clear hDg hDD
    simp (disch := first | assumption | omega | (simp [*] <;> omega) | fail) [hDl]

open Classical in
/-- The code of a graph that has to be connected. -/
noncomputable def connC (n : Int) (rows : List Int) : Int := if GV n rows then if connP rows n.toNat then 0 else 5 else 1
theorem connC_zero {n : Int} {rows : List Int} (h : connC n rows = 0) : GV n rows ∧ connP rows n.toNat := by
  unfold connC at h
  by_cases g : GV n rows
  · rw [if_pos g] at h
    by_cases c : connP rows n.toNat
    · exact ⟨g, c⟩
    · rw [if_neg c] at h; omega
  · rw [if_neg g] at h; omega

open Classical in
theorem c_impl_connectedCode (n : Int) (s : Value) (rows : List Int) (h : VH) (hs : Sli h s rows) (hn : nro ≤ h.length) :
    vcall F nro k_impl_connectedCode [gv n s] h = some (.int .i64 (connC n rows), h) := by
  refine v_impl_connectedCode (by simp [i_impl_connectedCode]) ?_
  rw [fbody_eq]
  have h1 := c_impl_IsGraph (nro := nro) n s rows (bx h n s) (hs.app _)
  unfold connC
  by_cases g : GV n rows
  · rw [if_pos g]
    simp only [g, decide_true] at h1
    have hlo := g.lo
    obtain ⟨N, rfl⟩ : ∃ N : Nat, n = N := ⟨n.toNat, by omega⟩
    have h2 := c_impl_Graph_connected (nro := nro) N s rows (bx h N s) (hs.app _) g.rok (by omega) (by simp; omega)
    rw [Int.toNat_natCast]
    by_cases c : connP rows N
    · rw [if_pos c]
      rw [decide_eq_true c] at h2
      simp (disch := first | assumption | omega | (simp [*] <;> omega) | fail) [i_impl_connectedCode, h1, h2]
    · rw [if_neg c]
      rw [decide_eq_false c] at h2
      simp (disch := first | assumption | omega | (simp [*] <;> omega) | fail) [i_impl_connectedCode, h1, h2]
  · rw [if_neg g]
    simp only [g, decide_false] at h1
    simp (disch := first | assumption | omega | (simp [*] <;> omega) | fail) [i_impl_connectedCode, h1]
open Classical in
theorem c_spec_l06Code (n : Int) (s : Value) (rows : List Int) (h : VH) (hs : Sli h s rows) (hn : nro ≤ h.length) :
    vcall F nro k_spec_l06Code [gv n s] h = some (.int .i64 (connC n rows), h) := by
  refine v_spec_l06Code (by simp [i_spec_l06Code]) ?_
  rw [fbody_eq]
  have h1 := c_spec_l01Is (nro := nro) n s rows (bx h n s) (hs.app _)
  unfold connC
  by_cases g : GV n rows
  · rw [if_pos g]
    rw [decide_eq_true g] at h1
    have hlo := g.lo
    obtain ⟨N, rfl⟩ : ∃ N : Nat, n = N := ⟨n.toNat, by omega⟩
    have h2 := c_spec_l02Connected (nro := nro) N s rows (bx h N s) (hs.app _) g.rok (by omega) (by simp; omega)
    rw [Int.toNat_natCast]
    by_cases c : connP rows N
    · rw [if_pos c]
      rw [decide_eq_true c] at h2
      simp (disch := first | assumption | omega | (simp [*] <;> omega) | fail) [i_spec_l06Code, h1, h2]
    · rw [if_neg c]
      rw [decide_eq_false c] at h2
      simp (disch := first | assumption | omega | (simp [*] <;> omega) | fail) [i_spec_l06Code, h1, h2]
  · rw [if_neg g]
    rw [decide_eq_false g] at h1
    simp (disch := first | assumption | omega | (simp [*] <;> omega) | fail) [i_spec_l06Code, h1]
end Go.Proofs.YthpgiimaadohcaaDoor.Zv

/- Lists of lists in new memory. -/
namespace Go.Proofs.YthpgiimaadohcaaDoor.Zv
open Go
variable {nro : Nat}

/-- Where nothing is handed on that is new, a cleaning drops all that is new, or nothing. -/
theorem cleanup_old {h0 h : VH} {vs : List Value} (hv : ∀ v ∈ vs, Old h0.length v) : kclean h0 vs h = (vs, h) ∨ (okT h0.length h0 (h.take h0.length) ∧ kclean h0 vs h = (vs, h.take h0.length)) := by
  unfold kclean cleanup
  rw [keepL_nil hv]
  by_cases hc : okT h0.length h0 (h.take h0.length) ∧ flatL h0.length [] h
  · rw [if_pos hc]
    refine .inr ⟨hc.1, ?_⟩
    simp only [List.filterMap_nil, List.append_nil, Prod.mk.injEq, and_true]
    have : ∀ v ∈ vs, tren (renOf h0.length []) v = v := fun v h => tren_old (hv v h) fun i hi => by simp only [renOf, if_pos hi]
    exact (List.map_congr_left this).trans (by simp)
  · rw [if_neg hc]
    exact .inl rfl

/-- A list of lists in new memory from n on: each inner list in an object of its own. -/
structure EI (n : Nat) (vs : List Value) (G : VH) (ess : List (List Int)) : Prop where
  len : vs.length = ess.length
  at_ : ∀ i : Nat, i < ess.length → ∃ k, vs[i]? = some (.slice (some ⟨n + k, 0, none⟩) (ess.getD i []).length (ess.getD i []).length) ∧ G[k]? = some ⟨1, ints (ess.getD i [])⟩
  nd : (vs.flatMap arefs).Nodup

theorem EI.nil (n : Nat) (G : VH) : EI n [] G [] := ⟨rfl, fun i hi => by simp at hi, by simp⟩
theorem EI.more {n : Nat} {vs : List Value} {G : VH} {ess : List (List Int)} (e : EI n vs G ess) (L : VH) : EI n vs (G ++ L) ess := by
  refine ⟨e.len, fun i hi => ?_, e.nd⟩
  obtain ⟨k, h1, h2⟩ := e.at_ i hi
  exact ⟨k, h1, by rw [List.getElem?_append_left (List.getElem?_eq_some_iff.mp h2).1]; exact h2⟩
theorem EI.lt {n : Nat} {vs : List Value} {G : VH} {ess : List (List Int)} (e : EI n vs G ess) {r : Nat} (hr : r ∈ vs.flatMap arefs) : n ≤ r ∧ r < n + G.length := by
  obtain ⟨v, hv, hr⟩ := List.mem_flatMap.mp hr
  obtain ⟨i, hi, rfl⟩ := List.mem_iff_getElem.mp hv
  have hl := e.len
  obtain ⟨k, h1, h2⟩ := e.at_ i (by omega)
  have h3 := (List.getElem?_eq_some_iff.mp h1).2
  have h4 := (List.getElem?_eq_some_iff.mp h2).1
  rw [h3] at hr
  simp [arefs] at hr
  omega
theorem EI.push {n : Nat} {vs : List Value} {G : VH} {ess : List (List Int)} (e : EI n vs G ess) (xs : List Int) (L : VH) : EI n (vs ++ [.slice (some ⟨n + G.length, 0, none⟩) xs.length xs.length]) (G ++ ⟨1, ints xs⟩ :: L) (ess ++ [xs]) := by
  have hl := e.len
  have e2 := e.more (⟨1, ints xs⟩ :: L)
  refine ⟨by simp [hl], fun i hi => ?_, ?_⟩
  · by_cases h : i < ess.length
    · obtain ⟨k', h1, h2⟩ := e2.at_ i h
      have e1 : (ess ++ [xs]).getD i [] = ess.getD i [] := by simp only [List.getD_eq_getElem?_getD]; rw [List.getElem?_append_left h]
      rw [e1]
      exact ⟨k', by rw [List.getElem?_append_left (by omega)]; exact h1, h2⟩
    · have hi2 : i = ess.length := by simp at hi; omega
      subst hi2
      have e1 : (ess ++ [xs]).getD ess.length [] = xs := by simp [List.getD_eq_getElem?_getD]
      rw [e1]
      exact ⟨G.length, by rw [← hl]; simp, by simp⟩
  · rw [List.flatMap_append]
    refine List.nodup_append.mpr ⟨e.nd, by simp [arefs], fun a ha b hb => ?_⟩
    have := (e.lt ha).2
    simp [arefs] at hb
    omega

/-- A list of lists that a call has handed out: in memory from n on. -/
def SL2 (n : Nat) (M : VH) (v : Value) (ess : List (List Int)) : Prop := ∃ b vs, v = .slice (some ⟨n + b, 0, none⟩) ess.length ess.length ∧ M[b]? = some ⟨1, vs⟩ ∧ EI n vs M ess

theorem EI.cleanP {P0 P : VH} {vs0 vs vals : List Value} {G0 G : VH} {ess0 ess : List (List Int)} (e0 : EI (P.length + 1) vs0 G0 ess0) (e : EI (P.length + 1) vs G ess) (hP : P0.length = P.length) (hG : G0.length ≤ G.length) (hv : ∀ v ∈ vals, Old (P.length + 1 + G0.length) v) :
    ∃ G1, kclean (P0 ++ ⟨1, vs0⟩ :: G0) vals (P ++ ⟨1, vs⟩ :: G) = (vals, P ++ ⟨1, vs⟩ :: G1) ∧ EI (P.length + 1) vs G1 ess ∧ G0.length ≤ G1.length := by
  have hlen : (P0 ++ (⟨1, vs0⟩ : VO) :: G0).length = P.length + 1 + G0.length := by simp; omega
  rcases cleanup_old (h0 := P0 ++ ⟨1, vs0⟩ :: G0) (h := P ++ ⟨1, vs⟩ :: G) (vs := vals) (by rw [hlen]; exact hv) with hk | ⟨hok, hk⟩
  · exact ⟨G, hk, e, hG⟩
  · have e1 : (P ++ (⟨1, vs⟩ : VO) :: G).take (P0 ++ (⟨1, vs0⟩ : VO) :: G0).length = P ++ ⟨1, vs⟩ :: G.take G0.length := by
      rw [hlen, List.take_append, List.take_of_length_le (by omega)]
      rw [show P.length + 1 + G0.length - P.length = G0.length + 1 by omega]
      rfl
    rw [e1] at hk hok
    refine ⟨G.take G0.length, hk, ⟨e.len, fun i hi => ?_, e.nd⟩, by simp; omega⟩
    obtain ⟨k, h1, h2⟩ := e.at_ i hi
    have hk : k < G0.length := by
      have h3 := hok P.length ⟨1, vs⟩ (by rw [hget0]; rfl)
      have hmem : P.length + 1 + k ∈ orefs ⟨1, vs⟩ := by
        unfold orefs
        refine List.mem_flatMap.mpr ⟨_, List.mem_of_getElem? h1, ?_⟩
        simp [crefs, arefs]
      rcases h3 with h3 | h3
      · rw [← hP, hget0] at h3
        simp at h3
        subst h3
        have hi0 : i < ess0.length := by
          have := (List.getElem?_eq_some_iff.mp h1).1
          rw [← e0.len]; exact this
        obtain ⟨k', h4, h5⟩ := e0.at_ i hi0
        rw [h1] at h4
        simp at h4
        have : k = k' := h4.1
        subst this
        exact (List.getElem?_eq_some_iff.mp h5).1
      · have := h3 _ hmem
        rw [hlen] at this
        omega
    exact ⟨k, h1, by rw [List.getElem?_take, if_pos hk]; exact h2⟩

theorem EI.cleanP' {P0 P : VH} {vs0 vs vals : List Value} {G0 G : VH} {ess0 ess : List (List Int)} (e0 : EI (P.length + 1) vs0 G0 ess0) (e : EI (P.length + 1) vs G ess) (hP : P0.length = P.length) (hG : G0.length ≤ G.length) (hv : ∀ v ∈ vals, Old (P.length + 1 + G0.length) v) :
    ∃ G1, kclean (P0 ++ ⟨1, vs0⟩ :: G0) vals (P ++ ⟨1, vs⟩ :: G) = (vals, P ++ ⟨1, vs⟩ :: G1) ∧ EI (P.length + 1) vs G1 ess ∧ G0.length ≤ G1.length ∧ ∀ k, k < G0.length → G1[k]? = G[k]? := by
  obtain ⟨G1, h1, h2, h3⟩ := EI.cleanP e0 e hP hG hv
  refine ⟨G1, h1, h2, h3, ?_⟩
  have hlen : (P0 ++ (⟨1, vs0⟩ : VO) :: G0).length = P.length + 1 + G0.length := by simp; omega
  rcases cleanup_old (h0 := P0 ++ ⟨1, vs0⟩ :: G0) (h := P ++ ⟨1, vs⟩ :: G) (vs := vals) (by rw [hlen]; exact hv) with hk | ⟨_, hk⟩
  · rw [h1] at hk
    simp at hk
    rw [hk]
    intro k _; rfl
  · have e1 : (P ++ (⟨1, vs⟩ : VO) :: G).take (P0 ++ (⟨1, vs0⟩ : VO) :: G0).length = P ++ ⟨1, vs⟩ :: G.take G0.length := by
      rw [hlen, List.take_append, List.take_of_length_le (by omega)]
      rw [show P.length + 1 + G0.length - P.length = G0.length + 1 by omega]
      rfl
    rw [h1, e1] at hk
    simp at hk
    rw [hk]
    intro k hk2
    rw [List.getElem?_take, if_pos hk2]

/-- A function's end: a list of lists is handed out, perhaps beside something flat. -/
theorem EI.fin {h pre : VH} {vs : List Value} {G : VH} {ess : List (List Int)} (e : EI (h.length + pre.length + 1) vs G ess) (w : Value → Value) (hw1 : ∀ a n t, trefs (w (.slice (some a) n t)) = [a.block]) (hw2 : ∀ r a n t, tren r (w (.slice (some a) n t)) = w (.slice (some { a with block := r a.block }) n t)) :
    ∃ v M, kclean h [w (.slice (some ⟨h.length + pre.length, 0, none⟩) vs.length vs.length)] (h ++ (pre ++ ⟨1, vs⟩ :: G)) = ([w v], h ++ M) ∧ SL2 h.length M v ess := by
  have hl2 := e.len
  have hk : keepL h.length [w (.slice (some ⟨h.length + pre.length, 0, none⟩) vs.length vs.length)] = [h.length + pre.length] := by
    unfold keepL
    simp [hw1, dedup]
  have hget : (h ++ (pre ++ ⟨1, vs⟩ :: G))[h.length + pre.length]? = some ⟨1, vs⟩ := by rw [hgetk]; simp
  by_cases hf : flatL h.length [h.length + pre.length] (h ++ (pre ++ ⟨1, vs⟩ :: G))
  · have hvs : vs = [] := by
      obtain ⟨o, ho, hr⟩ := hf (h.length + pre.length) (by simp)
      have : o = ⟨1, vs⟩ := by rw [hget] at ho; simpa using ho.symm
      subst this
      cases hv : ess with
      | nil => rw [hv] at hl2; exact List.length_eq_zero_iff.mp hl2
      | cons x r =>
        exfalso
        obtain ⟨j, h1, _⟩ := e.at_ 0 (by rw [hv]; simp)
        have := hr (h.length + pre.length + 1 + j) (by
          unfold orefs
          refine List.mem_flatMap.mpr ⟨_, List.mem_of_getElem? h1, ?_⟩
          simp [crefs, arefs])
        omega
    subst hvs
    have hes : ess = [] := List.length_eq_zero_iff.mp hl2.symm
    rw [hes]
    refine ⟨.slice (some ⟨h.length + 0, 0, none⟩) 0 0, [⟨1, []⟩], ?_, 0, [], by simp, rfl, EI.nil _ _⟩
    rw [cleanup_keep hk hf]
    simp [hw2, renOf_one, hget]
  · refine ⟨.slice (some ⟨h.length + pre.length, 0, none⟩) vs.length vs.length, pre ++ ⟨1, vs⟩ :: G, ?_, pre.length, vs, by rw [hl2], by simp, hl2, fun i hi => ?_, e.nd⟩
    · unfold kclean cleanup
      rw [hk, if_neg (fun h => hf h.2)]
    · obtain ⟨j, h1, h2⟩ := e.at_ i hi
      exact ⟨pre.length + 1 + j, by rw [h1]; congr 4; omega, by
        rw [List.getElem?_append_right (by omega), show pre.length + 1 + j - pre.length = j + 1 by omega]
        exact h2⟩
theorem EI.fin1 {h pre : VH} {vs : List Value} {G : VH} {ess : List (List Int)} (e : EI (h.length + pre.length + 1) vs G ess) :
    ∃ v M, kclean h [.slice (some ⟨h.length + pre.length, 0, none⟩) vs.length vs.length] (h ++ (pre ++ ⟨1, vs⟩ :: G)) = ([v], h ++ M) ∧ SL2 h.length M v ess :=
  e.fin (fun v => v) (fun a n t => by simp [trefs, vrefs, crefs, arefs]) (fun r a n t => by simp [tren, vren, cren, aren])
theorem SL2.shape {n : Nat} {M : VH} {v : Value} {ess : List (List Int)} (h : SL2 n M v ess) : ∃ a m, v = .slice (some a) m m := by
  obtain ⟨b, vs, rfl, _⟩ := h
  exact ⟨_, _, rfl⟩

/-! ### lists of lists that are read -/
/-- What a list of lists reads as. -/
def LL (h : VH) (v : Value) (ess : List (List Int)) : Prop := ∃ vs, vs.length = ess.length ∧ Sl h v vs ∧ ∀ (i : Nat) (hi : i < vs.length), Sli h vs[i] (ess.getD i [])
theorem LL.app {h : VH} {v : Value} {ess : List (List Int)} (hl : LL h v ess) (L : VH) : LL (h ++ L) v ess := by
  obtain ⟨vs, h1, h2, h3⟩ := hl
  exact ⟨vs, h1, h2.app L, fun i hi => (h3 i hi).app L⟩
theorem LL.nil (h : VH) : LL h (.slice none 0 0) [] := ⟨[], rfl, by simp [Sl, vsrc], fun i hi => by simp at hi⟩
theorem LL.old {h : VH} {v : Value} {ess : List (List Int)} (hl : LL h v ess) : Old h.length v := by
  obtain ⟨vs, h1, h2, h3⟩ := hl
  exact h2.old
theorem SL2.read {h M L : VH} {q : Value} {es : List (List Int)} (hs : SL2 h.length M q es) : ∃ vs, vs.length = es.length ∧ Sl (h ++ M ++ L) q vs ∧ ∀ (i : Nat) (hi : i < vs.length), Sli (h ++ M ++ L) vs[i] (es.getD i []) := by
  obtain ⟨b, vs, rfl, h1, h2⟩ := hs
  have hget : ∀ k, (h ++ M ++ L)[h.length + k]? = (M ++ L)[k]? := fun k => by
    rw [List.append_assoc, List.getElem?_append_right (by simp), Nat.add_sub_cancel_left]
  refine ⟨vs, h2.len, ?_, fun i hi => ?_⟩
  · have h3 : (M ++ L)[b]? = some ⟨1, vs⟩ := by rw [List.getElem?_append_left (List.getElem?_eq_some_iff.mp h1).1]; exact h1
    unfold Sl
    rw [vsrc_ref]
    simp only [hget, h3, h2.len]
    simp [h2.len]
    rw [List.take_of_length_le (by rw [h2.len]; exact Nat.le_refl _)]
  · have hi' : i < es.length := by rw [← h2.len]; exact hi
    obtain ⟨k, k1, k2⟩ := h2.at_ i hi'
    have e : vs[i] = .slice (some ⟨h.length + k, 0, none⟩) (es.getD i []).length (es.getD i []).length := (List.getElem?_eq_some_iff.mp k1).2
    rw [e]
    refine sli_at ?_
    rw [hget, List.getElem?_append_left (List.getElem?_eq_some_iff.mp k2).1]
    exact k2

theorem SL2.ll {h M : VH} {q : Value} {es : List (List Int)} (hs : SL2 h.length M q es) : LL (h ++ M) q es := by
  obtain ⟨vs, h1, h2, h3⟩ := hs.read (L := [])
  rw [List.append_nil] at h2
  refine ⟨vs, h1, h2, fun i hi => ?_⟩
  have := h3 i hi
  rw [List.append_nil] at this
  exact this

/-! ### marks -/
def tot : List (List Int) → Nat
  | [] => 0
  | e :: es => e.length + tot es
theorem EI.set {n : Nat} {vs : List Value} {G : VH} {A : List (List Int)} {e : List Int} {B : List (List Int)} (h : EI n vs G (A ++ e :: B)) (xs : List Int) (hx : xs.length = e.length) : ∃ k, vs[A.length]? = some (.slice (some ⟨n + k, 0, none⟩) e.length e.length) ∧ G[k]? = some ⟨1, ints e⟩ ∧ EI n vs (G.set k ⟨1, ints xs⟩) (A ++ xs :: B) := by
  have hlt : A.length < (A ++ e :: B).length := by simp
  have eA : (A ++ e :: B).getD A.length [] = e := by simp [List.getD_eq_getElem?_getD]
  obtain ⟨k, h1, h2⟩ := h.at_ A.length hlt
  rw [eA] at h1 h2
  have hk := (List.getElem?_eq_some_iff.mp h2).1
  refine ⟨k, h1, h2, by rw [h.len]; simp, fun i hi => ?_, h.nd⟩
  by_cases e1 : i = A.length
  · subst e1
    have e2 : (A ++ xs :: B).getD A.length [] = xs := by simp [List.getD_eq_getElem?_getD]
    rw [e2, hx]
    exact ⟨k, h1, by simp [hk]⟩
  · have e3 : (A ++ xs :: B).getD i [] = (A ++ e :: B).getD i [] := by
      simp only [List.getD_eq_getElem?_getD, List.getElem?_append]
      split
      · rfl
      · have : i - A.length = (i - A.length - 1) + 1 := by omega
        rw [this]
        rfl
    have hi' : i < (A ++ e :: B).length := by simpa using hi
    obtain ⟨k', h3, h4⟩ := h.at_ i hi'
    rw [e3]
    refine ⟨k', h3, ?_⟩
    rw [List.getElem?_set, if_neg]
    · exact h4
    · intro e4
      subst e4
      -- two places with one object
      have hnd := h.nd
      have l1 := (List.getElem?_eq_some_iff.mp h1)
      have l3 := (List.getElem?_eq_some_iff.mp h3)
      obtain ⟨p1, q1⟩ := l1
      obtain ⟨p3, q3⟩ := l3
      have key : ∀ (us : List Value), (us.flatMap arefs).Nodup → ∀ i j (hi : i < us.length) (hj : j < us.length), i < j → ∀ r, r ∈ arefs us[i] → r ∉ arefs us[j] := by
        intro us
        induction us with
        | nil => intro _ i j hi; simp at hi
        | cons u us ih =>
          intro hn i j hi hj hij r hr hr2
          rw [List.flatMap_cons] at hn
          obtain ⟨_, n2, n3⟩ := List.nodup_append.mp hn
          cases j with
          | zero => omega
          | succ j =>
            cases i with
            | zero =>
              refine n3 r (by simpa using hr) r (List.mem_flatMap.mpr ⟨_, List.getElem_mem (by simpa using hj), by simpa using hr2⟩) rfl
            | succ i => exact ih n2 i j (by simpa using hi) (by simpa using hj) (by omega) r (by simpa using hr) (by simpa using hr2)
      rcases Nat.lt_or_gt_of_ne e1 with hlt2 | hgt
      · exact key vs hnd i A.length p3 p1 hlt2 (n + k) (by rw [q3]; simp [arefs]) (by rw [q1]; simp [arefs])
      · exact key vs hnd A.length i p1 p3 hgt (n + k) (by rw [q1]; simp [arefs]) (by rw [q3]; simp [arefs])

/-- A function's end that hands on nothing new. -/
theorem kclean_take {h H : VH} {vs : List Value} (ht : H.take h.length = h) (hv : ∀ v ∈ vs, Old h.length v) : kclean h vs H = (vs, h) := by
  have e : H = h ++ H.drop h.length := by
    conv => lhs; rw [← List.take_append_drop h.length H, ht]
  rw [e]
  exact cleanup_drop hv

end Go.Proofs.YthpgiimaadohcaaDoor.Zv

/- Lists of lists: all edges. -/
namespace Go.Proofs.YthpgiimaadohcaaDoor.Zv
open Go
variable {nro : Nat}

/-- The edges of v from w on. -/
def edgF (rows : List Int) (v n w : Nat) : List (List Int) := if h : w < n then (if rbit rows v w = true then [[(v : Int), (w : Int)]] else []) ++ edgF rows v n (w + 1) else []
 termination_by n - w
theorem edgF_end {rows : List Int} {v n w : Nat} (h : ¬ w < n) : edgF rows v n w = [] := by rw [edgF, dif_neg h]
theorem edgF_step {rows : List Int} {v n w : Nat} (h : w < n) : edgF rows v n w = (if rbit rows v w = true then [[(v : Int), (w : Int)]] else []) ++ edgF rows v n (w + 1) := by rw [edgF, dif_pos h]
/-- All edges from v on. -/
def edgesF (rows : List Int) (n v : Nat) : List (List Int) := if h : v < n then edgF rows v n (v + 1) ++ edgesF rows n (v + 1) else []
 termination_by n - v
theorem edgesF_end {rows : List Int} {n v : Nat} (h : ¬ v < n) : edgesF rows n v = [] := by rw [edgesF, dif_neg h]
theorem edgesF_step {rows : List Int} {n v : Nat} (h : v < n) : edgesF rows n v = edgF rows v n (v + 1) ++ edgesF rows n (v + 1) := by rw [edgesF, dif_pos h]
theorem edgF_mem (rows : List Int) (v n w : Nat) (e : List Int) : e ∈ edgF rows v n w ↔ ∃ k : Nat, w ≤ k ∧ k < n ∧ rbit rows v k = true ∧ e = [(v : Int), (k : Int)] := by
  by_cases h : w < n
  · rw [edgF_step h, List.mem_append, edgF_mem rows v n (w + 1) e]
    split
    · rename_i hb
      simp only [List.mem_singleton]
      constructor
      · rintro (rfl | ⟨k, h1, h2, h3, h4⟩)
        · exact ⟨w, Nat.le_refl _, h, hb, rfl⟩
        · exact ⟨k, by omega, h2, h3, h4⟩
      · rintro ⟨k, h1, h2, h3, h4⟩
        by_cases e : k = w
        · subst e; exact .inl h4
        · exact .inr ⟨k, by omega, h2, h3, h4⟩
    · rename_i hb
      simp only [List.not_mem_nil, false_or]
      constructor
      · rintro ⟨k, h1, h2, h3, h4⟩
        exact ⟨k, by omega, h2, h3, h4⟩
      · rintro ⟨k, h1, h2, h3, h4⟩
        by_cases e : k = w
        · subst e; exact absurd h3 hb
        · exact ⟨k, by omega, h2, h3, h4⟩
  · rw [edgF_end h]
    simp only [List.not_mem_nil, false_iff]
    rintro ⟨k, h1, h2, _⟩
    omega
 termination_by n - w
theorem edgesF_mem (rows : List Int) (n v : Nat) (e : List Int) : e ∈ edgesF rows n v ↔ ∃ u k : Nat, v ≤ u ∧ u < k ∧ k < n ∧ rbit rows u k = true ∧ e = [(u : Int), (k : Int)] := by
  by_cases h : v < n
  · rw [edgesF_step h, List.mem_append, edgF_mem, edgesF_mem rows n (v + 1) e]
    constructor
    · rintro (⟨k, h1, h2, h3, h4⟩ | ⟨u, k, h1, h2, h3, h4, h5⟩)
      · exact ⟨v, k, Nat.le_refl _, by omega, h2, h3, h4⟩
      · exact ⟨u, k, by omega, h2, h3, h4, h5⟩
    · rintro ⟨u, k, h1, h2, h3, h4, h5⟩
      by_cases e : u = v
      · subst e; exact .inl ⟨k, by omega, h3, h4, h5⟩
      · exact .inr ⟨u, k, by omega, h2, h3, h4, h5⟩
  · rw [edgesF_end h]
    simp only [List.not_mem_nil, false_iff]
    rintro ⟨u, k, h1, h2, h3, _⟩
    omega
 termination_by n - v
theorem edgF_len (rows : List Int) (v n w : Nat) (hw : w ≤ n) : (edgF rows v n w).length ≤ n - w := by
  by_cases h : w < n
  · rw [edgF_step h, List.length_append]
    have := edgF_len rows v n (w + 1) h
    split <;> simp <;> omega
  · rw [edgF_end h]; simp
 termination_by n - w

/-- The heap in the loops. -/
abbrev eH (h : VH) (n : Int) (s : Value) (vs : List Value) (G : VH) : VH := h ++ ⟨0, [.int .i64 n, s]⟩ :: ⟨1, vs⟩ :: G
abbrev eq1 (h : VH) (m : Nat) : Value := .slice (some ⟨h.length + 1, 0, none⟩) m m
theorem eH_clean {h : VH} {n : Int} {s : Value} {vs0 vs vals : List Value} {G0 G : VH} {ess0 ess : List (List Int)} (e0 : EI (h.length + 2) vs0 G0 ess0) (e : EI (h.length + 2) vs G ess) (hG : G0.length ≤ G.length) (hv : ∀ v ∈ vals, Old (h.length + 2 + G0.length) v) :
    ∃ G1, kclean (eH h n s vs0 G0) vals (eH h n s vs G) = (vals, eH h n s vs G1) ∧ EI (h.length + 2) vs G1 ess ∧ G0.length ≤ G1.length := by
  have := EI.cleanP (P0 := h ++ [⟨0, [.int .i64 n, s]⟩]) (P := h ++ [⟨0, [.int .i64 n, s]⟩]) (by simpa using e0) (by simpa using e) rfl hG (by simpa using hv)
  simpa using this

theorem eH_clean' {h : VH} {n : Int} {s : Value} {vs0 vs vals : List Value} {G0 G : VH} {ess0 ess : List (List Int)} (e0 : EI (h.length + 2) vs0 G0 ess0) (e : EI (h.length + 2) vs G ess) (hG : G0.length ≤ G.length) (hv : ∀ v ∈ vals, Old (h.length + 2 + G0.length) v) :
    ∃ G1, kclean (eH h n s vs0 G0) vals (eH h n s vs G) = (vals, eH h n s vs G1) ∧ EI (h.length + 2) vs G1 ess ∧ G0.length ≤ G1.length ∧ ∀ k, k < G0.length → G1[k]? = G[k]? := by
  have := EI.cleanP' (P0 := h ++ [⟨0, [.int .i64 n, s]⟩]) (P := h ++ [⟨0, [.int .i64 n, s]⟩]) (by simpa using e0) (by simpa using e) rfl hG (by simpa using hv)
  simpa using this

end Go.Proofs.YthpgiimaadohcaaDoor.Zv

/- The program's lists of edges and parts. -/
namespace Go.Proofs.YthpgiimaadohcaaDoor.Zv
open Go
variable {nro : Nat}

/-! ### edges -/
/-- The pairs of v with the greater ones of a list. -/
def pairL (v : Nat) : List Int → List (List Int)
  | [] => []
  | y :: l => (if (v : Int) < y then [[(v : Int), y]] else []) ++ pairL v l
theorem pairL_len (v : Nat) : ∀ l, (pairL v l).length ≤ l.length
  | [] => Nat.le_refl _
  | y :: l => by
    rw [pairL, List.length_append]
    have := pairL_len v l
    split <;> simp <;> omega
theorem pairL_bitF (rows : List Int) (v n w : Nat) (hw : v < w) : pairL v (bitF (rows.getD v 0).toNat n w) = edgF rows v n w := by
  by_cases h : w < n
  · rw [bitF_step h, edgF_step h, ← pairL_bitF rows v n (w + 1) (by omega)]
    unfold rbit
    by_cases hb : (rows.getD v 0).toNat.testBit w = true
    · rw [if_pos hb, if_pos hb, List.cons_append, List.nil_append, pairL, if_pos (by omega)]
    · rw [if_neg hb, if_neg hb]; rfl
  · rw [bitF_end h, edgF_end h]; rfl
 termination_by n - w
theorem pairL_low (rows : List Int) (v n w : Nat) (hw : w ≤ v + 1) : pairL v (bitF (rows.getD v 0).toNat n w) = pairL v (bitF (rows.getD v 0).toNat n (v + 1)) := by
  by_cases c : w = v + 1
  · rw [c]
  · by_cases h : w < n
    · rw [bitF_step h, ← pairL_low rows v n (w + 1) (by omega)]
      split
      · rw [List.cons_append, List.nil_append, pairL, if_neg (by omega)]; rfl
      · rfl
    · rw [bitF_end h, bitF_end (by omega)]
 termination_by v + 1 - w
theorem pairL_nb {n : Nat} {rows : List Int} (R : Rok n rows) {v : Nat} (hv : v < n) : pairL v (nbL rows v) = edgF rows v n (v + 1) := by
  obtain ⟨_, r2⟩ := R.row v hv
  unfold nbL bitL
  rw [bitF_cut r2 R.le, pairL_low rows v n 0 (by omega), pairL_bitF rows v n (v + 1) (by omega)]

theorem l_impl_Graph_edges_1 (n : Nat) (s : Value) (rows : List Int) (h : VH) (hs : Sli h s rows) (hn : nro ≤ h.length) (R : Rok n rows) (v : Nat) (hv : v < n) (vs0 : List Value) (G0 : VH) (ess0 : List (List Int)) (L : List Int) (hL : L.length ≤ 62) (hg0 : ∃ k, k < G0.length ∧ G0[k]? = some ⟨1, ints L⟩ ∧ k = G0.length - 1) (e0 : EI (h.length + 2) vs0 G0 ess0) (hm : vs0.length ≤ v * 62) :
    ∃ a : List Value × VH, (EI (h.length + 2) a.1 a.2 (ess0 ++ pairL v L) ∧ G0.length ≤ a.2.length) ∧ floop (vcall F nro) nro [1, 3, 4, 9, 10, 18, 19, 20] i_impl_Graph_edges_B1 (eH h n s vs0 G0) [bp h, eq1 h vs0.length, .int .i64 v, .int .i64 n, .int .i64 v, .slice (some ⟨h.length + 2 + (G0.length - 1), 0, none⟩) L.length L.length, .int .i64 L.length, .int .i64 0] (eH h n s vs0 G0) =
      some (.exit 2, fl [(1, bp h), (3, eq1 h a.1.length), (9, .int .i64 n), (10, .int .i64 v)], eH h n s a.1 a.2) := by
  have hle := R.le
  obtain ⟨kk, hk1, hk2, rfl⟩ := hg0
  refine Exists.elim (for_upR (call := vcall F nro) (nro := nro) (live := [1, 3, 4, 9, 10, 18, 19, 20]) (c := i_impl_Graph_edges_B1) (h0 := eH h n s vs0 G0) (n := L.length) (fun j (a : List Value × VH) => [bp h, eq1 h a.1.length, .int .i64 v, .int .i64 n, .int .i64 v, .slice (some ⟨h.length + 2 + (G0.length - 1), 0, none⟩) L.length L.length, .int .i64 L.length, .int .i64 j]) (fun i a => eH h n s a.1 a.2)
    (fun j a => (∃ ess, EI (h.length + 2) a.1 a.2 ess ∧ ess ++ pairL v (L.drop j) = ess0 ++ pairL v L) ∧ G0.length ≤ a.2.length ∧ a.1.length ≤ v * 62 + j ∧ a.2[G0.length - 1]? = some ⟨1, ints L⟩) (fun a => some (.exit 2, fl [(1, bp h), (3, eq1 h a.1.length), (9, .int .i64 n), (10, .int .i64 v)], eH h n s a.1 a.2)) ?_ ?_ 0 (vs0, G0) (Nat.zero_le _) ⟨⟨ess0, e0, rfl⟩, Nat.le_refl _, by simp; omega, hk2⟩) ?_
  · rintro j ⟨vs, G⟩ hlt hlt0 ⟨⟨ess, e, hess⟩, hG, hm, hgl⟩
    dsimp only at e hG hm hgl ⊢
    rw [floop_at i_impl_Graph_edges_B1.eq_1]
    rw [List.drop_eq_getElem_cons hlt, pairL, ← List.append_assoc] at hess
    obtain ⟨H, hH⟩ : ∃ H, H = eH h n s vs G := ⟨_, rfl⟩
    have hq : H[h.length + 1]? = some ⟨1, vs⟩ := by rw [hH]; simp
    have hbx : H[h.length]? = some ⟨0, [.int .i64 n, s]⟩ := by rw [hH]; simp
    have hql : H[h.length + 2 + (G0.length - 1)]? = some ⟨1, ints L⟩ := by
      rw [hH, Nat.add_assoc, hgetk, show 2 + (G0.length - 1) = (G0.length - 1) + 1 + 1 by omega]
      simp only [List.getElem?_cons_succ]
      exact hgl
    have hHl : H.length = h.length + 2 + G.length := by rw [hH]; simp; omega
    have hnH : nro ≤ H.length := by omega
    have hn2 := fun k => Nat.le_trans hnH (Nat.le_add_right H.length k)
    have hn1 := fun k => Nat.le_trans hn (Nat.le_add_right h.length k)
    have t1 := take1_ints hlt
    obtain ⟨y, hy⟩ : ∃ y, y = L[j] := ⟨_, rfl⟩
    rw [← hy] at t1 hess
    obtain ⟨K, hK⟩ : ∃ K, K = eH h n s vs0 G0 := ⟨_, rfl⟩
    have hold : ∀ m, ∀ x ∈ [bp h, eq1 h m, .int .i64 v, .int .i64 n, .int .i64 v, .slice (some ⟨h.length + 2 + (G0.length - 1), 0, none⟩) L.length L.length, .int .i64 L.length, .int .i64 ((j : Int) + 1)], Old (h.length + 2 + G0.length) x := by
      intro m x hx
      simp at hx
      rcases hx with rfl | rfl | rfl | rfl | rfl | rfl | rfl | rfl <;> intro r hr <;> simp [trefs, vrefs, crefs, arefs] at hr ⊢ <;> omega
    by_cases hb : (v : Int) < y
    · rw [if_pos hb] at hess
      have b1 : (vs.length + 1) * 24 ≤ 1099511627776 := by omega
      have b2 : vs.length < 1099511627776 := by omega
      have hnew : H.set (h.length + 1) ⟨1, vs ++ [.slice (some ⟨H.length, 0, none⟩) 2 2]⟩ ++ [⟨1, [.int .i64 v, .int .i64 y]⟩, ⟨1, [.slice (some ⟨H.length, 0, none⟩) 2 2]⟩] = eH h n s (vs ++ [.slice (some ⟨h.length + 2 + G.length, 0, none⟩) 2 2]) (G ++ ⟨1, [.int .i64 v, .int .i64 y]⟩ :: [⟨1, [.slice (some ⟨h.length + 2 + G.length, 0, none⟩) 2 2]⟩]) := by
        rw [hHl, hH]; simp
      have e1 := e.push [(v : Int), y] [⟨1, [.slice (some ⟨h.length + 2 + G.length, 0, none⟩) 2 2]⟩]
      obtain ⟨G1, hk, e2, e3, e4⟩ := eH_clean' (n := n) (s := s) e0 e1 (by simp; omega) (hold (vs.length + 1))
      refine ⟨(_, G1), ⟨⟨_, e2, hess⟩, e3, by simp; omega, by dsimp only; rw [e4 _ hk1, List.getElem?_append_left (by omega)]; exact hgl⟩, ?_⟩
      rw [← hK] at hk ⊢
      rw [← hH]
      simp at hk
      simp only [List.length_append, List.length_singleton, List.length_cons, List.length_nil]
      clear hold hHl hH hK e1 e e0 e2 e4 hess hy hk2 hgl
      simp (disch := first | assumption | omega | (simp [*] <;> omega) | fail) [-getElem?_pos, List.getElem?_cons_zero, List.getElem?_cons_succ, hbx, hq, hql, hget_old hq, hset_old hq, hb, wrap64, hlt, hlt0, hn1, hnH, hn2, b1, b2, hnew, hk, t1]
    · rw [if_neg hb, List.append_nil] at hess
      obtain ⟨G1, hk, e2, e3, e4⟩ := eH_clean' (n := n) (s := s) e0 e hG (hold vs.length)
      refine ⟨(vs, G1), ⟨⟨_, e2, hess⟩, e3, by simp; omega, by dsimp only; rw [e4 _ hk1]; exact hgl⟩, ?_⟩
      rw [← hK, ← hH] at hk
      rw [← hK, ← hH]
      clear hold hHl hH hK e e0 e2 e4 hess hy hk2 hgl
      simp (disch := first | assumption | omega | (simp [*] <;> omega) | fail) [-getElem?_pos, List.getElem?_cons_zero, List.getElem?_cons_succ, hbx, hq, hql, hb, wrap64, hlt, hlt0, hnH, hn2, hk, t1]
  · rintro ⟨vs, G⟩ ⟨_, _, _, hgl⟩
    dsimp only at hgl
    have hql : (eH h n s vs G)[h.length + 2 + (G0.length - 1)]? = some ⟨1, ints L⟩ := by
      rw [Nat.add_assoc, hgetk, show 2 + (G0.length - 1) = (G0.length - 1) + 1 + 1 by omega]
      simp only [List.getElem?_cons_succ]
      exact hgl
    obtain ⟨H, hH⟩ : ∃ H, H = eH h n s vs G := ⟨_, rfl⟩
    rw [← hH] at hql ⊢
    rw [floop_at i_impl_Graph_edges_B1.eq_1]
    clear hH
    simp (disch := first | assumption | omega | (simp [*] <;> omega) | fail) [-getElem?_pos, List.getElem?_cons_zero, List.getElem?_cons_succ, hql]
  · rintro a ⟨⟨⟨ess, k1, k2⟩, k3, k4⟩, h2⟩
    rw [List.drop_length, pairL, List.append_nil] at k2
    rw [k2] at k1
    exact ⟨a, ⟨k1, k3⟩, h2⟩

theorem l_impl_Graph_edges_2 (n : Nat) (s : Value) (rows : List Int) (h : VH) (hs : Sli h s rows) (hn : nro ≤ h.length) (R : Rok n rows) :
    ∃ a : List Value × VH, EI (h.length + 2) a.1 a.2 (edgesF rows n 0) ∧ floop (vcall F nro) nro [1, 3, 9, 10] i_impl_Graph_edges_B2 (eH h n s [] []) [bp h, eq1 h 0, .int .i64 n, .int .i64 0] (eH h n s [] []) =
      some (.exit 0, fl [(3, eq1 h a.1.length)], eH h n s a.1 a.2) := by
  have hle := R.le
  have hlen := R.len
  refine Exists.elim (for_upR (call := vcall F nro) (nro := nro) (live := [1, 3, 9, 10]) (c := i_impl_Graph_edges_B2) (h0 := eH h n s [] []) (n := n) (fun i (a : List Value × VH) => [bp h, eq1 h a.1.length, .int .i64 n, .int .i64 i]) (fun i a => eH h n s a.1 a.2)
    (fun i a => (∃ ess, EI (h.length + 2) a.1 a.2 ess ∧ ess ++ edgesF rows n i = edgesF rows n 0) ∧ a.1.length ≤ i * 62) (fun a => some (.exit 0, fl [(3, eq1 h a.1.length)], eH h n s a.1 a.2)) ?_ ?_ 0 ([], []) (by omega) ⟨⟨[], EI.nil _ _, rfl⟩, by simp⟩) ?_
  · rintro v ⟨vs, G⟩ hlt hlt0 ⟨⟨ess, e, hess⟩, hm⟩
    dsimp only at e hm ⊢
    obtain ⟨H, hH⟩ : ∃ H, H = eH h n s vs G := ⟨_, rfl⟩
    have hHl : H.length = h.length + 2 + G.length := by rw [hH]; simp; omega
    have hvl : v < rows.length := by omega
    have hsH : Sli H s rows := by rw [hH]; exact hs.app _
    have hc := c_impl_listRow (nro := nro) n v rows R hlt H (by omega)
    have vx := hsH.vidx (k := .i64) (j := (v : Int)) (by omega) (by omega)
    have vl := hsH.vload hvl
    have hbL : (nbL rows v).length ≤ 62 := bitL_len _
    have e' := e.more [⟨1, ints (nbL rows v)⟩]
    obtain ⟨⟨vs1, G1⟩, ⟨i2, i3⟩, i1⟩ := l_impl_Graph_edges_1 (nro := nro) n s rows h hs hn R v hlt vs (G ++ [⟨1, ints (nbL rows v)⟩]) ess (nbL rows v) hbL ⟨G.length, by simp, by simp, by simp⟩ e' hm
    dsimp only at i1 i2 i3
    have e1 : eH h n s vs (G ++ [⟨1, ints (nbL rows v)⟩]) = H ++ [⟨1, ints (nbL rows v)⟩] := by rw [hH]; simp
    have e2 : h.length + 2 + ((G ++ [(⟨1, ints (nbL rows v)⟩ : VO)]).length - 1) = H.length := by rw [hHl]; simp
    rw [e1, e2] at i1
    have i4 : vs1.length ≤ (v + 1) * 62 := by
      have := i2.len
      have := e.len
      have := pairL_len v (nbL rows v)
      simp at *
      omega
    rw [pairL_nb R hlt] at i2
    have hold : ∀ x ∈ [bp h, eq1 h vs1.length, .int .i64 n, .int .i64 ((v : Int) + 1)], Old (h.length + 2 + ([] : VH).length) x := by
      intro x hx
      simp at hx
      rcases hx with rfl | rfl | rfl | rfl <;> intro r hr <;> simp [trefs, vrefs, crefs, arefs] at hr ⊢ <;> omega
    obtain ⟨G2, hk, e2, e3⟩ := eH_clean (n := n) (s := s) (EI.nil (h.length + 2) []) i2 (by simp) hold
    rw [edgesF_step hlt, ← List.append_assoc] at hess
    refine ⟨(vs1, G2), ⟨⟨_, e2, hess⟩, i4⟩, ?_⟩
    rw [floop_at i_impl_Graph_edges_B2.eq_1]
    obtain ⟨K, hK⟩ : ∃ K, K = eH h n s [] [] := ⟨_, rfl⟩
    obtain ⟨H1, hH1⟩ : ∃ H1, H1 = eH h n s vs1 G1 := ⟨_, rfl⟩
    have hbx : H[h.length]? = some ⟨0, [.int .i64 n, s]⟩ := by rw [hH]; simp
    obtain ⟨L, hLL⟩ : ∃ L, L = nbL rows v := ⟨_, rfl⟩
    rw [← hLL] at hc i1
    rw [← hK, ← hH1] at hk
    rw [← hH1] at i1
    rw [← hK, ← hH]
    clear hold hH hH1 hK e e2 i2 hess e1 e' hLL hHl i3 hbL
    try simp at i1
    simp (disch := first | assumption | omega | (simp [*] <;> omega) | fail) [-getElem?_pos, List.getElem?_cons_zero, List.getElem?_cons_succ, hbx, wrap64, hlt, hlt0, vx, vl, hc, i1, hk]
  · rintro ⟨vs, G⟩ _
    rw [floop_at i_impl_Graph_edges_B2.eq_1]
    simp (disch := first | assumption | omega | (simp [*] <;> omega) | fail) []
  · rintro a ⟨⟨⟨ess, k1, k2⟩, _⟩, h2⟩
    rw [edgesF_end (by omega), List.append_nil] at k2
    rw [k2] at k1
    exact ⟨a, k1, h2⟩

theorem c_impl_Graph_edges (n : Nat) (s : Value) (rows : List Int) (h : VH) (hs : Sli h s rows) (hn : nro ≤ h.length) (R : Rok n rows) :
    ∃ v M, vcall F nro k_impl_Graph_edges [gv n s] h = some (v, h ++ M) ∧ SL2 h.length M v (edgesF rows n 0) := by
  have hn' := fun k => Nat.le_trans hn (Nat.le_add_right h.length k)
  obtain ⟨⟨vs', G'⟩, l2, l1⟩ := l_impl_Graph_edges_2 (nro := nro) n s rows h hs hn R
  obtain ⟨v, M, k1, k2⟩ := EI.fin1 (h := h) (pre := [⟨0, [.int .i64 n, s]⟩]) l2
  refine ⟨v, M, ?_, k2⟩
  refine v_impl_Graph_edges (by simp [i_impl_Graph_edges]) ?_
  rw [fbody_eq]
  simp at l1 k1
  simp (disch := first | assumption | omega | (simp [*] <;> omega) | fail) [i_impl_Graph_edges, l1, hn', k1]

/-! ### parts -/
/-- The least number of a set. -/
def low (x : Nat) : Nat := ((bitL x).getD 0 0).toNat
theorem low_bit {x n : Nat} (h0 : x ≠ 0) (hx : x < 2 ^ n) (hn : n ≤ 62) : 0 < (bitL x).length ∧ (bitL x).getD 0 0 = (low x : Int) ∧ x.testBit (low x) = true ∧ low x < n ∧ ∀ w, w < low x → x.testBit w = false := by
  obtain ⟨i, q, hq⟩ := low_form x h0
  have hl : LowAt x i := ⟨q, hq⟩
  have e := bitL_low hl (le62 hn hx)
  have e1 : (bitL x).getD 0 0 = (i : Int) := by rw [e]; rfl
  have e2 : low x = i := by unfold low; rw [e1]; simp
  have hm : (i : Int) ∈ bitL x := by rw [e]; exact List.mem_cons_self ..
  have h1 := ((bitL_mem x i).mp hm).2.2
  rw [Int.toNat_natCast] at h1
  have h2 := bitL_lt hx i hm
  refine ⟨by rw [e]; simp, by rw [e2]; exact e1, by rw [e2]; exact h1, by omega, fun w hw => ?_⟩
  rw [e2] at hw
  rw [hq, Nat.testBit_two_pow_mul]
  simp
  omega
theorem nand_lt {x S b : Nat} (h1 : x.testBit b = true) (h2 : S.testBit b = true) : nand x S < x := by
  have h3 := nand_le x S
  have h4 : nand x S ≠ x := by
    intro e
    have := nand_bit x S b
    rw [e, h1, h2] at this
    cases this
  omega
def partsF (rows : List Int) (left : Nat) : List (List Int) :=
  if h : left ≠ 0 ∧ nand left (part rows (low left)) < left then bitL (part rows (low left)) :: partsF rows (nand left (part rows (low left))) else []
 termination_by left
 decreasing_by exact h.2
theorem partsF_zero (rows : List Int) : partsF rows 0 = [] := by rw [partsF, dif_neg (fun h => h.1 rfl)]
theorem partsF_step {n : Nat} {rows : List Int} (R : Rok n rows) {left : Nat} (h0 : left ≠ 0) (hl : left < 2 ^ n) : partsF rows left = bitL (part rows (low left)) :: partsF rows (nand left (part rows (low left))) ∧ nand left (part rows (low left)) < left := by
  obtain ⟨_, _, h1, h2, _⟩ := low_bit h0 hl R.le
  have h3 : (part rows (low left)).testBit (low left) = true := (part_bit R h2 _).mpr (by rw [far_self R h2]; omega)
  have h4 := nand_lt h1 h3
  refine ⟨?_, h4⟩
  conv => lhs; rw [partsF]
  rw [dif_pos ⟨h0, h4⟩]

theorem bitL_nand_lt {left S b n : Nat} (p3 : left.testBit b = true) (hSb : S.testBit b = true) (hle : n ≤ 62) (hl : left < 2 ^ n) : (bitL (nand left S)).length + 1 ≤ (bitL left).length := by
  have hbn := bit_lt hl p3
  have key : ∀ (w : Nat), w ≤ 62 → (bitF (nand left S) 62 w).length + (if w ≤ b then 1 else 0) ≤ (bitF left 62 w).length := by
    intro w hw
    obtain ⟨k, hk⟩ : ∃ k, k = 62 - w := ⟨_, rfl⟩
    induction k generalizing w with
    | zero =>
      have : w = 62 := by omega
      subst this
      rw [bitF_end (by omega), bitF_end (by omega), if_neg (by omega)]
      simp
    | succ k ih =>
      have hw2 : w < 62 := by omega
      have := ih (w + 1) (by omega) (by omega)
      rw [bitF_step hw2, bitF_step hw2, nand_bit]
      by_cases c : w = b
      · subst c
        rw [hSb, p3]
        simp at this ⊢
        omega
      · by_cases c2 : left.testBit w = true
        · rw [c2]
          simp only [Bool.true_and, if_true, List.length_append]
          have e : (w ≤ b) ↔ (w + 1 ≤ b) := by omega
          simp only [e]
          obtain ⟨z, hz⟩ : ∃ z, z = (if w + 1 ≤ b then 1 else 0) := ⟨_, rfl⟩
          rw [← hz] at this ⊢
          clear hz
          split <;> simp <;> omega
        · have c2' : left.testBit w = false := by simpa using c2
          rw [c2']
          have e : (w ≤ b) ↔ (w + 1 ≤ b) := by omega
          simp only [e]
          simpa using this
  have := key 0 (by omega)
  rw [if_pos (Nat.zero_le _)] at this
  exact this

theorem l_impl_Graph_parts (n : Nat) (s : Value) (rows : List Int) (h : VH) (hs : Sli h s rows) (hn : nro ≤ h.length) (R : Rok n rows) (left : Nat) (hl : left < 2 ^ n) (vs : List Value) (G : VH) (ess : List (List Int)) (e : EI (h.length + 2) vs G ess) (m : Nat) (hm : vs.length + m ≤ n) (hc : (bitL left).length ≤ m) :
    ∃ vs' G', floop (vcall F nro) nro [1, 3, 4] i_impl_Graph_parts_B1 (eH h n s [] []) [bp h, eq1 h vs.length, .int .i64 left] (eH h n s vs G) =
      some (.exit 0, fl [(3, eq1 h vs'.length)], eH h n s vs' G') ∧ EI (h.length + 2) vs' G' (ess ++ partsF rows left) := by
  have hle := R.le
  rw [floop_at i_impl_Graph_parts_B1.eq_1]
  by_cases h0 : left = 0
  · subst h0
    refine ⟨vs, G, ?_, by rw [partsF_zero, List.append_nil]; exact e⟩
    simp (disch := first | assumption | omega | (simp [*] <;> omega) | fail) []
  · obtain ⟨p1, p2, p3, p4, _⟩ := low_bit h0 hl hle
    obtain ⟨ps, pd⟩ := partsF_step R h0 hl
    obtain ⟨S, hS⟩ : ∃ S, S = part rows (low left) := ⟨_, rfl⟩
    have hSl := part_lt R p4
    have hSb : S.testBit (low left) = true := by rw [hS]; exact (part_bit R p4 _).mpr (by rw [far_self R p4]; omega)
    rw [← hS] at ps pd hSl
    obtain ⟨H, hH⟩ : ∃ H, H = eH h n s vs G := ⟨_, rfl⟩
    have hHl : H.length = h.length + 2 + G.length := by rw [hH]; simp; omega
    have hnH : nro ≤ H.length := by omega
    have hq : H[h.length + 1]? = some ⟨1, vs⟩ := by rw [hH]; simp
    have hbx : H[h.length]? = some ⟨0, [.int .i64 n, s]⟩ := by rw [hH]; simp
    have hsH : Sli H s rows := by rw [hH]; exact hs.app _
    have c1 := c_impl_list (nro := nro) left (le62 hle hl) H hnH
    have c2 := c_impl_Graph_part (nro := nro) n (low left) s rows (H ++ [⟨1, ints (bitL left)⟩]) (hsH.app _) R p4 (by simp; omega)
    rw [← hS] at c2
    have c3 := c_impl_list (nro := nro) S (le62 hle hSl) (H ++ [⟨1, ints (bitL left)⟩]) (by simp; omega)
    have a1 := iandNot_nat (a := left) (b := S) (le62 hle hl) (le62 hle hSl)
    have t0 := take1_ints p1
    rw [← getD_at (bitL left) p1, p2, List.drop_zero] at t0
    have hn2 := fun k => Nat.le_trans hnH (Nat.le_add_right H.length k)
    have hn1 := fun k => Nat.le_trans hn (Nat.le_add_right h.length k)
    have e1 := ((e.more [⟨1, ints (bitL left)⟩]).push (bitL S) [⟨1, [.slice (some ⟨h.length + 2 + (G ++ [(⟨1, ints (bitL left)⟩ : VO)]).length, 0, none⟩) (bitL S).length (bitL S).length]⟩])
    have hold : ∀ m, ∀ x ∈ [bp h, eq1 h m, .int .i64 (nand left S)], Old (h.length + 2 + ([] : VH).length) x := by
      intro m x hx
      simp at hx
      rcases hx with rfl | rfl | rfl <;> intro r hr <;> simp [trefs, vrefs, crefs, arefs] at hr ⊢ <;> omega
    obtain ⟨G1, hk, e2, e3⟩ := eH_clean (n := n) (s := s) (EI.nil (h.length + 2) []) e1 (by simp) (hold (vs.length + 1))
    have hless := bitL_nand_lt p3 hSb hle hl
    have hih := l_impl_Graph_parts n s rows h hs hn R (nand left S) (Nat.lt_trans pd hl) _ G1 _ e2 (m - 1) (by simp; omega) (by omega)
    obtain ⟨vs', G', i1, i2⟩ := hih
    rw [ps, show ess ++ bitL S :: partsF rows (nand left S) = (ess ++ [bitL S]) ++ partsF rows (nand left S) by simp]
    refine ⟨vs', G', ?_, i2⟩
    have b1 : (vs.length + 1) * 24 ≤ 1099511627776 := by omega
    have b2 : vs.length < 1099511627776 := by omega
    have h0' : ¬ (left : Int) = 0 := by omega
    have hnew : H.set (h.length + 1) ⟨1, vs ++ [.slice (some ⟨H.length + 1, 0, none⟩) (bitL S).length (bitL S).length]⟩ ++ [⟨1, ints (bitL left)⟩, ⟨1, ints (bitL S)⟩, ⟨1, [.slice (some ⟨H.length + 1, 0, none⟩) (bitL S).length (bitL S).length]⟩] = eH h n s (vs ++ [.slice (some ⟨h.length + 2 + (G ++ [(⟨1, ints (bitL left)⟩ : VO)]).length, 0, none⟩) (bitL S).length (bitL S).length]) (G ++ [⟨1, ints (bitL left)⟩] ++ ⟨1, ints (bitL S)⟩ :: [⟨1, [.slice (some ⟨h.length + 2 + (G ++ [(⟨1, ints (bitL left)⟩ : VO)]).length, 0, none⟩) (bitL S).length (bitL S).length]⟩]) := by
      rw [hHl, hH]; simp [Nat.add_assoc]
    obtain ⟨K, hK⟩ : ∃ K, K = eH h n s [] [] := ⟨_, rfl⟩
    rw [← hK] at hk i1 ⊢
    rw [← hH]
    obtain ⟨Ls, hLs⟩ : ∃ Ls, Ls = bitL S := ⟨_, rfl⟩
    obtain ⟨Ll, hLl⟩ : ∃ Ll, Ll = bitL left := ⟨_, rfl⟩
    rw [← hLs] at c3 hnew hk i1
    rw [← hLl] at c1 c2 c3 t0 hnew hk p1 i1
    obtain ⟨Hn, hHn⟩ : ∃ Hn, Hn = eH h n s (vs ++ [.slice (some ⟨h.length + 2 + (G ++ [(⟨1, ints Ll⟩ : VO)]).length, 0, none⟩) Ls.length Ls.length]) (G ++ [⟨1, ints Ll⟩] ++ ⟨1, ints Ls⟩ :: [⟨1, [.slice (some ⟨h.length + 2 + (G ++ [(⟨1, ints Ll⟩ : VO)]).length, 0, none⟩) Ls.length Ls.length]⟩]) := ⟨_, rfl⟩
    rw [← hHn] at hnew hk
    simp only [List.length_append, List.length_singleton, List.length_cons, List.length_nil, Nat.zero_add] at hk i1
    clear hold hHl hH hK e1 e e2 ps hLs hLl hHn hS hSb hless hc hsH i2
    simp at c3
    simp (disch := first | assumption | omega | (simp [*] <;> omega) | fail) [-getElem?_pos, List.getElem?_cons_zero, List.getElem?_cons_succ, hbx, hq, hget_old hbx, hget_old hq, hset_old hq, h0, h0', p1, c1, c2, c3, t0, a1, hn1, hnH, hn2, b1, b2, hnew, hk, i1]
 termination_by left
 decreasing_by rw [hS]; exact pd

theorem all_lt (n : Nat) : 2 ^ n - 1 < 2 ^ n := by have := Nat.two_pow_pos n; omega
theorem c_impl_Graph_parts (n : Nat) (s : Value) (rows : List Int) (h : VH) (hs : Sli h s rows) (hn : nro ≤ h.length) (R : Rok n rows) :
    ∃ v M, vcall F nro k_impl_Graph_parts [gv n s] h = some (v, h ++ M) ∧ SL2 h.length M v (partsF rows (2 ^ n - 1)) := by
  have hn' := fun k => Nat.le_trans hn (Nat.le_add_right h.length k)
  have hle := R.le
  have hbl : (bitL (2 ^ n - 1)).length ≤ n := by
    have key : ∀ (w : Nat), w ≤ n → (bitF (2 ^ n - 1) n w).length ≤ n - w := by
      intro w hw
      obtain ⟨k, hk⟩ : ∃ k, k = n - w := ⟨_, rfl⟩
      induction k generalizing w with
      | zero => rw [bitF_end (by omega)]; simp
      | succ k ih =>
        have := ih (w + 1) (by omega) (by omega)
        rw [bitF_step (by omega)]
        split <;> simp <;> omega
    unfold bitL
    rw [bitF_cut (all_lt n) hle]
    exact key 0 (Nat.zero_le _)
  obtain ⟨vs', G', l1, l2⟩ := l_impl_Graph_parts (nro := nro) n s rows h hs hn R (2 ^ n - 1) (all_lt n) [] [] [] (EI.nil _ _) n (by simp) hbl
  rw [List.nil_append] at l2
  obtain ⟨v, M, k1, k2⟩ := EI.fin1 (h := h) (pre := [⟨0, [.int .i64 n, s]⟩]) l2
  refine ⟨v, M, ?_, k2⟩
  refine v_impl_Graph_parts (by simp [i_impl_Graph_parts]) ?_
  rw [fbody_eq]
  have ha := c_impl_all (nro := nro) n hle (h ++ [⟨0, [.int .i64 n, s]⟩, ⟨1, []⟩])
  obtain ⟨p, hp⟩ : ∃ p, p = 2 ^ n - 1 := ⟨_, rfl⟩
  rw [← hp] at l1 ha
  simp at l1 k1
  clear hp k2 l2 hbl
  simp (disch := first | assumption | omega | (simp [*] <;> omega) | fail) [i_impl_Graph_parts, ha, l1, hn', k1]
end Go.Proofs.YthpgiimaadohcaaDoor.Zv

/- The code of a graph that has to fit k and c. -/
namespace Go.Proofs.YthpgiimaadohcaaDoor.Zv
open Go
variable {nro : Nat}

theorem edges_len' (rows : List Int) (n v : Nat) (hn : n ≤ 62) : (edgesF rows n v).length ≤ (n - v) * 62 := by
  by_cases h : v < n
  · rw [edgesF_step h, List.length_append]
    have h1 := edges_len' rows n (v + 1) hn
    have h2 := edgF_len rows v n (v + 1) h
    have e : n - v = (n - (v + 1)) + 1 := by omega
    rw [e, Nat.add_mul]
    omega
  · rw [edgesF_end h]; simp
 termination_by n - v

end Go.Proofs.YthpgiimaadohcaaDoor.Zv

/- The law of PartOn. -/
namespace Go.Proofs.YthpgiimaadohcaaDoor.Zv
open Go
variable {nro : Nat}

/-- Two places of a list are neighbours in the part on it. -/
def onAdj (rows xs : List Int) (i k : Nat) : Prop := i < xs.length ∧ k < xs.length ∧ rbit rows (xs.getD i 0).toNat (xs.getD k 0).toNat = true
/-- The heap in the reference's loops. -/
abbrev oH (h : VH) (n : Int) (s : Value) (N : Nat) (r : List Int) : VH := h ++ [⟨0, [.int .i64 n, s]⟩, ⟨0, [.int .i64 0, .slice none 0 0]⟩, ⟨1, ints r⟩, ⟨0, [.int .i64 N, .slice (some ⟨h.length + 2, 0, none⟩) N N]⟩]
abbrev op3 (h : VH) : Value := .pointer (some ⟨h.length + 3, 0, some 2⟩)

/-- The part on a list: told by 'onAdj'. -/
theorem on_adj {n : Int} {rows xs : List Int} (g : GV n rows) (hx : ∀ j : Nat, j < xs.length → 0 ≤ xs.getD j 0 ∧ xs.getD j 0 < n) (x y : Nat) : (False ∨ ∃ p : Nat, 0 ≤ p ∧ ∃ q : Nat, q < p ∧ onAdj rows xs p q ∧ ((x = p ∧ y = q) ∨ (x = q ∧ y = p))) ↔ onAdj rows xs x y ∧ x ≠ y := by
  have hl := g.len
  have sym : ∀ p q, onAdj rows xs p q → onAdj rows xs q p := by
    rintro p q ⟨h1, h2, h3⟩
    have a1 := hx p h1
    have a2 := hx q h2
    exact ⟨h2, h1, by rw [g.sym _ _ (by omega) (by omega)]; exact h3⟩
  constructor
  · rintro (h | ⟨p, _, q, h1, h2, h3⟩)
    · exact h.elim
    · rcases h3 with ⟨rfl, rfl⟩ | ⟨rfl, rfl⟩
      · exact ⟨h2, by omega⟩
      · exact ⟨sym _ _ h2, by omega⟩
  · rintro ⟨h1, h2⟩
    rcases Nat.lt_or_gt_of_ne h2 with h3 | h3
    · exact .inr ⟨y, by omega, x, h3, sym _ _ h1, .inr ⟨rfl, rfl⟩⟩
    · exact .inr ⟨x, by omega, y, h3, h1, .inl ⟨rfl, rfl⟩⟩
noncomputable def onRows (rows xs : List Int) : List Int := adjRows xs.length (fun x y => onAdj rows xs x y ∧ x ≠ y)

/-! ### the program's -/
theorem l_impl_partOn_1 (n : Int) (s u : Value) (rows xs : List Int) (h : VH) (hs : Sli h s rows) (hu : Sli h u xs) (hn : nro ≤ h.length) (g : GV n rows) (hx : ∀ j : Nat, j < xs.length → 0 ≤ xs.getD j 0 ∧ xs.getD j 0 < n) (hN : xs.length ≤ 62) (r0 : List Int) (i : Nat) (hi : i < xs.length) (k : Nat) (hk : k ≤ xs.length) (r : List Int) (adj : Nat → Nat → Prop) (ha : IsAdj xs.length r adj) :
    ∃ r', floop (vcall F nro) nro [1, 2, 4, 5, 6, 7, 13, 14, 15, 20, 21, 22] i_impl_Graph_partOn_B1 (oH h n s xs.length r0) [u, bp h, cp h, op3 h, .int .i64 i, .int .i64 (xs.getD i 0), u, .int .i64 xs.length, .int .i64 i, u, .int .i64 xs.length, .int .i64 k] (oH h n s xs.length r) =
      some (.exit 2, fl [(1, u), (2, bp h), (4, cp h), (5, op3 h), (13, u), (14, .int .i64 xs.length), (15, .int .i64 i)], oH h n s xs.length r') ∧
      IsAdj xs.length r' (fun x y => adj x y ∨ ∃ q : Nat, k ≤ q ∧ onAdj rows xs i q ∧ ((x = i ∧ y = q) ∨ (x = q ∧ y = i))) := by
  have hn' := fun k => Nat.le_trans hn (Nat.le_add_right h.length k)
  have hsc := fun k => hs.oldCk (k := k)
  have huo := fun k => hu.oldk (k := k)
  have hlen := g.len
  have g0 := g.hi
  have hp := pow_le62 g.hi
  rw [floop_at i_impl_Graph_partOn_B1.eq_1]
  by_cases hlt : k < xs.length
  · have hlt' : (k : Int) < xs.length := by omega
    have e2 : xs.getD k 0 = xs[k]'(by omega) := getD_at _ (by omega)
    obtain ⟨x1, x2⟩ := hx i (by omega)
    obtain ⟨y1, y2⟩ := hx k (by omega)
    obtain ⟨g1, g2, g3⟩ := g.row (xs.getD i 0).toNat (by omega)
    have hc := fun L => c_impl_Graph_has (nro := nro) n (xs.getD i 0) (xs.getD k 0) s rows (h ++ L) (hs.app _) x1 (by omega) y1 (by omega) g1 (by omega)
    by_cases hb : rbit rows (xs.getD i 0).toNat (xs.getD k 0).toNat = true
    · have hon : onAdj rows xs i k := ⟨hi, by omega, hb⟩
      have hik : ¬ (i : Int) = k := by
        intro e
        have : i = k := by omega
        subst this
        rw [g3] at hb
        cases hb
      have hp2 := c_impl_Graph_put (nro := nro) xs.length (h.length + 2) xs.length i k r (oH h n s xs.length r) (by simp) ha.1 (by omega) (by omega) (by omega) (by omega) (by omega) hN
      rw [if_neg hik] at hp2
      obtain ⟨r', ih1, ih2⟩ := l_impl_partOn_1 n s u rows xs h hs hu hn g hx hN r0 i hi (k + 1) (by omega) (put2 r i k) _ (ha.put2 (by omega) (by omega) (by omega) (by omega) hN)
      rw [show ((k + 1 : Nat) : Int) = (k : Int) + 1 by omega] at ih1
      rw [hb, e2] at hc
      obtain ⟨X, hX⟩ : ∃ X, X = xs.getD i 0 := ⟨_, rfl⟩
      rw [← hX] at hc ih1 ⊢
      simp at hp2
      refine ⟨r', ?_, ih2.congr fun x y _ => ?_⟩
      · clear hX x1 x2 g1 g2 g3 hb hon
        simp (disch := first | assumption | omega | (simp [*] <;> omega) | fail) [hu.vlen', hu.vidx', hu.vload', wrap64, hlt', hc, hp2, hn', ih1, hsc]
      · constructor
        · rintro ((h1 | h1 | h1) | ⟨q, h1, h3, h4⟩)
          · exact .inl h1
          · exact .inr ⟨k, Nat.le_refl _, hon, .inl (by simpa using h1)⟩
          · exact .inr ⟨k, Nat.le_refl _, hon, .inr (by simpa using h1)⟩
          · exact .inr ⟨q, by omega, h3, h4⟩
        · rintro (h1 | ⟨q, h1, h3, h4⟩)
          · exact .inl (.inl h1)
          · by_cases e : q = k
            · subst e; exact .inl (.inr (by simpa using h4))
            · exact .inr ⟨q, by omega, h3, h4⟩
    · have hb' : rbit rows (xs.getD i 0).toNat (xs.getD k 0).toNat = false := by simpa using hb
      obtain ⟨r', ih1, ih2⟩ := l_impl_partOn_1 n s u rows xs h hs hu hn g hx hN r0 i hi (k + 1) (by omega) r _ ha
      rw [show ((k + 1 : Nat) : Int) = (k : Int) + 1 by omega] at ih1
      rw [hb', e2] at hc
      obtain ⟨X, hX⟩ : ∃ X, X = xs.getD i 0 := ⟨_, rfl⟩
      rw [← hX] at hc ih1 ⊢
      refine ⟨r', ?_, ih2.congr fun x y _ => ?_⟩
      · clear hX x1 x2 g1 g2 g3 hb hb'
        simp (disch := first | assumption | omega | (simp [*] <;> omega) | fail) [hu.vlen', hu.vidx', hu.vload', wrap64, hlt', hc, hn', ih1, hsc]
      · constructor
        · rintro (h1 | ⟨q, h1, h3, h4⟩)
          · exact .inl h1
          · exact .inr ⟨q, by omega, h3, h4⟩
        · rintro (h1 | ⟨q, h1, h3, h4⟩)
          · exact .inl h1
          · by_cases e : q = k
            · subst e; exact absurd h3.2.2 hb
            · exact .inr ⟨q, by omega, h3, h4⟩
  · have hlt' : ¬ (k : Int) < xs.length := by omega
    refine ⟨r, ?_, ha.congr fun x y _ => ?_⟩
    · simp (disch := first | assumption | omega | (simp [*] <;> omega) | fail) [hlt']
    · constructor
      · exact .inl
      · rintro (h | ⟨q, h1, h2, _⟩)
        · exact h
        · have := h2.2.1
          omega
 termination_by xs.length - k

theorem l_impl_partOn_2 (n : Int) (s u : Value) (rows xs : List Int) (h : VH) (hs : Sli h s rows) (hu : Sli h u xs) (hn : nro ≤ h.length) (g : GV n rows) (hx : ∀ j : Nat, j < xs.length → 0 ≤ xs.getD j 0 ∧ xs.getD j 0 < n) (hN : xs.length ≤ 62) (r0 : List Int) (i : Nat) (hi : i ≤ xs.length) (r : List Int) (adj : Nat → Nat → Prop) (ha : IsAdj xs.length r adj) :
    ∃ r', floop (vcall F nro) nro [1, 2, 4, 5, 13, 14, 15] i_impl_Graph_partOn_B2 (oH h n s xs.length r0) [u, bp h, cp h, op3 h, u, .int .i64 xs.length, .int .i64 i] (oH h n s xs.length r) =
      some (.exit 0, fl [(4, cp h), (5, op3 h)], oH h n s xs.length r') ∧
      IsAdj xs.length r' (fun x y => adj x y ∨ ∃ p : Nat, i ≤ p ∧ ∃ q : Nat, onAdj rows xs p q ∧ ((x = p ∧ y = q) ∨ (x = q ∧ y = p))) := by
  have hsc := fun k => hs.oldCk (k := k)
  have huo := fun k => hu.oldk (k := k)
  rw [floop_at i_impl_Graph_partOn_B2.eq_1]
  by_cases hlt : i < xs.length
  · have hlt' : (i : Int) < xs.length := by omega
    have e2 : xs.getD i 0 = xs[i]'(by omega) := getD_at _ (by omega)
    obtain ⟨r1, e1, a1⟩ := l_impl_partOn_1 (nro := nro) n s u rows xs h hs hu hn g hx hN r i hlt 0 (by omega) r adj ha
    obtain ⟨r', ih1, ih2⟩ := l_impl_partOn_2 n s u rows xs h hs hu hn g hx hN r0 (i + 1) hlt r1 _ a1
    rw [show ((i + 1 : Nat) : Int) = (i : Int) + 1 by omega] at ih1
    rw [e2] at e1
    simp at e1
    refine ⟨r', ?_, ih2.congr fun x y _ => ?_⟩
    · simp (disch := first | assumption | omega | (simp [*] <;> omega) | fail) [hu.vlen', hu.vidx', hu.vload', wrap64, hlt', e1, ih1, hsc]
    · constructor
      · rintro ((h1 | ⟨q, _, h3, h4⟩) | ⟨p, h1, h2⟩)
        · exact .inl h1
        · exact .inr ⟨i, Nat.le_refl _, q, h3, h4⟩
        · exact .inr ⟨p, by omega, h2⟩
      · rintro (h1 | ⟨p, h1, q, h4, h5⟩)
        · exact .inl (.inl h1)
        · by_cases e : p = i
          · subst e; exact .inl (.inr ⟨q, by omega, h4, h5⟩)
          · exact .inr ⟨p, by omega, q, h4, h5⟩
  · have hlt' : ¬ (i : Int) < xs.length := by omega
    refine ⟨r, ?_, ha.congr fun x y _ => ?_⟩
    · simp (disch := first | assumption | omega | (simp [*] <;> omega) | fail) [hlt']
    · constructor
      · exact .inl
      · rintro (h | ⟨p, h1, q, h3, _⟩)
        · exact h
        · have := h3.1
          omega
 termination_by xs.length - i

theorem on_adj2 {n : Int} {rows xs : List Int} (g : GV n rows) (hx : ∀ j : Nat, j < xs.length → 0 ≤ xs.getD j 0 ∧ xs.getD j 0 < n) (x y : Nat) : (False ∨ ∃ p : Nat, 0 ≤ p ∧ ∃ q : Nat, onAdj rows xs p q ∧ ((x = p ∧ y = q) ∨ (x = q ∧ y = p))) ↔ onAdj rows xs x y ∧ x ≠ y := by
  have hl := g.len
  have irr : ∀ p, ¬ onAdj rows xs p p := by
    rintro p ⟨h1, _, h3⟩
    have a1 := hx p h1
    obtain ⟨_, _, g3⟩ := g.row (xs.getD p 0).toNat (by omega)
    rw [g3] at h3
    cases h3
  rw [← on_adj g hx x y]
  constructor
  · rintro (h | ⟨p, _, q, h1, h2⟩)
    · exact .inl h
    · rw [on_adj g hx x y]
      rcases h2 with ⟨rfl, rfl⟩ | ⟨rfl, rfl⟩
      · exact ⟨h1, fun e => irr _ (e ▸ h1)⟩
      · have := (on_adj g hx y x).mp ((on_adj g hx y x).mpr ⟨h1, fun e => irr _ (e ▸ h1)⟩)
        have a1 := hx y h1.1
        have a2 := hx x h1.2.1
        exact ⟨⟨h1.2.1, h1.1, by rw [g.sym _ _ (by omega) (by omega)]; exact h1.2.2⟩, fun e => irr _ (e ▸ h1)⟩
  · rintro (h | ⟨p, _, q, _, h1, h2⟩)
    · exact .inl h
    · exact .inr ⟨p, by omega, q, h1, h2⟩

theorem c_impl_Graph_partOn (n : Int) (s u : Value) (rows xs : List Int) (h : VH) (hs : Sli h s rows) (hu : Sli h u xs) (hn : nro ≤ h.length) (g : GV n rows) (hx : ∀ j : Nat, j < xs.length → 0 ≤ xs.getD j 0 ∧ xs.getD j 0 < n) (hN : xs.length ≤ 62) :
    vcall F nro k_impl_Graph_partOn [gv n s, u] h = some (gv xs.length (.slice (some ⟨h.length, 0, none⟩) xs.length xs.length), h ++ [⟨1, ints (onRows rows xs)⟩]) := by
  have hn' := fun k => Nat.le_trans hn (Nat.le_add_right h.length k)
  have hE := c_impl_empty (nro := nro) xs.length (h ++ [⟨0, [.int .i64 n, s]⟩, ⟨0, [.int .i64 0, .slice none 0 0]⟩]) (by omega) (by omega) (by simp; omega)
  obtain ⟨r', e1, a1⟩ := l_impl_partOn_2 (nro := nro) n s u rows xs h hs hu hn g hx hN (List.replicate xs.length 0) 0 (by omega) (List.replicate xs.length 0) _ (IsAdj.zero _)
  have a2 : IsAdj xs.length r' (fun x y => onAdj rows xs x y ∧ x ≠ y) := a1.congr fun x y _ => on_adj2 g hx x y
  have e : onRows rows xs = r' := a2.eq
  rw [e]
  refine v_impl_Graph_partOn (by simp [i_impl_Graph_partOn]) ?_
  rw [fbody_eq]
  simp at hE e1
  simp (disch := first | assumption | omega | (simp [*] <;> omega) | fail) [i_impl_Graph_partOn, hu.vlen', hE, e1, hn', fresults, fresL, fres1]

/-! ### PartOn -/
end Go.Proofs.YthpgiimaadohcaaDoor.Zv

/- Bipartite graphs, graphs at a distance, halves. -/
namespace Go.Proofs.YthpgiimaadohcaaDoor.Zv
open Go
variable {nro : Nat}

/-- A loop that looks for something bad; what it comes to is told by a wish. -/
theorem for_findP {call : VCall} {live : List Nat} {c : FC} {h0 : VH} {n : Nat} (V : Nat → List Value) (h : VH) (bad : Nat → Prop) (P D : Option (VX × FE × VH) → Prop)
    (step : ∀ i, i < n → (i : Int) < n → (bad i → P (floop call nro live c h0 (V i) h)) ∧ (¬ bad i → floop call nro live c h0 (V i) h = floop call nro live c h0 (V (i + 1)) h))
    (stop : D (floop call nro live c h0 (V n) h)) (i : Nat) (hi : i ≤ n) :
    ((∃ j, i ≤ j ∧ j < n ∧ bad j) → P (floop call nro live c h0 (V i) h)) ∧ ((¬ ∃ j, i ≤ j ∧ j < n ∧ bad j) → D (floop call nro live c h0 (V i) h)) := by
  by_cases hlt : i < n
  · obtain ⟨h1, h2⟩ := step i hlt (by omega)
    by_cases hb : bad i
    · exact ⟨fun _ => h1 hb, fun h => absurd ⟨i, Nat.le_refl _, hlt, hb⟩ h⟩
    · have ih := for_findP V h bad P D step stop (i + 1) hlt
      rw [h2 hb]
      have : (∃ j, i + 1 ≤ j ∧ j < n ∧ bad j) ↔ ∃ j, i ≤ j ∧ j < n ∧ bad j := by
        constructor
        · rintro ⟨j, h1, h2, h3⟩; exact ⟨j, by omega, h2, h3⟩
        · rintro ⟨j, h1, h2, h3⟩
          refine ⟨j, ?_, h2, h3⟩
          have : j ≠ i := fun e => hb (e ▸ h3)
          omega
      rw [this] at ih
      exact ih
  · have : i = n := by omega
    subst this
    exact ⟨fun ⟨j, h1, h2, _⟩ => by omega, fun _ => stop⟩
 termination_by n - i

/-! ### bipartite graphs -/
/-- Does an edge join vertices of one distance from p? -/
def badE (rows : List Int) (p : Nat) (e : List Int) : Prop := ∃ u w : Nat, e = [(u : Int), (w : Int)] ∧ 0 ≤ far rows p u ∧ far rows p u = far rows p w
theorem edges_shape {n : Nat} {rows : List Int} {e : List Int} (he : e ∈ edgesF rows n 0) : ∃ u w : Nat, u < w ∧ w < n ∧ rbit rows u w = true ∧ e = [(u : Int), (w : Int)] := by
  obtain ⟨u, w, _, h2, h3, h4, h5⟩ := (edgesF_mem rows n 0 e).mp he
  exact ⟨u, w, h2, h3, h4, h5⟩
theorem getD_list {ess : List (List Int)} {i : Nat} (hi : i < ess.length) : ess.getD i [] = ess[i] := by
  rw [List.getD_eq_getElem?_getD, List.getElem?_eq_getElem hi]; rfl

open Classical in
theorem l_impl_Graph_bipartite_1 (H : VH) (n p : Nat) (rows : List Int) (R : Rok n rows) (hp : p < n) (x1 d2 x9 x10 x11 q : Value) (hd : Sli H d2 (dists rows n p)) (hq : LL H q (edgesF rows n 0)) (o1 : Old H.length x1) (o9 : Old H.length x9) (o10 : Old H.length x10) (o11 : Old H.length x11) :
    floop (vcall F nro) nro [1, 5, 9, 10, 11, 21, 22, 23] i_impl_Graph_bipartite_B1 H [x1, d2, x9, x10, x11, q, .int .i64 (edgesF rows n 0).length, .int .i64 0] H =
      if ∃ j, 0 ≤ j ∧ j < (edgesF rows n 0).length ∧ badE rows p ((edgesF rows n 0).getD j []) then some (.ret, fl [(2, .bool false)], H) else some (.exit 2, fl [(1, x1), (9, x9), (10, x10), (11, x11)], H) := by
  obtain ⟨vs, v1, v2, v3⟩ := hq
  have hle := R.le
  have hel := edges_len' rows n 0 hle
  refine for_find (call := vcall F nro) (nro := nro) (live := [1, 5, 9, 10, 11, 21, 22, 23]) (c := i_impl_Graph_bipartite_B1) (h0 := H) (n := (edgesF rows n 0).length) (fun j => [x1, d2, x9, x10, x11, q, .int .i64 (edgesF rows n 0).length, .int .i64 j]) H (fun j => badE rows p ((edgesF rows n 0).getD j [])) _ _ (fun j hj hj2 => ?_) ?_ 0 (Nat.zero_le _)
  · rw [getD_list hj]
    obtain ⟨u, w, huw, hwn, hb, he⟩ := edges_shape (List.getElem_mem hj)
    have hjv : j < vs.length := by omega
    have I := v3 j hjv
    rw [getD_list hj, he] at I
    have hdl := dists_len rows n p
    have gu := dists_get R hp (b := u) (by omega)
    have gw := dists_get R hp (b := w) hwn
    rw [getD_at _ (by omega)] at gu gw
    have eb : badE rows p [(u : Int), (w : Int)] ↔ 0 ≤ far rows p u ∧ far rows p u = far rows p w := by
      constructor
      · rintro ⟨u', w', h1, h2⟩
        simp at h1
        have e1 : u' = u := by omega
        have e2 : w' = w := by omega
        subst e1 e2
        exact h2
      · intro h2; exact ⟨u, w, rfl, h2⟩
    rw [he, eb]
    have od := hd.old
    have oq := v2.old
    have dx := hd.vidx (k := .i64) (j := (u : Int)) (by omega) (by omega)
    have dl := hd.vload (j := u) (by omega)
    have ex := hd.vidx (k := .i64) (j := (w : Int)) (by omega) (by omega)
    have el := hd.vload (j := w) (by omega)
    rw [gu] at dl
    rw [gw] at el
    have i0 := I.vidx (k := .i64) (j := 0) (by omega) (by simp)
    have i1 := I.vidx (k := .i64) (j := 1) (by omega) (by simp)
    have j0 := I.vload (j := 0) (by simp)
    have j1 := I.vload (j := 1) (by simp)
    simp at j0 j1
    have b1 : (j : Int) < vs.length := by omega
    rw [floop_at i_impl_Graph_bipartite_B1.eq_1]
    obtain ⟨a, ha⟩ : ∃ a, a = far rows p u := ⟨_, rfl⟩
    obtain ⟨b, hb2⟩ : ∃ b, b = far rows p w := ⟨_, rfl⟩
    rw [← ha] at dl ⊢
    rw [← hb2] at el ⊢
    obtain ⟨N, hN⟩ : ∃ N, N = (edgesF rows n 0).length := ⟨_, rfl⟩
    rw [← hN] at hj2 hel
    simp only [← hN]
    have w3 : IntKind.i64.wrap ((j : Int) + 1) = (j : Int) + 1 := wrap64 (by omega) (by omega)
    have hj3 : j < N := by omega
    clear ha hb2 gu gw eb he hN I v3 hd hj hel
    by_cases c1 : 0 ≤ a
    · by_cases c2 : a = b
      · subst c2
        refine ⟨fun _ => ?_, fun h => absurd ⟨c1, rfl⟩ h⟩
        simp (disch := first | assumption | omega | (simp [*] <;> omega) | fail) [v2.vidx, v2.vload, hj2, hj3, b1, hjv, i0, i1, j0, j1, dx, dl, ex, el, c1]
      · refine ⟨fun h => absurd h.2 c2, fun _ => ?_⟩
        simp (disch := first | assumption | omega | (simp [*] <;> omega) | fail) [v2.vidx, v2.vload, hj2, hj3, b1, hjv, i0, i1, j0, j1, dx, dl, ex, el, c1, c2, w3]
    · refine ⟨fun h => absurd h.1 c1, fun _ => ?_⟩
      simp (disch := first | assumption | omega | (simp [*] <;> omega) | fail) [v2.vidx, v2.vload, hj2, hj3, b1, hjv, i0, i1, j0, j1, dx, dl, c1, w3]
  · rw [floop_at i_impl_Graph_bipartite_B1.eq_1]
    simp (disch := first | assumption | omega | (simp [*] <;> omega) | fail) []

/-- Parts: lists that are not empty, of vertices. -/
theorem partsF_ne {n : Nat} {rows : List Int} (R : Rok n rows) (left : Nat) (hl : left < 2 ^ n) : ∀ e ∈ partsF rows left, ∃ v : Nat, v < n ∧ left.testBit v = true ∧ e = bitL (part rows v) ∧ 0 < e.length ∧ ∃ w : Nat, w < n ∧ e.getD 0 0 = (w : Int) ∧ 0 ≤ far rows v w := by
  by_cases h0 : left = 0
  · subst h0; rw [partsF_zero]; intro e he; cases he
  · obtain ⟨ps, pd⟩ := partsF_step R h0 hl
    obtain ⟨_, p2, p3, p4, _⟩ := low_bit h0 hl R.le
    rw [ps]
    intro e he
    rcases List.mem_cons.mp he with rfl | he
    · have hSl := part_lt R p4
      have hSb : (part rows (low left)).testBit (low left) = true := (part_bit R p4 _).mpr (by rw [far_self R p4]; omega)
      have hS0 : part rows (low left) ≠ 0 := by intro e; rw [e] at hSb; simp at hSb
      obtain ⟨q1, q2, q3, q4, _⟩ := low_bit hS0 hSl R.le
      exact ⟨low left, p4, p3, rfl, q1, low (part rows (low left)), q4, q2, (part_bit R p4 _).mp q3⟩
    · obtain ⟨v, h1, h2, h3⟩ := partsF_ne R (nand left (part rows (low left))) (Nat.lt_trans pd hl) e he
      rw [nand_bit] at h2
      simp only [Bool.and_eq_true] at h2
      exact ⟨v, h1, h2.1, h3⟩
 termination_by left
 decreasing_by exact pd
theorem partsF_len {n : Nat} {rows : List Int} (R : Rok n rows) (left : Nat) (hl : left < 2 ^ n) : (partsF rows left).length ≤ (bitL left).length := by
  by_cases h0 : left = 0
  · subst h0; rw [partsF_zero]; simp
  · obtain ⟨ps, pd⟩ := partsF_step R h0 hl
    obtain ⟨_, p2, p3, p4, _⟩ := low_bit h0 hl R.le
    have hSb : (part rows (low left)).testBit (low left) = true := (part_bit R p4 _).mpr (by rw [far_self R p4]; omega)
    have ih := partsF_len R (nand left (part rows (low left))) (Nat.lt_trans pd hl)
    rw [ps, List.length_cons]
    have hless := bitL_nand_lt p3 hSb R.le hl
    omega
 termination_by left
 decreasing_by exact pd

/-- Is a graph bipartite: no edge joins vertices of one distance. -/
def bipR (rows : List Int) (n : Nat) : Prop := ∀ e ∈ partsF rows (2 ^ n - 1), ∀ u w : Nat, rbit rows u w = true → u < w → ¬ (0 ≤ far rows (e.getD 0 0).toNat u ∧ far rows (e.getD 0 0).toNat u = far rows (e.getD 0 0).toNat w)

open Classical in
theorem c_impl_Graph_bipartite (n : Nat) (s : Value) (rows : List Int) (h : VH) (hs : Sli h s rows) (R : Rok n rows) (hn : nro ≤ h.length) :
    vcall F nro k_impl_Graph_bipartite [gv n s] h = some (.bool (decide (bipR rows n)), h) := by
  have hn' := fun k => Nat.le_trans hn (Nat.le_add_right h.length k)
  have hle := R.le
  obtain ⟨q, M, hp1, hp2⟩ := c_impl_Graph_parts (nro := nro) n s rows (bx h n s) (hs.app _) (by simp; omega) R
  obtain ⟨Ps, hPs⟩ : ∃ Ps, Ps = partsF rows (2 ^ n - 1) := ⟨_, rfl⟩
  have hne := partsF_ne R (2 ^ n - 1) (all_lt n)
  have hPl : Ps.length ≤ 62 := by rw [hPs]; exact Nat.le_trans (partsF_len R _ (all_lt n)) (bitL_len _)
  rw [← hPs] at hp2 hne
  obtain ⟨vs, v1, v2, v3⟩ := hp2.ll
  obtain ⟨qa, qm, rfl⟩ := hp2.shape
  obtain ⟨K, hK⟩ : ∃ K, K = bx h n s ++ M := ⟨_, rfl⟩
  rw [← hK] at hp1 v2 v3
  have hbx : K[h.length]? = some ⟨0, [.int .i64 n, s]⟩ := by rw [hK]; simp
  have hKl : h.length < K.length := (List.getElem?_eq_some_iff.mp hbx).1
  have hKn : nro ≤ K.length := by omega
  have hKs : Sli K s rows := by rw [hK]; exact (hs.app _).app _
  have ob : ∀ k, h.length < K.length + k := fun k => by omega
  have lp := for_findP (nro := nro) (call := vcall F nro) (live := [1, 9, 10, 11]) (c := i_impl_Graph_bipartite_B2) (h0 := K) (n := Ps.length) (fun i => [bp h, .slice (some qa) qm qm, .int .i64 Ps.length, .int .i64 i]) K (fun i => ∃ j, 0 ≤ j ∧ j < (edgesF rows n 0).length ∧ badE rows ((Ps.getD i []).getD 0 0).toNat ((edgesF rows n 0).getD j [])) (fun r => ∃ L, r = some (.ret, fl [(2, .bool false)], K ++ L)) (fun r => r = some (.exit 0, fl [], K)) (fun i hi hi2 => ?_) ?_ 0 (Nat.zero_le _)
  · simp only [Int.natCast_zero] at lp
    have eb : (∃ i, 0 ≤ i ∧ i < Ps.length ∧ ∃ j, 0 ≤ j ∧ j < (edgesF rows n 0).length ∧ badE rows ((Ps.getD i []).getD 0 0).toNat ((edgesF rows n 0).getD j [])) ↔ ¬ bipR rows n := by
      unfold bipR
      rw [← hPs]
      constructor
      · rintro ⟨i, _, h2, j, _, h4, u, w, h5, h6⟩ h7
        rw [getD_list h4] at h5
        obtain ⟨u', w', q1, q2, q3, q4⟩ := edges_shape (List.getElem_mem h4)
        rw [h5] at q4
        simp at q4
        have e1 : u = u' := by omega
        have e2 : w = w' := by omega
        subst e1 e2
        rw [getD_list h2] at h6
        exact h7 Ps[i] (List.getElem_mem h2) u w q3 q1 h6
      · intro h7
        apply Classical.byContradiction
        intro h8
        apply h7
        intro e he u w huw hlt hbad
        obtain ⟨i, hi, rfl⟩ := List.mem_iff_getElem.mp he
        have hm := (edgesF_mem rows n 0 [(u : Int), (w : Int)]).mpr ⟨u, w, Nat.zero_le _, hlt, (rbit_lt R huw).2, huw, rfl⟩
        obtain ⟨j, hj, hje⟩ := List.mem_iff_getElem.mp hm
        exact h8 ⟨i, Nat.zero_le _, hi, j, Nat.zero_le _, hj, u, w, by rw [getD_list hj, hje], by rw [getD_list hi]; exact hbad⟩
    rw [eb] at lp
    have ht : ∀ L, (K ++ L).take h.length = h := fun L => by
      rw [List.take_append_of_le_length (by omega), hK]; simp
    have ht0 : K.take h.length = h := by have := ht []; rwa [List.append_nil] at this
    refine v_impl_Graph_bipartite (by simp [i_impl_Graph_bipartite]) ?_
    rw [fbody_eq]
    have vl := v2.vlen
    rw [v1] at vl
    by_cases c : bipR rows n
    · have l1 := lp.2 (fun h => h c)
      rw [decide_eq_true c]
      have hk : kclean h [.bool true] K = ([.bool true], h) := kclean_take ht0 (by simp)
      clear lp eb ht ht0 hne v2 v3 hK hbx hPs c
      simp (disch := first | assumption | omega | (simp [*] <;> omega) | fail) [i_impl_Graph_bipartite, hp1, vl, l1, hk, hn']
    · obtain ⟨L, l1⟩ := lp.1 c
      rw [decide_eq_false c]
      have hk : kclean h [.bool false] (K ++ L) = ([.bool false], h) := kclean_take (ht L) (by simp)
      clear lp eb ht ht0 hne v2 v3 hK hbx hPs c
      simp (disch := first | assumption | omega | (simp [*] <;> omega) | fail) [i_impl_Graph_bipartite, hp1, vl, l1, hk, hn']
  · obtain ⟨_, _, _, _, he0, p, hpn, hpe, _⟩ := hne (Ps.getD i []) (by rw [getD_list hi]; exact List.getElem_mem hi)
    have hiv : i < vs.length := by omega
    have I := v3 i hiv
    have i0 := I.vidx (k := .i64) (j := 0) (by omega) (by omega)
    have j0 := I.vload (j := 0) he0
    rw [← getD_at _ he0, hpe] at j0
    have b1 : (i : Int) < vs.length := by omega
    have cd := c_impl_Graph_distances (nro := nro) n p s rows K hKs R hpn hKn
    obtain ⟨eq, Me, ce, se⟩ := c_impl_Graph_edges (nro := nro) n s rows (K ++ [⟨1, ints (dists rows n p)⟩]) (hKs.app _) (by simp; omega) R
    have hdl := dists_len rows n p
    have hsD : Sli (K ++ [⟨1, ints (dists rows n p)⟩]) (.slice (some ⟨K.length, 0, none⟩) n n) (dists rows n p) := by
      have := sli_at (h := K ++ [⟨1, ints (dists rows n p)⟩]) (b := K.length) (xs := dists rows n p) (by simp)
      rwa [hdl] at this
    obtain ⟨es, e1, e2, e3⟩ := se.ll
    have el := e2.vlen
    rw [e1] at el
    have l1 := l_impl_Graph_bipartite_1 (nro := nro) (K ++ [⟨1, ints (dists rows n p)⟩] ++ Me) n p rows R hpn (bp h) (.slice (some ⟨K.length, 0, none⟩) n n) (.slice (some qa) qm qm) (.int .i64 Ps.length) (.int .i64 i) eq (hsD.app _) se.ll (by
        intro r hr
        simp [trefs, vrefs, crefs, arefs] at hr ⊢
        omega) ((v2.app _).app _).old (by simp) (by simp)
    rw [hpe, Int.toNat_natCast]
    obtain ⟨ea, em, rfl⟩ := se.shape
    obtain ⟨D, hD⟩ : ∃ D, D = dists rows n p := ⟨_, rfl⟩
    rw [← hD] at cd ce el l1
    obtain ⟨b, hb⟩ : ∃ b, b = (∃ j, 0 ≤ j ∧ j < (edgesF rows n 0).length ∧ badE rows p ((edgesF rows n 0).getD j [])) := ⟨_, rfl⟩
    simp only [← hb] at l1 ⊢
    obtain ⟨N, hN⟩ : ∃ N, N = (edgesF rows n 0).length := ⟨_, rfl⟩
    rw [← hN] at l1 el
    have oq := v2.old
    have vx := v2.vidx (k := .i64) (j := (i : Int)) (by omega) b1
    have vl := v2.vload hiv
    rw [floop_at i_impl_Graph_bipartite_B2.eq_1]
    simp at ce el l1
    clear hne hK hPs se hsD hD hb hN I hKs e2 e3 hpe hp1 hp2 v2 v3
    constructor
    · intro c
      refine ⟨⟨1, ints D⟩ :: Me, ?_⟩
      rw [if_pos c] at l1
      simp (disch := first | assumption | omega | (simp [*] <;> omega) | fail) [-getElem?_pos, List.getElem?_cons_zero, List.getElem?_cons_succ, hi2, hi, vx, vl, i0, j0, hbx, hget_old hbx, cd, ce, el, l1, hKn]
    · intro c
      rw [if_neg c] at l1
      simp (disch := first | assumption | omega | (simp [*] <;> omega) | fail) [-getElem?_pos, List.getElem?_cons_zero, List.getElem?_cons_succ, hi2, hi, vx, vl, i0, j0, hbx, hget_old hbx, cd, ce, el, l1, hKn, ob, wrap64]
  · rw [floop_at i_impl_Graph_bipartite_B2.eq_1]
    simp (disch := first | assumption | omega | (simp [*] <;> omega) | fail) []

/-! ### graphs at a distance -/
/-- The heap while the rows are made. -/
abbrev ah (h : VH) (n : Int) (s : Value) (N : Nat) (r : List Int) : VH := h ++ [⟨0, [.int .i64 n, s]⟩, ⟨0, [.int .i64 0, .slice none 0 0]⟩, ⟨1, ints r⟩, ⟨0, [.int .i64 N, .slice (some ⟨h.length + 2, 0, none⟩) N N]⟩]
abbrev cp1 (h : VH) : Value := .pointer (some ⟨h.length + 1, 0, some 2⟩)
abbrev cp3 (h : VH) : Value := .pointer (some ⟨h.length + 3, 0, some 2⟩)
def joins (v w x y : Nat) : Prop := (x = v ∧ y = w) ∨ (x = w ∧ y = v)

theorem l_impl_Graph_at_1 (h : VH) (n v : Nat) (i : Int) (s : Value) (rows : List Int) (hs : Sli h s rows) (R : Rok n rows) (hv : v < n) (hn : nro ≤ h.length) (r0 : List Int) (A : Nat → Nat → Prop) (hA : IsAdj n r0 A) :
    ∃ r, IsAdj n r (fun x y => A x y ∨ ∃ w, w < n ∧ far rows v w = i ∧ v ≠ w ∧ joins v w x y) ∧ floop (vcall F nro) nro [1, 2, 4, 5, 6, 13, 14, 19, 20, 21] i_impl_Graph_at_B1 (ah h n s n r0 ++ [⟨1, ints (dists rows n v)⟩]) [.int .i64 i, bp h, cp1 h, cp3 h, .int .i64 v, .int .i64 n, .int .i64 v, .slice (some ⟨h.length + 4, 0, none⟩) n n, .int .i64 n, .int .i64 0] (ah h n s n r0 ++ [⟨1, ints (dists rows n v)⟩]) =
      some (.exit 2, fl [(1, .int .i64 i), (2, bp h), (4, cp1 h), (5, cp3 h), (13, .int .i64 n), (14, .int .i64 v)], ah h n s n r ++ [⟨1, ints (dists rows n v)⟩]) := by
  have hn' := fun k => Nat.le_trans hn (Nat.le_add_right h.length k)
  have hso := fun k => hs.oldCk (k := k)
  have hle := R.le
  have hdl := dists_len rows n v
  have hdg : ∀ w, w < n → (dists rows n v).getD w 0 = far rows v w := fun w hw => dists_get R hv hw
  obtain ⟨D, hD⟩ : ∃ D, D = dists rows n v := ⟨_, rfl⟩
  rw [← hD] at hdl hdg ⊢
  refine Exists.elim (for_upR (call := vcall F nro) (nro := nro) (live := [1, 2, 4, 5, 6, 13, 14, 19, 20, 21]) (c := i_impl_Graph_at_B1) (h0 := ah h n s n r0 ++ [⟨1, ints D⟩]) (n := n) (fun w (_ : List Int) => [.int .i64 i, bp h, cp1 h, cp3 h, .int .i64 v, .int .i64 n, .int .i64 v, .slice (some ⟨h.length + 4, 0, none⟩) n n, .int .i64 n, .int .i64 w]) (fun _ r => ah h n s n r ++ [⟨1, ints D⟩])
    (fun w r => IsAdj n r (fun x y => A x y ∨ ∃ w', w' < w ∧ far rows v w' = i ∧ v ≠ w' ∧ joins v w' x y)) (fun r => some (.exit 2, fl [(1, .int .i64 i), (2, bp h), (4, cp1 h), (5, cp3 h), (13, .int .i64 n), (14, .int .i64 v)], ah h n s n r ++ [⟨1, ints D⟩])) ?_ ?_ 0 r0 (Nat.zero_le _) (hA.congr fun x y _ => ⟨fun h => .inl h, fun h => h.elim id fun ⟨w, hw, _⟩ => by omega⟩)) ?_
  · intro w r hw hw2 hI
    have hwD : w < D.length := by omega
    have t1 := take1_ints hwD
    rw [← getD_at D hwD, hdg w hw] at t1
    have hrl := hI.1
    have hput := c_impl_Graph_put (nro := nro) n (h.length + 2) n v w r (ah h n s n r ++ [⟨1, ints D⟩]) (by simp) hrl (by omega) (by omega) (by omega) (by omega) (by omega) hle
    have w3 : IntKind.i64.wrap ((w : Int) + 1) = (w : Int) + 1 := wrap64 (by omega) (by omega)
    by_cases c : far rows v w = i
    · by_cases c2 : v = w
      · refine ⟨r, hI.congr fun x y _ => ⟨fun h => h.imp id fun ⟨w', h1, h2⟩ => ⟨w', by omega, h2⟩, fun h => h.imp id fun ⟨w', h1, h2, h3, h4⟩ => ⟨w', by omega, h2, h3, h4⟩⟩, ?_⟩
        rw [if_pos (by omega)] at hput
        rw [floop_at i_impl_Graph_at_B1.eq_1]
        subst c2
        simp at hput
        clear hD hdg hI hA
        simp (disch := first | assumption | omega | (simp [*] <;> omega) | fail) [hw, hw2, t1, c, hput, hdl, hn', hso, w3]
      · have hI2 := hI.put2 (a := (v : Int)) (b := (w : Int)) (by omega) (by omega) (by omega) (by omega) hle
        simp only [Int.toNat_natCast] at hI2
        refine ⟨put2 r v w, hI2.congr fun x y _ => ?_, ?_⟩
        · constructor
          · rintro ((h | ⟨w', h1, h2⟩) | h)
            · exact .inl h
            · exact .inr ⟨w', by omega, h2⟩
            · exact .inr ⟨w, by omega, c, c2, h⟩
          · rintro (h | ⟨w', h1, h2, h3, h4⟩)
            · exact .inl (.inl h)
            · by_cases e : w' = w
              · subst e; exact .inr h4
              · exact .inl (.inr ⟨w', by omega, h2, h3, h4⟩)
        rw [if_neg (by omega)] at hput
        have hpl : (put2 r (v : Int) (w : Int)).length = n := by rw [put2_length]; exact hrl
        obtain ⟨q, hq⟩ : ∃ q, q = put2 r (v : Int) (w : Int) := ⟨_, rfl⟩
        rw [← hq] at hput hpl ⊢
        rw [floop_at i_impl_Graph_at_B1.eq_1]
        simp at hput
        clear hD hdg hI hA hI2 hq
        simp (disch := first | assumption | omega | (simp [*] <;> omega) | fail) [hw, hw2, t1, c, hput, hdl, hn', hso, w3]
    · refine ⟨r, hI.congr fun x y _ => ⟨fun h => h.imp id fun ⟨w', h1, h2⟩ => ⟨w', by omega, h2⟩, fun h => h.imp id fun ⟨w', h1, h2, h3⟩ => ⟨w', by
        have : w' ≠ w := by rintro rfl; exact c h2
        omega, h2, h3⟩⟩, ?_⟩
      rw [floop_at i_impl_Graph_at_B1.eq_1]
      obtain ⟨z, hz⟩ : ∃ z, z = far rows v w := ⟨_, rfl⟩
      rw [← hz] at t1 c
      clear hD hdg hI hA hz hput
      simp (disch := first | assumption | omega | (simp [*] <;> omega) | fail) [hw, hw2, t1, c, hdl, hn', hso, w3]
  · intro r _
    rw [floop_at i_impl_Graph_at_B1.eq_1]
    simp (disch := first | assumption | omega | (simp [*] <;> omega) | fail) [hn', hso]
  · rintro r ⟨h1, h2⟩
    exact ⟨r, h1, h2⟩

/-- Vertices at a distance. -/
def atAdj (rows : List Int) (n : Nat) (i : Int) (x y : Nat) : Prop := x < n ∧ y < n ∧ x ≠ y ∧ far rows x y = i
noncomputable def atRows (rows : List Int) (n : Nat) (i : Int) : List Int := adjRows n (atAdj rows n i)
theorem far_symm {n : Nat} {rows : List Int} (g : GV n rows) {a b : Nat} (ha : a < n) (hb : b < n) : far rows a b = far rows b a := far_same g.rok g.rok ha hb (fun _ _ h => g.sym' h) (fun _ _ => Iff.rfl)

theorem c_impl_Graph_at (n : Nat) (i : Int) (s : Value) (rows : List Int) (h : VH) (hs : Sli h s rows) (g : GV n rows) (hn : nro ≤ h.length) :
    vcall F nro k_impl_Graph_at [gv n s, .int .i64 i] h = some (gv n (.slice (some ⟨h.length, 0, none⟩) n n), h ++ [⟨1, ints (atRows rows n i)⟩]) ∧ IsAdj n (atRows rows n i) (atAdj rows n i) := by
  have hn' := fun k => Nat.le_trans hn (Nat.le_add_right h.length k)
  have hso := fun k => hs.oldCk (k := k)
  have R := g.rok
  have hle := R.le
  have l2 : ∃ r, IsAdj n r (fun x y => ∃ v, v < n ∧ ∃ w, w < n ∧ far rows v w = i ∧ v ≠ w ∧ joins v w x y) ∧ floop (vcall F nro) nro [1, 2, 4, 5, 13, 14] i_impl_Graph_at_B2 (ah h n s n (List.replicate n 0)) [.int .i64 i, bp h, cp1 h, cp3 h, .int .i64 n, .int .i64 0] (ah h n s n (List.replicate n 0)) =
      some (.exit 0, fl [(4, cp1 h), (5, cp3 h)], ah h n s n r) := by
    refine Exists.elim (for_upR (call := vcall F nro) (nro := nro) (live := [1, 2, 4, 5, 13, 14]) (c := i_impl_Graph_at_B2) (h0 := ah h n s n (List.replicate n 0)) (n := n) (fun v (_ : List Int) => [.int .i64 i, bp h, cp1 h, cp3 h, .int .i64 n, .int .i64 v]) (fun _ r => ah h n s n r)
      (fun v r => IsAdj n r (fun x y => ∃ v', v' < v ∧ ∃ w, w < n ∧ far rows v' w = i ∧ v' ≠ w ∧ joins v' w x y)) (fun r => some (.exit 0, fl [(4, cp1 h), (5, cp3 h)], ah h n s n r)) ?_ ?_ 0 (List.replicate n 0) (Nat.zero_le _) ((IsAdj.zero n).congr fun x y _ => ⟨False.elim, fun ⟨v, hv, _⟩ => by omega⟩)) ?_
    · intro v r hv hv2 hI
      obtain ⟨r', a1, a2⟩ := l_impl_Graph_at_1 (nro := nro) h n v i s rows hs R hv hn r _ hI
      refine ⟨r', a1.congr fun x y _ => ?_, ?_⟩
      · constructor
        · rintro (⟨v', h1, h2⟩ | h)
          · exact ⟨v', by omega, h2⟩
          · exact ⟨v, by omega, h⟩
        · rintro ⟨v', h1, h2⟩
          by_cases e : v' = v
          · subst e; exact .inr h2
          · exact .inl ⟨v', by omega, h2⟩
      have cd := c_impl_Graph_distances (nro := nro) n v s rows (ah h n s n r) (hs.app _) R hv (by simp; omega)
      obtain ⟨D, hD⟩ : ∃ D, D = dists rows n v := ⟨_, rfl⟩
      have hdl := dists_len rows n v
      rw [← hD] at a2 cd hdl
      have e1 := hI.1
      have e2 := a1.1
      rw [floop_at i_impl_Graph_at_B2.eq_1]
      simp at cd a2
      clear hD hI a1
      simp (disch := first | assumption | omega | (simp [*] <;> omega) | fail) [hv, hv2, cd, a2, hdl, e1, e2, hn', hso, wrap64]
    · intro r _
      rw [floop_at i_impl_Graph_at_B2.eq_1]
      simp (disch := first | assumption | omega | (simp [*] <;> omega) | fail) [hn', hso]
    · rintro r ⟨h1, h2⟩
      exact ⟨r, h1, h2⟩
  obtain ⟨r, a1, a2⟩ := l2
  have a3 : IsAdj n r (atAdj rows n i) := a1.congr fun x y hx => by
    constructor
    · rintro ⟨v, hv, w, hw, h1, h2, (⟨rfl, rfl⟩ | ⟨rfl, rfl⟩)⟩
      · exact ⟨hv, hw, h2, h1⟩
      · exact ⟨hw, hv, fun e => h2 e.symm, by rw [far_symm g hw hv]; exact h1⟩
    · rintro ⟨h1, h2, h3, h4⟩
      exact ⟨x, h1, y, h2, h4, h3, .inl ⟨rfl, rfl⟩⟩
  have e : atRows rows n i = r := a3.eq
  rw [e]
  refine ⟨?_, a3⟩
  refine v_impl_Graph_at (by simp [i_impl_Graph_at]) ?_
  rw [fbody_eq]
  have hE := c_impl_empty (nro := nro) n (h ++ [⟨0, [.int .i64 n, s]⟩, ⟨0, [.int .i64 0, .slice none 0 0]⟩]) (by omega) (by omega) (by simp; omega)
  have hrl := a1.1
  rw [Int.toNat_natCast] at hE
  simp at hE a2
  clear a1 a3 e
  simp (disch := first | assumption | omega | (simp [*] <;> omega) | fail) [i_impl_Graph_at, hE, a2, hrl, hn', hso, hn, splice, fresults, fresL, fres1]

/-! ### the reference -/
theorem l_spec_l06Rows (n : Nat) (s : Value) (rows : List Int) (h : VH) (hs : Sli h s rows) (hn : nro ≤ h.length) (R : Rok n rows) :
    ∃ a : List Value × VH, EI (h.length + 2) a.1 a.2 ((List.range n).map fun v => dists rows n v) ∧ floop (vcall F nro) nro [1, 3, 4] i_spec_l06Rows_B1 (eH h n s [] []) [bp h, eq1 h 0, .int .i64 0] (eH h n s [] []) =
      some (.exit 0, fl [(3, eq1 h a.1.length)], eH h n s a.1 a.2) := by
  have hle := R.le
  refine Exists.elim (for_upR (call := vcall F nro) (nro := nro) (live := [1, 3, 4]) (c := i_spec_l06Rows_B1) (h0 := eH h n s [] []) (n := n) (fun i (a : List Value × VH) => [bp h, eq1 h a.1.length, .int .i64 i]) (fun i a => eH h n s a.1 a.2)
    (fun i a => EI (h.length + 2) a.1 a.2 ((List.range i).map fun v => dists rows n v)) (fun a => some (.exit 0, fl [(3, eq1 h a.1.length)], eH h n s a.1 a.2)) ?_ ?_ 0 ([], []) (by omega) (EI.nil _ _)) ?_
  · rintro v ⟨vs, G⟩ hlt hlt0 e
    dsimp only at e ⊢
    have hvl : vs.length = v := by rw [e.len]; simp
    obtain ⟨H, hH⟩ : ∃ H, H = eH h n s vs G := ⟨_, rfl⟩
    have hHl : H.length = h.length + 2 + G.length := by rw [hH]; simp; omega
    have hnH : nro ≤ H.length := by omega
    have hq : H[h.length + 1]? = some ⟨1, vs⟩ := by rw [hH]; simp
    have hbx : H[h.length]? = some ⟨0, [.int .i64 n, s]⟩ := by rw [hH]; simp
    have hsH : Sli H s rows := by rw [hH]; exact hs.app _
    have cd := c_spec_from (nro := nro) n v s rows H hsH R hlt hnH
    have hdl := dists_len rows n v
    have e1 := e.push (dists rows n v) [⟨1, [.slice (some ⟨h.length + 2 + G.length, 0, none⟩) n n]⟩]
    rw [hdl] at e1
    have e2 : (List.map (fun v => dists rows n v) (List.range v) ++ [dists rows n v]) = (List.range (v + 1)).map fun v => dists rows n v := by simp [List.range_succ]
    rw [e2] at e1
    have hold : ∀ m, ∀ x ∈ [bp h, eq1 h m, Value.int .i64 ((v : Int) + 1)], Old (h.length + 2 + ([] : VH).length) x := by
      intro m x hx
      simp at hx
      rcases hx with rfl | rfl | rfl <;> intro r hr <;> simp [trefs, vrefs, crefs, arefs] at hr ⊢ <;> omega
    obtain ⟨G1, hk, e3, _⟩ := eH_clean (n := n) (s := s) (EI.nil (h.length + 2) []) e1 (by simp) (hold (vs.length + 1))
    refine ⟨(_, G1), e3, ?_⟩
    have b1 : (vs.length + 1) * 24 ≤ 1099511627776 := by omega
    have b2 : vs.length < 1099511627776 := by omega
    obtain ⟨D, hD⟩ : ∃ D, D = dists rows n v := ⟨_, rfl⟩
    rw [← hD] at cd hk
    have hnew : H.set (h.length + 1) ⟨1, vs ++ [.slice (some ⟨H.length, 0, none⟩) n n]⟩ ++ [⟨1, ints D⟩, ⟨1, [.slice (some ⟨H.length, 0, none⟩) n n]⟩] = eH h n s (vs ++ [.slice (some ⟨h.length + 2 + G.length, 0, none⟩) n n]) (G ++ ⟨1, ints D⟩ :: [⟨1, [.slice (some ⟨h.length + 2 + G.length, 0, none⟩) n n]⟩]) := by
      rw [hHl, hH]; simp
    have hn2 := fun k => Nat.le_trans hnH (Nat.le_add_right H.length k)
    have hn1 := fun k => Nat.le_trans hn (Nat.le_add_right h.length k)
    obtain ⟨K, hK⟩ : ∃ K, K = eH h n s [] [] := ⟨_, rfl⟩
    rw [← hK] at hk ⊢
    rw [← hH]
    simp only [List.length_append, List.length_singleton, List.length_cons, List.length_nil]
    rw [floop_at i_spec_l06Rows_B1.eq_1]
    clear hold hHl hH hK e e1 e2 e3 hD hvl hsH
    try simp at hk
    simp (disch := first | assumption | omega | (simp [*] <;> omega) | fail) [-getElem?_pos, List.getElem?_cons_zero, List.getElem?_cons_succ, hlt, hlt0, hbx, hq, hget_old hq, hset_old hq, cd, hn1, hn2, hnH, b1, b2, hnew, hk, wrap64]
  · rintro ⟨vs, G⟩ _
    rw [floop_at i_spec_l06Rows_B1.eq_1]
    simp (disch := first | assumption | omega | (simp [*] <;> omega) | fail) []
  · rintro a ⟨h1, h2⟩
    exact ⟨a, h1, h2⟩
theorem c_spec_l06Rows (n : Nat) (s : Value) (rows : List Int) (h : VH) (hs : Sli h s rows) (hn : nro ≤ h.length) (R : Rok n rows) :
    ∃ v M, vcall F nro k_spec_l06Rows [gv n s] h = some (v, h ++ M) ∧ SL2 h.length M v ((List.range n).map fun v => dists rows n v) := by
  have hn' := fun k => Nat.le_trans hn (Nat.le_add_right h.length k)
  obtain ⟨⟨vs', G'⟩, l2, l1⟩ := l_spec_l06Rows (nro := nro) n s rows h hs hn R
  obtain ⟨v, M, k1, k2⟩ := EI.fin1 (h := h) (pre := [⟨0, [.int .i64 n, s]⟩]) l2
  refine ⟨v, M, ?_, k2⟩
  refine v_spec_l06Rows (by simp [i_spec_l06Rows]) ?_
  rw [fbody_eq]
  simp at l1 k1
  simp (disch := first | assumption | omega | (simp [*] <;> omega) | fail) [i_spec_l06Rows, l1, hn', k1]

end Go.Proofs.YthpgiimaadohcaaDoor.Zv

/- The law of HalfOf. -/
namespace Go.Proofs.YthpgiimaadohcaaDoor.Zv
open Go
variable {nro : Nat}

/-- The even vertices. -/
def evs (D : List Int) (i : Nat) : List Int := ((List.range i).filter fun v => decide ((D.getD v 0).tmod 2 = 0)).map fun (v : Nat) => (v : Int)
theorem evs_zero (D : List Int) : evs D 0 = [] := rfl
theorem evs_succ (D : List Int) (i : Nat) : evs D (i + 1) = evs D i ++ if (D.getD i 0).tmod 2 = 0 then [(i : Int)] else [] := by
  unfold evs
  rw [List.range_succ, List.filter_append, List.map_append]
  congr 1
  simp only [List.filter_cons, List.filter_nil]
  by_cases c : (D.getD i 0).tmod 2 = 0
  · rw [if_pos (decide_eq_true c), if_pos c]; rfl
  · rw [if_neg (by rw [decide_eq_false c]; exact Bool.noConfusion), if_neg c]; rfl
theorem evs_len (D : List Int) : ∀ i, (evs D i).length ≤ i
  | 0 => Nat.le_refl _
  | i + 1 => by
    rw [evs_succ, List.length_append]
    have := evs_len D i
    split <;> simp <;> omega
theorem evs_mem (D : List Int) (i : Nat) (y : Int) (hy : y ∈ evs D i) : 0 ≤ y ∧ y < i := by
  unfold evs at hy
  obtain ⟨v, hv, rfl⟩ := List.mem_map.mp hy
  have := (List.mem_filter.mp hv).1
  simp at this
  omega
theorem evs_get (D : List Int) (i j : Nat) (hj : j < (evs D i).length) : 0 ≤ (evs D i).getD j 0 ∧ (evs D i).getD j 0 < i := by
  rw [getD_at _ hj]
  exact evs_mem D i _ (List.getElem_mem hj)
theorem evs_inj (D : List Int) (i : Nat) : (evs D i).Nodup := by
  unfold evs
  refine List.Pairwise.map _ (fun a b h => ?_) ((List.nodup_range (n := i)).filter _)
  intro e; exact h (by omega)

/-- An edge that joins vertices of one kind. -/
def badK (rows D : List Int) (v w : Nat) : Prop := rbit rows v w = true ∧ (D.getD v 0 - D.getD w 0).tmod 2 = 0

abbrev hh (h : VH) (n : Int) (s : Value) (D L : List Int) : VH := h ++ [⟨0, [.int .i64 n, s]⟩, ⟨0, [.int .i64 0, .slice none 0 0]⟩, ⟨1, ints D⟩, ⟨1, ints L⟩]

theorem l_spec_HalfOf_1 (h : VH) (n v m : Nat) (s : Value) (rows D L : List Int) (X : VH) (hs : Sli h s rows) (R : Rok n rows) (hv : v < n) (hD : D.length = n) (hlo : ∀ w, -1 ≤ D.getD w 0 ∧ D.getD w 0 ≤ 1000) (hn : nro ≤ h.length) :
    ((∃ w, 0 ≤ w ∧ w < v ∧ badK rows D v w) → floop (vcall F nro) nro [1, 2, 5, 6, 7, 8] i_spec_HalfOf_B1 (hh h n s D L ++ X) [bp h, cp1 h, .slice (some ⟨h.length + 2, 0, none⟩) n n, .slice (some ⟨h.length + 3, 0, none⟩) m m, .int .i64 v, .int .i64 0] (hh h n s D L ++ X) = some (.ret, fl [(2, cp1 h), (3, .int .i64 5)], hh h n s D L ++ X)) ∧
    ((¬ ∃ w, 0 ≤ w ∧ w < v ∧ badK rows D v w) → floop (vcall F nro) nro [1, 2, 5, 6, 7, 8] i_spec_HalfOf_B1 (hh h n s D L ++ X) [bp h, cp1 h, .slice (some ⟨h.length + 2, 0, none⟩) n n, .slice (some ⟨h.length + 3, 0, none⟩) m m, .int .i64 v, .int .i64 0] (hh h n s D L ++ X) = some (.exit 2, fl [(1, bp h), (2, cp1 h), (5, .slice (some ⟨h.length + 2, 0, none⟩) n n), (6, .slice (some ⟨h.length + 3, 0, none⟩) m m), (7, .int .i64 v)], hh h n s D L ++ X)) := by
  have hn' := fun k => Nat.le_trans hn (Nat.le_add_right h.length k)
  have hso := fun k => hs.oldCk (k := k)
  have hle := R.le
  have hlen := R.len
  refine for_findP (nro := nro) (call := vcall F nro) (live := [1, 2, 5, 6, 7, 8]) (c := i_spec_HalfOf_B1) (h0 := hh h n s D L ++ X) (n := v) (fun w => [bp h, cp1 h, .slice (some ⟨h.length + 2, 0, none⟩) n n, .slice (some ⟨h.length + 3, 0, none⟩) m m, .int .i64 v, .int .i64 w]) (hh h n s D L ++ X) (fun w => badK rows D v w) (fun r => r = some (.ret, fl [(2, cp1 h), (3, .int .i64 5)], hh h n s D L ++ X)) (fun r => r = some (.exit 2, fl [(1, bp h), (2, cp1 h), (5, .slice (some ⟨h.length + 2, 0, none⟩) n n), (6, .slice (some ⟨h.length + 3, 0, none⟩) m m), (7, .int .i64 v)], hh h n s D L ++ X)) (fun w hw hw2 => ?_) ?_ 0 (Nat.zero_le _)
  · obtain ⟨r1, r2⟩ := R.row v hv
    have r3 := le62 hle r2
    have hvl : v < rows.length := by omega
    have vx := fun L => (hs.app L).vidx (k := .i64) (j := (v : Int)) (by omega) (by omega)
    have vl := fun L => (hs.app L).vload hvl
    have w1 : IntKind.u64.wrap (w : Int) = w := wrapu64 (by omega) (by omega)
    have hbit := bit_two (a := rows.getD v 0) (b := (w : Int)) r1 (by omega) (by omega)
    rw [Int.toNat_natCast, getD_at rows hvl] at hbit
    have hrb : rbit rows v w = (rows[v]'hvl).toNat.testBit w := by unfold rbit; rw [getD_at rows hvl]
    rw [← hrb] at hbit
    have hvD : v < D.length := by omega
    have hwD : w < D.length := by omega
    have tv := take1_ints hvD
    have tw := take1_ints hwD
    have gv' := getD_at D hvD
    have gw := getD_at D hwD
    have lv := hlo v
    have lw := hlo w
    unfold badK
    rw [gv'] at lv ⊢
    rw [gw] at lw ⊢
    obtain ⟨a, ha⟩ : ∃ a, a = D[v] := ⟨_, rfl⟩
    obtain ⟨b, hb⟩ : ∃ b, b = D[w] := ⟨_, rfl⟩
    rw [← ha] at tv lv ⊢
    rw [← hb] at tw lw ⊢
    have w2 : IntKind.i64.wrap (a - b) = a - b := wrap64 (by omega) (by omega)
    have w3 : IntKind.i64.wrap ((w : Int) + 1) = (w : Int) + 1 := wrap64 (by omega) (by omega)
    have hv2 : (v : Int) < n := by omega
    have hw3 : (w : Int) < n := by omega
    have hw4 : w < n := by omega
    rw [floop_at i_spec_HalfOf_B1.eq_1]
    clear r1 r2 r3 hrb ha hb gv' gw lv lw hlo
    by_cases c1 : rbit rows v w = true
    · rw [if_pos c1] at hbit
      by_cases c2 : (a - b).tmod 2 = 0
      · refine ⟨fun _ => ?_, fun h => absurd ⟨c1, c2⟩ h⟩
        simp (disch := first | assumption | omega | (simp [*] <;> omega) | fail) [hw2, hw, vx, vl, w1, hbit, tv, tw, c2, w2, hv, hv2, hw3, hw4, hD, hn', hso, splice]
      · refine ⟨fun h => absurd h.2 c2, fun _ => ?_⟩
        simp (disch := first | assumption | omega | (simp [*] <;> omega) | fail) [hw2, hw, vx, vl, w1, hbit, tv, tw, c2, w2, w3, hv, hv2, hw3, hw4, hD, hn', hso]
    · rw [if_neg c1] at hbit
      refine ⟨fun h => absurd h.1 c1, fun _ => ?_⟩
      simp (disch := first | assumption | omega | (simp [*] <;> omega) | fail) [hw2, hw, vx, vl, w1, hbit, w3, hv, hv2, hn', hso]
  · rw [floop_at i_spec_HalfOf_B1.eq_1]
    simp (disch := first | assumption | omega | (simp [*] <;> omega) | fail) [hn', hso]

theorem l_spec_HalfOf_2 (h : VH) (n : Nat) (s : Value) (rows D : List Int) (hs : Sli h s rows) (R : Rok n rows) (hD : D.length = n) (hlo : ∀ w, -1 ≤ D.getD w 0 ∧ D.getD w 0 ≤ 1000) (hn : nro ≤ h.length) (v : Nat) (hv : v ≤ n) :
    ((∃ x, v ≤ x ∧ x < n ∧ ∃ w, 0 ≤ w ∧ w < x ∧ badK rows D x w) → ∃ L X, floop (vcall F nro) nro [1, 2, 5, 6, 7] i_spec_HalfOf_B2 (hh h n s D []) [bp h, cp1 h, .slice (some ⟨h.length + 2, 0, none⟩) n n, .slice (some ⟨h.length + 3, 0, none⟩) (evs D v).length (evs D v).length, .int .i64 v] (hh h n s D (evs D v)) = some (.ret, fl [(2, cp1 h), (3, .int .i64 5)], hh h n s D L ++ X)) ∧
    ((¬ ∃ x, v ≤ x ∧ x < n ∧ ∃ w, 0 ≤ w ∧ w < x ∧ badK rows D x w) → floop (vcall F nro) nro [1, 2, 5, 6, 7] i_spec_HalfOf_B2 (hh h n s D []) [bp h, cp1 h, .slice (some ⟨h.length + 2, 0, none⟩) n n, .slice (some ⟨h.length + 3, 0, none⟩) (evs D v).length (evs D v).length, .int .i64 v] (hh h n s D (evs D v)) = some (.exit 0, fl [(1, bp h), (2, cp1 h), (6, .slice (some ⟨h.length + 3, 0, none⟩) (evs D n).length (evs D n).length)], hh h n s D (evs D n))) := by
  have hn' := fun k => Nat.le_trans hn (Nat.le_add_right h.length k)
  have hso := fun k => hs.oldCk (k := k)
  have hle := R.le
  by_cases hlt : v < n
  · have hlt2 : (v : Int) < n := by omega
    have hvD : v < D.length := by omega
    have tv := take1_ints hvD
    have gv' := getD_at D hvD
    have hel := evs_len D v
    have l1 := fun X => l_spec_HalfOf_1 (nro := nro) h n v (evs D (v + 1)).length s rows D (evs D (v + 1)) X hs R hlt hD hlo hn
    obtain ⟨E, hE⟩ : ∃ E, E = evs D v := ⟨_, rfl⟩
    obtain ⟨E1, hE1⟩ : ∃ E1, E1 = evs D (v + 1) := ⟨_, rfl⟩
    have hE2 : E1 = E ++ if (D[v]).tmod 2 = 0 then [(v : Int)] else [] := by rw [hE1, hE, evs_succ, gv']
    have ih := l_spec_HalfOf_2 h n s rows D hs R hD hlo hn (v + 1) hlt
    rw [show ((v + 1 : Nat) : Int) = (v : Int) + 1 by omega] at ih
    rw [← hE1] at l1 ih
    rw [← hE] at hel ⊢
    obtain ⟨b, hb⟩ : ∃ b, b = (∃ w, 0 ≤ w ∧ w < v ∧ badK rows D v w) := ⟨_, rfl⟩
    rw [← hb] at l1
    have eb : (∃ x, v ≤ x ∧ x < n ∧ ∃ w, 0 ≤ w ∧ w < x ∧ badK rows D x w) ↔ b ∨ ∃ x, v + 1 ≤ x ∧ x < n ∧ ∃ w, 0 ≤ w ∧ w < x ∧ badK rows D x w := by
      rw [hb]
      constructor
      · rintro ⟨x, h1, h2, h3⟩
        by_cases e : x = v
        · subst e; exact .inl h3
        · exact .inr ⟨x, by omega, h2, h3⟩
      · rintro (h3 | ⟨x, h1, h2, h3⟩)
        · exact ⟨v, Nat.le_refl _, hlt, h3⟩
        · exact ⟨x, by omega, h2, h3⟩
    rw [eb]
    obtain ⟨b2, hb2⟩ : ∃ b2, b2 = (∃ x, v + 1 ≤ x ∧ x < n ∧ ∃ w, 0 ≤ w ∧ w < x ∧ badK rows D x w) := ⟨_, rfl⟩
    rw [← hb2] at ih ⊢
    obtain ⟨a, ha⟩ : ∃ a, a = D[v] := ⟨_, rfl⟩
    rw [← ha] at tv hE2
    have b1 : (E.length + 1) * 8 ≤ 1099511627776 := by omega
    have b3 : E.length < 1099511627776 := by omega
    obtain ⟨En, hEn⟩ : ∃ En, En = evs D n := ⟨_, rfl⟩
    rw [← hEn] at ih ⊢
    have step : ∃ X, (b → floop (vcall F nro) nro [1, 2, 5, 6, 7] i_spec_HalfOf_B2 (hh h n s D []) [bp h, cp1 h, .slice (some ⟨h.length + 2, 0, none⟩) n n, .slice (some ⟨h.length + 3, 0, none⟩) E.length E.length, .int .i64 v] (hh h n s D E) = some (.ret, fl [(2, cp1 h), (3, .int .i64 5)], hh h n s D E1 ++ X)) ∧
        (¬ b → floop (vcall F nro) nro [1, 2, 5, 6, 7] i_spec_HalfOf_B2 (hh h n s D []) [bp h, cp1 h, .slice (some ⟨h.length + 2, 0, none⟩) n n, .slice (some ⟨h.length + 3, 0, none⟩) E.length E.length, .int .i64 v] (hh h n s D E) = floop (vcall F nro) nro [1, 2, 5, 6, 7] i_spec_HalfOf_B2 (hh h n s D []) [bp h, cp1 h, .slice (some ⟨h.length + 2, 0, none⟩) n n, .slice (some ⟨h.length + 3, 0, none⟩) E1.length E1.length, .int .i64 ((v : Int) + 1)] (hh h n s D E1)) := by
      clear ih eb hb hb2 hE hE1 hEn ha gv' hlo
      rw [floop_at i_spec_HalfOf_B2.eq_1]
      by_cases c : a.tmod 2 = 0
      · rw [if_pos c] at hE2
        have hE3 : E1.length = E.length + 1 := by rw [hE2]; simp
        have hE4 : ints E ++ [Value.int .i64 v] = ints E1 := by rw [hE2]; simp [ints]
        refine ⟨[⟨1, [.int .i64 v]⟩], ?_⟩
        have l1' := l1 [⟨1, [.int .i64 v]⟩]
        rw [hE3] at l1' ⊢
        simp at l1' ⊢
        constructor
        · intro e
          have l2 := l1'.1 e
          clear l1 l1'
          simp (disch := first | assumption | omega | (simp [*] <;> omega) | fail) [hlt, hlt2, tv, hD, c, b1, b3, hE4, l2, hn', hso, wrap64]
        · intro e
          have l2 := l1'.2 e
          clear l1 l1'
          simp (disch := first | assumption | omega | (simp [*] <;> omega) | fail) [hlt, hlt2, tv, hD, c, b1, b3, hE4, l2, hn', hso, wrap64]
      · rw [if_neg c, List.append_nil] at hE2
        subst hE2
        refine ⟨[], ?_⟩
        have l1' := l1 []
        simp at l1' ⊢
        constructor
        · intro e
          have l2 := l1'.1 e
          clear l1 l1'
          simp (disch := first | assumption | omega | (simp [*] <;> omega) | fail) [hlt, hlt2, tv, hD, c, l2, hn', hso, wrap64]
        · intro e
          have l2 := l1'.2 e
          clear l1 l1'
          simp (disch := first | assumption | omega | (simp [*] <;> omega) | fail) [hlt, hlt2, tv, hD, c, l2, hn', hso, wrap64]
    obtain ⟨X, s1, s2⟩ := step
    constructor
    · rintro (c | c)
      · exact ⟨E1, X, s1 c⟩
      · by_cases c0 : b
        · exact ⟨E1, X, s1 c0⟩
        · obtain ⟨L, X', hL⟩ := ih.1 c
          exact ⟨L, X', (s2 c0).trans hL⟩
    · intro c
      exact (s2 fun h => c (.inl h)).trans (ih.2 fun h => c (.inr h))
  · have e : v = n := by omega
    subst e
    refine ⟨fun ⟨x, h1, h2, _⟩ => by omega, fun _ => ?_⟩
    obtain ⟨E, hE⟩ : ∃ E, E = evs D v := ⟨_, rfl⟩
    rw [← hE]
    rw [floop_at i_spec_HalfOf_B2.eq_1]
    clear hlo
    simp (disch := first | assumption | omega | (simp [*] <;> omega) | fail) [hn', hso]
 termination_by n - v

/-- Vertices of the half. -/
def halfAdj (rows L : List Int) (i k : Nat) : Prop := i < L.length ∧ k < L.length ∧ i ≠ k ∧ far rows (L.getD i 0).toNat (L.getD k 0).toNat = 2

theorem l_spec_HalfOf_3 (K : VH) (n m i : Nat) (rows : List Int) (R : Rok n rows) (x2 ls q : Value) (L : List Int) (hm : L.length = m) (hmn : m ≤ 62) (hL : ∀ j, j < m → 0 ≤ L.getD j 0 ∧ L.getD j 0 < n) (hls : Sli K ls L) (hq : LL K q ((List.range n).map fun v => dists rows n v)) (o2 : ∀ k, Old (K.length + k) x2) (hi : i < m) (hn : nro ≤ K.length) (r0 : List Int) (A : Nat → Nat → Prop) (hA : IsAdj m r0 A) :
    ∃ r, IsAdj m r (fun x y => A x y ∨ ∃ k, k < i ∧ far rows (L.getD i 0).toNat (L.getD k 0).toNat = 2 ∧ joins i k x y) ∧ floop (vcall F nro) nro [2, 6, 9, 10, 11, 12] i_spec_HalfOf_B3 (K ++ [⟨1, ints r0⟩, ⟨0, [.int .i64 m, .slice (some ⟨K.length, 0, none⟩) m m]⟩]) [x2, ls, q, .pointer (some ⟨K.length + 1, 0, some 2⟩), .int .i64 i, .int .i64 0] (K ++ [⟨1, ints r0⟩, ⟨0, [.int .i64 m, .slice (some ⟨K.length, 0, none⟩) m m]⟩]) =
      some (.exit 6, fl [(2, x2), (6, ls), (9, q), (10, .pointer (some ⟨K.length + 1, 0, some 2⟩)), (11, .int .i64 i)], K ++ [⟨1, ints r⟩, ⟨0, [.int .i64 m, .slice (some ⟨K.length, 0, none⟩) m m]⟩]) := by
  obtain ⟨vs, v1, v2, v3⟩ := hq
  simp at v1
  have hn' := fun k => Nat.le_trans hn (Nat.le_add_right K.length k)
  have ol := fun k => hls.oldk (k := k)
  have oq := fun k => (v2.old).le (Nat.le_add_right K.length k)
  have hle := R.le
  obtain ⟨x0, x1⟩ := hL i hi
  obtain ⟨x, hx⟩ : ∃ x : Nat, L.getD i 0 = x := ⟨(L.getD i 0).toNat, by omega⟩
  rw [hx] at x1
  simp only [hx, Int.toNat_natCast]
  have hxn : x < n := by omega
  have hxv : x < vs.length := by omega
  have I := v3 x hxv
  have eD : ((List.range n).map fun v => dists rows n v).getD x [] = dists rows n x := by
    rw [List.getD_eq_getElem?_getD, List.getElem?_map, List.getElem?_range hxn]; rfl
  rw [eD] at I
  have hdl := dists_len rows n x
  have li := fun X => (hls.app X).vidx (k := .i64) (j := (i : Int)) (by omega) (by omega)
  have lj := fun X => (hls.app X).vload (j := i) (by omega)
  rw [getD_at L (by omega)] at hx
  rw [hx] at lj
  have qx := fun X => (v2.app X).vidx (k := .i64) (j := (x : Int)) (by omega) (by omega)
  have ql := fun X => (v2.app X).vload hxv
  refine Exists.elim (for_upR (call := vcall F nro) (nro := nro) (live := [2, 6, 9, 10, 11, 12]) (c := i_spec_HalfOf_B3) (h0 := K ++ [⟨1, ints r0⟩, ⟨0, [.int .i64 m, .slice (some ⟨K.length, 0, none⟩) m m]⟩]) (n := i) (fun k (_ : List Int) => [x2, ls, q, .pointer (some ⟨K.length + 1, 0, some 2⟩), .int .i64 i, .int .i64 k]) (fun _ r => K ++ [⟨1, ints r⟩, ⟨0, [.int .i64 m, .slice (some ⟨K.length, 0, none⟩) m m]⟩])
    (fun k r => IsAdj m r (fun a b => A a b ∨ ∃ k', k' < k ∧ far rows x (L.getD k' 0).toNat = 2 ∧ joins i k' a b)) (fun r => some (.exit 6, fl [(2, x2), (6, ls), (9, q), (10, .pointer (some ⟨K.length + 1, 0, some 2⟩)), (11, .int .i64 i)], K ++ [⟨1, ints r⟩, ⟨0, [.int .i64 m, .slice (some ⟨K.length, 0, none⟩) m m]⟩])) ?_ ?_ 0 r0 (Nat.zero_le _) (hA.congr fun a b _ => ⟨fun h => .inl h, fun h => h.elim id fun ⟨k, hk, _⟩ => by omega⟩)) ?_
  · intro k r hk hk2 hI
    obtain ⟨y0, y1⟩ := hL k (by omega)
    obtain ⟨y, hy⟩ : ∃ y : Nat, L.getD k 0 = y := ⟨(L.getD k 0).toNat, by omega⟩
    have hyn : y < n := by omega
    have mi := fun X => (hls.app X).vidx (k := .i64) (j := (k : Int)) (by omega) (by omega)
    have mj := fun X => (hls.app X).vload (j := k) (by omega)
    have hy' := hy
    rw [getD_at L (by omega)] at hy'
    rw [hy'] at mj
    have dx := fun X => (I.app X).vidx (k := .i64) (j := (y : Int)) (by omega) (by omega)
    have dl := fun X => (I.app X).vload (j := y) (by omega)
    have dg := dists_get R hxn hyn
    rw [getD_at _ (by omega)] at dg
    rw [dg] at dl
    have hrl := hI.1
    have hput := c_spec_l04With (nro := nro) m K.length m i k r (K ++ [⟨1, ints r⟩, ⟨0, [.int .i64 m, .slice (some ⟨K.length, 0, none⟩) m m]⟩]) (by simp) hrl (by omega) (by omega) (by omega) (by omega) (by omega) hmn
    have w3 : IntKind.i64.wrap ((k : Int) + 1) = (k : Int) + 1 := wrap64 (by omega) (by omega)
    by_cases c : far rows x y = 2
    · have hI2 := hI.put2 (a := (i : Int)) (b := (k : Int)) (by omega) (by omega) (by omega) (by omega) hmn
      simp only [Int.toNat_natCast] at hI2
      refine ⟨put2 r i k, hI2.congr fun a b _ => ?_, ?_⟩
      · constructor
        · rintro ((h | ⟨k', h1, h2⟩) | h)
          · exact .inl h
          · exact .inr ⟨k', by omega, h2⟩
          · exact .inr ⟨k, by omega, by rw [hy, Int.toNat_natCast]; exact c, h⟩
        · rintro (h | ⟨k', h1, h2, h4⟩)
          · exact .inl (.inl h)
          · by_cases e : k' = k
            · subst e; exact .inr h4
            · exact .inl (.inr ⟨k', by omega, h2, h4⟩)
      have hpl : (put2 r (i : Int) (k : Int)).length = m := by rw [put2_length]; exact hrl
      rw [c] at dl
      obtain ⟨p, hp⟩ : ∃ p, p = put2 r (i : Int) (k : Int) := ⟨_, rfl⟩
      rw [← hp] at hput hpl ⊢
      rw [floop_at i_spec_HalfOf_B3.eq_1]
      simp at hput
      clear hI hI2 hp hA v3 I hL dg c hy hy' hx hdl
      simp (disch := first | assumption | omega | (simp [*] <;> omega) | fail) [hk, hk2, li, lj, qx, ql, mi, mj, dx, dl, hput, hn', ol, oq, o2, w3, splice]
    · refine ⟨r, hI.congr fun a b _ => ⟨fun h => h.imp id fun ⟨k', h1, h2⟩ => ⟨k', by omega, h2⟩, fun h => h.imp id fun ⟨k', h1, h2, h3⟩ => ⟨k', by
        have : k' ≠ k := by rintro rfl; rw [hy, Int.toNat_natCast] at h2; exact c h2
        omega, h2, h3⟩⟩, ?_⟩
      rw [floop_at i_spec_HalfOf_B3.eq_1]
      obtain ⟨z, hz⟩ : ∃ z, z = far rows x y := ⟨_, rfl⟩
      rw [← hz] at dl c
      clear hI hA v3 I hL dg hy hy' hx hdl hz hput
      simp (disch := first | assumption | omega | (simp [*] <;> omega) | fail) [hk, hk2, li, lj, qx, ql, mi, mj, dx, dl, c, hn', ol, oq, o2, w3]
  · intro r _
    rw [floop_at i_spec_HalfOf_B3.eq_1]
    simp (disch := first | assumption | omega | (simp [*] <;> omega) | fail) [hn', ol, oq, o2]
  · rintro r ⟨h1, h2⟩
    exact ⟨r, h1, h2⟩

theorem l_spec_HalfOf_4 (K : VH) (n m : Nat) (rows : List Int) (g : GV n rows) (x2 ls q : Value) (L : List Int) (hm : L.length = m) (hmn : m ≤ 62) (hL : ∀ j, j < m → 0 ≤ L.getD j 0 ∧ L.getD j 0 < n) (hls : Sli K ls L) (hq : LL K q ((List.range n).map fun v => dists rows n v)) (o2 : ∀ k, Old (K.length + k) x2) (hn : nro ≤ K.length) :
    ∃ r, IsAdj m r (halfAdj rows L) ∧ floop (vcall F nro) nro [2, 6, 9, 10, 11] i_spec_HalfOf_B4 (K ++ [⟨1, ints (List.replicate m 0)⟩, ⟨0, [.int .i64 m, .slice (some ⟨K.length, 0, none⟩) m m]⟩]) [x2, ls, q, .pointer (some ⟨K.length + 1, 0, some 2⟩), .int .i64 0] (K ++ [⟨1, ints (List.replicate m 0)⟩, ⟨0, [.int .i64 m, .slice (some ⟨K.length, 0, none⟩) m m]⟩]) =
      some (.exit 4, fl [(2, x2), (10, .pointer (some ⟨K.length + 1, 0, some 2⟩))], K ++ [⟨1, ints r⟩, ⟨0, [.int .i64 m, .slice (some ⟨K.length, 0, none⟩) m m]⟩]) := by
  have R := g.rok
  have hn' := fun k => Nat.le_trans hn (Nat.le_add_right K.length k)
  have ol := fun k => hls.oldk (k := k)
  have oq := fun k => (hq.old).le (Nat.le_add_right K.length k)
  have lv := fun X => (hls.app X).vlen
  rw [hm] at lv
  refine Exists.elim (for_upR (call := vcall F nro) (nro := nro) (live := [2, 6, 9, 10, 11]) (c := i_spec_HalfOf_B4) (h0 := K ++ [⟨1, ints (List.replicate m 0)⟩, ⟨0, [.int .i64 m, .slice (some ⟨K.length, 0, none⟩) m m]⟩]) (n := m) (fun i (_ : List Int) => [x2, ls, q, .pointer (some ⟨K.length + 1, 0, some 2⟩), .int .i64 i]) (fun _ r => K ++ [⟨1, ints r⟩, ⟨0, [.int .i64 m, .slice (some ⟨K.length, 0, none⟩) m m]⟩])
    (fun i r => IsAdj m r (fun a b => ∃ i', i' < i ∧ ∃ k, k < i' ∧ far rows (L.getD i' 0).toNat (L.getD k 0).toNat = 2 ∧ joins i' k a b)) (fun r => some (.exit 4, fl [(2, x2), (10, .pointer (some ⟨K.length + 1, 0, some 2⟩))], K ++ [⟨1, ints r⟩, ⟨0, [.int .i64 m, .slice (some ⟨K.length, 0, none⟩) m m]⟩])) ?_ ?_ 0 (List.replicate m 0) (Nat.zero_le _) ((IsAdj.zero m).congr fun a b _ => ⟨False.elim, fun ⟨i, hi, _⟩ => by omega⟩)) ?_
  · intro i r hi hi2 hI
    obtain ⟨r', a1, a2⟩ := l_spec_HalfOf_3 (nro := nro) K n m i rows R x2 ls q L hm hmn hL hls hq o2 hi hn r _ hI
    refine ⟨r', a1.congr fun a b _ => ?_, ?_⟩
    · constructor
      · rintro (⟨v', h1, h2⟩ | h)
        · exact ⟨v', by omega, h2⟩
        · exact ⟨i, by omega, h⟩
      · rintro ⟨v', h1, h2⟩
        by_cases e : v' = i
        · subst e; exact .inr h2
        · exact .inl ⟨v', by omega, h2⟩
    rw [floop_at i_spec_HalfOf_B4.eq_1]
    clear hI a1 hL hq hls
    simp (disch := first | assumption | omega | (simp [*] <;> omega) | fail) [hi, hi2, lv, a2, hn', ol, oq, o2, wrap64]
  · intro r _
    rw [floop_at i_spec_HalfOf_B4.eq_1]
    clear hL hq hls
    simp (disch := first | assumption | omega | (simp [*] <;> omega) | fail) [lv, hn', ol, oq, o2]
  · rintro r ⟨h1, h2⟩
    refine ⟨r, h1.congr fun a b ha => ?_, h2⟩
    unfold halfAdj
    rw [hm]
    constructor
    · rintro ⟨i, hi, k, hk, h3, (⟨rfl, rfl⟩ | ⟨rfl, rfl⟩)⟩
      · exact ⟨hi, by omega, by omega, h3⟩
      · refine ⟨by omega, hi, by omega, ?_⟩
        obtain ⟨p1, p2⟩ := hL a (by omega)
        obtain ⟨q1, q2⟩ := hL b hi
        rw [far_symm g (by omega) (by omega)]; exact h3
    · rintro ⟨h3, h4, h5, h6⟩
      rcases Nat.lt_or_gt_of_ne h5 with h7 | h7
      · obtain ⟨p1, p2⟩ := hL a h3
        obtain ⟨q1, q2⟩ := hL b h4
        exact ⟨b, h4, a, h7, by rw [far_symm g (by omega) (by omega)]; exact h6, .inr ⟨rfl, rfl⟩⟩
      · exact ⟨a, h3, b, h7, h6, .inl ⟨rfl, rfl⟩⟩

noncomputable def halfRows (rows L : List Int) : List Int := adjRows L.length (halfAdj rows L)

open Classical in
/-- What HalfOf answers. -/
noncomputable def halfAns (n : Int) (rows : List Int) : GAns :=
  if connC n rows ≠ 0 then .inr (connC n rows) else if ∃ x, 0 ≤ x ∧ x < n.toNat ∧ ∃ w, 0 ≤ w ∧ w < x ∧ badK rows (dists rows n.toNat 0) x w then .inr 5 else .inl ((evs (dists rows n.toNat 0) n.toNat).length, halfRows rows (evs (dists rows n.toNat 0) n.toNat))

theorem dists_bnd {n : Nat} {rows : List Int} (R : Rok n rows) {a : Nat} (ha : a < n) (w : Nat) : -1 ≤ (dists rows n a).getD w 0 ∧ (dists rows n a).getD w 0 ≤ 1000 := by
  have hle := R.le
  by_cases hw : w < n
  · rw [dists_get R ha hw]
    have := far_small R ha hw
    have := far_ge rows a w
    omega
  · rw [List.getD_eq_getElem?_getD, List.getElem?_eq_none (by rw [dists_len]; omega)]
    simp

theorem c_spec_HalfOf (n : Int) (s : Value) (rows : List Int) (h : VH) (hs : Sli h s rows) (hn : nro ≤ h.length) :
    vcall F nro k_spec_HalfOf [gv n s] h = some (gres h (halfAns n rows)) := by
  have hn' := fun k => Nat.le_trans hn (Nat.le_add_right h.length k)
  have hso := fun k => hs.oldCk (k := k)
  refine v_spec_HalfOf (by simp [i_spec_HalfOf]) ?_
  rw [fbody_eq]
  have hc := c_spec_l06Code (nro := nro) n s rows (h ++ [⟨0, [.int .i64 n, s]⟩, ⟨0, [.int .i64 0, .slice none 0 0]⟩]) (hs.app _) (by simp; omega)
  unfold halfAns
  by_cases hz : connC n rows = 0
  · rw [if_neg (fun h => h hz)]
    rw [hz] at hc
    obtain ⟨g, hcp⟩ := connC_zero hz
    have hlo := g.lo
    obtain ⟨N, rfl⟩ : ∃ N : Nat, n = N := ⟨n.toNat, by omega⟩
    rw [Int.toNat_natCast] at *
    have R := g.rok
    have hle := R.le
    have cd := c_spec_from (nro := nro) N 0 s rows (h ++ [⟨0, [.int .i64 N, s]⟩, ⟨0, [.int .i64 0, .slice none 0 0]⟩]) (hs.app _) R (by omega) (by simp; omega)
    have hdl := dists_len rows N 0
    have hlod := fun w => dists_bnd R (a := 0) (by omega) w
    obtain ⟨D, hD⟩ : ∃ D, D = dists rows N 0 := ⟨_, rfl⟩
    rw [← hD] at cd hdl hlod ⊢
    have l2 := l_spec_HalfOf_2 (nro := nro) h N s rows D hs R hdl hlod hn 0 (Nat.zero_le _)
    simp only [evs_zero, List.length_nil, Int.natCast_zero] at l2 cd
    simp at cd
    by_cases hb : ∃ x, 0 ≤ x ∧ x < N ∧ ∃ w, 0 ≤ w ∧ w < x ∧ badK rows D x w
    · rw [if_pos hb]
      obtain ⟨L, X, l3⟩ := l2.1 hb
      simp only [hh, ints_nil] at l3
      simp at l3
      clear l2 hb hD hlod hz hcp
      simp (disch := first | assumption | omega | (simp [*] <;> omega) | fail) [i_spec_HalfOf, hc, cd, l3, hn', hso, fresults, fresL, fres1]
    · rw [if_neg hb]
      have l3 := l2.2 hb
      have hel := evs_len D N
      have heg := evs_get D N
      obtain ⟨E, hE⟩ : ∃ E, E = evs D N := ⟨_, rfl⟩
      rw [← hE] at l3 hel heg ⊢
      -- the distances of all pairs
      obtain ⟨q, M, cr, sr⟩ := c_spec_l06Rows (nro := nro) N s rows (hh h N s D E) (hs.app _) (by simp; omega) R
      have lr := sr.ll
      obtain ⟨qa, qm, rfl⟩ := sr.shape
      obtain ⟨T, hT⟩ : ∃ T : VH, T = [⟨0, [.int .i64 N, s]⟩, ⟨0, [.int .i64 0, .slice none 0 0]⟩, ⟨1, ints D⟩, ⟨1, ints E⟩] ++ M := ⟨_, rfl⟩
      obtain ⟨K, hK⟩ : ∃ K, K = h ++ T := ⟨_, rfl⟩
      have hK2 : hh h N s D E ++ M = K := by rw [hK, hT]; simp
      rw [hK2] at cr lr
      have hKl : K.length = h.length + T.length := by rw [hK]; simp
      have hTl : 4 ≤ T.length := by rw [hT]; simp
      have k1 : K[h.length + 1]? = some ⟨0, [.int .i64 0, .slice none 0 0]⟩ := by rw [hK, hT]; simp
      have k3 : K[h.length + 3]? = some ⟨1, ints E⟩ := by rw [hK, hT]; simp
      have kE : Sli K (.slice (some ⟨h.length + 3, 0, none⟩) E.length E.length) E := sli_at k3
      have hee := c_spec_l01Empty (nro := nro) E.length K (by omega) (by omega) (by omega)
      rw [Int.toNat_natCast] at hee
      obtain ⟨r, a1, l4⟩ := l_spec_HalfOf_4 (nro := nro) K N E.length rows g (cp1 h) (.slice (some ⟨h.length + 3, 0, none⟩) E.length E.length) (.slice (some qa) qm qm) E rfl (by omega) heg kE lr (fun k => by intro r hr; simp [trefs, vrefs, crefs, arefs] at hr; omega) (by omega)
      have er : halfRows rows E = r := a1.eq
      have hrl := a1.1
      rw [er]
      have hset : ∀ X o, (K ++ X).set (h.length + 1) o = h ++ (T.set 1 o ++ X) := fun X o => by
        rw [hK, List.append_assoc, hsetk, List.set_append_left _ _ (by omega)]
      have hgt : ∀ X o, (h ++ (T.set 1 o ++ X))[h.length + 1]? = some o := fun X o => by
        rw [hgetk, List.getElem?_append_left (by simp; omega), List.getElem?_set, if_pos rfl, if_pos (by omega)]
      have hfin := cleanup_one (h := h) (L := T.set 1 ⟨0, [.int .i64 E.length, .slice (some ⟨K.length, 0, none⟩) E.length E.length]⟩ ++ [⟨1, ints r⟩, ⟨0, [.int .i64 E.length, .slice (some ⟨K.length, 0, none⟩) E.length E.length]⟩]) (v := .tuple #[gv E.length (.slice (some ⟨K.length, 0, none⟩) E.length E.length), .int .i64 0]) (k := T.length) (o := ⟨1, ints r⟩) (by simp [trefs, vrefs, crefs, arefs, hKl]) (by rw [List.getElem?_append_right (by simp)]; simp) (by simp)
      have ert : renOf h.length [h.length + T.length] K.length = h.length := by rw [hKl]; exact renOf_one ..
      simp [tren, vren, cren, aren, ert] at hfin
      have kn : ∀ k, nro ≤ K.length + k := fun k => by omega
      simp only [hh, ints_nil] at l3
      clear l2 hb hD hlod hz hcp hE er a1 heg lr kE sr hK hT hK2 ert
      simp (disch := first | assumption | omega | (simp [*] <;> omega) | fail) [-getElem?_pos, List.getElem?_cons_zero, List.getElem?_cons_succ, i_spec_HalfOf, hc, cd, l3, cr, k3, hget_old k3, hee, l4, hget_old k1, k1, hset, hgt, hfin, kn, hn', hso, hrl, splice, fresults, fresL, fres1]
  · rw [if_pos hz]
    obtain ⟨x, hx⟩ : ∃ x, x = connC n rows := ⟨_, rfl⟩
    rw [← hx] at hc hz ⊢
    clear hx
    simp (disch := first | assumption | omega | (simp [*] <;> omega) | fail) [i_spec_HalfOf, hc, hz, fresults, fresL, fres1, hn', hso]
end Go.Proofs.YthpgiimaadohcaaDoor.Zv

/- The law of HalfOf: the program's side. -/
namespace Go.Proofs.YthpgiimaadohcaaDoor.Zv
open Go
variable {nro : Nat}

theorem GV.of {n : Nat} {r : List Int} {adj : Nat → Nat → Prop} (h : IsAdj n r adj) (h1 : 1 ≤ n) (h2 : n ≤ 62) (hlt : ∀ v w, v < n → adj v w → w < n) (hirr : ∀ v, ¬ adj v v) (hsym : ∀ v w, adj v w → adj w v) : GV n r := by
  have R := Rok.of h h2 hlt
  refine ⟨by omega, by omega, by rw [h.1], fun v hv => ?_, fun v w hv hw => ?_⟩
  · rw [h.1] at hv
    obtain ⟨r1, r2⟩ := R.row v hv
    refine ⟨r1, ?_, ?_⟩
    · have e : ((2 ^ n : Nat) : Int) = (2 : Int) ^ ((n : Int).toNat) := by simp
      rw [← e]; omega
    · have := (h.2 v hv).2.2 v
      cases hb : rbit r v v
      · rfl
      · exact absurd (this.mp hb) (hirr v)
  · rw [h.1] at hv hw
    have a := (h.2 v hv).2.2 w
    have b := (h.2 w hw).2.2 v
    rw [Bool.eq_iff_iff, a, b]
    exact ⟨hsym v w, hsym w v⟩

theorem atRows_gv {n : Nat} {rows : List Int} (g : GV n rows) (i : Int) (h : IsAdj n (atRows rows n i) (atAdj rows n i)) : GV n (atRows rows n i) := by
  have hlo := g.lo
  exact GV.of h (by omega) g.rok.le (fun v w _ h => h.2.1) (fun v h => h.2.2.1 rfl) (fun v w h => ⟨h.2.1, h.1, fun e => h.2.2.1 e.symm, by rw [far_symm g h.2.1 h.1]; exact h.2.2.2⟩)

theorem on_half {n : Nat} {rows : List Int} (g : GV n rows) (h : IsAdj n (atRows rows n 2) (atAdj rows n 2)) (L : List Int) (hL : ∀ j, j < L.length → 0 ≤ L.getD j 0 ∧ L.getD j 0 < n) (hnd : L.Nodup) : onRows (atRows rows n 2) L = halfRows rows L := by
  unfold onRows halfRows
  congr 1
  funext x y
  apply propext
  unfold onAdj halfAdj
  constructor
  · rintro ⟨⟨h1, h2, h3⟩, h4⟩
    obtain ⟨p1, p2⟩ := hL x h1
    have := ((h.2 _ (by omega)).2.2 _).mp h3
    exact ⟨h1, h2, h4, this.2.2.2⟩
  · rintro ⟨h1, h2, h3, h4⟩
    obtain ⟨p1, p2⟩ := hL x h1
    obtain ⟨q1, q2⟩ := hL y h2
    refine ⟨⟨h1, h2, ((h.2 _ (by omega)).2.2 _).mpr ⟨by omega, by omega, ?_, h4⟩⟩, h3⟩
    intro e
    apply h3
    have e2 : L[x] = L[y] := by
      rw [← getD_at L h1, ← getD_at L h2]; omega
    exact (List.getElem_inj hnd).mp e2

theorem far_step {n : Nat} {rows : List Int} (R : Rok n rows) {a x w : Nat} (ha : a < n) (h : rbit rows x w = true) (h0 : 0 ≤ far rows a x) : 0 ≤ far rows a w ∧ far rows a w ≤ far rows a x + 1 := by
  obtain ⟨d, hd⟩ : ∃ d : Nat, far rows a x = d := ⟨(far rows a x).toNat, by omega⟩
  have h1 := dist_far R ha hd
  obtain ⟨e, he, h2⟩ := Wk.dst (d + 1) (⟨x, h1.1, h⟩ : Wk rows (d + 1) a w)
  have := far_of R ha h2
  omega

theorem parts_conn {n : Nat} {rows : List Int} (R : Rok n rows) (h1 : 1 ≤ n) (hc : connP rows n) : partsF rows (2 ^ n - 1) = [bitL (2 ^ n - 1)] ∧ (bitL (2 ^ n - 1)).getD 0 0 = 0 := by
  have h0 : 2 ^ n - 1 ≠ 0 := by
    have : 2 ^ 1 ≤ 2 ^ n := Nat.pow_le_pow_right (by omega) h1
    omega
  obtain ⟨p1, p2, p3, p4, p5⟩ := low_bit h0 (all_lt n) R.le
  have hl : low (2 ^ n - 1) = 0 := by
    rcases Nat.eq_zero_or_pos (low (2 ^ n - 1)) with h | h
    · exact h
    · have := p5 0 h
      rw [Nat.testBit_two_pow_sub_one] at this
      simp at this
      omega
  have hp := (conn_all R h1).mpr hc
  have e : nand (2 ^ n - 1) (2 ^ n - 1) = 0 := by
    unfold nand; simp
  rw [(partsF_step R h0 (all_lt n)).1, hl, hp, e, partsF_zero]
  exact ⟨rfl, by rw [p2, hl]; rfl⟩

theorem bip_conn {n : Nat} {rows : List Int} (g : GV n rows) (hc : connP rows n) : bipR rows n ↔ ¬ ∃ x, 0 ≤ x ∧ x < n ∧ ∃ w, 0 ≤ w ∧ w < x ∧ badK rows (dists rows n 0) x w := by
  have R := g.rok
  have hlo := g.lo
  obtain ⟨e1, e2⟩ := parts_conn R (by omega) hc
  unfold bipR
  rw [e1]
  simp only [List.mem_singleton, forall_eq, e2]
  have key : ∀ x w, x < n → w < n → rbit rows x w = true → ((far rows 0 x - far rows 0 w).tmod 2 = 0 ↔ far rows 0 x = far rows 0 w) := by
    intro x w hx hw hb
    have h1 := far_step R (a := 0) (by omega) hb (hc x hx)
    have h2 := far_step R (a := 0) (by omega) (g.sym' hb) (hc w hw)
    constructor
    · intro h
      obtain ⟨z, hz⟩ : ∃ z, z = far rows 0 x - far rows 0 w := ⟨_, rfl⟩
      rw [← hz] at h
      have h3 : -1 ≤ z ∧ z ≤ 1 := by omega
      have : z = -1 ∨ z = 0 ∨ z = 1 := by omega
      rcases this with rfl | rfl | rfl
      · exact absurd h (by decide)
      · omega
      · exact absurd h (by decide)
    · intro h; rw [h]; simp
  constructor
  · rintro h ⟨x, _, hx, w, _, hw, hb, hk⟩
    rw [dists_get R (by omega) hx, dists_get R (by omega) (by omega)] at hk
    have := (key x w hx (by omega) hb).mp hk
    exact h w x (g.sym' hb) hw ⟨hc w (by omega), this.symm⟩
  · rintro h u w hb hlt ⟨h0, hu⟩
    obtain ⟨hun, hwn⟩ := rbit_lt R hb
    exact h ⟨w, Nat.zero_le _, hwn, u, Nat.zero_le _, hlt, g.sym' hb, by
      rw [dists_get R (by omega) hwn, dists_get R (by omega) hun]
      exact (key w u hwn hun (g.sym' hb)).mpr hu.symm⟩

theorem l_impl_HalfOf (h : VH) (n : Nat) (s : Value) (D : List Int) (hD : D.length = n) (hle : n ≤ 62) (hso : ∀ k, OldC (h.length + k) s) (hn : nro ≤ h.length) :
    floop (vcall F nro) nro [1, 2, 5, 20, 21, 22] i_impl_HalfOf_B1 (h ++ [⟨0, [.int .i64 n, s]⟩, ⟨0, [.int .i64 0, .slice none 0 0]⟩, ⟨1, []⟩, ⟨1, ints D⟩]) [bp h, cp1 h, .slice (some ⟨h.length + 2, 0, none⟩) 0 0, .slice (some ⟨h.length + 3, 0, none⟩) n n, .int .i64 n, .int .i64 0] (h ++ [⟨0, [.int .i64 n, s]⟩, ⟨0, [.int .i64 0, .slice none 0 0]⟩, ⟨1, []⟩, ⟨1, ints D⟩]) =
      some (.exit 0, fl [(1, bp h), (2, cp1 h), (5, .slice (some ⟨h.length + 2, 0, none⟩) (evs D n).length (evs D n).length)], h ++ [⟨0, [.int .i64 n, s]⟩, ⟨0, [.int .i64 0, .slice none 0 0]⟩, ⟨1, ints (evs D n)⟩, ⟨1, ints D⟩]) := by
  have hn' := fun k => Nat.le_trans hn (Nat.le_add_right h.length k)
  have key := for_up (call := vcall F nro) (nro := nro) (live := [1, 2, 5, 20, 21, 22]) (c := i_impl_HalfOf_B1) (h0 := h ++ [⟨0, [.int .i64 n, s]⟩, ⟨0, [.int .i64 0, .slice none 0 0]⟩, ⟨1, []⟩, ⟨1, ints D⟩]) (n := n) (fun i (_ : Unit) => [bp h, cp1 h, .slice (some ⟨h.length + 2, 0, none⟩) (evs D i).length (evs D i).length, .slice (some ⟨h.length + 3, 0, none⟩) n n, .int .i64 n, .int .i64 i]) (fun i _ => h ++ [⟨0, [.int .i64 n, s]⟩, ⟨0, [.int .i64 0, .slice none 0 0]⟩, ⟨1, ints (evs D i)⟩, ⟨1, ints D⟩]) (fun _ u => u) (fun _ _ => True)
    (fun _ => some (.exit 0, fl [(1, bp h), (2, cp1 h), (5, .slice (some ⟨h.length + 2, 0, none⟩) (evs D n).length (evs D n).length)], h ++ [⟨0, [.int .i64 n, s]⟩, ⟨0, [.int .i64 0, .slice none 0 0]⟩, ⟨1, ints (evs D n)⟩, ⟨1, ints D⟩])) ?_ ?_ 0 () (Nat.zero_le _) trivial
  · exact key.1
  · intro v _ hv hv2 _
    refine ⟨trivial, ?_⟩
    have hvD : v < D.length := by omega
    have tv := take1_ints hvD
    have gv' := getD_at D hvD
    have hel := evs_len D v
    have hE2 := evs_succ D v
    obtain ⟨E, hE⟩ : ∃ E, E = evs D v := ⟨_, rfl⟩
    obtain ⟨E1, hE1⟩ : ∃ E1, E1 = evs D (v + 1) := ⟨_, rfl⟩
    rw [← hE, ← hE1, gv'] at hE2
    rw [← hE] at hel ⊢
    rw [← hE1]
    obtain ⟨a, ha⟩ : ∃ a, a = D[v] := ⟨_, rfl⟩
    rw [← ha] at tv hE2
    have b1 : (E.length + 1) * 8 ≤ 1099511627776 := by omega
    have b3 : E.length < 1099511627776 := by omega
    clear hE hE1 gv' ha
    rw [floop_at i_impl_HalfOf_B1.eq_1]
    by_cases c : a.tmod 2 = 0
    · rw [if_pos c] at hE2
      have hE3 : E1.length = E.length + 1 := by rw [hE2]; simp
      have hE4 : ints E ++ [Value.int .i64 v] = ints E1 := by rw [hE2]; simp [ints]
      rw [hE3]
      simp (disch := first | assumption | omega | (simp [*] <;> omega) | fail) [hv, hv2, tv, hD, c, b1, b3, hE4, hn', hso, wrap64]
    · rw [if_neg c, List.append_nil] at hE2
      subst hE2
      simp (disch := first | assumption | omega | (simp [*] <;> omega) | fail) [hv, hv2, tv, hD, c, hn', hso, wrap64]
  · intro _ _
    rw [floop_at i_impl_HalfOf_B1.eq_1]
    simp (disch := first | assumption | omega | (simp [*] <;> omega) | fail) [hn', hso]

open Classical in
theorem c_impl_HalfOf (n : Int) (s : Value) (rows : List Int) (h : VH) (hs : Sli h s rows) (hn : nro ≤ h.length) :
    vcall F nro k_impl_HalfOf [gv n s] h = some (gres h (halfAns n rows)) := by
  have hn' := fun k => Nat.le_trans hn (Nat.le_add_right h.length k)
  have hso := fun k => hs.oldCk (k := k)
  refine v_impl_HalfOf (by simp [i_impl_HalfOf]) ?_
  rw [fbody_eq]
  have hc := c_impl_connectedCode (nro := nro) n s rows (h ++ [⟨0, [.int .i64 n, s]⟩, ⟨0, [.int .i64 0, .slice none 0 0]⟩]) (hs.app _) (by simp; omega)
  unfold halfAns
  by_cases hz : connC n rows = 0
  · rw [if_neg (fun h => h hz)]
    rw [hz] at hc
    obtain ⟨g, hcp⟩ := connC_zero hz
    have hlo := g.lo
    obtain ⟨N, rfl⟩ : ∃ N : Nat, n = N := ⟨n.toNat, by omega⟩
    rw [Int.toNat_natCast] at *
    have R := g.rok
    have hle := R.le
    have hb := c_impl_Graph_bipartite (nro := nro) N s rows (h ++ [⟨0, [.int .i64 N, s]⟩, ⟨0, [.int .i64 0, .slice none 0 0]⟩]) (hs.app _) R (by simp; omega)
    have eb := bip_conn g hcp
    by_cases hbad : ∃ x, 0 ≤ x ∧ x < N ∧ ∃ w, 0 ≤ w ∧ w < x ∧ badK rows (dists rows N 0) x w
    · rw [if_pos hbad]
      rw [decide_eq_false (fun h => eb.mp h hbad)] at hb
      clear hbad eb hcp hz
      simp (disch := first | assumption | omega | (simp [*] <;> omega) | fail) [i_impl_HalfOf, hc, hb, hn', hso, splice, fresults, fresL, fres1]
    · rw [if_neg hbad]
      rw [decide_eq_true (eb.mpr hbad)] at hb
      clear hbad eb hcp hz
      have cd := c_impl_Graph_distances (nro := nro) N 0 s rows (h ++ [⟨0, [.int .i64 N, s]⟩, ⟨0, [.int .i64 0, .slice none 0 0]⟩, ⟨1, []⟩]) (hs.app _) R (by omega) (by simp; omega)
      have hdl := dists_len rows N 0
      obtain ⟨D, hD⟩ : ∃ D, D = dists rows N 0 := ⟨_, rfl⟩
      rw [← hD] at cd hdl ⊢
      have l1 := l_impl_HalfOf (nro := nro) h N s D hdl hle hso hn
      have hel := evs_len D N
      have heg := evs_get D N
      have hei := evs_inj D N
      obtain ⟨E, hE⟩ : ∃ E, E = evs D N := ⟨_, rfl⟩
      rw [← hE] at l1 hel heg hei ⊢
      obtain ⟨ca, ia⟩ := c_impl_Graph_at (nro := nro) N 2 s rows (h ++ [⟨0, [.int .i64 N, s]⟩, ⟨0, [.int .i64 0, .slice none 0 0]⟩, ⟨1, ints E⟩, ⟨1, ints D⟩]) (hs.app _) g (by simp; omega)
      have gA := atRows_gv g 2 ia
      have hAl := ia.1
      have cp := c_impl_Graph_partOn (nro := nro) N (.slice (some ⟨h.length + 4, 0, none⟩) N N) (.slice (some ⟨h.length + 2, 0, none⟩) E.length E.length) (atRows rows N 2) E (h ++ [⟨0, [.int .i64 N, s]⟩, ⟨0, [.int .i64 0, .slice none 0 0]⟩, ⟨1, ints E⟩, ⟨1, ints D⟩, ⟨1, ints (atRows rows N 2)⟩]) (by
        have := sli_at (h := h ++ [⟨0, [.int .i64 N, s]⟩, ⟨0, [.int .i64 0, .slice none 0 0]⟩, ⟨1, ints E⟩, ⟨1, ints D⟩, ⟨1, ints (atRows rows N 2)⟩]) (b := h.length + 4) (xs := atRows rows N 2) (by simp)
        rwa [hAl] at this) (sli_at (by simp)) (by simp; omega) gA heg (by omega)
      rw [on_half g ia E heg hei] at cp
      have hrl : (halfRows rows E).length = E.length := by
        unfold halfRows
        exact (adjRows_is (adj := halfAdj rows E) fun v w hv ha => by have := ha.2.1; omega).1
      obtain ⟨r, hr⟩ : ∃ r, r = halfRows rows E := ⟨_, rfl⟩
      rw [← hr] at cp hrl ⊢
      obtain ⟨A, hA⟩ : ∃ A, A = atRows rows N 2 := ⟨_, rfl⟩
      rw [← hA] at ca cp
      simp only [Int.natCast_zero] at cd
      simp at cd ca cp
      clear hr hA hD hE gA ia hAl heg hei
      simp (disch := first | assumption | omega | (simp [*] <;> omega) | fail) [i_impl_HalfOf, hc, hb, cd, l1, ca, cp, hdl, hrl, hn', hso, splice, fresults, fresL, fres1]
  · rw [if_pos hz]
    obtain ⟨x, hx⟩ : ∃ x, x = connC n rows := ⟨_, rfl⟩
    rw [← hx] at hc hz ⊢
    clear hx
    simp (disch := first | assumption | omega | (simp [*] <;> omega) | fail) [i_impl_HalfOf, hc, hz, fresults, fresL, fres1, hn', hso]

theorem r_spec_HalfOf (n : Int) (s : Value) (h : VH) (hs : isSli h s) (hn : nro ≤ h.length) : vcall F nro k_spec_HalfOf [gv n s] h = some (gres h (halfAns n (rd h s))) := c_spec_HalfOf n s _ h hs.sli hn
theorem r_impl_HalfOf (n : Int) (s : Value) (h : VH) (hs : isSli h s) (hn : nro ≤ h.length) : vcall F nro k_impl_HalfOf [gv n s] h = some (gres h (halfAns n (rd h s))) := c_impl_HalfOf n s _ h hs.sli hn
theorem halfAns_len {n : Int} {rows : List Int} {m : Int} {r : List Int} (h : halfAns n rows = .inl (m, r)) : r.length ≤ 62 := by
  unfold halfAns at h
  split at h
  · cases h
  · rename_i hz
    split at h
    · cases h
    · have g := (connC_zero (Classical.not_not.mp hz)).1
      have hhi := g.hi
      have hlo := g.lo
      have hel := evs_len (dists rows n.toNat 0) n.toNat
      cases h
      unfold halfRows
      have := (adjRows_is (N := (evs (dists rows n.toNat 0) n.toNat).length) (adj := halfAdj rows (evs (dists rows n.toNat 0) n.toNat)) fun v w hv ha => by have := ha.2.1; omega).1
      omega

theorem law_HalfOf (n : Int) (s : Value) (rows : List Int) (h : VH) (hs : Sli h s rows) (h3 : rows.length ≤ 9223372036854775807) (hn : nro ≤ h.length) :
    vcall F nro k_laws_FnExactHalfOf [gv n s] h = some (.bool true, h) := by
  refine v_laws_FnExactHalfOf (by simp [i_laws_FnExactHalfOf]) ?_
  rw [fbody_eq]
  have hc1 := c_laws_szGraph (nro := nro) n s rows 1048576 (bx h n s) (hs.app _) (by omega) (by omega) h3
  by_cases hr : 1048576 < (rows.length : Int)
  · rw [if_pos hr] at hc1
    simp (disch := first | assumption | omega | (simp [*] <;> omega) | fail) [i_laws_FnExactHalfOf, hc1]
  · rw [if_neg hr] at hc1
    have hr2 : ¬ (1048576 - (rows.length : Int) < 0) := by omega
    have h5 : rows.length ≤ 1048576 := by omega
    have p1 : ∀ k : Nat, (0 : Int) ≤ 1 + k := fun k => by omega
    have p2 : ∀ k : Nat, ¬ (1 + k : Int) < 0 := fun k => by omega
    have hn' := fun k => Nat.le_trans hn (Nat.le_add_right h.length k)
    have hsi := fun L => hs.is' (L := L)
    have hsr := fun L => hs.rd' (L := L)
    clear hs
    cases hp : halfAns n rows with
    | inl q =>
      obtain ⟨m, r⟩ := q
      have hl := halfAns_len hp
      simp (disch := first | assumption | omega | (simp [*] <;> omega) | fail) [i_laws_FnExactHalfOf, hc1, hr2, r_laws_toGraph, r_spec_HalfOf, r_impl_HalfOf, r_laws_eqGraph, r_laws_markGraph, r_laws_heldGraph, hp, hsi, hsr, hn', hn, h5, hl, p1, p2]
    | inr x =>
      simp (disch := first | assumption | omega | (simp [*] <;> omega) | fail) [i_laws_FnExactHalfOf, hc1, hr2, r_laws_toGraph, r_spec_HalfOf, r_impl_HalfOf, r_laws_eqGraph, r_laws_markGraph, r_laws_markGraph_nil, r_laws_heldGraph, hp, hsi, hsr, hn', hn, h5, p1, p2]
end Go.Proofs.YthpgiimaadohcaaDoor.Zv

