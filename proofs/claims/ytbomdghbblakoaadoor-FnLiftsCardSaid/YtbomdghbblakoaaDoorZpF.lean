/- Part F of the proof: ZwGirths1, ZwShort, ZwGirths2, ZwConn, ZwParts, ZwHalf, ZwNb, ZwLead, ZwLift1, ZwDraw, ZwDraw2, ZwDraw3, ZwLift2, ZwLift3, ZwLift4, ZwLawHalf, ZwLawHalf2, ZwGirths3, ZwLift5, ZwLead2, ZwLead3. Conditions: none. -/
import Derived.Test.YtbomdghbblakoaaDoorZpD
import Derived.Test.YtbomdghbblakoaaDoorZpE
set_option linter.unusedSimpArgs false
set_option linter.unusedVariables false
set_option linter.unusedSectionVars false
namespace Go.Proofs.YtbomdghbblakoaaDoor.Zv
/- The sum of the shortest cycles of all edges, without overflow. -/
section
open Go
open Classical
section
variable {n : Nat} {rows : List Int} (g : GV n rows)
include g
theorem gir_min (c : Int) (hc : 1 ≤ c) : (girF rows n 0 0 = 0 ∨ c ≤ girF rows n 0 0) ↔ ∀ p q, rbit rows p q = true → arF rows p q ≤ 0 ∨ c ≤ arF rows p q := by
 rw [girF_ok hc 0 0 (by omega)]
 constructor
 ·rintro ⟨_, h⟩ p q hpq
  obtain ⟨h1, h2⟩ := rbit_lt g.rok hpq
  have hle := g.rok.le
  have := h p (Nat.zero_le _) h1 (q : Int) ((nbL_mem rows p q).mpr ⟨by omega, by omega, by rw [Int.toNat_natCast]; exact hpq⟩)
  rwa [Int.toNat_natCast] at this
 ·intro h
  refine ⟨.inl rfl, fun u _ hu y hy => ?_⟩
  obtain ⟨h1, h2, h3⟩ := (nbL_mem rows u y).mp hy
  exact h u y.toNat h3
theorem gir_edge {L : Nat} (hL : girF rows n 0 0 = L) (h0 : L ≠ 0) : ∃ p q, rbit rows p q = true ∧ arF rows p q = L := by
 apply Classical.byContradiction
 intro hn
 have h1 := (gir_min g (L : Int) (by omega)).mp (by omega)
 have h2 := (gir_min g ((L : Int) + 1) (by omega)).mpr (fun p q hpq => by
  have a1 := h1 p q hpq
  have a2 : ¬ arF rows p q = L := fun e => hn ⟨p, q, hpq, e⟩
  omega)
 omega
theorem arF_3 {p q : Nat} (hpq : rbit rows p q = true) : arF rows p q ≤ 0 ∨ 3 ≤ arF rows p q := by
 obtain ⟨hp, hq⟩ := rbit_lt g.rok hpq
 have R2 := (cut_rok g hp hq hpq).1
 unfold arF
 rcases far_dist R2 hp q with ⟨h1, _⟩ | ⟨e, h1, h2⟩
 ·omega
 ·rw [h1]
  match e, h2 with
  | 0, h2 => exact absurd h2.1 (g.ne hpq)
  | 1, h2 =>
   obtain ⟨c, hc, hb⟩ := h2.1
   have : p = c := hc
   subst this
   rw [cut_iff g hpq] at hb
   exact absurd (.inl ⟨rfl, rfl⟩) hb.2
  | e + 2, _ => omega
theorem gir_3 {L : Nat} (hL : girF rows n 0 0 = L) (h0 : L ≠ 0) : 3 ≤ L := by
 have := (gir_min g 3 (by omega)).mpr (fun p q h => arF_3 g h)
 omega
theorem arN_eq {L a b : Nat} (hab : rbit rows a b = true) (hl : arF rows a b = L) (h0 : L ≠ 0) : arN rows n a b = cyE rows n L a b ∧ 1 ≤ cyE rows n L a b ∧ cyE rows n L a b < 8589934592 := by
 obtain ⟨ha, hb⟩ := rbit_lt g.rok hab
 have R2 := (cut_rok g ha hb hab).1
 unfold cyE
 rw [if_pos hl]
 unfold arF at hl
 have hd : Dst (cut2 rows a b) (L - 1) a b := dist_far R2 ha (by omega)
 have h1 := wkN_small (n := n) g.rok.le hd
 have h2 : ∀ (k u : Nat), u < n → Wk (cut2 rows a b) k a u → 1 ≤ wkN (cut2 rows a b) n a k u := by
  intro k
  induction k with
  | zero =>
   intro u _ h
   have h' : a = u := h
   rw [wkN, if_pos h'.symm]; omega
  | succ k ih =>
   rintro u hu ⟨w, h3, h4⟩
   rw [wkN]
   have hw := (rbit_lt R2 h4).1
   have h5 := ih w hw h3
   have h6 : sumF (fun i => if i = w then (1 : Int) else 0) n ≤ sumF (fun w => if rbit (cut2 rows a b) w u = true then wkN (cut2 rows a b) n a k w else 0) n := by
    apply sumF_le
    intro i _
    by_cases c : i = w
    ·subst c; rw [if_pos rfl, if_pos h4]; exact h5
    ·rw [if_neg c]; split
     ·exact wkN_nonneg _ _ _ _ _
     ·omega
   rw [sumF_one hw (fun i _ hi => if_neg hi), if_pos rfl] at h6
   exact h6
 have h3 := h2 _ b hb hd.1
 refine ⟨?_, h3, h1⟩
 unfold arN
 rw [if_neg (by omega)]
 have e : (far (cut2 rows a b) a b).toNat = L - 1 := by omega
 rw [e]
 exact wrap64 (by omega) (by omega)
end
end

/- Walks are counted step by step; ShortestThrough. -/
section
open Go
variable {nro : Nat}
theorem clean_mid {h L : VH} {A B : List Value} {k off n t : Nat} {o : VO} (hA : ∀ v ∈ A, Old h.length v) (hB : ∀ v ∈ B, Old h.length v) (hk : L[k]? = some o) (hf : flatO h.length o) :
  kclean h (A ++ .slice (some ⟨h.length + k, off, none⟩) n t :: B) (h ++ L) = (A ++ .slice (some ⟨h.length, off, none⟩) n t :: B, h ++ [o]) := by
 have fil : ∀ (C : List Value), (∀ v ∈ C, Old h.length v) → (C.flatMap trefs).filter (fun i => decide (h.length ≤ i)) = [] := fun C hC => by
  rw [List.filter_eq_nil_iff]
  intro r hr
  have := (old_all h.length C).mpr hC r hr
  simp; omega
 have e : keepL h.length (A ++ .slice (some ⟨h.length + k, off, none⟩) n t :: B) = [h.length + k] := by
  unfold keepL
  rw [List.flatMap_append, List.filter_append, fil A hA, List.nil_append, List.flatMap_cons, List.filter_append, fil B hB]
  simp [trefs, vrefs, crefs, arefs, dedup]
 have hg : (h ++ L)[h.length + k]? = some o := by rw [hgetk]; exact hk
 rw [cleanup_keep e fun i hi => ⟨o, by rw [List.mem_singleton] at hi; rw [hi]; exact hg, hf⟩]
 have keep : ∀ (C : List Value), (∀ v ∈ C, Old h.length v) → C.map (tren (renOf h.length [h.length + k])) = C := fun C hC => by
  have : ∀ v ∈ C, tren (renOf h.length [h.length + k]) v = v := fun v hv => tren_old (hC v hv) fun i hi => by simp only [renOf, if_pos hi]
  exact (List.map_congr_left this).trans (by simp)
 rw [List.map_append, List.map_cons, keep A hA, keep B hB]
 simp [hg, tren, vren, cren, aren, renOf_one]
end

/- Shortest cycles through an edge in either direction; girths at vertices are not less than the girth. -/
section
open Go
open Classical
noncomputable def giA (n : Int) (rows : List Int) : Int × Int := if ¬ GV n rows then (0, 1) else if girF rows n.toNat 0 0 = 0 then (0, 4) else (girF rows n.toNat 0 0, 0)
end

/- Parts: all vertices to which there is a way; connected graphs. -/
section
open Go
variable {nro : Nat}
def pt (rows : List Int) (met f : Nat) : Nat :=
  if f = 0 then met else if h : met < (met ||| nxt rows f) ∧ (met ||| nxt rows f) < 2 ^ 62 then pt rows (met ||| nxt rows f) (nand (nxt rows f) met) else met
 termination_by 2 ^ 62 - met
 decreasing_by omega
theorem pt_zero {rows : List Int} {met : Nat} : pt rows met 0 = met := by rw [pt, if_pos rfl]
theorem pt_step {n : Nat} {rows : List Int} (R : Rok n rows) {met f : Nat} (hm : met < 2 ^ n) (hf : f < 2 ^ n) (h0 : ¬ f = 0) : pt rows met f = pt rows (met ||| nxt rows f) (nand (nxt rows f) met) := by
 have h2 := le62 R.le (Nat.or_lt_two_pow hm (nxt_lt R hf))
 by_cases h1 : met < met ||| nxt rows f
 ·conv => lhs; rw [pt]
  rw [if_neg h0, dif_pos ⟨h1, h2⟩]
 ·conv => lhs; rw [pt]
  have e : met ||| nxt rows f = met := Nat.le_antisymm (Nat.le_of_not_lt h1) Nat.left_le_or
  rw [if_neg h0, dif_neg (fun h => h1 h.1), or_or_zero (rows := rows) h1, pt_zero, e]
theorem pt_bit {n : Nat} {rows : List Int} (R : Rok n rows) (b met f d : Nat) (hm : met < 2 ^ n) (hf : f < 2 ^ n) (hsub : ∀ j, f.testBit j = true → met.testBit j = true) :
    pt rows met f < 2 ^ n ∧ ((pt rows met f).testBit b = true ↔ met.testBit b = true ∨ 0 ≤ lev rows met f d b) := by
  by_cases h0 : f = 0
  · subst h0
    rw [pt_zero, lev_zero]
    exact ⟨hm, by simp⟩
  · rw [pt_step R hm hf h0]
    have hx := nxt_lt R hf
    have hnl := nand_le (nxt rows f) met
    by_cases h3 : met < met ||| nxt rows f
    · have ih := pt_bit R b (met ||| nxt rows f) (nand (nxt rows f) met) (d + 1) (Nat.or_lt_two_pow hm hx) (by omega) (fun j hj => by
        rw [nand_bit] at hj
        rw [Nat.testBit_or]
        simp only [Bool.and_eq_true] at hj
        simp [hj.1])
      refine ⟨ih.1, ih.2.trans ?_⟩
      by_cases hb : f.testBit b = true
      · have := hsub b hb
        rw [Nat.testBit_or, this]
        simp
      · rw [lev_step R hm hf h0 (by simpa using hb), Nat.testBit_or, Bool.or_eq_true]
        constructor
        · rintro ((h | h) | h)
          · exact .inl h
          · by_cases c : met.testBit b = true
            · exact .inl c
            · refine .inr ?_
              rw [lev_bit (by rw [nand_bit, h]; simpa using c)]
              omega
          · exact .inr h
        · rintro (h | h)
          · exact .inl (.inl h)
          · exact .inr h
    · have e : met ||| nxt rows f = met := Nat.le_antisymm (Nat.le_of_not_lt h3) Nat.left_le_or
      rw [or_or_zero (rows := rows) h3, pt_zero, e]
      refine ⟨hm, ?_⟩
      by_cases hb : f.testBit b = true
      · have := hsub b hb
        simp [this]
      · rw [lev_step R hm hf h0 (by simpa using hb), or_or_zero (rows := rows) h3, lev_zero]
        simp
 termination_by 2 ^ n - met
 decreasing_by
  have := Nat.or_lt_two_pow hm hx
  omega
def part (rows : List Int) (v : Nat) : Nat := pt rows (2 ^ v) (2 ^ v)
theorem part_lt {n : Nat} {rows : List Int} (R : Rok n rows) {v : Nat} (hv : v < n) : part rows v < 2 ^ n := by
 have hp : 2 ^ v < 2 ^ n := Nat.pow_lt_pow_right (by omega) hv
 exact (pt_bit R 0 _ _ 0 hp hp (fun _ h => h)).1
theorem far_self {n : Nat} {rows : List Int} (R : Rok n rows) {v : Nat} (hv : v < n) : far rows v v = 0 := far_of R hv (d := 0) ⟨rfl, fun e he => by omega⟩
theorem part_bit {n : Nat} {rows : List Int} (R : Rok n rows) {v : Nat} (hv : v < n) (w : Nat) : (part rows v).testBit w = true ↔ 0 ≤ far rows v w := by
 have hp : 2 ^ v < 2 ^ n := Nat.pow_lt_pow_right (by omega) hv
 unfold part far
 rw [(pt_bit R w _ _ 0 hp hp (fun _ h => h)).2, Nat.testBit_two_pow, decide_eq_true_eq]
 constructor
 ·rintro (rfl | h)
  ·rw [lev_bit (by simp)]; omega
  ·exact h
 ·exact .inr
theorem l_zz19_1 (h : VH) (n : Nat) (s : Value) (rows : List Int) (hs : Sli h s rows) (R : Rok n rows) (hn : nro ≤ h.length) (met : Nat) (L : List Int) (hL : ∀ y ∈ L, 0 ≤ y ∧ y < n) (hl : L.length ≤ 62) (k j : Nat) (hk : k = L.length - j) (hj : j ≤ L.length) (acc : Nat) (ha : acc < 2 ^ 62) :
    floop (vcall F nro) nro [2, 5, 7, 16, 17, 18] i_zz19_B1 (bx h n s ++ [⟨1, ints L⟩]) [bp h, .int .i64 met, .int .i64 acc, .slice (some ⟨h.length + 1, 0, none⟩) L.length L.length, .int .i64 L.length, .int .i64 j] (bx h n s ++ [⟨1, ints L⟩]) =
      some (.exit 2, fl [(2, bp h), (5, .int .i64 met), (7, .int .i64 ((acc ||| orL rows (L.drop j) : Nat) : Int))], bx h n s ++ [⟨1, ints L⟩]) := by
  have hn' := fun k => Nat.le_trans hn (Nat.le_add_right h.length k)
  have hso := fun k => hs.oldCk (k := k)
  have hle := R.le
  have hlen := R.len
  rw [floop_at i_zz19_B1.eq_1]
  by_cases hlt : j < L.length
  · have hlt' : (j : Int) < L.length := by omega
    obtain ⟨y0, y1⟩ := hL L[j] (List.getElem_mem hlt)
    obtain ⟨y, hy⟩ : ∃ y : Nat, L[j] = y := ⟨L[j].toNat, by omega⟩
    have t1 := take1_ints hlt
    rw [hy] at t1 y1
    obtain ⟨r1, r2⟩ := R.row y (by omega)
    have r3 := le62 hle r2
    have hvl : y < rows.length := by omega
    have vx := fun L => (hs.app L).vidx (k := .i64) (j := (y : Int)) (by omega) (by omega)
    have vl := fun L => (hs.app L).vload hvl
    have hor := ior_nat (a := acc) (b := (rows.getD y 0).toNat) (by omega) (by omega)
    have e1 : (((rows.getD y 0).toNat : Nat) : Int) = rows[y] := by rw [getD_at rows hvl] at r1 ⊢; omega
    rw [e1] at hor
    have ih := l_zz19_1 h n s rows hs R hn met L hL hl (k - 1) (j + 1) (by omega) hlt (acc ||| (rows.getD y 0).toNat) (Nat.or_lt_two_pow ha r3)
    rw [show ((j + 1 : Nat) : Int) = (j : Int) + 1 by omega] at ih
    rw [List.drop_eq_getElem_cons hlt, hy, orL, Int.toNat_natCast, ← Nat.or_assoc]
    obtain ⟨a2, ha2⟩ : ∃ a2, a2 = acc ||| (rows.getD y 0).toNat := ⟨_, rfl⟩
    rw [← ha2] at ih hor ⊢
    obtain ⟨q, hq⟩ : ∃ q, q = orL rows (L.drop (j + 1)) := ⟨_, rfl⟩
    rw [← hq] at ih ⊢
    simp only [List.append_assoc, List.cons_append, List.nil_append] at ih
    clear ha2 hq r1 r2 r3 e1 hk hL
    simp (disch := first | assumption | omega | (simp [*] <;> omega) | fail) [hlt, hlt', t1, vx, vl, hor, ih, hn', hso, wrap64]
  · have hlt' : ¬ (j : Int) < L.length := by omega
    rw [List.drop_eq_nil_of_le (by omega), orL, Nat.or_zero]
    simp (disch := first | assumption | omega | (simp [*] <;> omega) | fail) [hlt, hlt']
 termination_by k
 decreasing_by omega
theorem l_zz19_2 (h : VH) (n : Nat) (s : Value) (rows : List Int) (hs : Sli h s rows) (R : Rok n rows) (hn : nro ≤ h.length) (met f : Nat) (hm : met < 2 ^ n) (hf : f < 2 ^ n) :
    floop (vcall F nro) nro [2, 5, 6] i_zz19_B2 (bx h n s) [bp h, .int .i64 met, .int .i64 f] (bx h n s) = some (.exit 0, fl [(5, .int .i64 (pt rows met f))], bx h n s) := by
  have hn' := fun k => Nat.le_trans hn (Nat.le_add_right h.length k)
  have hso := fun k => hs.oldCk (k := k)
  have hle := R.le
  have hm62 := le62 hle hm
  have hf62 := le62 hle hf
  rw [floop_at i_zz19_B2.eq_1]
  by_cases h0 : f = 0
  · subst h0
    rw [pt_zero]
    simp (disch := first | assumption | omega | (simp [*] <;> omega) | fail) []
  · have h0' : ¬ (f : Int) = 0 := by omega
    rw [pt_step R hm hf h0]
    have hx := nxt_lt R hf
    have hx62 := le62 hle hx
    have hnl := nand_le (nxt rows f) met
    have hc := c_zz79 (nro := nro) f hf62 (bx h n s) (by simp; omega)
    have hlL := bitL_len f
    have lp := l_zz19_1 (nro := nro) h n s rows hs R hn met (bitL f) (bitL_lt hf) hlL (bitL f).length 0 (by omega) (Nat.zero_le _) 0 (by omega)
    rw [List.drop_zero, Nat.zero_or, show orL rows (bitL f) = nxt rows f from rfl] at lp
    have hih := l_zz19_2 h n s rows hs R hn (met ||| nxt rows f) (nand (nxt rows f) met) (Nat.or_lt_two_pow hm hx) (by omega)
    have a1 := iandNot_nat (a := nxt rows f) (b := met) hx62 hm62
    have a2 := ior_nat (a := met) (b := nxt rows f) (by omega) (by omega)
    obtain ⟨q, hq⟩ : ∃ q, q = pt rows (met ||| nxt rows f) (nand (nxt rows f) met) := ⟨_, rfl⟩
    rw [← hq] at hih ⊢
    obtain ⟨x, hxx⟩ : ∃ x, x = nxt rows f := ⟨_, rfl⟩
    rw [← hxx] at lp hih a1 a2
    obtain ⟨z, hz⟩ : ∃ z, z = nand x met := ⟨_, rfl⟩
    rw [← hz] at a1 hih
    obtain ⟨m2, hm2⟩ : ∃ m2, m2 = met ||| x := ⟨_, rfl⟩
    rw [← hm2] at a2 hih
    obtain ⟨Lf, hLf⟩ : ∃ Lf, Lf = bitL f := ⟨_, rfl⟩
    rw [← hLf] at hc lp hlL
    simp only [Int.natCast_zero] at lp
    simp at hc lp
    clear hxx hz hm2 hq hLf hnl hm hf hx hx62
    simp (disch := first | assumption | omega | (simp [*] <;> omega) | fail) [h0, h0', hc, lp, a1, a2, hih, hn, hn', hso]
 termination_by (if f = 0 then 0 else 2 ^ 62 - met + 1)
 decreasing_by
  rw [if_neg h0]
  split
  · omega
  · rename_i hne
    rcases Nat.lt_or_ge met (met ||| nxt rows f) with h1 | h1
    · omega
    · exact absurd (or_or_zero (rows := rows) (by omega)) hne
theorem c_zz19 (n v : Nat) (s : Value) (rows : List Int) (h : VH) (hs : Sli h s rows) (R : Rok n rows) (hv : v < n) (hn : nro ≤ h.length) :
  vcall F nro k_zz19 [gv n s, .int .i64 v] h = some (.int .i64 (part rows v), h) := by
 refine v_zz19 (by simp [i_zz19]) ?_
 rw [fbody_eq]
 have hle := R.le
 have hp : 2 ^ v < 2 ^ n := Nat.pow_lt_pow_right (by omega) hv
 have lp := l_zz19_2 (nro := nro) h n s rows hs R hn (2 ^ v) (2 ^ v) hp hp
 have w2 : ishl .i64 1 (v : Int) = ((2 ^ v : Nat) : Int) := by
  have := ishl_one (b := (v : Int)) (by omega)
  rwa [Int.toNat_natCast] at this
 rw [show pt rows (2 ^ v) (2 ^ v) = part rows v from rfl] at lp
 obtain ⟨q, hq⟩ : ∃ q, q = part rows v := ⟨_, rfl⟩
 rw [← hq] at lp ⊢
 obtain ⟨p, hpp⟩ : ∃ p, p = 2 ^ v := ⟨_, rfl⟩
 rw [← hpp] at lp w2
 clear hq hpp hp
 simp (disch := first | assumption | omega | (simp [*] <;> omega) | fail) [i_zz19, w2, lp]
theorem c_zz82 (n : Nat) (hn : n ≤ 62) (h : VH) : vcall F nro k_zz82 [.int .i64 n] h = some (.int .i64 ((2 ^ n - 1 : Nat) : Int), h) := by
 refine v_zz82 (by simp [i_zz82]) ?_
 rw [fbody_eq]
 have w2 : ishl .i64 1 (n : Int) = ((2 ^ n : Nat) : Int) := by
  have := ishl_one (b := (n : Int)) (by omega)
  rwa [Int.toNat_natCast] at this
 have hp : 2 ^ n ≤ 2 ^ 62 := Nat.pow_le_pow_right (by omega) hn
 have hp0 : 0 < 2 ^ n := Nat.two_pow_pos n
 obtain ⟨p, hpp⟩ : ∃ p, p = 2 ^ n := ⟨_, rfl⟩
 rw [← hpp] at w2 hp hp0 ⊢
 have w1 : IntKind.i64.wrap ((p : Int) - 1) = ((p - 1 : Nat) : Int) := by rw [wrap64 (by omega) (by omega)]; omega
 clear hpp
 simp (disch := first | assumption | omega | (simp [*] <;> omega) | fail) [i_zz82, w2, w1]
end

/- The program's lists of edges and parts. -/
section
open Go
variable {nro : Nat}
def pairL (v : Nat) : List Int → List (List Int)
 | [] => []
 | y :: l => (if (v : Int) < y then [[(v : Int), y]] else []) ++ pairL v l
theorem pairL_len (v : Nat) : ∀ l, (pairL v l).length ≤ l.length
 | [] => Nat.le_refl _
 | y :: l => by
  rw [pairL, List.length_append]
  have := pairL_len v l
  split <;> simp <;> omega
theorem pairL_bitF (rows : List Int) (v n w : Nat) (hw : v < w) : pairL v (bitF (rows.getD v 0).toNat n w) = edgF rows v n w := by
  by_cases h : w < n
  · rw [bitF_step h, edgF_step h, ← pairL_bitF rows v n (w + 1) (by omega)]
    unfold rbit
    by_cases hb : (rows.getD v 0).toNat.testBit w = true
    · rw [if_pos hb, if_pos hb, List.cons_append, List.nil_append, pairL, if_pos (by omega)]
    · rw [if_neg hb, if_neg hb]; rfl
  · rw [bitF_end h, edgF_end h]; rfl
 termination_by n - w
theorem pairL_low (rows : List Int) (v n w : Nat) (hw : w ≤ v + 1) : pairL v (bitF (rows.getD v 0).toNat n w) = pairL v (bitF (rows.getD v 0).toNat n (v + 1)) := by
  by_cases c : w = v + 1
  · rw [c]
  · by_cases h : w < n
    · rw [bitF_step h, ← pairL_low rows v n (w + 1) (by omega)]
      split
      · rw [List.cons_append, List.nil_append, pairL, if_neg (by omega)]; rfl
      · rfl
    · rw [bitF_end h, bitF_end (by omega)]
 termination_by v + 1 - w
theorem pairL_nb {n : Nat} {rows : List Int} (R : Rok n rows) {v : Nat} (hv : v < n) : pairL v (nbL rows v) = edgF rows v n (v + 1) := by
 obtain ⟨_, r2⟩ := R.row v hv
 unfold nbL bitL
 rw [bitF_cut r2 R.le, pairL_low rows v n 0 (by omega), pairL_bitF rows v n (v + 1) (by omega)]
theorem l_zz14_1 (n : Nat) (s : Value) (rows : List Int) (h : VH) (hs : Sli h s rows) (hn : nro ≤ h.length) (R : Rok n rows) (v : Nat) (hv : v < n) (vs0 : List Value) (G0 : VH) (ess0 : List (List Int)) (L : List Int) (hL : L.length ≤ 62) (hg0 : ∃ k, k < G0.length ∧ G0[k]? = some ⟨1, ints L⟩ ∧ k = G0.length - 1) (e0 : EI (h.length + 2) vs0 G0 ess0) (hm : vs0.length ≤ v * 62) :
  ∃ a : List Value × VH, (EI (h.length + 2) a.1 a.2 (ess0 ++ pairL v L) ∧ G0.length ≤ a.2.length) ∧ floop (vcall F nro) nro [1, 3, 4, 9, 10, 18, 19, 20] i_zz14_B1 (eH h n s vs0 G0) [bp h, eq1 h vs0.length, .int .i64 v, .int .i64 n, .int .i64 v, .slice (some ⟨h.length + 2 + (G0.length - 1), 0, none⟩) L.length L.length, .int .i64 L.length, .int .i64 0] (eH h n s vs0 G0) =
   some (.exit 2, fl [(1, bp h), (3, eq1 h a.1.length), (9, .int .i64 n), (10, .int .i64 v)], eH h n s a.1 a.2) := by
 have hle := R.le
 obtain ⟨kk, hk1, hk2, rfl⟩ := hg0
 refine Exists.elim (for_upR (call := vcall F nro) (nro := nro) (live := [1, 3, 4, 9, 10, 18, 19, 20]) (c := i_zz14_B1) (h0 := eH h n s vs0 G0) (n := L.length) (fun j (a : List Value × VH) => [bp h, eq1 h a.1.length, .int .i64 v, .int .i64 n, .int .i64 v, .slice (some ⟨h.length + 2 + (G0.length - 1), 0, none⟩) L.length L.length, .int .i64 L.length, .int .i64 j]) (fun i a => eH h n s a.1 a.2)
  (fun j a => (∃ ess, EI (h.length + 2) a.1 a.2 ess ∧ ess ++ pairL v (L.drop j) = ess0 ++ pairL v L) ∧ G0.length ≤ a.2.length ∧ a.1.length ≤ v * 62 + j ∧ a.2[G0.length - 1]? = some ⟨1, ints L⟩) (fun a => some (.exit 2, fl [(1, bp h), (3, eq1 h a.1.length), (9, .int .i64 n), (10, .int .i64 v)], eH h n s a.1 a.2)) ?_ ?_ 0 (vs0, G0) (Nat.zero_le _) ⟨⟨ess0, e0, rfl⟩, Nat.le_refl _, by simp; omega, hk2⟩) ?_
 ·rintro j ⟨vs, G⟩ hlt hlt0 ⟨⟨ess, e, hess⟩, hG, hm, hgl⟩
  dsimp only at e hG hm hgl ⊢
  rw [floop_at i_zz14_B1.eq_1]
  rw [List.drop_eq_getElem_cons hlt, pairL, ← List.append_assoc] at hess
  obtain ⟨H, hH⟩ : ∃ H, H = eH h n s vs G := ⟨_, rfl⟩
  have hq : H[h.length + 1]? = some ⟨1, vs⟩ := by rw [hH]; simp
  have hbx : H[h.length]? = some ⟨0, [.int .i64 n, s]⟩ := by rw [hH]; simp
  have hql : H[h.length + 2 + (G0.length - 1)]? = some ⟨1, ints L⟩ := by
   rw [hH, Nat.add_assoc, hgetk, show 2 + (G0.length - 1) = (G0.length - 1) + 1 + 1 by omega]
   simp only [List.getElem?_cons_succ]
   exact hgl
  have hHl : H.length = h.length + 2 + G.length := by rw [hH]; simp; omega
  have hnH : nro ≤ H.length := by omega
  have hn2 := fun k => Nat.le_trans hnH (Nat.le_add_right H.length k)
  have hn1 := fun k => Nat.le_trans hn (Nat.le_add_right h.length k)
  have t1 := take1_ints hlt
  obtain ⟨y, hy⟩ : ∃ y, y = L[j] := ⟨_, rfl⟩
  rw [← hy] at t1 hess
  obtain ⟨K, hK⟩ : ∃ K, K = eH h n s vs0 G0 := ⟨_, rfl⟩
  have hold : ∀ m, ∀ x ∈ [bp h, eq1 h m, .int .i64 v, .int .i64 n, .int .i64 v, .slice (some ⟨h.length + 2 + (G0.length - 1), 0, none⟩) L.length L.length, .int .i64 L.length, .int .i64 ((j : Int) + 1)], Old (h.length + 2 + G0.length) x := by
   intro m x hx
   simp at hx
   rcases hx with rfl | rfl | rfl | rfl | rfl | rfl | rfl | rfl <;> intro r hr <;> simp [trefs, vrefs, crefs, arefs] at hr ⊢ <;> omega
  by_cases hb : (v : Int) < y
  ·rw [if_pos hb] at hess
   have b1 : (vs.length + 1) * 24 ≤ 1099511627776 := by omega
   have b2 : vs.length < 1099511627776 := by omega
   have hnew : H.set (h.length + 1) ⟨1, vs ++ [.slice (some ⟨H.length, 0, none⟩) 2 2]⟩ ++ [⟨1, [.int .i64 v, .int .i64 y]⟩, ⟨1, [.slice (some ⟨H.length, 0, none⟩) 2 2]⟩] = eH h n s (vs ++ [.slice (some ⟨h.length + 2 + G.length, 0, none⟩) 2 2]) (G ++ ⟨1, [.int .i64 v, .int .i64 y]⟩ :: [⟨1, [.slice (some ⟨h.length + 2 + G.length, 0, none⟩) 2 2]⟩]) := by
    rw [hHl, hH]; simp
   have e1 := e.push [(v : Int), y] [⟨1, [.slice (some ⟨h.length + 2 + G.length, 0, none⟩) 2 2]⟩]
   obtain ⟨G1, hk, e2, e3, e4⟩ := eH_clean' (n := n) (s := s) e0 e1 (by simp; omega) (hold (vs.length + 1))
   refine ⟨(_, G1), ⟨⟨_, e2, hess⟩, e3, by simp; omega, by dsimp only; rw [e4 _ hk1, List.getElem?_append_left (by omega)]; exact hgl⟩, ?_⟩
   rw [← hK] at hk ⊢
   rw [← hH]
   simp at hk
   simp only [List.length_append, List.length_singleton, List.length_cons, List.length_nil]
   clear hold hHl hH hK e1 e e0 e2 e4 hess hy hk2 hgl
   simp (disch := first | assumption | omega | (simp [*] <;> omega) | fail) [-getElem?_pos, List.getElem?_cons_zero, List.getElem?_cons_succ, hbx, hq, hql, hget_old hq, hset_old hq, hb, wrap64, hlt, hlt0, hn1, hnH, hn2, b1, b2, hnew, hk, t1]
  ·rw [if_neg hb, List.append_nil] at hess
   obtain ⟨G1, hk, e2, e3, e4⟩ := eH_clean' (n := n) (s := s) e0 e hG (hold vs.length)
   refine ⟨(vs, G1), ⟨⟨_, e2, hess⟩, e3, by simp; omega, by dsimp only; rw [e4 _ hk1]; exact hgl⟩, ?_⟩
   rw [← hK, ← hH] at hk
   rw [← hK, ← hH]
   clear hold hHl hH hK e e0 e2 e4 hess hy hk2 hgl
   simp (disch := first | assumption | omega | (simp [*] <;> omega) | fail) [-getElem?_pos, List.getElem?_cons_zero, List.getElem?_cons_succ, hbx, hq, hql, hb, wrap64, hlt, hlt0, hnH, hn2, hk, t1]
 ·rintro ⟨vs, G⟩ ⟨_, _, _, hgl⟩
  dsimp only at hgl
  have hql : (eH h n s vs G)[h.length + 2 + (G0.length - 1)]? = some ⟨1, ints L⟩ := by
   rw [Nat.add_assoc, hgetk, show 2 + (G0.length - 1) = (G0.length - 1) + 1 + 1 by omega]
   simp only [List.getElem?_cons_succ]
   exact hgl
  obtain ⟨H, hH⟩ : ∃ H, H = eH h n s vs G := ⟨_, rfl⟩
  rw [← hH] at hql ⊢
  rw [floop_at i_zz14_B1.eq_1]
  clear hH
  simp (disch := first | assumption | omega | (simp [*] <;> omega) | fail) [-getElem?_pos, List.getElem?_cons_zero, List.getElem?_cons_succ, hql]
 ·rintro a ⟨⟨⟨ess, k1, k2⟩, k3, k4⟩, h2⟩
  rw [List.drop_length, pairL, List.append_nil] at k2
  rw [k2] at k1
  exact ⟨a, ⟨k1, k3⟩, h2⟩
theorem l_zz14_2 (n : Nat) (s : Value) (rows : List Int) (h : VH) (hs : Sli h s rows) (hn : nro ≤ h.length) (R : Rok n rows) :
  ∃ a : List Value × VH, EI (h.length + 2) a.1 a.2 (edgesF rows n 0) ∧ floop (vcall F nro) nro [1, 3, 9, 10] i_zz14_B2 (eH h n s [] []) [bp h, eq1 h 0, .int .i64 n, .int .i64 0] (eH h n s [] []) =
   some (.exit 0, fl [(3, eq1 h a.1.length)], eH h n s a.1 a.2) := by
 have hle := R.le
 have hlen := R.len
 refine Exists.elim (for_upR (call := vcall F nro) (nro := nro) (live := [1, 3, 9, 10]) (c := i_zz14_B2) (h0 := eH h n s [] []) (n := n) (fun i (a : List Value × VH) => [bp h, eq1 h a.1.length, .int .i64 n, .int .i64 i]) (fun i a => eH h n s a.1 a.2)
  (fun i a => (∃ ess, EI (h.length + 2) a.1 a.2 ess ∧ ess ++ edgesF rows n i = edgesF rows n 0) ∧ a.1.length ≤ i * 62) (fun a => some (.exit 0, fl [(3, eq1 h a.1.length)], eH h n s a.1 a.2)) ?_ ?_ 0 ([], []) (by omega) ⟨⟨[], EI.nil _ _, rfl⟩, by simp⟩) ?_
 ·rintro v ⟨vs, G⟩ hlt hlt0 ⟨⟨ess, e, hess⟩, hm⟩
  dsimp only at e hm ⊢
  obtain ⟨H, hH⟩ : ∃ H, H = eH h n s vs G := ⟨_, rfl⟩
  have hHl : H.length = h.length + 2 + G.length := by rw [hH]; simp; omega
  have hvl : v < rows.length := by omega
  have hsH : Sli H s rows := by rw [hH]; exact hs.app _
  have hc := c_impl_listRow (nro := nro) n v rows R hlt H (by omega)
  have vx := hsH.vidx (k := .i64) (j := (v : Int)) (by omega) (by omega)
  have vl := hsH.vload hvl
  have hbL : (nbL rows v).length ≤ 62 := bitL_len _
  have e' := e.more [⟨1, ints (nbL rows v)⟩]
  obtain ⟨⟨vs1, G1⟩, ⟨i2, i3⟩, i1⟩ := l_zz14_1 (nro := nro) n s rows h hs hn R v hlt vs (G ++ [⟨1, ints (nbL rows v)⟩]) ess (nbL rows v) hbL ⟨G.length, by simp, by simp, by simp⟩ e' hm
  dsimp only at i1 i2 i3
  have e1 : eH h n s vs (G ++ [⟨1, ints (nbL rows v)⟩]) = H ++ [⟨1, ints (nbL rows v)⟩] := by rw [hH]; simp
  have e2 : h.length + 2 + ((G ++ [(⟨1, ints (nbL rows v)⟩ : VO)]).length - 1) = H.length := by rw [hHl]; simp
  rw [e1, e2] at i1
  have i4 : vs1.length ≤ (v + 1) * 62 := by
   have := i2.len
   have := e.len
   have := pairL_len v (nbL rows v)
   simp at *
   omega
  rw [pairL_nb R hlt] at i2
  have hold : ∀ x ∈ [bp h, eq1 h vs1.length, .int .i64 n, .int .i64 ((v : Int) + 1)], Old (h.length + 2 + ([] : VH).length) x := by
   intro x hx
   simp at hx
   rcases hx with rfl | rfl | rfl | rfl <;> intro r hr <;> simp [trefs, vrefs, crefs, arefs] at hr ⊢ <;> omega
  obtain ⟨G2, hk, e2, e3⟩ := eH_clean (n := n) (s := s) (EI.nil (h.length + 2) []) i2 (by simp) hold
  rw [edgesF_step hlt, ← List.append_assoc] at hess
  refine ⟨(vs1, G2), ⟨⟨_, e2, hess⟩, i4⟩, ?_⟩
  rw [floop_at i_zz14_B2.eq_1]
  obtain ⟨K, hK⟩ : ∃ K, K = eH h n s [] [] := ⟨_, rfl⟩
  obtain ⟨H1, hH1⟩ : ∃ H1, H1 = eH h n s vs1 G1 := ⟨_, rfl⟩
  have hbx : H[h.length]? = some ⟨0, [.int .i64 n, s]⟩ := by rw [hH]; simp
  obtain ⟨L, hLL⟩ : ∃ L, L = nbL rows v := ⟨_, rfl⟩
  rw [← hLL] at hc i1
  rw [← hK, ← hH1] at hk
  rw [← hH1] at i1
  rw [← hK, ← hH]
  clear hold hH hH1 hK e e2 i2 hess e1 e' hLL hHl i3 hbL
  try simp at i1
  simp (disch := first | assumption | omega | (simp [*] <;> omega) | fail) [-getElem?_pos, List.getElem?_cons_zero, List.getElem?_cons_succ, hbx, wrap64, hlt, hlt0, vx, vl, hc, i1, hk]
 ·rintro ⟨vs, G⟩ _
  rw [floop_at i_zz14_B2.eq_1]
  simp (disch := first | assumption | omega | (simp [*] <;> omega) | fail) []
 ·rintro a ⟨⟨⟨ess, k1, k2⟩, _⟩, h2⟩
  rw [edgesF_end (by omega), List.append_nil] at k2
  rw [k2] at k1
  exact ⟨a, k1, h2⟩
theorem c_zz14 (n : Nat) (s : Value) (rows : List Int) (h : VH) (hs : Sli h s rows) (hn : nro ≤ h.length) (R : Rok n rows) :
  ∃ v M, vcall F nro k_zz14 [gv n s] h = some (v, h ++ M) ∧ SL2 h.length M v (edgesF rows n 0) := by
 have hn' := fun k => Nat.le_trans hn (Nat.le_add_right h.length k)
 obtain ⟨⟨vs', G'⟩, l2, l1⟩ := l_zz14_2 (nro := nro) n s rows h hs hn R
 obtain ⟨v, M, k1, k2⟩ := EI.fin1 (h := h) (pre := [⟨0, [.int .i64 n, s]⟩]) l2
 refine ⟨v, M, ?_, k2⟩
 refine v_zz14 (by simp [i_zz14]) ?_
 rw [fbody_eq]
 simp at l1 k1
 simp (disch := first | assumption | omega | (simp [*] <;> omega) | fail) [i_zz14, l1, hn', k1]
def low (x : Nat) : Nat := ((bitL x).getD 0 0).toNat
theorem low_bit {x n : Nat} (h0 : x ≠ 0) (hx : x < 2 ^ n) (hn : n ≤ 62) : 0 < (bitL x).length ∧ (bitL x).getD 0 0 = (low x : Int) ∧ x.testBit (low x) = true ∧ low x < n ∧ ∀ w, w < low x → x.testBit w = false := by
 obtain ⟨i, q, hq⟩ := low_form x h0
 have hl : LowAt x i := ⟨q, hq⟩
 have e := bitL_low hl (le62 hn hx)
 have e1 : (bitL x).getD 0 0 = (i : Int) := by rw [e]; rfl
 have e2 : low x = i := by unfold low; rw [e1]; simp
 have hm : (i : Int) ∈ bitL x := by rw [e]; exact List.mem_cons_self ..
 have h1 := ((bitL_mem x i).mp hm).2.2
 rw [Int.toNat_natCast] at h1
 have h2 := bitL_lt hx i hm
 refine ⟨by rw [e]; simp, by rw [e2]; exact e1, by rw [e2]; exact h1, by omega, fun w hw => ?_⟩
 rw [e2] at hw
 rw [hq, Nat.testBit_two_pow_mul]
 simp
 omega
theorem nand_lt {x S b : Nat} (h1 : x.testBit b = true) (h2 : S.testBit b = true) : nand x S < x := by
 have h3 := nand_le x S
 have h4 : nand x S ≠ x := by
  intro e
  have := nand_bit x S b
  rw [e, h1, h2] at this
  cases this
 omega
def partsF (rows : List Int) (left : Nat) : List (List Int) :=
  if h : left ≠ 0 ∧ nand left (part rows (low left)) < left then bitL (part rows (low left)) :: partsF rows (nand left (part rows (low left))) else []
 termination_by left
 decreasing_by exact h.2
theorem partsF_zero (rows : List Int) : partsF rows 0 = [] := by rw [partsF, dif_neg (fun h => h.1 rfl)]
theorem partsF_step {n : Nat} {rows : List Int} (R : Rok n rows) {left : Nat} (h0 : left ≠ 0) (hl : left < 2 ^ n) : partsF rows left = bitL (part rows (low left)) :: partsF rows (nand left (part rows (low left))) ∧ nand left (part rows (low left)) < left := by
 obtain ⟨_, _, h1, h2, _⟩ := low_bit h0 hl R.le
 have h3 : (part rows (low left)).testBit (low left) = true := (part_bit R h2 _).mpr (by rw [far_self R h2]; omega)
 have h4 := nand_lt h1 h3
 refine ⟨?_, h4⟩
 conv => lhs; rw [partsF]
 rw [dif_pos ⟨h0, h4⟩]
theorem bitL_nand_lt {left S b n : Nat} (p3 : left.testBit b = true) (hSb : S.testBit b = true) (hle : n ≤ 62) (hl : left < 2 ^ n) : (bitL (nand left S)).length + 1 ≤ (bitL left).length := by
 have hbn := bit_lt hl p3
 have key : ∀ (w : Nat), w ≤ 62 → (bitF (nand left S) 62 w).length + (if w ≤ b then 1 else 0) ≤ (bitF left 62 w).length := by
  intro w hw
  obtain ⟨k, hk⟩ : ∃ k, k = 62 - w := ⟨_, rfl⟩
  induction k generalizing w with
  | zero =>
   have : w = 62 := by omega
   subst this
   rw [bitF_end (by omega), bitF_end (by omega), if_neg (by omega)]
   simp
  | succ k ih =>
   have hw2 : w < 62 := by omega
   have := ih (w + 1) (by omega) (by omega)
   rw [bitF_step hw2, bitF_step hw2, nand_bit]
   by_cases c : w = b
   ·subst c
    rw [hSb, p3]
    simp at this ⊢
    omega
   ·by_cases c2 : left.testBit w = true
    ·rw [c2]
     simp only [Bool.true_and, if_true, List.length_append]
     have e : (w ≤ b) ↔ (w + 1 ≤ b) := by omega
     simp only [e]
     obtain ⟨z, hz⟩ : ∃ z, z = (if w + 1 ≤ b then 1 else 0) := ⟨_, rfl⟩
     rw [← hz] at this ⊢
     clear hz
     split <;> simp <;> omega
    ·have c2' : left.testBit w = false := by simpa using c2
     rw [c2']
     have e : (w ≤ b) ↔ (w + 1 ≤ b) := by omega
     simp only [e]
     simpa using this
 have := key 0 (by omega)
 rw [if_pos (Nat.zero_le _)] at this
 exact this
theorem l_zz16 (n : Nat) (s : Value) (rows : List Int) (h : VH) (hs : Sli h s rows) (hn : nro ≤ h.length) (R : Rok n rows) (left : Nat) (hl : left < 2 ^ n) (vs : List Value) (G : VH) (ess : List (List Int)) (e : EI (h.length + 2) vs G ess) (m : Nat) (hm : vs.length + m ≤ n) (hc : (bitL left).length ≤ m) :
    ∃ vs' G', floop (vcall F nro) nro [1, 3, 4] i_zz16_B1 (eH h n s [] []) [bp h, eq1 h vs.length, .int .i64 left] (eH h n s vs G) =
      some (.exit 0, fl [(3, eq1 h vs'.length)], eH h n s vs' G') ∧ EI (h.length + 2) vs' G' (ess ++ partsF rows left) := by
  have hle := R.le
  rw [floop_at i_zz16_B1.eq_1]
  by_cases h0 : left = 0
  · subst h0
    refine ⟨vs, G, ?_, by rw [partsF_zero, List.append_nil]; exact e⟩
    simp (disch := first | assumption | omega | (simp [*] <;> omega) | fail) []
  · obtain ⟨p1, p2, p3, p4, _⟩ := low_bit h0 hl hle
    obtain ⟨ps, pd⟩ := partsF_step R h0 hl
    obtain ⟨S, hS⟩ : ∃ S, S = part rows (low left) := ⟨_, rfl⟩
    have hSl := part_lt R p4
    have hSb : S.testBit (low left) = true := by rw [hS]; exact (part_bit R p4 _).mpr (by rw [far_self R p4]; omega)
    rw [← hS] at ps pd hSl
    obtain ⟨H, hH⟩ : ∃ H, H = eH h n s vs G := ⟨_, rfl⟩
    have hHl : H.length = h.length + 2 + G.length := by rw [hH]; simp; omega
    have hnH : nro ≤ H.length := by omega
    have hq : H[h.length + 1]? = some ⟨1, vs⟩ := by rw [hH]; simp
    have hbx : H[h.length]? = some ⟨0, [.int .i64 n, s]⟩ := by rw [hH]; simp
    have hsH : Sli H s rows := by rw [hH]; exact hs.app _
    have c1 := c_zz79 (nro := nro) left (le62 hle hl) H hnH
    have c2 := c_zz19 (nro := nro) n (low left) s rows (H ++ [⟨1, ints (bitL left)⟩]) (hsH.app _) R p4 (by simp; omega)
    rw [← hS] at c2
    have c3 := c_zz79 (nro := nro) S (le62 hle hSl) (H ++ [⟨1, ints (bitL left)⟩]) (by simp; omega)
    have a1 := iandNot_nat (a := left) (b := S) (le62 hle hl) (le62 hle hSl)
    have t0 := take1_ints p1
    rw [← getD_at (bitL left) p1, p2, List.drop_zero] at t0
    have hn2 := fun k => Nat.le_trans hnH (Nat.le_add_right H.length k)
    have hn1 := fun k => Nat.le_trans hn (Nat.le_add_right h.length k)
    have e1 := ((e.more [⟨1, ints (bitL left)⟩]).push (bitL S) [⟨1, [.slice (some ⟨h.length + 2 + (G ++ [(⟨1, ints (bitL left)⟩ : VO)]).length, 0, none⟩) (bitL S).length (bitL S).length]⟩])
    have hold : ∀ m, ∀ x ∈ [bp h, eq1 h m, .int .i64 (nand left S)], Old (h.length + 2 + ([] : VH).length) x := by
      intro m x hx
      simp at hx
      rcases hx with rfl | rfl | rfl <;> intro r hr <;> simp [trefs, vrefs, crefs, arefs] at hr ⊢ <;> omega
    obtain ⟨G1, hk, e2, e3⟩ := eH_clean (n := n) (s := s) (EI.nil (h.length + 2) []) e1 (by simp) (hold (vs.length + 1))
    have hless := bitL_nand_lt p3 hSb hle hl
    have hih := l_zz16 n s rows h hs hn R (nand left S) (Nat.lt_trans pd hl) _ G1 _ e2 (m - 1) (by simp; omega) (by omega)
    obtain ⟨vs', G', i1, i2⟩ := hih
    rw [ps, show ess ++ bitL S :: partsF rows (nand left S) = (ess ++ [bitL S]) ++ partsF rows (nand left S) by simp]
    refine ⟨vs', G', ?_, i2⟩
    have b1 : (vs.length + 1) * 24 ≤ 1099511627776 := by omega
    have b2 : vs.length < 1099511627776 := by omega
    have h0' : ¬ (left : Int) = 0 := by omega
    have hnew : H.set (h.length + 1) ⟨1, vs ++ [.slice (some ⟨H.length + 1, 0, none⟩) (bitL S).length (bitL S).length]⟩ ++ [⟨1, ints (bitL left)⟩, ⟨1, ints (bitL S)⟩, ⟨1, [.slice (some ⟨H.length + 1, 0, none⟩) (bitL S).length (bitL S).length]⟩] = eH h n s (vs ++ [.slice (some ⟨h.length + 2 + (G ++ [(⟨1, ints (bitL left)⟩ : VO)]).length, 0, none⟩) (bitL S).length (bitL S).length]) (G ++ [⟨1, ints (bitL left)⟩] ++ ⟨1, ints (bitL S)⟩ :: [⟨1, [.slice (some ⟨h.length + 2 + (G ++ [(⟨1, ints (bitL left)⟩ : VO)]).length, 0, none⟩) (bitL S).length (bitL S).length]⟩]) := by
      rw [hHl, hH]; simp [Nat.add_assoc]
    obtain ⟨K, hK⟩ : ∃ K, K = eH h n s [] [] := ⟨_, rfl⟩
    rw [← hK] at hk i1 ⊢
    rw [← hH]
    obtain ⟨Ls, hLs⟩ : ∃ Ls, Ls = bitL S := ⟨_, rfl⟩
    obtain ⟨Ll, hLl⟩ : ∃ Ll, Ll = bitL left := ⟨_, rfl⟩
    rw [← hLs] at c3 hnew hk i1
    rw [← hLl] at c1 c2 c3 t0 hnew hk p1 i1
    obtain ⟨Hn, hHn⟩ : ∃ Hn, Hn = eH h n s (vs ++ [.slice (some ⟨h.length + 2 + (G ++ [(⟨1, ints Ll⟩ : VO)]).length, 0, none⟩) Ls.length Ls.length]) (G ++ [⟨1, ints Ll⟩] ++ ⟨1, ints Ls⟩ :: [⟨1, [.slice (some ⟨h.length + 2 + (G ++ [(⟨1, ints Ll⟩ : VO)]).length, 0, none⟩) Ls.length Ls.length]⟩]) := ⟨_, rfl⟩
    rw [← hHn] at hnew hk
    simp only [List.length_append, List.length_singleton, List.length_cons, List.length_nil, Nat.zero_add] at hk i1
    clear hold hHl hH hK e1 e e2 ps hLs hLl hHn hS hSb hless hc hsH i2
    simp at c3
    simp (disch := first | assumption | omega | (simp [*] <;> omega) | fail) [-getElem?_pos, List.getElem?_cons_zero, List.getElem?_cons_succ, hbx, hq, hget_old hbx, hget_old hq, hset_old hq, h0, h0', p1, c1, c2, c3, t0, a1, hn1, hnH, hn2, b1, b2, hnew, hk, i1]
 termination_by left
 decreasing_by rw [hS]; exact pd
theorem all_lt (n : Nat) : 2 ^ n - 1 < 2 ^ n := by have := Nat.two_pow_pos n; omega
theorem c_zz16 (n : Nat) (s : Value) (rows : List Int) (h : VH) (hs : Sli h s rows) (hn : nro ≤ h.length) (R : Rok n rows) :
  ∃ v M, vcall F nro k_zz16 [gv n s] h = some (v, h ++ M) ∧ SL2 h.length M v (partsF rows (2 ^ n - 1)) := by
 have hn' := fun k => Nat.le_trans hn (Nat.le_add_right h.length k)
 have hle := R.le
 have hbl : (bitL (2 ^ n - 1)).length ≤ n := by
  have key : ∀ (w : Nat), w ≤ n → (bitF (2 ^ n - 1) n w).length ≤ n - w := by
   intro w hw
   obtain ⟨k, hk⟩ : ∃ k, k = n - w := ⟨_, rfl⟩
   induction k generalizing w with
   | zero => rw [bitF_end (by omega)]; simp
   | succ k ih =>
    have := ih (w + 1) (by omega) (by omega)
    rw [bitF_step (by omega)]
    split <;> simp <;> omega
  unfold bitL
  rw [bitF_cut (all_lt n) hle]
  exact key 0 (Nat.zero_le _)
 obtain ⟨vs', G', l1, l2⟩ := l_zz16 (nro := nro) n s rows h hs hn R (2 ^ n - 1) (all_lt n) [] [] [] (EI.nil _ _) n (by simp) hbl
 rw [List.nil_append] at l2
 obtain ⟨v, M, k1, k2⟩ := EI.fin1 (h := h) (pre := [⟨0, [.int .i64 n, s]⟩]) l2
 refine ⟨v, M, ?_, k2⟩
 refine v_zz16 (by simp [i_zz16]) ?_
 rw [fbody_eq]
 have ha := c_zz82 (nro := nro) n hle (h ++ [⟨0, [.int .i64 n, s]⟩, ⟨1, []⟩])
 obtain ⟨p, hp⟩ : ∃ p, p = 2 ^ n - 1 := ⟨_, rfl⟩
 rw [← hp] at l1 ha
 simp at l1 k1
 clear hp k2 l2 hbl
 simp (disch := first | assumption | omega | (simp [*] <;> omega) | fail) [i_zz16, ha, l1, hn', k1]
end

/- Bipartite graphs, graphs at a distance, halves. -/
section
open Go
variable {nro : Nat}
theorem edges_shape {n : Nat} {rows : List Int} {e : List Int} (he : e ∈ edgesF rows n 0) : ∃ u w : Nat, u < w ∧ w < n ∧ rbit rows u w = true ∧ e = [(u : Int), (w : Int)] := by
 obtain ⟨u, w, _, h2, h3, h4, h5⟩ := (edgesF_mem rows n 0 e).mp he
 exact ⟨u, w, h2, h3, h4, h5⟩
theorem getD_list {ess : List (List Int)} {i : Nat} (hi : i < ess.length) : ess.getD i [] = ess[i] := by
 rw [List.getD_eq_getElem?_getD, List.getElem?_eq_getElem hi]; rfl
def joins (v w x y : Nat) : Prop := (x = v ∧ y = w) ∨ (x = w ∧ y = v)
end

/- The reference's list of neighbours. -/
section
open Go
variable {nro : Nat}
theorem l_zz10 (n : Int) (s : Value) (rows : List Int) (h : VH) (hs : Sli h s rows) (hn : nro ≤ h.length) (g : GV n rows) (v : Int) (hv : 0 ≤ v) (hvn : v < n) (y0 : List Int) (w : Nat) (hw : w ≤ n.toNat) (ys : List Int) (hy : ys.length ≤ w) :
    floop (vcall F nro) nro [1, 2, 5, 6] i_zz10_B1 (bx h n s ++ [⟨1, ints y0⟩]) [.int .i64 v, bp h, .slice (some ⟨h.length + 1, 0, none⟩) ys.length ys.length, .int .i64 w] (bx h n s ++ [⟨1, ints ys⟩]) =
      some (.exit 0, fl [(5, .slice (some ⟨h.length + 1, 0, none⟩) (ys ++ nbF rows v.toNat n.toNat w).length (ys ++ nbF rows v.toNat n.toNat w).length)], bx h n s ++ [⟨1, ints (ys ++ nbF rows v.toNat n.toNat w)⟩]) := by
  have hn' := fun k => Nat.le_trans hn (Nat.le_add_right h.length k)
  have hsc := fun k => hs.oldCk (k := k)
  have hlen := g.len
  have hp := pow_le62 g.hi
  have g0 := g.hi
  obtain ⟨g1, g2, _⟩ := g.row v.toNat (by omega)
  rw [floop_at i_zz10_B1.eq_1]
  by_cases hlt : w < n.toNat
  · have hlt' : (w : Int) < n := by omega
    have hc := fun L => c_zz68' (nro := nro) n v w s rows (h ++ L) (hs.app _) hv (by omega) (by omega) (by omega) g1 (by omega)
    rw [nbF_step hlt]
    by_cases hb : rbit rows v.toNat w = true
    · have ih := l_zz10 n s rows h hs hn g v hv hvn y0 (w + 1) (by omega) (ys ++ [(w : Int)]) (by simp; omega)
      rw [show ((w + 1 : Nat) : Int) = (w : Int) + 1 by omega] at ih
      rw [if_pos hb]
      simp at ih
      have b1 : (ys.length + 1) * 8 ≤ 1099511627776 := by omega
      have b2 : ys.length < 1099511627776 := by omega
      simp (disch := first | assumption | omega | (simp [*] <;> omega) | fail) [wrap64, hlt', hc, hb, hn', ih, hsc, b1, b2, ints_snoc]
    · have ih := l_zz10 n s rows h hs hn g v hv hvn y0 (w + 1) (by omega) ys (by omega)
      rw [show ((w + 1 : Nat) : Int) = (w : Int) + 1 by omega] at ih
      rw [if_neg hb]
      simp at ih
      simp (disch := first | assumption | omega | (simp [*] <;> omega) | fail) [wrap64, hlt', hc, hb, hn', ih, hsc]
  · have hlt' : ¬ (w : Int) < n := by omega
    rw [nbF_end hlt]
    simp (disch := first | assumption | omega | (simp [*] <;> omega) | fail) [hlt']
 termination_by n.toNat - w
theorem c_zz10 (n : Int) (s : Value) (rows : List Int) (h : VH) (hs : Sli h s rows) (hn : nro ≤ h.length) (g : GV n rows) (v : Int) (hv : 0 ≤ v) (hvn : v < n) :
  vcall F nro k_zz10 [gv n s, .int .i64 v] h = some (.slice (some ⟨h.length, 0, none⟩) (nb rows v.toNat n.toNat).length (nb rows v.toNat n.toNat).length, h ++ [⟨1, ints (nb rows v.toNat n.toNat)⟩]) := by
 refine v_zz10 (by simp [i_zz10]) ?_
 rw [fbody_eq]
 have hl := l_zz10 (nro := nro) n s rows h hs hn g v hv hvn [] 0 (by omega) [] (by simp)
 simp at hl
 unfold nb
 simp (disch := first | assumption | omega | (simp [*] <;> omega) | fail) [i_zz10, hl]
end

/- The reference's leaders: the least vertex of each one's part. -/
section
open Go
variable {nro : Nat}
def cnn (rows : List Int) (v w : Nat) : Prop := ∃ k, Wk rows k v w
section
variable {n : Nat} {rows : List Int}
theorem cnn_refl (v : Nat) : cnn rows v v := ⟨0, rfl⟩
theorem cnn_trans {a b c : Nat} (h1 : cnn rows a b) (h2 : cnn rows b c) : cnn rows a c := by
 obtain ⟨k, h1⟩ := h1
 obtain ⟨m, h2⟩ := h2
 exact ⟨k + m, h1.comp m c h2⟩
theorem cnn_symm (hs : ∀ v w, rbit rows v w = true → rbit rows w v = true) {a b : Nat} (h : cnn rows a b) : cnn rows b a := by
 obtain ⟨k, h⟩ := h
 exact ⟨k, Wk.symm hs k a b h⟩
theorem cnn_step {a b : Nat} (h : rbit rows a b = true) : cnn rows a b := ⟨1, a, rfl, h⟩
theorem cnn_far (R : Rok n rows) {v : Nat} (hv : v < n) (w : Nat) : 0 ≤ far rows v w ↔ cnn rows v w := by
 rcases far_dist R hv w with ⟨h1, h2⟩ | ⟨d, h1, h2, _⟩
 ·exact ⟨fun h => by omega, fun ⟨k, hk⟩ => absurd hk (h2 k)⟩
 ·exact ⟨fun _ => ⟨d, h2⟩, fun _ => by omega⟩
theorem part_cnn (R : Rok n rows) {v : Nat} (hv : v < n) (w : Nat) : (part rows v).testBit w = true ↔ cnn rows v w := by
 rw [part_bit R hv, cnn_far R hv]
def lead (rows : List Int) (v : Nat) : Nat := low (part rows v)
theorem lead_spec (R : Rok n rows) {v : Nat} (hv : v < n) : cnn rows v (lead rows v) ∧ lead rows v < n ∧ lead rows v ≤ v ∧ ∀ w, cnn rows v w → lead rows v ≤ w := by
 have h0 : part rows v ≠ 0 := by
  intro h
  have := (part_cnn R hv v).mpr (cnn_refl v)
  rw [h] at this
  simp at this
 obtain ⟨_, _, h1, h2, h3⟩ := low_bit h0 (part_lt R hv) R.le
 have h4 : ∀ w, cnn rows v w → lead rows v ≤ w := by
  intro w hw
  rcases Nat.lt_or_ge w (lead rows v) with h | h
  ·have := h3 w h
   rw [(part_cnn R hv w).mpr hw] at this
   cases this
  ·exact h
 exact ⟨(part_cnn R hv _).mp h1, h2, h4 v (cnn_refl v), h4⟩
theorem lead_eq (R : Rok n rows) (hs : ∀ v w, rbit rows v w = true → rbit rows w v = true) {v w : Nat} (hv : v < n) (hw : w < n) : lead rows v = lead rows w ↔ cnn rows v w := by
 obtain ⟨a1, a2, a3, a4⟩ := lead_spec R hv
 obtain ⟨b1, b2, b3, b4⟩ := lead_spec R hw
 constructor
 ·intro h
  rw [h] at a1
  exact cnn_trans a1 (cnn_symm hs b1)
 ·intro h
  have h1 := a4 _ (cnn_trans h b1)
  have h2 := b4 _ (cnn_trans (cnn_symm hs h) a1)
  omega
theorem cnn_lt (R : Rok n rows) {v w : Nat} (hv : v < n) (h : cnn rows v w) : w < n := by
 obtain ⟨k, h⟩ := h
 cases k with
 | zero => cases h; exact hv
 | succ k =>
  obtain ⟨c, _, h2⟩ := h
  exact (rbit_lt R h2).2
end
structure FI (rows : List Int) (n v : Nat) (g0 g : Nat → Int) (q : List Int) : Prop where
 que : ∀ j, j < q.length → 0 ≤ q.getD j 0 ∧ q.getD j 0 < n ∧ g (q.getD j 0).toNat = v ∧ cnn rows v (q.getD j 0).toNat
 cnt : q.length + unm g n ≤ n
 old : ∀ w, w < n → 0 ≤ g0 w → g w = g0 w
 new : ∀ w, w < n → g w = g0 w ∨ (g w = v ∧ cnn rows v w)
 vis : ∀ w, w < n → cnn rows v w → 0 ≤ g w → ∃ j, j < q.length ∧ q.getD j 0 = w
theorem FI.len {rows : List Int} {n v : Nat} {g0 g : Nat → Int} {q : List Int} (h : FI rows n v g0 g q) : q.length ≤ n := by have := h.cnt; omega
theorem FI.put {rows : List Int} {n v : Nat} {g0 g : Nat → Int} {q : List Int} (h : FI rows n v g0 g q) {y : Nat} (hy : y < n) (hg : g y < 0) (hc : cnn rows v y) : FI rows n v g0 (upd g y v) (q ++ [(y : Int)]) := by
 have hg0 : ¬ 0 ≤ g0 y := fun h0 => by have := h.old y hy h0; omega
 refine ⟨fun j hj => ?_, ?_, fun w hw h0 => ?_, fun w hw => ?_, fun w hw hcw h0 => ?_⟩
 ·simp only [List.length_append, List.length_singleton] at hj
  by_cases e : j < q.length
  ·rw [getD_app1 e]
   obtain ⟨h1, h2, h3, h4⟩ := h.que j e
   refine ⟨h1, h2, ?_, h4⟩
   rw [upd_ne]
   ·exact h3
   ·intro e2
    rw [e2] at h3
    omega
  ·have : j = q.length := by omega
   subst this
   rw [getD_app2, Int.toNat_natCast]
   exact ⟨by omega, by omega, upd_same _ _ _, hc⟩
 ·have := unm_upd (g := g) (y := y) (e := (v : Int)) hg (by omega) hy
  have := h.cnt
  simp only [List.length_append, List.length_singleton]
  omega
 ·rw [upd_ne (by rintro rfl; exact hg0 h0)]
  exact h.old w hw h0
 ·by_cases e : w = y
  ·subst e; exact .inr ⟨upd_same _ _ _, hc⟩
  ·rw [upd_ne e]; exact h.new w hw
 ·by_cases e : w = y
  ·subst e
   exact ⟨q.length, by simp, getD_app2⟩
  ·rw [upd_ne e] at h0
   obtain ⟨j, h1, h2⟩ := h.vis w hw hcw h0
   exact ⟨j, by simp; omega, by rw [getD_app1 h1]; exact h2⟩
abbrev leH (h : VH) (n : Int) (s : Value) (N : Nat) (g : Nat → Int) : VH := h ++ [⟨0, [.int .i64 n, s]⟩, ⟨1, ints (tbl N g)⟩]
theorem l_zz26_1 (h : VH) (n : Nat) (s : Value) (hso : ∀ k, OldC (h.length + k) s) (hle : n ≤ 62) (hn : nro ≤ h.length) :
  floop (vcall F nro) nro [1, 3, 4] i_zz26_B1 (h ++ [⟨0, [.int .i64 n, s]⟩, ⟨1, []⟩]) [bp h, .slice (some ⟨h.length + 1, 0, none⟩) 0 0, .int .i64 0] (h ++ [⟨0, [.int .i64 n, s]⟩, ⟨1, []⟩]) =
   some (.exit 0, fl [(1, bp h), (3, .slice (some ⟨h.length + 1, 0, none⟩) n n)], leH h n s n (fun _ => -1)) := by
 have hn' := fun k => Nat.le_trans hn (Nat.le_add_right h.length k)
 have key := for_up (call := vcall F nro) (nro := nro) (live := [1, 3, 4]) (c := i_zz26_B1) (h0 := h ++ [⟨0, [.int .i64 n, s]⟩, ⟨1, []⟩]) (n := n) (fun i (_ : Unit) => [bp h, .slice (some ⟨h.length + 1, 0, none⟩) i i, .int .i64 i]) (fun i _ => leH h n s i fun _ => -1) (fun _ a => a) (fun _ _ => True)
  (fun _ => some (.exit 0, fl [(1, bp h), (3, .slice (some ⟨h.length + 1, 0, none⟩) n n)], leH h n s n (fun _ => -1))) ?_ ?_ 0 () (Nat.zero_le _) trivial
 ·exact key.1
 ·intro i _ hi hi2 _
  refine ⟨trivial, ?_⟩
  have e : ints (tbl i fun _ => -1) ++ [Value.int .i64 (-1)] = ints (tbl (i + 1) fun _ => -1) := by
   rw [← tbl_snoc]; simp [ints]
  have b1 : (i + 1) * 8 ≤ 1099511627776 := by omega
  have b2 : i < 1099511627776 := by omega
  rw [floop_at i_zz26_B1.eq_1]
  simp (disch := first | assumption | omega | (simp [*] <;> omega) | fail) [hi, hi2, hn', hso, b1, b2, e, wrap64]
 ·intro _ _
  rw [floop_at i_zz26_B1.eq_1]
  simp (disch := first | assumption | omega | (simp [*] <;> omega) | fail) []
def lqH (h : VH) (n : Int) (s : Value) (N : Nat) (g : Nat → Int) (q : List Int) : VH := h ++ [⟨0, [.int .i64 n, s]⟩, ⟨1, ints (tbl N g)⟩, ⟨1, ints q⟩]
theorem l_zz26_2 (h : VH) (n v i : Nat) (s : Value) (rows : List Int) (hs : Sli h s rows) (g : GV n rows) (hn : nro ≤ h.length) (g0 g1 : Nat → Int) (q1 : List Int) (x : Nat) (hx : x < n) (hcx : cnn rows v x) (h1 : FI rows n v g0 g1 q1) :
  ∃ a : (Nat → Int) × List Int, (FI rows n v g0 a.1 a.2 ∧ (∃ L, a.2 = q1 ++ L) ∧ (∀ w, 0 ≤ g1 w → 0 ≤ a.1 w) ∧ ∀ y, rbit rows x y = true → 0 ≤ a.1 y) ∧
  floop (vcall F nro) nro [1, 3, 5, 6, 7, 8, 9] i_zz26_B2 (lqH h n s n g1 q1 ++ [⟨1, ints (nb rows x n)⟩]) [bp h, .slice (some ⟨h.length + 1, 0, none⟩) n n, .int .i64 v, .slice (some ⟨h.length + 2, 0, none⟩) q1.length q1.length, .int .i64 i, .slice (some ⟨h.length + 3, 0, none⟩) (nb rows x n).length (nb rows x n).length, .int .i64 0] (lqH h n s n g1 q1 ++ [⟨1, ints (nb rows x n)⟩]) =
   some (.exit 6, fl [(1, bp h), (3, .slice (some ⟨h.length + 1, 0, none⟩) n n), (5, .int .i64 v), (6, .slice (some ⟨h.length + 2, 0, none⟩) a.2.length a.2.length), (7, .int .i64 i)], lqH h n s n a.1 a.2 ++ [⟨1, ints (nb rows x n)⟩]) := by
 have hn' := fun k => Nat.le_trans hn (Nat.le_add_right h.length k)
 have hso := fun k => hs.oldCk (k := k)
 have R := g.rok
 have hle := R.le
 have hlL : (nb rows x n).length ≤ 62 := Nat.le_trans (nbF_len rows x n 0 (Nat.zero_le _)) (by omega)
 have hmem : ∀ y, y ∈ nb rows x n ↔ 0 ≤ y ∧ y < n ∧ rbit rows x y.toNat = true := fun y => by
  have := nbF_mem rows x n 0 y
  simpa [nb] using this
 obtain ⟨Ls, hLs⟩ : ∃ Ls, Ls = nb rows x n := ⟨_, rfl⟩
 rw [← hLs] at hlL hmem ⊢
 clear hLs
 refine Exists.elim (for_upR (call := vcall F nro) (nro := nro) (live := [1, 3, 5, 6, 7, 8, 9]) (c := i_zz26_B2) (h0 := lqH h n s n g1 q1 ++ [⟨1, ints Ls⟩]) (n := Ls.length) (fun k (a : (Nat → Int) × List Int) => [bp h, .slice (some ⟨h.length + 1, 0, none⟩) n n, .int .i64 v, .slice (some ⟨h.length + 2, 0, none⟩) a.2.length a.2.length, .int .i64 i, .slice (some ⟨h.length + 3, 0, none⟩) Ls.length Ls.length, .int .i64 k])
  (fun _ a => lqH h n s n a.1 a.2 ++ [⟨1, ints Ls⟩]) (fun k a => FI rows n v g0 a.1 a.2 ∧ (∃ L, a.2 = q1 ++ L) ∧ (∀ w, 0 ≤ g1 w → 0 ≤ a.1 w) ∧ ∀ j, j < k → 0 ≤ a.1 (Ls.getD j 0).toNat)
  (fun a => some (.exit 6, fl [(1, bp h), (3, .slice (some ⟨h.length + 1, 0, none⟩) n n), (5, .int .i64 v), (6, .slice (some ⟨h.length + 2, 0, none⟩) a.2.length a.2.length), (7, .int .i64 i)], lqH h n s n a.1 a.2 ++ [⟨1, ints Ls⟩])) ?_ ?_ 0 (g1, q1) (Nat.zero_le _) ⟨h1, ⟨[], by simp⟩, fun _ h => h, fun j hj => by omega⟩) ?_
 ·rintro k ⟨f, q⟩ hk hk2 ⟨a1, ⟨L, a2⟩, a4, a3⟩
  dsimp only at a1 a2 a3 a4 ⊢
  have hmk := (hmem Ls[k]).mp (List.getElem_mem hk)
  obtain ⟨y, hy⟩ : ∃ y : Nat, Ls[k] = (y : Int) := ⟨Ls[k].toNat, by omega⟩
  have t1 := take1_ints hk
  rw [hy] at t1 hmk
  obtain ⟨_, m2, m3⟩ := hmk
  rw [Int.toNat_natCast] at m3
  have hyn : y < n := by omega
  have t2 := tbl_take1 (g := f) hyn
  have t3 := tbl_splice (g := f) (x := (v : Int)) hyn
  have w3 : IntKind.i64.wrap ((k : Int) + 1) = (k : Int) + 1 := wrap64 (by omega) (by omega)
  have hgd : Ls.getD k 0 = (y : Int) := by rw [getD_at _ hk, hy]
  have hql := a1.len
  have e1 : ints q ++ [Value.int .i64 y] = ints (q ++ [(y : Int)]) := by simp [ints]
  have b1 : (q.length + 1) * 8 ≤ 1099511627776 := by omega
  have b2 : q.length < 1099511627776 := by omega
  by_cases c : f y < 0
  ·refine ⟨(upd f y v, q ++ [(y : Int)]), ⟨a1.put hyn c (cnn_trans hcx (cnn_step m3)), ⟨L ++ [(y : Int)], by simp [a2]⟩, fun w hw => ?_, fun j hj => ?_⟩, ?_⟩
   ·dsimp only
    unfold upd
    split
    ·omega
    ·exact a4 w hw
   ·dsimp only
    unfold upd
    split
    ·omega
    ·by_cases e : j = k
     ·subst e
      rename_i h5
      rw [hgd] at h5
      exact absurd (Int.toNat_natCast y) h5
     ·exact a3 j (by omega)
   ·dsimp only
    rw [floop_at i_zz26_B2.eq_1]
    unfold lqH
    clear a1 a2 a3 a4 h1 hmem hgd hcx hs g m3
    simp (disch := first | assumption | omega | (simp [*] <;> omega) | fail) [hk, hk2, t1, t2, t3, c, w3, hyn, m2, e1, b1, b2, hn', hso]
  ·refine ⟨(f, q), ⟨a1, ⟨L, a2⟩, a4, fun j hj => ?_⟩, ?_⟩
   ·dsimp only
    by_cases e : j = k
    ·subst e
     rw [hgd, Int.toNat_natCast]
     omega
    ·exact a3 j (by omega)
   ·dsimp only
    have c' : 0 ≤ f y := by omega
    rw [floop_at i_zz26_B2.eq_1]
    unfold lqH
    clear a1 a2 a3 a4 h1 hmem hgd hcx hs g m3
    simp (disch := first | assumption | omega | (simp [*] <;> omega) | fail) [hk, hk2, t1, t2, c, c', w3, hyn, m2, hn', hso]
 ·rintro ⟨f, q⟩ _
  rw [floop_at i_zz26_B2.eq_1]
  unfold lqH
  simp (disch := first | assumption | omega | (simp [*] <;> omega) | fail) [hn', hso]
 ·rintro a ⟨⟨a1, a2, a4, a3⟩, i2⟩
  refine ⟨a, ⟨a1, a2, a4, fun y hy => ?_⟩, i2⟩
  obtain ⟨_, hyn⟩ := rbit_lt R hy
  obtain ⟨j, hj, e⟩ := List.getElem_of_mem ((hmem (y : Int)).mpr ⟨by omega, by omega, by rwa [Int.toNat_natCast]⟩)
  have := a3 j hj
  rwa [getD_at _ hj, e, Int.toNat_natCast] at this
theorem l_zz26_3 (h : VH) (n v : Nat) (s : Value) (rows : List Int) (hs : Sli h s rows) (g : GV n rows) (hn : nro ≤ h.length) (g0 g1 : Nat → Int) (q1 : List Int) : ∀ (k i : Nat) (f : Nat → Int) (q : List Int), n ≤ i + k → i ≤ q.length → FI rows n v g0 f q →
  (∀ j, j < i → ∀ y, rbit rows (q.getD j 0).toNat y = true → 0 ≤ f y) →
  ∃ a : (Nat → Int) × List Int, (FI rows n v g0 a.1 a.2 ∧ (∀ w, 0 ≤ f w → 0 ≤ a.1 w) ∧ ∀ j, j < a.2.length → ∀ y, rbit rows (a.2.getD j 0).toNat y = true → 0 ≤ a.1 y) ∧
  floop (vcall F nro) nro [1, 3, 5, 6, 7] i_zz26_B3 (lqH h n s n g1 q1) [bp h, .slice (some ⟨h.length + 1, 0, none⟩) n n, .int .i64 v, .slice (some ⟨h.length + 2, 0, none⟩) q.length q.length, .int .i64 i] (lqH h n s n f q) =
   some (.exit 4, fl [(1, bp h), (3, .slice (some ⟨h.length + 1, 0, none⟩) n n), (5, .int .i64 v)], lqH h n s n a.1 a.2) := by
 have hn' := fun k => Nat.le_trans hn (Nat.le_add_right h.length k)
 have hso := fun k => hs.oldCk (k := k)
 have R := g.rok
 have hle := R.le
 intro k
 have fin : ∀ (i : Nat) (f : Nat → Int) (q : List Int), i ≤ q.length → ¬ i < q.length → FI rows n v g0 f q → (∀ j, j < i → ∀ y, rbit rows (q.getD j 0).toNat y = true → 0 ≤ f y) →
   ∃ a : (Nat → Int) × List Int, (FI rows n v g0 a.1 a.2 ∧ (∀ w, 0 ≤ f w → 0 ≤ a.1 w) ∧ ∀ j, j < a.2.length → ∀ y, rbit rows (a.2.getD j 0).toNat y = true → 0 ≤ a.1 y) ∧
  floop (vcall F nro) nro [1, 3, 5, 6, 7] i_zz26_B3 (lqH h n s n g1 q1) [bp h, .slice (some ⟨h.length + 1, 0, none⟩) n n, .int .i64 v, .slice (some ⟨h.length + 2, 0, none⟩) q.length q.length, .int .i64 i] (lqH h n s n f q) =
   some (.exit 4, fl [(1, bp h), (3, .slice (some ⟨h.length + 1, 0, none⟩) n n), (5, .int .i64 v)], lqH h n s n a.1 a.2) := by
  intro i f q hi hlt B hcl
  refine ⟨(f, q), ⟨B, fun _ h => h, fun j hj => hcl j (by dsimp only at hj; omega)⟩, ?_⟩
  have e : ¬ (i : Int) < q.length := by omega
  rw [floop_at i_zz26_B3.eq_1]
  unfold lqH
  clear B hcl hs g
  simp (disch := first | assumption | omega | (simp [*] <;> omega) | fail) [e, hn', hso]
 induction k with
 | zero =>
  intro i f q hk hi B hcl
  have := B.len
  exact fin i f q hi (by omega) B hcl
 | succ k ih =>
  intro i f q hk hi B hcl
  by_cases hlt : i < q.length
  ·have hlt' : (i : Int) < q.length := by omega
   obtain ⟨q1', q2', q3', q4'⟩ := B.que i hlt
   obtain ⟨x, hx⟩ : ∃ x : Nat, q.getD i 0 = x := ⟨(q.getD i 0).toNat, by omega⟩
   rw [hx] at q2' q4'
   rw [Int.toNat_natCast] at q4'
   have hxn : x < n := by omega
   obtain ⟨⟨f2, q2⟩, ⟨c1, ⟨L, c2⟩, c4, c3⟩, c5⟩ := l_zz26_2 (nro := nro) h n v i s rows hs g hn g0 f q x hxn q4' B
   dsimp only at c1 c2 c3 c4 c5
   have hgq : ∀ j, j < q.length → q2.getD j 0 = q.getD j 0 := fun j hj => by
    rw [c2, List.getD_eq_getElem?_getD, List.getElem?_append_left hj, ← List.getD_eq_getElem?_getD]
   obtain ⟨a, ⟨d1, d3, d2⟩, d4⟩ := ih (i + 1) f2 q2 (by omega) (by rw [c2, List.length_append]; omega) c1 (fun j hj y hy => by
    by_cases e : j = i
    ·subst e
     rw [hgq j hlt, hx, Int.toNat_natCast] at hy
     exact c3 y hy
    ·rw [hgq j (by omega)] at hy
     exact c4 y (hcl j (by omega) y hy))
   refine ⟨a, ⟨d1, fun w hw => d3 w (c4 w hw), d2⟩, ?_⟩
   have hge : q[i] = (x : Int) := by rw [← hx, getD_at _ hlt]
   have t1 := take1_ints hlt
   rw [hge] at t1
   have hnb := c_zz10 (nro := nro) n s rows (lqH h n s n f q) (by unfold lqH; exact hs.app _) (by unfold lqH; simp; omega) g x (by omega) (by omega)
   have hln : (lqH h n s n f q).length = h.length + 3 := by unfold lqH; simp
   rw [hln, Int.toNat_natCast, Int.toNat_natCast] at hnb
   rw [show ((i + 1 : Nat) : Int) = (i : Int) + 1 by omega] at d4
   rw [floop_at i_zz26_B3.eq_1]
   generalize nb rows x n = Ls at hnb c5
   unfold lqH at hnb c5 d4 ⊢
   have hql := B.len
   have w3 : IntKind.i64.wrap ((i : Int) + 1) = (i : Int) + 1 := wrap64 (by omega) (by omega)
   simp at hnb c5 d4
   have hql2 := c1.len
   clear ih fin B hcl c1 c2 c3 c4 hgq d1 d2 d3 hs g q3' q4' hx hge hln R
   simp (disch := first | assumption | omega | (simp [*] <;> omega) | fail) [hlt, hlt', t1, hnb, c5, d4, w3, hn', hso]
  ·exact fin i f q hi hlt B hcl
def LI (rows : List Int) (n v : Nat) (g : Nat → Int) : Prop := ∀ w, w < n → g w = if lead rows w < v then (lead rows w : Int) else -1
theorem FI.start {rows : List Int} {n v : Nat} {g : Nat → Int} (hv : v < n) (hcl : ∀ w, w < n → cnn rows v w → g w < 0) : FI rows n v g (upd g v v) [(v : Int)] := by
 have hg := hcl v hv (cnn_refl v)
 refine ⟨fun j hj => ?_, ?_, fun w _ h0 => ?_, fun w _ => ?_, fun w hw hc h0 => ?_⟩
 ·have : j = 0 := by simpa using hj
  subst this
  simp only [List.getD_cons_zero, Int.toNat_natCast]
  exact ⟨by omega, by omega, upd_same _ _ _, cnn_refl v⟩
 ·have h1 := unm_upd (g := g) (y := v) (e := (v : Int)) hg (by omega) hv
  have h2 : ∀ m, unm g m ≤ m := by
   intro m
   induction m with
   | zero => exact Nat.le_refl _
   | succ m ih => rw [unm]; split <;> omega
  have := h2 n
  simp only [List.length_singleton]
  omega
 ·rw [upd_ne]
  rintro rfl
  omega
 ·by_cases e : w = v
  ·subst e; exact .inr ⟨upd_same _ _ _, cnn_refl w⟩
  ·exact .inl (upd_ne e)
 ·by_cases e : w = v
  ·subst e; exact ⟨0, by simp, rfl⟩
  ·rw [upd_ne e] at h0
   have := hcl w hw hc
   omega
theorem LI.step {rows : List Int} {n v : Nat} {g f : Nat → Int} {q : List Int} (R : Rok n rows) (hs : ∀ v w, rbit rows v w = true → rbit rows w v = true) (hv : v < n) (h : LI rows n v g) (hl : lead rows v = v) (B : FI rows n v g f q) (hst : 0 ≤ f v)
  (hcl : ∀ j, j < q.length → ∀ y, rbit rows (q.getD j 0).toNat y = true → 0 ≤ f y) : LI rows n (v + 1) f := by
 have all : ∀ k w, Wk rows k v w → 0 ≤ f w := by
  intro k
  induction k with
  | zero => intro w hw; cases hw; exact hst
  | succ k ih =>
   rintro w ⟨c, h1, h2⟩
   obtain ⟨hc, _⟩ := rbit_lt R h2
   obtain ⟨j, hj, e⟩ := B.vis c hc ⟨k, h1⟩ (ih c h1)
   exact hcl j hj w (by rw [e, Int.toNat_natCast]; exact h2)
 intro w hw
 have hg := h w hw
 by_cases c : cnn rows v w
 ·have e : lead rows w = v := by rw [← (lead_eq R hs hv hw).mpr c, hl]
  rw [e, if_pos (by omega)]
  obtain ⟨k, hk⟩ := c
  have h0 := all k w hk
  rw [e, if_neg (by omega)] at hg
  rcases B.new w hw with h1 | ⟨h1, _⟩
  ·omega
  ·exact h1
 ·have e : lead rows w ≠ v := fun e => c ((lead_eq R hs hv hw).mp (by rw [hl, e]))
  rcases B.new w hw with h1 | ⟨_, h1⟩
  ·rw [h1, hg]
   by_cases c2 : lead rows w < v
   ·rw [if_pos c2, if_pos (by omega)]
   ·rw [if_neg c2, if_neg (by omega)]
  ·exact absurd h1 c
theorem LI.skip {rows : List Int} {n v : Nat} {g : Nat → Int} (R : Rok n rows) (hs : ∀ v w, rbit rows v w = true → rbit rows w v = true) (hv : v < n) (h : LI rows n v g) (hl : lead rows v < v) : LI rows n (v + 1) g := by
 intro w hw
 rw [h w hw]
 have e : lead rows w ≠ v := by
  intro e
  obtain ⟨a1, _⟩ := lead_spec R hw
  rw [e] at a1
  have := (lead_eq R hs hw hv).mpr a1
  omega
 by_cases c2 : lead rows w < v
 ·rw [if_pos c2, if_pos (by omega)]
 ·rw [if_neg c2, if_neg (by omega)]
def leads (rows : List Int) (n : Nat) : List Int := tbl n fun w => (lead rows w : Int)
theorem c_zz26 (n : Nat) (s : Value) (rows : List Int) (h : VH) (hs : Sli h s rows) (hn : nro ≤ h.length) (g : GV n rows) :
  vcall F nro k_zz26 [gv n s] h = some (.slice (some ⟨h.length, 0, none⟩) n n, h ++ [⟨1, ints (leads rows n)⟩]) := by
 have hn' := fun k => Nat.le_trans hn (Nat.le_add_right h.length k)
 have hso := fun k => hs.oldCk (k := k)
 have R := g.rok
 have hle := R.le
 have hsym : ∀ v w, rbit rows v w = true → rbit rows w v = true := fun v w h => g.sym' h
 have l1 := l_zz26_1 (nro := nro) h n s hso hle hn
 have main := for_upR (call := vcall F nro) (nro := nro) (live := [1, 3, 5]) (c := i_zz26_B4) (h0 := leH h n s n (fun _ => -1)) (n := n) (fun v (_ : Nat → Int) => [bp h, .slice (some ⟨h.length + 1, 0, none⟩) n n, .int .i64 v]) (fun _ f => leH h n s n f) (fun v f => LI rows n v f)
  (fun f => some (.exit 2, fl [(3, .slice (some ⟨h.length + 1, 0, none⟩) n n)], leH h n s n f))
  (fun v f hv hv2 hI => by
   have w3 : IntKind.i64.wrap ((v : Int) + 1) = (v : Int) + 1 := wrap64 (by omega) (by omega)
   have t2 := tbl_take1 (g := f) hv
   have t3 := tbl_splice (g := f) (x := (v : Int)) hv
   have hfv := hI v hv
   obtain ⟨a1, a2, a3, a4⟩ := lead_spec R hv
   by_cases c : lead rows v < v
   ·refine ⟨f, hI.skip R hsym hv c, ?_⟩
    rw [if_pos c] at hfv
    have hc : 0 ≤ f v := by omega
    rw [floop_at i_zz26_B4.eq_1]
    clear hs g R hI l1 hsym a1 a4 hfv
    simp (disch := first | assumption | omega | (simp [*] <;> omega) | fail) [hv, hv2, t2, hc, w3, hn', hso]
   ·have hl : lead rows v = v := by omega
    rw [if_neg c] at hfv
    have hc : ¬ 0 ≤ f v := by omega
    have B := FI.start (rows := rows) (g := f) hv (fun w hw hcw => by
     have e := hI w hw
     rw [← (lead_eq R hsym hv hw).mpr hcw, if_neg (by omega)] at e
     omega)
    obtain ⟨⟨f2, q2⟩, ⟨b1, b2, b3⟩, b4⟩ := l_zz26_3 (nro := nro) h n v s rows hs g hn f (upd f v v) [(v : Int)] n 0 (upd f v v) [(v : Int)] (by omega) (Nat.zero_le _) B (fun j hj => by omega)
    refine ⟨f2, LI.step R hsym hv hI hl b1 (b2 v (by rw [upd_same]; omega)) b3, ?_⟩
    dsimp only at b4
    unfold lqH at b4
    simp at b4
    rw [floop_at i_zz26_B4.eq_1]
    clear hs g R hI l1 hsym a1 a4 hfv B b1 b2 b3 hl c a3
    simp (disch := first | assumption | omega | (simp [*] <;> omega) | fail) [hv, hv2, t2, t3, hc, w3, hn', hso, b4])
  (fun f hI => by
   rw [floop_at i_zz26_B4.eq_1]
   clear hs g R hI l1 hsym
   simp (disch := first | assumption | omega | (simp [*] <;> omega) | fail) [hn', hso]) 0 (fun _ => -1) (Nat.zero_le _) (fun w hw => by rw [if_neg (by omega)])
 obtain ⟨f, hf, l2⟩ := main
 have e : tbl n f = leads rows n := tbl_congr fun w hw => by rw [hf w hw, if_pos (lead_spec R hw).2.1]
 unfold leH at l1 l2
 rw [e] at l2
 refine v_zz26 (by simp [i_zz26]) ?_
 rw [fbody_eq]
 have hll : (leads rows n).length = n := by simp [leads]
 generalize leads rows n = Ls at l2 hll ⊢
 simp at l1 l2
 clear hs g R hf hsym e
 simp (disch := first | assumption | omega | (simp [*] <;> omega) | fail) [i_zz26, l1, l2, hll, hn', hso]
end

/- Bases: lists of arcs in the heap, what a base is, steps. -/
section
open Go
open Classical in
theorem for_findQ {call : VCall} {nro : Nat} {live : List Nat} {c : FC} {h0 : VH} {n : Nat} (V : Nat → List Value) (h : VH) (bad : Nat → Prop) (P : Option (VX × FE × VH) → Prop) (d : Option (VX × FE × VH))
    (step : ∀ i, i < n → (i : Int) < n → (bad i → P (floop call nro live c h0 (V i) h)) ∧ (¬ bad i → floop call nro live c h0 (V i) h = floop call nro live c h0 (V (i + 1)) h))
    (stop : floop call nro live c h0 (V n) h = d) (i : Nat) (hi : i ≤ n) :
    ((∃ j, i ≤ j ∧ j < n ∧ bad j) ∧ P (floop call nro live c h0 (V i) h)) ∨ ((¬ ∃ j, i ≤ j ∧ j < n ∧ bad j) ∧ floop call nro live c h0 (V i) h = d) := by
  by_cases hlt : i < n
  · obtain ⟨h1, h2⟩ := step i hlt (by omega)
    by_cases hb : bad i
    · exact .inl ⟨⟨i, Nat.le_refl _, hlt, hb⟩, h1 hb⟩
    · rw [h2 hb]
      rcases for_findQ V h bad P d step stop (i + 1) hlt with ⟨⟨j, a1, a2, a3⟩, h3⟩ | ⟨h3, h4⟩
      · exact .inl ⟨⟨j, by omega, a2, a3⟩, h3⟩
      · refine .inr ⟨?_, h4⟩
        rintro ⟨j, a1, a2, a3⟩
        by_cases e : j = i
        · subst e; exact hb a3
        · exact h3 ⟨j, by omega, a2, a3⟩
  · have : i = n := by omega
    subst this
    refine .inr ⟨?_, stop⟩
    rintro ⟨j, h1, h2, _⟩
    omega
 termination_by n - i
structure Ar where
 f : Int
 t : Int
 v : Int
abbrev avc (a : Ar) : List Value := [.int .i64 a.f, .int .i64 a.t, .int .i64 a.v]
def arcs : List Ar → List Value
 | [] => []
 | a :: A => avc a ++ arcs A
@[simp] theorem arcs_nil : arcs [] = [] := rfl
@[simp] theorem arcs_len : ∀ A : List Ar, (arcs A).length = 3 * A.length
 | [] => rfl
 | a :: A => by
  show (avc a ++ arcs A).length = _
  rw [List.length_append, arcs_len A, List.length_cons]
  show 3 + 3 * A.length = 3 * (A.length + 1)
  omega
theorem arcs_append : ∀ A B : List Ar, arcs A ++ arcs B = arcs (A ++ B)
 | [], _ => rfl
 | a :: A, B => by
  show (avc a ++ arcs A) ++ arcs B = avc a ++ arcs (A ++ B)
  rw [List.append_assoc, arcs_append A B]
theorem arcs_take : ∀ (A : List Ar) (j : Nat) (hj : j < A.length), ((arcs A).drop (j * 3)).take 3 = avc A[j]
 | a :: A, 0, _ => by
  rw [Nat.zero_mul]
  rfl
 | a :: A, j + 1, hj => by
  have : (j + 1) * 3 = j * 3 + 1 + 1 + 1 := by omega
  rw [this]
  exact arcs_take A j (Nat.lt_of_succ_lt_succ hj)
@[simp] theorem arcs_all : ∀ A : List Ar, (arcs A).all (fun v => !isJunk v) = true
 | [] => rfl
 | a :: A => by
  show (avc a ++ arcs A).all _ = true
  rw [List.all_append, arcs_all A]
  rfl
@[simp] theorem arcs_flat (n k : Nat) (A : List Ar) : flatO n ⟨k, arcs A⟩ := by
 intro r hr
 exfalso
 induction A with
 | nil => simp [orefs] at hr
 | cons a A ih =>
  have : orefs ⟨k, arcs (a :: A)⟩ = orefs ⟨k, arcs A⟩ := by
   show (avc a ++ arcs A).flatMap crefs = (arcs A).flatMap crefs
   rw [List.flatMap_append]
   simp [crefs, arefs]
  rw [this] at hr
  exact ih hr
abbrev ag3 (a : Ar) : Value := .agg #[.int .i64 a.f, .int .i64 a.t, .int .i64 a.v]
abbrev bv (n m : Int) (s : Value) : Value := .agg #[.int .i64 n, .int .i64 m, s]
abbrev sv (b : Nat) (A : List Ar) : Value := .slice (some ⟨b, 0, none⟩) A.length (3 * A.length)
def SlA (h : VH) (s : Value) (A : List Ar) : Prop := ∃ b, s = sv b A ∧ h[b]? = some ⟨3, arcs A⟩
def aptr (s : Value) (j : Nat) : Value := match s with
 | .slice (some a) _ tot => .pointer (some ⟨a.block, a.off + j * 3, some tot⟩)
 | _ => junk
section
variable {h : VH} {s : Value} {A : List Ar}
theorem SlA.app (hs : SlA h s A) (L : VH) : SlA (h ++ L) s A := by
 obtain ⟨b, e, hb⟩ := hs
 exact ⟨b, e, by rw [List.getElem?_append_left (List.getElem?_eq_some_iff.mp hb).1]; exact hb⟩
theorem SlA.old (hs : SlA h s A) : Old h.length s := by
 obtain ⟨b, rfl, hb⟩ := hs
 rw [old_sl]; exact (List.getElem?_eq_some_iff.mp hb).1
theorem SlA.oldk (hs : SlA h s A) {k : Nat} : Old (h.length + k) s := hs.old.le (Nat.le_add_right _ _)
theorem SlA.oldC (hs : SlA h s A) : OldC h.length s := by
 obtain ⟨b, rfl, hb⟩ := hs
 intro r hr
 simp [crefs, arefs] at hr
 rw [hr]; exact (List.getElem?_eq_some_iff.mp hb).1
theorem SlA.vlen0 (hs : SlA h s A) : vlen h s = some (.int .i64 A.length, h) := by
 obtain ⟨b, rfl, hb⟩ := hs
 simp [hb]
theorem SlA.vidx0 (hs : SlA h s A) {k : IntKind} {j : Int} (h0 : 0 ≤ j) (hj : j < A.length) : vidx 3 h s (.int k j) = some (aptr s j.toNat, h) := by
 obtain ⟨b, rfl, hb⟩ := hs
 simp [hb, h0, hj, aptr]
theorem SlA.vload0 (hs : SlA h s A) {j : Nat} (hj : j < A.length) : vload true 3 h (aptr s j) = some (ag3 A[j]) := by
 obtain ⟨b, rfl, hb⟩ := hs
 have := arcs_take A j hj
 have h2 : j * 3 + 3 ≤ 3 * A.length := by omega
 simp [hb, aptr, this, h2]
theorem SlA.vlen' {L : VH} (hs : SlA h s A) : vlen (h ++ L) s = some (.int .i64 A.length, h ++ L) := (hs.app L).vlen0
theorem SlA.vidx' {L : VH} (hs : SlA h s A) {k : IntKind} {j : Int} (h0 : 0 ≤ j) (hj : j < A.length) : vidx 3 (h ++ L) s (.int k j) = some (aptr s j.toNat, h ++ L) := (hs.app L).vidx0 h0 hj
theorem SlA.vload' {L : VH} (hs : SlA h s A) {j : Nat} (hj : j < A.length) : vload true 3 (h ++ L) (aptr s j) = some (ag3 A[j]) := (hs.app L).vload0 hj
theorem SlA.nj (hs : SlA h s A) : isJunk s = false := by
 obtain ⟨b, rfl, hb⟩ := hs
 rfl
theorem SlA.oldCk (hs : SlA h s A) {k : Nat} : OldC (h.length + k) s := fun r hr => Nat.lt_of_lt_of_le (hs.oldC r hr) (Nat.le_add_right _ _)
end
def okA (n m : Int) (a : Ar) : Prop := 0 ≤ a.f ∧ a.f < n ∧ 0 ≤ a.t ∧ a.t < n ∧ 0 ≤ a.v ∧ a.v < m
instance (n m : Int) (a : Ar) : Decidable (okA n m a) := by unfold okA; infer_instance
structure IsB (n m : Int) (A : List Ar) : Prop where
 n1 : 1 ≤ n
 n2 : n ≤ 10
 m1 : 1 ≤ m
 m2 : m ≤ 62
 nm : n * m ≤ 62
 len : A.length ≤ 16
 ok : ∀ a ∈ A, okA n m a
variable {nro : Nat}
abbrev bx3 (h : VH) (n m : Int) (s : Value) : VH := h ++ [⟨0, [.int .i64 n, .int .i64 m, s]⟩]
theorem c_zz39 (n m : Int) (s : Value) (a : Ar) (b : Nat) (h : VH) (hb : h[b]? = some ⟨0, [.int .i64 n, .int .i64 m, s]⟩) :
  vcall F nro k_zz39 [ag3 a, .pointer (some ⟨b, 0, some 3⟩)] h = some (.bool (!decide (okA n m a)), h) := by
 refine v_zz39 (by simp [i_zz39]) ?_
 rw [fbody_eq]
 have hlt : b < h.length := (List.getElem?_eq_some_iff.mp hb).1
 have hb' : ∀ L : VH, (h ++ L)[b]? = some ⟨0, [.int .i64 n, .int .i64 m, s]⟩ := fun L => by rw [List.getElem?_append_left hlt]; exact hb
 unfold okA
 by_cases c1 : a.f < 0
 ·have e : ¬ 0 ≤ a.f := by omega
  simp (disch := first | assumption | omega | (simp [*] <;> omega) | fail) [-getElem?_pos, List.getElem?_cons_zero, List.getElem?_cons_succ, i_zz39, hb', c1, e]
 by_cases c2 : n ≤ a.f
 ·have e : ¬ a.f < n := by omega
  simp (disch := first | assumption | omega | (simp [*] <;> omega) | fail) [-getElem?_pos, List.getElem?_cons_zero, List.getElem?_cons_succ, i_zz39, hb', c1, c2, e]
 by_cases c3 : a.t < 0
 ·have e : ¬ 0 ≤ a.t := by omega
  simp (disch := first | assumption | omega | (simp [*] <;> omega) | fail) [-getElem?_pos, List.getElem?_cons_zero, List.getElem?_cons_succ, i_zz39, hb', c1, c2, c3, e]
 by_cases c4 : n ≤ a.t
 ·have e : ¬ a.t < n := by omega
  simp (disch := first | assumption | omega | (simp [*] <;> omega) | fail) [-getElem?_pos, List.getElem?_cons_zero, List.getElem?_cons_succ, i_zz39, hb', c1, c2, c3, c4, e]
 by_cases c5 : a.v < 0
 ·have e : ¬ 0 ≤ a.v := by omega
  simp (disch := first | assumption | omega | (simp [*] <;> omega) | fail) [-getElem?_pos, List.getElem?_cons_zero, List.getElem?_cons_succ, i_zz39, hb', c1, c2, c3, c4, c5, e]
 have e1 : 0 ≤ a.f := by omega
 have e2 : a.f < n := by omega
 have e3 : 0 ≤ a.t := by omega
 have e4 : a.t < n := by omega
 have e5 : 0 ≤ a.v := by omega
 by_cases c6 : m ≤ a.v
 ·have e : ¬ a.v < m := by omega
  simp (disch := first | assumption | omega | (simp [*] <;> omega) | fail) [-getElem?_pos, List.getElem?_cons_zero, List.getElem?_cons_succ, i_zz39, hb', c1, c2, c3, c4, c5, c6, e]
 have e6 : a.v < m := by omega
 simp (disch := first | assumption | omega | (simp [*] <;> omega) | fail) [-getElem?_pos, List.getElem?_cons_zero, List.getElem?_cons_succ, i_zz39, hb', c1, c2, c3, c4, c5, c6, e1, e2, e3, e4, e5, e6]
open Classical in
theorem c_zz1 (n m : Int) (s : Value) (A : List Ar) (b : Nat) (h : VH) (hs : SlA h s A) (hA : A.length ≤ 1000) (hb : h[b]? = some ⟨0, [.int .i64 n, .int .i64 m, s]⟩) :
    ∃ x : Int, vcall F nro k_zz1 [s, .func (.func k_zz39) #[] #[.pointer (some ⟨b, 0, some 3⟩)]] h = some (.int .i64 x, h) ∧ (0 ≤ x ↔ ¬ ∀ a ∈ A, okA n m a) := by
  have hlt : b < h.length := (List.getElem?_eq_some_iff.mp hb).1
  have hc := fun a => c_zz39 (nro := nro) n m s a b h hb
  have hso := hs.old
  have main : ∀ k i : Nat, A.length - i ≤ k → i ≤ A.length → (∀ j (hj : j < A.length), j < i → okA n m A[j]) →
      ∃ x : Int, (0 ≤ x ↔ ¬ ∀ a ∈ A, okA n m a) ∧
      ((0 ≤ x ∧ floop (vcall F nro) nro [0, 1, 7, 8] i_zz1_B1 h [s, .func (.func k_zz39) #[] #[.pointer (some ⟨b, 0, some 3⟩)], .int .i64 A.length, .int .i64 i] h = some (.ret, fl [(4, .int .i64 x)], h)) ∨
       (x = -1 ∧ floop (vcall F nro) nro [0, 1, 7, 8] i_zz1_B1 h [s, .func (.func k_zz39) #[] #[.pointer (some ⟨b, 0, some 3⟩)], .int .i64 A.length, .int .i64 i] h = some (.exit 0, fl [], h))) := by
    intro k
    induction k with
    | zero =>
      intro i hi hi2 hbef
      have : i = A.length := by omega
      subst this
      refine ⟨-1, ⟨fun h => by omega, fun h => absurd ?_ h⟩, .inr ⟨rfl, ?_⟩⟩
      · intro a ha
        obtain ⟨j, hj, rfl⟩ := List.getElem_of_mem ha
        exact hbef j hj hj
      · rw [floop_at i_zz1_B1.eq_1]
        simp (disch := first | assumption | omega | (simp [*] <;> omega) | fail) []
    | succ k ih =>
      intro i hi hi2 hbef
      by_cases hlt2 : i < A.length
      · have hi3 : (i : Int) < A.length := by omega
        have t1 := hs.vidx0 (k := .i64) (j := (i : Int)) (by omega) hi3
        have t2 := hs.vload0 hlt2
        rw [Int.toNat_natCast] at t1
        have hca := hc A[i]
        by_cases c : okA n m A[i]
        · obtain ⟨x, h1, h2⟩ := ih (i + 1) (by omega) (by omega) (fun j hj hj2 => by
            by_cases e : j = i
            · subst e; exact c
            · exact hbef j hj (by omega))
          refine ⟨x, h1, ?_⟩
          have e : floop (vcall F nro) nro [0, 1, 7, 8] i_zz1_B1 h [s, .func (.func k_zz39) #[] #[.pointer (some ⟨b, 0, some 3⟩)], .int .i64 A.length, .int .i64 i] h = floop (vcall F nro) nro [0, 1, 7, 8] i_zz1_B1 h [s, .func (.func k_zz39) #[] #[.pointer (some ⟨b, 0, some 3⟩)], .int .i64 A.length, .int .i64 ((i + 1 : Nat) : Int)] h := by
            rw [decide_eq_true c] at hca
            conv => lhs; rw [floop_at i_zz1_B1.eq_1]
            have w : IntKind.i64.wrap ((i : Int) + 1) = (i : Int) + 1 := wrap64 (by omega) (by omega)
            have hfo : Old h.length (Value.func (.func k_zz39) #[] #[.pointer (some ⟨b, 0, some 3⟩)]) := by
              intro r hr
              simp [trefs, vrefs, crefs, arefs] at hr
              omega
            generalize A[i] = a at t2 hca
            clear hc hbef ih h1 h2 c hs hb
            simp (disch := first | assumption | omega | (simp [*] <;> omega) | fail) [hi3, t1, t2, hca, w]
          rw [e]
          exact h2
        · refine ⟨i, ⟨fun _ h => c (h _ (List.getElem_mem hlt2)), fun _ => by omega⟩, .inl ⟨by omega, ?_⟩⟩
          rw [decide_eq_false c] at hca
          rw [floop_at i_zz1_B1.eq_1]
          generalize A[i] = a at t2 hca
          clear hc hbef ih c hs hb
          simp (disch := first | assumption | omega | (simp [*] <;> omega) | fail) [hi3, t1, t2, hca]
      · have : i = A.length := by omega
        subst this
        exact ih A.length (by omega) (by omega) hbef
  obtain ⟨x, h1, h2⟩ := main A.length 0 (by omega) (by omega) (fun j _ hj => by omega)
  refine ⟨x, ?_, h1⟩
  have hl := hs.vlen0
  refine v_zz1 (by simp [i_zz1]) ?_
  rw [fbody_eq]
  rcases h2 with ⟨h3, h2⟩ | ⟨h3, h2⟩
  · simp at h2
    clear main hc h1 hs
    simp (disch := first | assumption | omega | (simp [*] <;> omega) | fail) [i_zz1, hl, h2]
  · subst h3
    simp at h2
    clear main hc h1 hs
    simp (disch := first | assumption | omega | (simp [*] <;> omega) | fail) [i_zz1, hl, h2]
theorem c_zz0 (n m : Int) (s : Value) (A : List Ar) (b : Nat) (h : VH) (hs : SlA h s A) (hA : A.length ≤ 1000) (hb : h[b]? = some ⟨0, [.int .i64 n, .int .i64 m, s]⟩) :
  vcall F nro k_zz0 [s, .func (.func k_zz39) #[] #[.pointer (some ⟨b, 0, some 3⟩)]] h = some (.bool (!decide (∀ a ∈ A, okA n m a)), h) := by
 obtain ⟨x, h1, h2⟩ := c_zz1 (nro := nro) n m s A b h hs hA hb
 refine v_zz0 (by simp [i_zz0]) ?_
 rw [fbody_eq]
 clear hs hb
 by_cases c : ∀ a ∈ A, okA n m a
 ·rw [decide_eq_true c]
  have e : ¬ 0 ≤ x := fun h => h2.mp h c
  clear h2 c
  simp (disch := first | assumption | omega | (simp [*] <;> omega) | fail) [i_zz0, h1, e]
 ·rw [decide_eq_false c]
  have e : 0 ≤ x := h2.mpr c
  clear h2 c
  simp (disch := first | assumption | omega | (simp [*] <;> omega) | fail) [i_zz0, h1, e]
open Classical in
theorem c_zz62 (n m : Int) (s : Value) (A : List Ar) (h : VH) (hs : SlA h s A) (hA : A.length ≤ 1000) :
  vcall F nro k_zz62 [bv n m s] h = some (.bool (decide (IsB n m A)), h) := by
 have hso := hs.old
 have hsc := fun k => hs.oldCk (k := k)
 have hnj := hs.nj
 have hl := hs.vlen' (L := [⟨0, [.int .i64 n, .int .i64 m, s]⟩])
 have hc := c_zz0 (nro := nro) n m s A h.length (bx3 h n m s) (hs.app _) hA (by simp)
 have E : ∀ b : Bool, (b = true ↔ IsB n m A) → decide (IsB n m A) = b := fun b hb => by
  by_cases c : IsB n m A
  ·rw [decide_eq_true c]; exact (hb.mpr c).symm
  ·rw [decide_eq_false c]
   cases b
   ·rfl
   ·exact absurd (hb.mp rfl) c
 refine v_zz62 (by simp [i_zz62]) ?_
 rw [fbody_eq]
 clear hs
 by_cases c1 : n < 1
 ·rw [E false (by simp; exact fun h => by have := h.n1; omega)]
  simp (disch := first | assumption | omega | (simp [*] <;> omega) | fail) [i_zz62, c1]
 by_cases c2 : 10 < n
 ·rw [E false (by simp; exact fun h => by have := h.n2; omega)]
  simp (disch := first | assumption | omega | (simp [*] <;> omega) | fail) [i_zz62, c1, c2]
 by_cases c3 : m < 1
 ·rw [E false (by simp; exact fun h => by have := h.m1; omega)]
  simp (disch := first | assumption | omega | (simp [*] <;> omega) | fail) [i_zz62, c1, c2, c3]
 by_cases c4 : 62 < m
 ·rw [E false (by simp; exact fun h => by have := h.m2; omega)]
  simp (disch := first | assumption | omega | (simp [*] <;> omega) | fail) [i_zz62, c1, c2, c3, c4]
 have p1 : 1 ≤ n * m := Int.le_trans (by omega : (1 : Int) ≤ 1 * 1) (Int.mul_le_mul (by omega) (by omega) (by omega) (by omega))
 have p2 : n * m ≤ 10 * 62 := Int.mul_le_mul (by omega) (by omega) (by omega) (by omega)
 have w : IntKind.i64.wrap (n * m) = n * m := wrap64 (by omega) (by omega)
 by_cases c5 : 62 < n * m
 ·rw [E false (by simp; exact fun h => by have := h.nm; omega)]
  simp (disch := first | assumption | omega | (simp [*] <;> omega) | fail) [i_zz62, c1, c2, c3, c4, w, c5]
 by_cases c6 : 16 < A.length
 ·have c6' : (16 : Int) < A.length := by omega
  rw [E false (by simp; exact fun h => by have := h.len; omega)]
  simp (disch := first | assumption | omega | (simp [*] <;> omega) | fail) [i_zz62, c1, c2, c3, c4, w, c5, hl, c6, c6']
 have c6' : ¬ (16 : Int) < A.length := by omega
 by_cases c7 : ∀ a ∈ A, okA n m a
 ·rw [decide_eq_true c7] at hc
  rw [E true (by simp; exact ⟨by omega, by omega, by omega, by omega, by omega, by omega, c7⟩)]
  clear c7 E
  simp (disch := first | assumption | omega | (simp [*] <;> omega) | fail) [i_zz62, c1, c2, c3, c4, w, c5, hl, c6, c6', hc, isAtom]
 ·rw [decide_eq_false c7] at hc
  rw [E false (by simp; exact fun h => c7 h.ok)]
  clear c7 E
  simp (disch := first | assumption | omega | (simp [*] <;> omega) | fail) [i_zz62, c1, c2, c3, c4, w, c5, hl, c6, c6', hc, isAtom]
open Classical in
theorem c_zz77 (n m : Int) (s : Value) (A : List Ar) (h : VH) (hs : SlA h s A) (hA : A.length ≤ 1000) (hn : nro ≤ h.length) :
  vcall F nro k_zz77 [bv n m s] h = some (.bool (decide (IsB n m A)), h) := by
 have hso := hs.old
 have hn' := fun k => Nat.le_trans hn (Nat.le_add_right h.length k)
 have hsc := fun k => hs.oldCk (k := k)
 have hnj := hs.nj
 have hl := fun L => hs.vlen' (L := L)
 have E : ∀ b : Bool, (b = true ↔ IsB n m A) → decide (IsB n m A) = b := fun b hb => by
  by_cases c : IsB n m A
  ·rw [decide_eq_true c]; exact (hb.mpr c).symm
  ·rw [decide_eq_false c]
   cases b
   ·rfl
   ·exact absurd (hb.mp rfl) c
 have hin := fun x lo hi L => c_zz75 (nro := nro) x lo hi (h ++ L)
 refine v_zz77 (by simp [i_zz77]) ?_
 rw [fbody_eq]
 by_cases c1 : 1 ≤ n ∧ n ≤ 10
 ·by_cases c2 : 1 ≤ m ∧ m ≤ 62
  ·obtain ⟨a1, a2⟩ := c1
   obtain ⟨a3, a4⟩ := c2
   have p1 : 1 ≤ n * m := Int.le_trans (by omega : (1 : Int) ≤ 1 * 1) (Int.mul_le_mul (by omega) (by omega) (by omega) (by omega))
   have p2 : n * m ≤ 10 * 62 := Int.mul_le_mul (by omega) (by omega) (by omega) (by omega)
   have w : IntKind.i64.wrap (n * m) = n * m := wrap64 (by omega) (by omega)
   by_cases c5 : 62 < n * m
   ·rw [E false (by simp; exact fun h => by have := h.nm; omega)]
    clear hs
    simp (disch := first | assumption | omega | (simp [*] <;> omega) | fail) [i_zz77, hin, a1, a2, a3, a4, w, c5]
   by_cases c6 : 16 < A.length
   ·have c6' : (16 : Int) < A.length := by omega
    rw [E false (by simp; exact fun h => by have := h.len; omega)]
    clear hs
    simp (disch := first | assumption | omega | (simp [*] <;> omega) | fail) [i_zz77, hin, a1, a2, a3, a4, w, c5, hl, c6, c6']
   have c6' : ¬ (16 : Int) < A.length := by omega
   have hf := for_findQ (call := vcall F nro) (nro := nro) (live := [1, 3]) (c := i_zz77_B1) (h0 := bx3 h n m s) (n := A.length) (fun i => [.pointer (some ⟨h.length, 0, some 3⟩), .int .i64 i]) (bx3 h n m s)
    (fun i => ∃ hi : i < A.length, ¬ okA n m A[i]) (fun r => ∃ L, r = some (.ret, fl [(2, .bool false)], bx3 h n m s ++ L)) (some (.exit 0, fl [], bx3 h n m s))
    (fun i hi hi2 => by
     have t1 := fun L => hs.vidx' (L := L) (k := .i64) (j := (i : Int)) (by omega) hi2
     have t2 := fun L => hs.vload' (L := L) hi
     simp only [Int.toNat_natCast] at t1
     have ws : IntKind.i64.wrap (n - 1) = n - 1 := wrap64 (by omega) (by omega)
     have wm : IntKind.i64.wrap (m - 1) = m - 1 := wrap64 (by omega) (by omega)
     have wi : IntKind.i64.wrap ((i : Int) + 1) = (i : Int) + 1 := wrap64 (by omega) (by omega)
     have eq : (∃ hi : i < A.length, ¬ okA n m A[i]) ↔ ¬ okA n m A[i] := ⟨fun ⟨_, h⟩ => h, fun h => ⟨hi, h⟩⟩
     rw [eq]
     clear eq E
     generalize A[i] = a at t2
     clear hs
     unfold okA
     by_cases d1 : 0 ≤ a.f ∧ a.f ≤ n - 1
     ·by_cases d2 : 0 ≤ a.t ∧ a.t ≤ n - 1
      ·by_cases d3 : 0 ≤ a.v ∧ a.v ≤ m - 1
       ·refine ⟨fun h => absurd (by omega) h, fun _ => ?_⟩
        conv => lhs; rw [floop_at i_zz77_B1.eq_1]
        obtain ⟨d1, d1'⟩ := d1
        obtain ⟨d2, d2'⟩ := d2
        obtain ⟨d3, d3'⟩ := d3
        clear c5 c6 p1 p2
        simp (disch := first | assumption | omega | (simp [*] <;> omega) | fail) [hl, hi, hi2, t1, t2, hin, d1, d1', d2, d2', d3, d3', ws, wm, wi, hn']
       ·refine ⟨fun _ => ⟨[⟨0, [.int .i64 a.f, .int .i64 a.t, .int .i64 a.v]⟩], ?_⟩, fun h => absurd (Classical.not_not.mp h) (by omega)⟩
        rw [floop_at i_zz77_B1.eq_1]
        obtain ⟨d1, d1'⟩ := d1
        obtain ⟨d2, d2'⟩ := d2
        clear c5 c6 p1 p2
        have hin3 := fun L => hin a.v 0 (m - 1) L
        rw [decide_eq_false d3] at hin3
        clear d3
        simp (disch := first | assumption | omega | (simp [*] <;> omega) | fail) [hl, hi, hi2, t1, t2, hin3, hin, d1, d1', d2, d2', ws, wm, wi, hn']
      ·refine ⟨fun _ => ⟨[⟨0, [.int .i64 a.f, .int .i64 a.t, .int .i64 a.v]⟩], ?_⟩, fun h => absurd (Classical.not_not.mp h) (by omega)⟩
       rw [floop_at i_zz77_B1.eq_1]
       obtain ⟨d1, d1'⟩ := d1
       clear c5 c6 p1 p2
       have hin3 := fun L => hin a.t 0 (n - 1) L
       rw [decide_eq_false d2] at hin3
       clear d2
       simp (disch := first | assumption | omega | (simp [*] <;> omega) | fail) [hl, hi, hi2, t1, t2, hin3, hin, d1, d1', ws, wm, wi, hn']
     ·refine ⟨fun _ => ⟨[⟨0, [.int .i64 a.f, .int .i64 a.t, .int .i64 a.v]⟩], ?_⟩, fun h => absurd (Classical.not_not.mp h) (by omega)⟩
      rw [floop_at i_zz77_B1.eq_1]
      clear c5 c6 p1 p2
      have hin3 := fun L => hin a.f 0 (n - 1) L
      rw [decide_eq_false d1] at hin3
      clear d1
      simp (disch := first | assumption | omega | (simp [*] <;> omega) | fail) [hl, hi, hi2, t1, t2, hin3, ws, wm, wi, hn'])
    (by
     rw [floop_at i_zz77_B1.eq_1]
     clear hs
     simp (disch := first | assumption | omega | (simp [*] <;> omega) | fail) [hl]) 0 (by omega)
   rcases hf with ⟨⟨j, _, hj, _, hj2⟩, L, hf⟩ | ⟨hb, hf⟩
   ·rw [E false (by simp; exact fun h => hj2 (h.ok _ (List.getElem_mem hj)))]
    simp at hf
    clear E hs hj2
    simp (disch := first | assumption | omega | (simp [*] <;> omega) | fail) [i_zz77, hin, a1, a2, a3, a4, w, c5, hl, c6, c6', hf]
   ·have c7 : ∀ a ∈ A, okA n m a := by
     intro a ha
     obtain ⟨j, hj, rfl⟩ := List.getElem_of_mem ha
     apply Classical.byContradiction
     intro h2
     exact hb ⟨j, by omega, hj, hj, h2⟩
    rw [E true (by simp; exact ⟨by omega, by omega, by omega, by omega, by omega, by omega, c7⟩)]
    simp at hf
    clear c7 E hs hb
    simp (disch := first | assumption | omega | (simp [*] <;> omega) | fail) [i_zz77, hin, a1, a2, a3, a4, w, c5, hl, c6, c6', hf]
  ·rw [E false (by simp; exact fun h => c2 ⟨h.m1, h.m2⟩)]
   obtain ⟨a1, a2⟩ := c1
   have hin3 := fun L => hin m 1 62 L
   rw [decide_eq_false c2] at hin3
   clear hs c2
   simp (disch := first | assumption | omega | (simp [*] <;> omega) | fail) [i_zz77, hin3, hin, a1, a2]
 ·rw [E false (by simp; exact fun h => c1 ⟨h.n1, h.n2⟩)]
  have hin3 := fun L => hin n 1 10 L
  rw [decide_eq_false c1] at hin3
  clear hs c1
  simp (disch := first | assumption | omega | (simp [*] <;> omega) | fail) [i_zz77, hin3]
open Classical in
theorem c_zz64 (n m : Int) (s : Value) (A : List Ar) (h : VH) (hs : SlA h s A) (hA : A.length ≤ 1000) (hn : nro ≤ h.length) :
  vcall F nro k_zz64 [bv n m s] h = some (.bool (decide (IsB n m A)), h) := by
 have hso := hs.old
 have hnj := hs.nj
 have hc := c_zz77 (nro := nro) n m s A (bx3 h n m s) (hs.app _) hA (by simp; omega)
 refine v_zz64 (by simp [i_zz64]) ?_
 rw [fbody_eq]
 clear hs
 simp (disch := first | assumption | omega | (simp [*] <;> omega) | fail) [i_zz64, hc]
end

/- Draws: the source of a code, picks, the numbers of a cage. -/
section
open Go
variable {nro : Nat}
theorem Sl.cells {h : VH} {cd : Value} {cs : List Value} (hs : Sl h cd cs) : vcells cd = [cd] := by
 rcases hs.inv with ⟨rfl, _⟩ | ⟨rfl, _⟩ | ⟨a, n, t, o, rfl, _⟩ <;> rfl
theorem Sl.junk {h : VH} {cd : Value} {cs : List Value} (hs : Sl h cd cs) : isJunk cd = false := by
 rcases hs.inv with ⟨rfl, _⟩ | ⟨rfl, _⟩ | ⟨a, n, t, o, rfl, _⟩ <;> rfl
theorem l_zz55 (h : VH) (cd : Value) (xs : List Int) (hs : Sl h cd (bys xs)) (hx : Code' xs) (hn : nro ≤ h.length) (g0 : Int) :
  ∃ g1, floop (vcall F nro) nro [0, 3, 4] i_zz55_B1 (h ++ [⟨0, [cd, .int .i64 0, .int .u64 g0]⟩]) [cd, .pointer (some ⟨h.length, 0, some 3⟩), .int .i64 0] (h ++ [⟨0, [cd, .int .i64 0, .int .u64 g0]⟩]) =
   some (.exit 0, fl [(3, .pointer (some ⟨h.length, 0, some 3⟩))], h ++ [⟨0, [cd, .int .i64 0, .int .u64 g1]⟩]) := by
 have hn' := fun k => Nat.le_trans hn (Nat.le_add_right h.length k)
 have hl := hx.len
 have hco : ∀ k, OldC (h.length + k) cd := fun k r hr => Nat.lt_of_lt_of_le (hs.old r (crefs_sub hr)) (Nat.le_add_right _ _)
 have hol : ∀ k, Old (h.length + k) cd := fun k => hs.old.le (Nat.le_add_right _ _)
 have e1 := fun L => hs.vlen' (L := L)
 simp only [bys_length] at e1
 refine Exists.elim (for_upR (call := vcall F nro) (nro := nro) (live := [0, 3, 4]) (c := i_zz55_B1) (h0 := h ++ [⟨0, [cd, .int .i64 0, .int .u64 g0]⟩]) (n := min xs.length 4096) (fun i (_ : Int) => [cd, .pointer (some ⟨h.length, 0, some 3⟩), .int .i64 i]) (fun _ g => h ++ [⟨0, [cd, .int .i64 0, .int .u64 g]⟩])
  (fun _ _ => True) (fun g => some (.exit 0, fl [(3, .pointer (some ⟨h.length, 0, some 3⟩))], h ++ [⟨0, [cd, .int .i64 0, .int .u64 g]⟩])) ?_ ?_ 0 g0 (Nat.zero_le _) trivial) ?_
 ·intro i g hi hi2 _
  have hi3 : (i : Int) < xs.length := by omega
  have hi4 : (i : Int) < 4096 := by omega
  have e2 := fun L => hs.vidx' (L := L) (k := .i64) (j := (i : Int)) (by omega) (by rw [bys_length]; omega)
  have e3 := fun L => hs.vload' (L := L) (j := i) (by rw [bys_length]; omega)
  simp only [bys_get] at e3
  obtain ⟨y, hy⟩ : ∃ y, y = xs.getD i 0 := ⟨_, rfl⟩
  rw [← hy] at e3
  have w1 : IntKind.i64.wrap ((i : Int) + 1) = (i : Int) + 1 := wrap64 (by omega) (by omega)
  refine ⟨IntKind.u64.wrap (IntKind.u64.wrap (IntKind.u64.wrap (g * 1099511628211) + IntKind.u64.wrap y) + 157), trivial, ?_⟩
  rw [floop_at i_zz55_B1.eq_1]
  simp (disch := first | assumption | omega | (simp [*] <;> omega) | fail) [hi3, hi4, e1, e2, e3, w1, hn', hn, hco, hol]
 ·intro g _
  rw [floop_at i_zz55_B1.eq_1]
  by_cases hc : xs.length < 4096
  ·have hm : min xs.length 4096 = xs.length := by omega
   rw [hm]
   simp (disch := first | assumption | omega | (simp [*] <;> omega) | fail) [e1, hn', hn, hco, hol]
  ·have hm : min xs.length 4096 = 4096 := by omega
   rw [hm]
   simp (disch := first | assumption | omega | (simp [*] <;> omega) | fail) [e1, hn', hn, hco, hol]
 ·rintro g1 ⟨_, hg⟩
  exact ⟨g1, hg⟩
theorem c_zz55 (h : VH) (cd : Value) (xs : List Int) (hs : Sl h cd (bys xs)) (hx : Code' xs) (hn : nro ≤ h.length) :
  ∃ s, SOK xs s ∧ vcall F nro k_zz55 [cd] h = some (.pointer (some ⟨h.length, 0, some 3⟩), h ++ [srcO cd s]) := by
 have hn' := fun k => Nat.le_trans hn (Nat.le_add_right h.length k)
 have hl := hx.len
 have e0 := hs.vlen
 simp only [bys_length] at e0
 obtain ⟨g1, lp⟩ := l_zz55 (nro := nro) h cd xs hs hx hn (IntKind.u64.wrap (13311 + IntKind.u64.wrap xs.length))
 refine ⟨⟨0, g1⟩, Nat.zero_le _, ?_⟩
 refine v_zz55 (by simp [i_zz55]) ?_
 rw [fbody_eq]
 have hol : Old h.length cd := hs.old
 have hco : OldC h.length cd := fun r hr => hs.old r (crefs_sub hr)
 have hvc := hs.cells
 have hj := hs.junk
 unfold isJunk at hj
 have hcl : kclean h [.pointer (some ⟨h.length, 0, some 3⟩)] (h ++ [⟨0, [cd, .int .i64 0, .int .u64 g1]⟩]) = ([.pointer (some ⟨h.length, 0, some 3⟩)], h ++ [⟨0, [cd, .int .i64 0, .int .u64 g1]⟩]) := by
  rw [cleanup_one (k := 0) (o := srcO cd ⟨0, g1⟩) (by simp [trefs, vrefs, crefs, arefs]) (by simp [srcO]) (flatO_src hs.old _)]
  simp [tren, vren, cren, aren, renOf_one0, srcO]
 unfold srcO
 simp (disch := first | assumption | omega | (simp [*] <;> omega) | fail) [i_zz55, hcl, hvc, hj, splice, e0, lp, hn', hn, hol, hco]
end

/- Draws: picks in a heap, the numbers of a cage. -/
section
open Go
variable {nro : Nat}
section
variable {H : VH} {b : Nat} {cd : Value} {xs : List Int} {s : SS} (S : Srce nro H b cd xs s)
include S
theorem Srce.pickA {s' : SS} (h : SOK xs s') (L : VH) (k m : Nat) (ys : List Int) (hk : L[k]? = some ⟨1, ints ys⟩) (hm : ys.length = m) (h0 : 1 ≤ m) (h1 : m ≤ 100) :
  vcall F nro k_zz58 [.pointer (some ⟨b, 0, some 3⟩), .slice (some ⟨H.length + k, 0, none⟩) m m] (H.set b (srcO cd s') ++ L) = some (.int .i64 (ys.getD (srcN xs s' m).toNat 0), H.set b (srcO cd (srcS xs s' m)) ++ L) := by
 have hlt := S.lt
 have hq : ∀ o, Sli ((H.set b (srcO cd s') ++ L).set b o) (.slice (some ⟨H.length + k, 0, none⟩) m m) ys := fun o => by
  have e : ((H.set b (srcO cd s') ++ L).set b o)[H.length + k]? = some ⟨1, ints ys⟩ := by
   rw [List.set_append_left _ _ (by simpa using hlt), List.getElem?_append_right (by simp)]
   simpa using hk
  have := sli_at e
  rwa [hm] at this
 have := (S.set h L).pick _ ys hq (by omega) (by omega)
 rw [hm] at this
 rw [this, List.set_append_left _ _ (by simpa using hlt), List.set_set]
end
end

/- Draws of FirstRegular and LeastVertices. -/
section
open Go
variable {nro : Nat}
@[simp] theorem old_tup3i (n : Nat) (k1 k2 k3 : IntKind) (a b c : Int) : Old n (.tuple #[.int k1 a, .int k2 b, .int k3 c]) := fun r hr => by simp [trefs, vrefs, crefs, arefs] at hr
section
variable {h : VH} {cd : Value} {xs : List Int} (hs : Sl h cd (bys xs)) (hx : Code' xs) (hn : nro ≤ h.length)
include hs hx hn
theorem srce_new {s : SS} (ho : SOK xs s) : Srce nro (h ++ [srcO cd s]) h.length cd xs s :=
 ⟨by simp, hn, hx, ho, fun o => by
  have : (h ++ [srcO cd s]).set h.length o = h ++ [o] := by simp
  rw [this]; exact hs.app _⟩
end
end

/- Steps over arcs; the vertices that a lift's come from. -/
section
open Go
variable {nro : Nat}
theorem getD_atG {α : Type} {l : List α} {d : α} {i : Nat} (h : i < l.length) : l.getD i d = l[i] := by
 rw [List.getD_eq_getElem?_getD, List.getElem?_eq_getElem h]
 rfl
abbrev A0 : Ar := ⟨0, 0, 0⟩
def sF (A : List Ar) (s : Nat) : Int := if s % 2 = 0 then (A.getD (s / 2) A0).f else (A.getD (s / 2) A0).t
def sT (A : List Ar) (s : Nat) : Int := if s % 2 = 0 then (A.getD (s / 2) A0).t else (A.getD (s / 2) A0).f
def sV (m : Int) (A : List Ar) (s : Nat) : Int := if s % 2 = 0 then (A.getD (s / 2) A0).v else (m - (A.getD (s / 2) A0).v) % m
def back (s : Nat) : Nat := if s % 2 = 0 then s + 1 else s - 1
theorem back_back (s : Nat) : back (back s) = s := by unfold back; split <;> split <;> omega
theorem back_lt {s k : Nat} (h : s < 2 * k) : back s < 2 * k := by unfold back; split <;> omega
theorem sF_back (A : List Ar) (s : Nat) : sF A (back s) = sT A s := by
 unfold sF sT back
 by_cases h : s % 2 = 0
 ·rw [if_pos h, if_pos h, if_neg (by omega), show (s + 1) / 2 = s / 2 by omega]
 ·rw [if_neg h, if_neg h, if_pos (by omega), show (s - 1) / 2 = s / 2 by omega]
theorem sT_back (A : List Ar) (s : Nat) : sT A (back s) = sF A s := by
 have := sF_back A (back s)
 rw [back_back] at this
 exact this.symm
section
variable {n m : Int} {A : List Ar} (B : IsB n m A)
include B
theorem IsB.arc {s : Nat} (hs : s < 2 * A.length) : okA n m (A.getD (s / 2) A0) := by
 rw [getD_atG (by omega : s / 2 < A.length)]
 exact B.ok _ (List.getElem_mem _)
theorem IsB.sF {s : Nat} (hs : s < 2 * A.length) : 0 ≤ sF A s ∧ sF A s < n := by
 obtain ⟨a1, a2, a3, a4, _⟩ := B.arc hs
 unfold Zv.sF
 split <;> omega
theorem IsB.sT {s : Nat} (hs : s < 2 * A.length) : 0 ≤ sT A s ∧ sT A s < n := by
 obtain ⟨a1, a2, a3, a4, _⟩ := B.arc hs
 unfold Zv.sT
 split <;> omega
theorem IsB.sV {s : Nat} (hs : s < 2 * A.length) : 0 ≤ sV m A s ∧ sV m A s < m := by
 obtain ⟨a1, a2, a3, a4, a5, a6⟩ := B.arc hs
 have := B.m1
 unfold Zv.sV
 split
 ·omega
 ·exact ⟨Int.emod_nonneg _ (by omega), Int.emod_lt_of_pos _ (by omega)⟩
end
section
variable {n m : Int} {A : List Ar} {s : Value} {h : VH} {st : Nat}
theorem c_zz81 (B : IsB n m A) (hs : SlA h s A) (hn : nro ≤ h.length) (hst : st < 2 * A.length) :
  vcall F nro k_zz81 [bv n m s, .int .i64 st] h = some (.tuple #[.int .i64 (sF A st), .int .i64 (sT A st), .int .i64 (sV m A st)], h) := by
 have hn' := fun k => Nat.le_trans hn (Nat.le_add_right h.length k)
 have hso := hs.old
 have hsc := fun k => hs.oldCk (k := k)
 have hnj := hs.nj
 have h2 : st / 2 < A.length := by omega
 have hok := B.arc hst
 have e0 : A.getD (st / 2) A0 = A[st / 2] := getD_atG h2
 rw [e0] at hok
 unfold sF sT sV
 rw [e0]
 have t1 := fun L => hs.vidx' (L := L) (k := .i64) (j := ((st / 2 : Nat) : Int)) (by omega) (by omega)
 have t2 := fun L => hs.vload' (L := L) h2
 simp only [Int.toNat_natCast] at t1
 have hl := B.len
 have hm1 := B.m1
 have hm2 := B.m2
 have q : (st : Int).tdiv 2 = ((st / 2 : Nat) : Int) := by rw [Int.tdiv_eq_ediv_of_nonneg (by omega)]; omega
 have r : (st : Int).tmod 2 = ((st % 2 : Nat) : Int) := by rw [Int.tmod_eq_emod_of_nonneg (by omega)]; omega
 have w : IntKind.i64.wrap (((st / 2 : Nat) : Int)) = ((st / 2 : Nat) : Int) := wrap64 (by omega) (by omega)
 obtain ⟨b, rfl⟩ : ∃ b, b = st / 2 := ⟨_, rfl⟩
 generalize A[st / 2] = a at t2 hok
 generalize st / 2 = b at *
 unfold okA at hok
 obtain ⟨d1, d2, d3, d4, d5, d6⟩ := hok
 have w2 : IntKind.i64.wrap (m - a.v) = m - a.v := wrap64 (by omega) (by omega)
 have r2 : (m - a.v).tmod m = (m - a.v) % m := Int.tmod_eq_emod_of_nonneg (by omega)
 refine v_zz81 (by simp [i_zz81]) ?_
 rw [fbody_eq]
 clear hs B e0
 by_cases c : st % 2 = 0
 ·have c1 : ¬ ((st % 2 : Nat) : Int) = 1 := by omega
  generalize st % 2 = p at *
  rw [if_pos c, if_pos c, if_pos c]
  clear c
  simp (disch := first | assumption | omega | (simp [*] <;> omega) | fail) [i_zz81, t1, t2, q, r, w, c1, hn']
 ·have c1 : ((st % 2 : Nat) : Int) = 1 := by omega
  have c0 : ¬ m = 0 := by omega
  generalize st % 2 = p at *
  rw [if_neg c, if_neg c, if_neg c]
  clear c
  simp (disch := first | assumption | omega | (simp [*] <;> omega) | fail) [i_zz81, t1, t2, q, r, w, c1, w2, r2, c0, hn']
theorem c_zz61 (B : IsB n m A) (hs : SlA h s A) (hn : nro ≤ h.length) (hst : st < 2 * A.length) :
  vcall F nro k_zz61 [bv n m s, .int .i64 st] h = some (.tuple #[.int .i64 (sF A st), .int .i64 (sT A st), .int .i64 (sV m A st)], h) := by
 have hn' := fun k => Nat.le_trans hn (Nat.le_add_right h.length k)
 have hso := hs.old
 have hsc := fun k => hs.oldCk (k := k)
 have hnj := hs.nj
 have h2 : st / 2 < A.length := by omega
 have hok := B.arc hst
 have e0 : A.getD (st / 2) A0 = A[st / 2] := getD_atG h2
 rw [e0] at hok
 unfold sF sT sV
 rw [e0]
 have t1 := fun L => hs.vidx' (L := L) (k := .i64) (j := ((st / 2 : Nat) : Int)) (by omega) (by omega)
 have t2 := fun L => hs.vload' (L := L) h2
 simp only [Int.toNat_natCast] at t1
 have hl := B.len
 have hm1 := B.m1
 have hm2 := B.m2
 have q : (st : Int).tdiv 2 = ((st / 2 : Nat) : Int) := by rw [Int.tdiv_eq_ediv_of_nonneg (by omega)]; omega
 have r : (st : Int).tmod 2 = ((st % 2 : Nat) : Int) := by rw [Int.tmod_eq_emod_of_nonneg (by omega)]; omega
 have w : IntKind.i64.wrap (((st / 2 : Nat) : Int)) = ((st / 2 : Nat) : Int) := wrap64 (by omega) (by omega)
 generalize A[st / 2] = a at t2 hok
 generalize st / 2 = b at *
 unfold okA at hok
 obtain ⟨d1, d2, d3, d4, d5, d6⟩ := hok
 have w2 : IntKind.i64.wrap (m - a.v) = m - a.v := wrap64 (by omega) (by omega)
 have r2 : (m - a.v).tmod m = (m - a.v) % m := Int.tmod_eq_emod_of_nonneg (by omega)
 refine v_zz61 (by simp [i_zz61]) ?_
 rw [fbody_eq]
 clear hs B e0
 by_cases c : st % 2 = 0
 ·have c1 : ((st % 2 : Nat) : Int) = 0 := by omega
  generalize st % 2 = p at *
  rw [if_pos c, if_pos c, if_pos c]
  simp (disch := first | assumption | omega | (simp [*] <;> omega) | fail) [i_zz61, t1, t2, q, r, w, c1, hn']
 ·have c1 : ¬ st % 2 = 0 := by omega
  have c0 : ¬ m = 0 := by omega
  generalize st % 2 = p at *
  rw [if_neg c, if_neg c, if_neg c]
  simp (disch := first | assumption | omega | (simp [*] <;> omega) | fail) [i_zz61, t1, t2, q, r, w, c1, w2, r2, c0, hn']
theorem c_zz74 (hs : SlA h s A) (hA : A.length ≤ 1000) : vcall F nro k_zz74 [bv n m s] h = some (.int .i64 ((2 * A.length : Nat) : Int), h) := by
 have hso := hs.old
 have hnj := hs.nj
 have hl := fun L => hs.vlen' (L := L)
 have w : IntKind.i64.wrap (2 * (A.length : Int)) = 2 * (A.length : Int) := wrap64 (by omega) (by omega)
 refine v_zz74 (by simp [i_zz74]) ?_
 rw [fbody_eq]
 clear hs
 simp (disch := first | assumption | omega | (simp [*] <;> omega) | fail) [i_zz74, hl, w]
def covL (n m : Nat) : List Int := (List.range (n * m)).map fun v => ((v / m : Nat) : Int)
theorem covL_len (n m : Nat) : (covL n m).length = n * m := by simp [covL]
def covT (m k : Nat) : List Int := (List.range k).map fun v => ((v / m : Nat) : Int)
theorem covT_succ (m k : Nat) : covT m k ++ [((k / m : Nat) : Int)] = covT m (k + 1) := by simp [covT, List.range_succ]
@[simp] theorem covT_zero (m : Nat) : covT m 0 = [] := rfl
@[simp] theorem covT_len (m k : Nat) : (covT m k).length = k := by simp [covT]
open Classical in
theorem c_zz13 (hs : SlA h s A) (hA : A.length ≤ 1000) (hn : nro ≤ h.length) :
  vcall F nro k_zz13 [bv n m s] h = some (if IsB n m A then (.tuple #[.slice (some ⟨h.length, 0, none⟩) (n.toNat * m.toNat) (n.toNat * m.toNat), .int .i64 0], h ++ [⟨1, ints (covL n.toNat m.toNat)⟩]) else (.tuple #[.slice none 0 0, .int .i64 1], h)) := by
 have hn' := fun k => Nat.le_trans hn (Nat.le_add_right h.length k)
 have hso := hs.old
 have hsc := fun k => hs.oldCk (k := k)
 have hnj := hs.nj
 have hc := c_zz62 (nro := nro) n m s A (bx3 h n m s) (hs.app _) hA
 refine v_zz13 (by simp [i_zz13]) ?_
 rw [fbody_eq]
 by_cases B : IsB n m A
 ·rw [if_pos B]
  rw [decide_eq_true B] at hc
  have m1 := B.m1
  have n1 := B.n1
  have nm := B.nm
  obtain ⟨N, rfl⟩ : ∃ N : Nat, n = N := ⟨n.toNat, by omega⟩
  obtain ⟨M, rfl⟩ : ∃ M : Nat, m = M := ⟨m.toNat, by omega⟩
  rw [Int.toNat_natCast, Int.toNat_natCast]
  have e : (N : Int) * M = ((N * M : Nat) : Int) := by rw [Int.natCast_mul]
  rw [e] at nm
  obtain ⟨K, hK⟩ : ∃ K, K = N * M := ⟨_, rfl⟩
  have eL : covL N M = covT M K := by rw [hK]; rfl
  rw [eL]
  rw [← hK] at e nm ⊢
  clear hK eL
  have w : IntKind.i64.wrap ((K : Nat) : Int) = K := wrap64 (by omega) (by omega)
  have hf := for_up (call := vcall F nro) (nro := nro) (live := [1, 4, 14, 15]) (c := i_zz13_B1) (h0 := bx3 h N M s ++ [⟨1, []⟩]) (n := K)
   (fun i (_ : Unit) => [.pointer (some ⟨h.length, 0, some 3⟩), .slice (some ⟨h.length + 1, 0, none⟩) i i, .int .i64 K, .int .i64 i]) (fun i _ => bx3 h N M s ++ [⟨1, ints (covT M i)⟩]) (fun _ a => a) (fun _ _ => True)
   (fun _ => some (.exit 0, fl [(4, .slice (some ⟨h.length + 1, 0, none⟩) K K)], bx3 h N M s ++ [⟨1, ints (covT M K)⟩]))
   (fun i _ hi hi2 _ => by
    refine ⟨trivial, ?_⟩
    have w1 : IntKind.i64.wrap ((i : Int) + 1) = (i : Int) + 1 := wrap64 (by omega) (by omega)
    have q : (i : Int).tdiv M = ((i / M : Nat) : Int) := by rw [Int.tdiv_eq_ediv_of_nonneg (by omega), Int.natCast_ediv]
    have hz := Nat.div_le_self i M
    have h40 : i ≤ 1099511627775 := by omega
    have h41 : ¬ 1099511627775 < i := by omega
    have h42 : (i + 1) * 8 ≤ 1099511627776 := by omega
    have h43 : ¬ 1099511627776 < (i + 1) * 8 := by omega
    have hsu : ints (covT M i) ++ [Value.int .i64 ((i / M : Nat) : Int)] = ints (covT M (i + 1)) := by rw [← covT_succ, ← ints_append]; rfl
    have hl1 : (covT M i).length = i := covT_len _ _
    have hl2 : (covT M (i + 1)).length = i + 1 := covT_len _ _
    have c0 : ¬ M = 0 := by omega
    generalize covT M i = l0 at *
    generalize covT M (i + 1) = l1 at *
    conv => lhs; rw [floop_at i_zz13_B1.eq_1]
    generalize i / M = z at *
    have w2 : IntKind.i64.wrap ((z : Nat) : Int) = (z : Int) := wrap64 (by omega) (by omega)
    clear hs B
    simp (disch := first | assumption | omega | (simp [*] <;> omega) | fail) [hi, hi2, w1, q, w2, hsu, hl1, hl2, c0, hn', h40, h41, h42, h43])
   (fun _ _ => by
    have hl1 : (covT M K).length = K := covT_len _ _
    generalize covT M K = l0 at *
    rw [floop_at i_zz13_B1.eq_1]
    clear hs B
    simp (disch := first | assumption | omega | (simp [*] <;> omega) | fail) [hl1]) 0 () (by omega) trivial
  have hf1 := hf.1
  simp at hf1
  clear hs B hf
  simp (disch := first | assumption | omega | (simp [*] <;> omega) | fail) [i_zz13, hc, e, w, hf1, hn']
 ·rw [if_neg B]
  rw [decide_eq_false B] at hc
  clear B hs
  simp (disch := first | assumption | omega | (simp [*] <;> omega) | fail) [i_zz13, hc]
open Classical in
theorem c_zz17 (hs : SlA h s A) (hA : A.length ≤ 1000) (hn : nro ≤ h.length) :
  vcall F nro k_zz17 [bv n m s] h = some (if IsB n m A then (.tuple #[.slice (some ⟨h.length, 0, none⟩) (n.toNat * m.toNat) (n.toNat * m.toNat), .int .i64 0], h ++ [⟨1, ints (covL n.toNat m.toNat)⟩]) else (.tuple #[.slice none 0 0, .int .i64 1], h)) := by
 have hn' := fun k => Nat.le_trans hn (Nat.le_add_right h.length k)
 have hso := hs.old
 have hsc := fun k => hs.oldCk (k := k)
 have hnj := hs.nj
 have hc := c_zz77 (nro := nro) n m s A (bx3 h n m s) (hs.app _) hA (by simp; omega)
 refine v_zz17 (by simp [i_zz17]) ?_
 rw [fbody_eq]
 by_cases B : IsB n m A
 ·rw [if_pos B]
  rw [decide_eq_true B] at hc
  have m1 := B.m1
  have n1 := B.n1
  have nm := B.nm
  obtain ⟨N, rfl⟩ : ∃ N : Nat, n = N := ⟨n.toNat, by omega⟩
  obtain ⟨M, rfl⟩ : ∃ M : Nat, m = M := ⟨m.toNat, by omega⟩
  rw [Int.toNat_natCast, Int.toNat_natCast]
  have e : (N : Int) * M = ((N * M : Nat) : Int) := by rw [Int.natCast_mul]
  rw [e] at nm
  obtain ⟨K, hK⟩ : ∃ K, K = N * M := ⟨_, rfl⟩
  have eL : covL N M = covT M K := by rw [hK]; rfl
  rw [eL]
  rw [← hK] at e nm ⊢
  clear hK eL
  have w : IntKind.i64.wrap ((K : Nat) : Int) = K := wrap64 (by omega) (by omega)
  have hf := for_up (call := vcall F nro) (nro := nro) (live := [1, 4, 5]) (c := i_zz17_B1) (h0 := bx3 h N M s ++ [⟨1, []⟩]) (n := K)
   (fun i (_ : Unit) => [.pointer (some ⟨h.length, 0, some 3⟩), .slice (some ⟨h.length + 1, 0, none⟩) i i, .int .i64 i]) (fun i _ => bx3 h N M s ++ [⟨1, ints (covT M i)⟩]) (fun _ a => a) (fun _ _ => True)
   (fun _ => some (.exit 0, fl [(4, .slice (some ⟨h.length + 1, 0, none⟩) K K)], bx3 h N M s ++ [⟨1, ints (covT M K)⟩]))
   (fun i _ hi hi2 _ => by
    refine ⟨trivial, ?_⟩
    have w1 : IntKind.i64.wrap ((i : Int) + 1) = (i : Int) + 1 := wrap64 (by omega) (by omega)
    have q : (i : Int).tdiv M = ((i / M : Nat) : Int) := by rw [Int.tdiv_eq_ediv_of_nonneg (by omega), Int.natCast_ediv]
    have hz := Nat.div_le_self i M
    have h40 : i ≤ 1099511627775 := by omega
    have h41 : ¬ 1099511627775 < i := by omega
    have h42 : (i + 1) * 8 ≤ 1099511627776 := by omega
    have h43 : ¬ 1099511627776 < (i + 1) * 8 := by omega
    have hsu : ints (covT M i) ++ [Value.int .i64 ((i / M : Nat) : Int)] = ints (covT M (i + 1)) := by rw [← covT_succ, ← ints_append]; rfl
    have hl1 : (covT M i).length = i := covT_len _ _
    have hl2 : (covT M (i + 1)).length = i + 1 := covT_len _ _
    have c0 : ¬ M = 0 := by omega
    generalize covT M i = l0 at *
    generalize covT M (i + 1) = l1 at *
    conv => lhs; rw [floop_at i_zz17_B1.eq_1]
    generalize i / M = z at *
    have w2 : IntKind.i64.wrap ((z : Nat) : Int) = (z : Int) := wrap64 (by omega) (by omega)
    clear hs B
    simp (disch := first | assumption | omega | (simp [*] <;> omega) | fail) [hi, hi2, e, w, w1, q, w2, hsu, hl1, hl2, c0, hn', h40, h41, h42, h43])
   (fun _ _ => by
    have hl1 : (covT M K).length = K := covT_len _ _
    generalize covT M K = l0 at *
    rw [floop_at i_zz17_B1.eq_1]
    clear hs B
    simp (disch := first | assumption | omega | (simp [*] <;> omega) | fail) [hl1, e, w]) 0 () (by omega) trivial
  have hf1 := hf.1
  simp at hf1
  clear hs B hf
  simp (disch := first | assumption | omega | (simp [*] <;> omega) | fail) [i_zz17, hc, e, w, hf1, hn']
 ·rw [if_neg B]
  rw [decide_eq_false B] at hc
  clear B hs
  simp (disch := first | assumption | omega | (simp [*] <;> omega) | fail) [i_zz17, hc]
end
end

/- Lifts, by both. -/
section
open Go
variable {nro : Nat}
def nrm (x y : Nat) : Nat × Nat := (min x y, max x y)
theorem nrm_eq {x y v w : Nat} : nrm x y = nrm v w ↔ joins v w x y := by
 unfold nrm joins
 rw [Prod.mk.injEq]
 omega
def aV (m : Nat) (a : Ar) (i : Nat) : Nat := a.f.toNat * m + i
def aW (m : Nat) (a : Ar) (i : Nat) : Nat := a.t.toNat * m + (i + a.v.toNat) % m
def aP (m : Nat) (a : Ar) (i : Nat) : Nat × Nat := nrm (aV m a i) (aW m a i)
def apl (m : Nat) (a : Ar) (i : Nat) : List (Nat × Nat) := (List.range i).map (aP m a)
theorem apl_succ (m : Nat) (a : Ar) (i : Nat) : apl m a (i + 1) = apl m a i ++ [aP m a i] := by simp [apl, List.range_succ]
@[simp] theorem apl_zero (m : Nat) (a : Ar) : apl m a 0 = [] := rfl
@[simp] theorem apl_len (m : Nat) (a : Ar) (i : Nat) : (apl m a i).length = i := by simp [apl]
def aprs (m : Nat) (A : List Ar) : List (Nat × Nat) := A.flatMap fun a => apl m a m
theorem aprs_len (m : Nat) : ∀ A : List Ar, (aprs m A).length = A.length * m
 | [] => by simp [aprs]
 | a :: A => by
  have := aprs_len m A
  unfold aprs at this ⊢
  rw [List.flatMap_cons, List.length_append, this, apl_len, List.length_cons, Nat.add_mul]
  omega
theorem aprs_take (m : Nat) (A : List Ar) {k : Nat} (hk : k < A.length) : aprs m (A.take (k + 1)) = aprs m (A.take k) ++ apl m A[k] m := by
 rw [List.take_succ_eq_append_getElem hk]
 unfold aprs
 rw [List.flatMap_append]
 simp
def adjP (P : List (Nat × Nat)) (x y : Nat) : Prop := x ≠ y ∧ nrm x y ∈ P
theorem adjP_snoc (P : List (Nat × Nat)) (v w x y : Nat) : adjP (P ++ [nrm v w]) x y ↔ adjP P x y ∨ (v ≠ w ∧ joins v w x y) := by
 unfold adjP
 rw [List.mem_append, List.mem_singleton, nrm_eq]
 constructor
 ·rintro ⟨h1, h2 | h2⟩
  ·exact .inl ⟨h1, h2⟩
  ·refine .inr ⟨?_, h2⟩
   unfold joins at h2
   omega
 ·rintro (⟨h1, h2⟩ | ⟨h1, h2⟩)
  ·exact ⟨h1, .inl h2⟩
  ·refine ⟨?_, .inr h2⟩
   unfold joins at h2
   omega
def Prop2 (P : List (Nat × Nat)) : Prop := P.Nodup ∧ ∀ p ∈ P, p.1 ≠ p.2
theorem nrm_ne {v w : Nat} : (nrm v w).1 ≠ (nrm v w).2 ↔ v ≠ w := by unfold nrm; simp only; omega
theorem prop2_snoc (P : List (Nat × Nat)) (v w : Nat) : Prop2 (P ++ [nrm v w]) ↔ Prop2 P ∧ ¬ (v = w ∨ adjP P v w) := by
 unfold Prop2 adjP
 rw [List.nodup_append]
 constructor
 ·rintro ⟨⟨h1, _, h2⟩, h3⟩
  refine ⟨⟨h1, fun p hp => h3 p (List.mem_append_left _ hp)⟩, ?_⟩
  rintro (h | ⟨_, h⟩)
  ·exact nrm_ne.mp (h3 (nrm v w) (List.mem_append_right _ (List.mem_singleton.mpr rfl))) h
  ·exact h2 _ h _ (List.mem_singleton.mpr rfl) rfl
 ·rintro ⟨⟨h1, h2⟩, h3⟩
  have hvw : v ≠ w := fun e => h3 (.inl e)
  refine ⟨⟨h1, by simp, ?_⟩, ?_⟩
  ·rintro a ha b hb rfl
   rw [List.mem_singleton] at hb
   subst hb
   exact h3 (.inr ⟨hvw, ha⟩)
  ·intro p hp
   rcases List.mem_append.mp hp with h | h
   ·exact h2 p h
   ·rw [List.mem_singleton] at h
    subst h
    exact nrm_ne.mpr hvw
noncomputable def liftR (n m : Nat) (A : List Ar) : List Int := adjRows (n * m) (adjP (aprs m A))
theorem plc_lt {f n m i : Nat} (hf : f < n) (hi : i < m) : f * m + i < n * m := by
 have : (f + 1) * m ≤ n * m := Nat.mul_le_mul_right m hf
 rw [Nat.add_mul] at this
 omega
abbrev lH (h : VH) (n m : Int) (s : Value) (K : Nat) (r : List Int) : VH := h ++ [⟨0, [.int .i64 n, .int .i64 m, s]⟩, ⟨0, [.int .i64 0, .slice none 0 0]⟩, ⟨1, ints r⟩, ⟨0, [.int .i64 K, .slice (some ⟨h.length + 2, 0, none⟩) K K]⟩]
abbrev lp (h : VH) (k z : Nat) : Value := .pointer (some ⟨h.length + k, 0, some z⟩)
structure ArN (N M : Nat) (a : Ar) (P Q f t v : Nat) : Prop where
 ef : a.f = f
 et : a.t = t
 ev : a.v = v
 hf : f < N
 ht : t < N
 hv : v < M
 hP : (f : Int) * M = (P : Int)
 hQ : (t : Int) * M = (Q : Int)
 P1 : f * M = P
 Q1 : t * M = Q
theorem ArN.eq {N M : Nat} {a : Ar} {P Q f t v : Nat} (B : ArN N M a P Q f t v) : a = ⟨f, t, v⟩ := by
 obtain ⟨x, y, z⟩ := a
 have h1 := B.ef
 have h2 := B.et
 have h3 := B.ev
 simp only at h1 h2 h3
 subst h1; subst h2; subst h3
 rfl
theorem ArN.ex {N M : Nat} {a : Ar} (h : okA N M a) : ∃ P Q f t v, ArN N M a P Q f t v := by
 obtain ⟨h1, h2, h3, h4, h5, h6⟩ := h
 refine ⟨a.f.toNat * M, a.t.toNat * M, a.f.toNat, a.t.toNat, a.v.toNat, by omega, by omega, by omega, by omega, by omega, by omega, by rw [Int.natCast_mul], by rw [Int.natCast_mul], rfl, rfl⟩
theorem l_zz78_1 (N M K : Nat) (s : Value) (A : List Ar) (h : VH) (hn : nro ≤ h.length) (hK : K = N * M) (hK62 : K ≤ 62) (k : Nat) (a : Ar) (ha : okA N M a) (P0 : List (Nat × Nat)) (r0 : List Int) (h0 : IsAdj K r0 (adjP P0)) (hso : OldC (h.length + 5) s) (hsq : Old (h.length + 5) s) :
  ∃ r, IsAdj K r (adjP (P0 ++ apl M a M)) ∧ floop (vcall F nro) nro [2, 3, 4, 6, 16, 17, 18, 22, 23] i_zz78_B1 (lH h N M s K r0 ++ [⟨0, avc a⟩]) [lp h 1 2, .int .i64 M, lp h 3 2, lp h 4 3, s, .int .i64 A.length, .int .i64 k, .int .i64 M, .int .i64 0] (lH h N M s K r0 ++ [⟨0, avc a⟩]) =
   some (.exit 2, fl [(2, lp h 1 2), (3, .int .i64 M), (4, lp h 3 2), (16, s), (17, .int .i64 A.length), (18, .int .i64 k)], lH h N M s K r ++ [⟨0, avc a⟩]) := by
 have hn' := fun k => Nat.le_trans hn (Nat.le_add_right h.length k)
 obtain ⟨P, Q, f, t, v, B⟩ := ArN.ex ha
 have hM : 0 < M := by have := B.hv; omega
 have hPb : P + M ≤ K := by have := plc_lt B.hf (show M - 1 < M by omega); rw [B.P1] at this; omega
 have hQb : Q + M ≤ K := by have := plc_lt B.ht (show M - 1 < M by omega); rw [B.Q1] at this; omega
 have hPe : aV M a = fun i => P + i := by
  funext i; unfold aV; rw [B.ef, Int.toNat_natCast, B.P1]
 have hQe : aW M a = fun i => Q + (i + v) % M := by
  funext i; unfold aW; rw [B.et, B.ev, Int.toNat_natCast, Int.toNat_natCast, B.Q1]
 have e4 := B.hP
 have e5 := B.hQ
 have hvM := B.hv
 have ea := B.eq
 clear B ha
 refine Exists.elim (for_upR (call := vcall F nro) (nro := nro) (live := [2, 3, 4, 6, 16, 17, 18, 22, 23]) (c := i_zz78_B1) (h0 := lH h N M s K r0 ++ [⟨0, avc a⟩]) (n := M) (fun i (_ : List Int) => [lp h 1 2, .int .i64 M, lp h 3 2, lp h 4 3, s, .int .i64 A.length, .int .i64 k, .int .i64 M, .int .i64 i])
  (fun _ r => lH h N M s K r ++ [⟨0, avc a⟩]) (fun i r => IsAdj K r (adjP (P0 ++ apl M a i)))
  (fun r => some (.exit 2, fl [(2, lp h 1 2), (3, .int .i64 M), (4, lp h 3 2), (16, s), (17, .int .i64 A.length), (18, .int .i64 k)], lH h N M s K r ++ [⟨0, avc a⟩])) ?_ ?_ 0 r0 (by omega) (by simpa using h0)) ?_
 ·intro i r hi hi2 hI
  have hrl := hI.1
  obtain ⟨Z, hZ⟩ : ∃ Z, Z = (i + v) % M := ⟨_, rfl⟩
  have hZM : Z < M := by rw [hZ]; exact Nat.mod_lt _ hM
  have rm : ((i : Int) + (v : Int)).tmod M = (Z : Int) := by
   rw [Int.tmod_eq_emod_of_nonneg (by omega), hZ, Int.natCast_emod, Int.natCast_add]
  have hput := c_zz28 (nro := nro) K (h.length + 2) K ((P : Int) + i) ((Q : Int) + Z) r (lH h N M s K r ++ [⟨0, avc a⟩]) (by simp) hrl (by omega) (by omega) (by omega) (by omega) (by omega) hK62
  have hI2 := hI.put2 (a := (P : Int) + i) (b := (Q : Int) + Z) (by omega) (by omega) (by omega) (by omega) hK62
  have w1 : IntKind.i64.wrap (P : Int) = P := wrap64 (by omega) (by omega)
  have w2 : IntKind.i64.wrap (Q : Int) = Q := wrap64 (by omega) (by omega)
  have w3 : IntKind.i64.wrap ((P : Int) + i) = (P : Int) + i := wrap64 (by omega) (by omega)
  have w4 : IntKind.i64.wrap ((Q : Int) + Z) = (Q : Int) + Z := wrap64 (by omega) (by omega)
  have w5 : IntKind.i64.wrap ((i : Int) + v) = (i : Int) + v := wrap64 (by omega) (by omega)
  have w6 : IntKind.i64.wrap ((i : Int) + 1) = (i : Int) + 1 := wrap64 (by omega) (by omega)
  have c0 : ¬ M = 0 := by omega
  have step : apl M a (i + 1) = apl M a i ++ [nrm (P + i) (Q + Z)] := by
   rw [apl_succ]
   unfold aP
   rw [hPe, hQe, hZ]
  by_cases c : (P : Int) + i = (Q : Int) + Z
  ·rw [if_pos c] at hput
   refine ⟨r, ?_, ?_⟩
   ·rw [step, ← List.append_assoc]
    exact hI.congr fun x y _ => by
     rw [adjP_snoc]
     exact ⟨.inl, fun h => h.elim id fun h => absurd (by omega) h.1⟩
   ·rw [ea] at hput ⊢
    conv => lhs; rw [floop_at i_zz78_B1.eq_1]
    simp at hput
    rw [← c] at hput w4
    clear hI hI2 step hPe hQe h0 ea hPb hQb hZ
    simp (disch := first | assumption | omega | (simp [*] <;> omega) | fail) [hi, hi2, e4, e5, rm, w1, w2, w3, ← c, w5, w6, c0, hput, hrl]
  ·rw [if_neg c] at hput
   refine ⟨put2 r ((P : Int) + i) ((Q : Int) + Z), ?_, ?_⟩
   ·rw [step, ← List.append_assoc]
    exact hI2.congr fun x y _ => by
     rw [adjP_snoc]
     have : P + i ≠ Q + Z := by omega
     unfold joins
     rw [show ((P : Int) + i).toNat = P + i by omega, show ((Q : Int) + Z).toNat = Q + Z by omega]
     exact or_congr Iff.rfl ⟨fun h => ⟨this, h⟩, fun h => h.2⟩
   ·have hpl : (put2 r ((P : Int) + i) ((Q : Int) + Z)).length = K := by rw [put2_length]; exact hrl
    generalize put2 r ((P : Int) + i) ((Q : Int) + Z) = q at hput hpl ⊢
    rw [ea] at hput ⊢
    conv => lhs; rw [floop_at i_zz78_B1.eq_1]
    simp at hput
    clear hI hI2 step hPe hQe h0 ea hPb hQb hZ
    simp (disch := first | assumption | omega | (simp [*] <;> omega) | fail) [hi, hi2, e4, e5, rm, w1, w2, w3, w4, w5, w6, c0, hput, hrl, hpl]
 ·intro r _
  rw [floop_at i_zz78_B1.eq_1]
  simp (disch := first | assumption | omega | (simp [*] <;> omega) | fail) []
 ·rintro r ⟨i1, i2⟩
  exact ⟨r, i1, i2⟩
theorem c_zz78 (N M K : Nat) (s : Value) (A : List Ar) (h : VH) (hs : SlA h s A) (B : IsB N M A) (hn : nro ≤ h.length) (hK : K = N * M) :
  vcall F nro k_zz78 [bv N M s] h = some (gv K (.slice (some ⟨h.length, 0, none⟩) K K), h ++ [⟨1, ints (liftR N M A)⟩]) := by
 have hn' := fun k => Nat.le_trans hn (Nat.le_add_right h.length k)
 have hso := hs.old
 have hsk := fun k => hs.oldk (k := k)
 have hsc := fun k => hs.oldCk (k := k)
 have hnj := hs.nj
 have hl := fun L => hs.vlen' (L := L)
 have nm := B.nm
 have m1 := B.m1
 have n1 := B.n1
 have hAl := B.len
 have e0 : (N : Int) * M = (K : Int) := by rw [hK, Int.natCast_mul]
 have hK62 : K ≤ 62 := by omega
 have he := c_zz72 (nro := nro) K (h ++ [⟨0, [.int .i64 N, .int .i64 M, s]⟩, ⟨0, [.int .i64 0, .slice none 0 0]⟩]) (by omega) (by omega) (by simp; omega)
 have w0 : IntKind.i64.wrap (K : Int) = K := wrap64 (by omega) (by omega)
 have main := for_upR (call := vcall F nro) (nro := nro) (live := [2, 3, 4, 16, 17, 18]) (c := i_zz78_B2) (h0 := lH h N M s K (List.replicate K 0)) (n := A.length) (fun k (_ : List Int) => [lp h 1 2, .int .i64 M, lp h 3 2, s, .int .i64 A.length, .int .i64 k])
  (fun _ r => lH h N M s K r) (fun k r => IsAdj K r (adjP (aprs M (A.take k)))) (fun r => some (.exit 0, fl [(2, lp h 1 2), (4, lp h 3 2)], lH h N M s K r))
  (fun k r hk hk2 hI => by
   have ha := B.ok _ (List.getElem_mem hk)
   obtain ⟨r', i1, i2⟩ := l_zz78_1 (nro := nro) N M K s A h hn hK hK62 k A[k] ha (aprs M (A.take k)) r hI (hsc 5) (hsk 5)
   rw [← aprs_take M A hk] at i1
   refine ⟨r', i1, ?_⟩
   have t1 := fun L => hs.vidx' (L := L) (k := .i64) (j := (k : Int)) (by omega) hk2
   have t2 := fun L => hs.vload' (L := L) hk
   simp only [Int.toNat_natCast] at t1
   have w1 : IntKind.i64.wrap ((k : Int) + 1) = (k : Int) + 1 := wrap64 (by omega) (by omega)
   generalize A[k] = a at t2 i2 ha
   conv => lhs; rw [floop_at i_zz78_B2.eq_1]
   simp at i2
   have hrl := hI.1
   have hrl' := i1.1
   clear hI i1 ha B hs he hK e0 nm
   simp (disch := first | assumption | omega | (simp [*] <;> omega) | fail) [hk, hk2, t1, t2, w1, i2, hn'])
  (fun r hI => by
   have hrl := hI.1
   rw [floop_at i_zz78_B2.eq_1]
   clear hs B he hK e0 nm
   simp (disch := first | assumption | omega | (simp [*] <;> omega) | fail) [hrl]) 0 (List.replicate K 0) (by omega) (by
    refine (IsAdj.zero K).congr fun x y _ => ⟨False.elim, fun h => ?_⟩
    simp [adjP, aprs] at h)
 obtain ⟨r, h1, h2⟩ := main
 rw [List.take_length] at h1
 have e : liftR N M A = r := by unfold liftR; rw [← hK]; exact h1.eq
 rw [e]
 have hrl := h1.1
 refine v_zz78 (by simp [i_zz78]) ?_
 rw [fbody_eq]
 simp at he h2
 clear hs B h1 hK e
 simp (disch := first | assumption | omega | (simp [*] <;> omega) | fail) [i_zz78, he, e0, w0, h2, hl, hrl, hn', fresults, fresL, fres1]
end

/- Lifts by the reference: rows, and whether the base is faithful. -/
section
open Go
variable {nro : Nat}
theorem l_zz60_1 (N M K : Nat) (s : Value) (h : VH) (hn : nro ≤ h.length) (hK : K = N * M) (hK62 : K ≤ 62) (k : Nat) (a : Ar) (ha : okA N M a) (P0 : List (Nat × Nat)) (r0 : List Int) (b0 : Bool) (h0 : IsAdj K r0 (adjP P0)) (hb0 : b0 = true ↔ Prop2 P0) (hso : OldC (h.length + 5) s) :
  ∃ a' : List Int × Bool, (IsAdj K a'.1 (adjP (P0 ++ apl M a M)) ∧ (a'.2 = true ↔ Prop2 (P0 ++ apl M a M))) ∧ floop (vcall F nro) nro [1, 2, 4, 5, 6, 7, 8] i_zz60_B1 (lH h N M s K r0 ++ [⟨0, avc a⟩]) [.pointer (some ⟨h.length, 0, some 3⟩), lp h 1 2, lp h 3 2, .bool b0, .int .i64 k, lp h 4 3, .int .i64 0] (lH h N M s K r0 ++ [⟨0, avc a⟩]) =
   some (.exit 2, fl [(1, .pointer (some ⟨h.length, 0, some 3⟩)), (2, lp h 1 2), (4, lp h 3 2), (5, .bool a'.2), (6, .int .i64 k)], lH h N M s K a'.1 ++ [⟨0, avc a⟩]) := by
 have hn' := fun k => Nat.le_trans hn (Nat.le_add_right h.length k)
 obtain ⟨P, Q, f, t, v, B⟩ := ArN.ex ha
 have hM : 0 < M := by have := B.hv; omega
 have hPb : P + M ≤ K := by have := plc_lt B.hf (show M - 1 < M by omega); rw [B.P1] at this; omega
 have hQb : Q + M ≤ K := by have := plc_lt B.ht (show M - 1 < M by omega); rw [B.Q1] at this; omega
 have hPe : aV M a = fun i => P + i := by
  funext i; unfold aV; rw [B.ef, Int.toNat_natCast, B.P1]
 have hQe : aW M a = fun i => Q + (i + v) % M := by
  funext i; unfold aW; rw [B.et, B.ev, Int.toNat_natCast, Int.toNat_natCast, B.Q1]
 have e4 := B.hP
 have e5 := B.hQ
 have hvM := B.hv
 have ea := B.eq
 clear B ha
 refine Exists.elim (for_upR (call := vcall F nro) (nro := nro) (live := [1, 2, 4, 5, 6, 7, 8]) (c := i_zz60_B1) (h0 := lH h N M s K r0 ++ [⟨0, avc a⟩]) (n := M) (fun i (x : List Int × Bool) => [.pointer (some ⟨h.length, 0, some 3⟩), lp h 1 2, lp h 3 2, .bool x.2, .int .i64 k, lp h 4 3, .int .i64 i])
  (fun _ x => lH h N M s K x.1 ++ [⟨0, avc a⟩]) (fun i x => IsAdj K x.1 (adjP (P0 ++ apl M a i)) ∧ (x.2 = true ↔ Prop2 (P0 ++ apl M a i)))
  (fun x => some (.exit 2, fl [(1, .pointer (some ⟨h.length, 0, some 3⟩)), (2, lp h 1 2), (4, lp h 3 2), (5, .bool x.2), (6, .int .i64 k)], lH h N M s K x.1 ++ [⟨0, avc a⟩])) ?_ ?_ 0 (r0, b0) (by omega) (by simpa using ⟨h0, hb0⟩)) ?_
 ·rintro i ⟨r, b⟩ hi hi2 ⟨hI, hb⟩
  dsimp only at hI hb ⊢
  have hrl := hI.1
  obtain ⟨Z, hZ⟩ : ∃ Z, Z = (i + v) % M := ⟨_, rfl⟩
  have hZM : Z < M := by rw [hZ]; exact Nat.mod_lt _ hM
  have rm : ((i : Int) + (v : Int)).tmod M = (Z : Int) := by
   rw [Int.tmod_eq_emod_of_nonneg (by omega), hZ, Int.natCast_emod, Int.natCast_add]
  have hput := c_zz70 (nro := nro) K (h.length + 2) K ((P : Int) + i) ((Q : Int) + Z) r (lH h N M s K r ++ [⟨0, avc a⟩]) (by simp) hrl (by omega) (by omega) (by omega) (by omega) (by omega) hK62
  have hI2 := hI.put2 (a := (P : Int) + i) (b := (Q : Int) + Z) (by omega) (by omega) (by omega) (by omega) hK62
  obtain ⟨k1, k2, k3⟩ := hI.2 (P + i) (by omega)
  have hnat : ((P : Int) + i).toNat = P + i := by omega
  have hnat2 : ((Q : Int) + Z).toNat = Q + Z := by omega
  have hhas := c_zz68' (nro := nro) K ((P : Int) + i) ((Q : Int) + Z) (.slice (some ⟨h.length + 2, 0, none⟩) r.length r.length) r (lH h N M s K r ++ [⟨0, avc a⟩]) (sli_at (by simp)) (by omega) (by omega) (by omega) (by omega) (by rw [hnat]; exact k1) (by rw [hnat]; omega)
  rw [hrl, hnat, hnat2] at hhas
  have hk3 := k3 (Q + Z)
  have w1 : IntKind.i64.wrap (P : Int) = P := wrap64 (by omega) (by omega)
  have w2 : IntKind.i64.wrap (Q : Int) = Q := wrap64 (by omega) (by omega)
  have w3 : IntKind.i64.wrap ((P : Int) + i) = (P : Int) + i := wrap64 (by omega) (by omega)
  have w4 : IntKind.i64.wrap ((Q : Int) + Z) = (Q : Int) + Z := wrap64 (by omega) (by omega)
  have w5 : IntKind.i64.wrap ((i : Int) + v) = (i : Int) + v := wrap64 (by omega) (by omega)
  have w6 : IntKind.i64.wrap ((i : Int) + 1) = (i : Int) + 1 := wrap64 (by omega) (by omega)
  have c0 : ¬ M = 0 := by omega
  have step : apl M a (i + 1) = apl M a i ++ [nrm (P + i) (Q + Z)] := by
   rw [apl_succ]
   unfold aP
   rw [hPe, hQe, hZ]
  by_cases c : (P : Int) + i = (Q : Int) + Z
  ·refine ⟨(r, false), ⟨?_, ?_⟩, ?_⟩
   ·rw [step, ← List.append_assoc]
    exact hI.congr fun x y _ => by
     rw [adjP_snoc]
     exact ⟨.inl, fun h => h.elim id fun h => absurd (by omega) h.1⟩
   ·rw [step, ← List.append_assoc, prop2_snoc]
    exact ⟨fun h => (by cases h), fun h => absurd (Or.inl (by omega)) h.2⟩
   ·dsimp only
    rw [ea] at hput hhas ⊢
    conv => lhs; rw [floop_at i_zz60_B1.eq_1]
    rw [← c] at w4
    clear hI hI2 step hPe hQe h0 ea hPb hQb hZ k1 k2 k3 hk3 hb hb0 hput hhas hK hnat hnat2
    simp (disch := first | assumption | omega | (simp [*] <;> omega) | fail) [hi, hi2, e4, e5, rm, w1, w2, w3, ← c, w5, w6, c0, hrl]
  ·refine ⟨(put2 r ((P : Int) + i) ((Q : Int) + Z), b && !rbit r (P + i) (Q + Z)), ⟨?_, ?_⟩, ?_⟩
   ·rw [step, ← List.append_assoc]
    exact hI2.congr fun x y _ => by
     rw [adjP_snoc]
     have : P + i ≠ Q + Z := by omega
     unfold joins
     rw [hnat, hnat2]
     exact or_congr Iff.rfl ⟨fun h => ⟨this, h⟩, fun h => h.2⟩
   ·rw [step, ← List.append_assoc, prop2_snoc, ← hb, ← hk3]
    have : P + i ≠ Q + Z := by omega
    simp [this]
   ·dsimp only
    have hpl : (put2 r ((P : Int) + i) ((Q : Int) + Z)).length = K := by rw [put2_length]; exact hrl
    generalize put2 r ((P : Int) + i) ((Q : Int) + Z) = q at hput hpl ⊢
    rw [ea] at hput hhas ⊢
    conv => lhs; rw [floop_at i_zz60_B1.eq_1]
    generalize rbit r (P + i) (Q + Z) = u at hhas ⊢
    simp at hput hhas
    clear hI hI2 step hPe hQe h0 ea hPb hQb hZ k1 k2 k3 hk3 hb hb0 hK hnat hnat2
    cases u
    ·simp (disch := first | assumption | omega | (simp [*] <;> omega) | fail) [hi, hi2, e4, e5, rm, w1, w2, w3, w4, w5, w6, c0, c, hput, hhas, hrl, hpl]
    ·simp (disch := first | assumption | omega | (simp [*] <;> omega) | fail) [hi, hi2, e4, e5, rm, w1, w2, w3, w4, w5, w6, c0, c, hput, hhas, hrl, hpl]
 ·rintro ⟨r, b⟩ _
  rw [floop_at i_zz60_B1.eq_1]
  simp (disch := first | assumption | omega | (simp [*] <;> omega) | fail) []
 ·rintro x ⟨i1, i2⟩
  exact ⟨x, i1, i2⟩
def Faith (M : Nat) (A : List Ar) : Prop := Prop2 (aprs M A)
open Classical in
theorem c_zz60 (N M K : Nat) (s : Value) (A : List Ar) (h : VH) (hs : SlA h s A) (B : IsB N M A) (hn : nro ≤ h.length) (hK : K = N * M) :
  vcall F nro k_zz60 [bv N M s] h = some (.tuple #[gv K (.slice (some ⟨h.length, 0, none⟩) K K), .bool (decide (Faith M A))], h ++ [⟨1, ints (liftR N M A)⟩]) := by
 have hn' := fun k => Nat.le_trans hn (Nat.le_add_right h.length k)
 have hso := hs.old
 have hsk := fun k => hs.oldk (k := k)
 have hsc := fun k => hs.oldCk (k := k)
 have hnj := hs.nj
 have hl := fun L => hs.vlen' (L := L)
 have nm := B.nm
 have m1 := B.m1
 have n1 := B.n1
 have hAl := B.len
 have e0 : (N : Int) * M = (K : Int) := by rw [hK, Int.natCast_mul]
 have hK62 : K ≤ 62 := by omega
 have he := c_zz43 (nro := nro) K (h ++ [⟨0, [.int .i64 N, .int .i64 M, s]⟩, ⟨0, [.int .i64 0, .slice none 0 0]⟩]) (by omega) (by omega) (by simp; omega)
 have w0 : IntKind.i64.wrap (K : Int) = K := wrap64 (by omega) (by omega)
 have main := for_upR (call := vcall F nro) (nro := nro) (live := [1, 2, 4, 5, 6]) (c := i_zz60_B2) (h0 := lH h N M s K (List.replicate K 0)) (n := A.length) (fun k (x : List Int × Bool) => [.pointer (some ⟨h.length, 0, some 3⟩), lp h 1 2, lp h 3 2, .bool x.2, .int .i64 k])
  (fun _ x => lH h N M s K x.1) (fun k x => IsAdj K x.1 (adjP (aprs M (A.take k))) ∧ (x.2 = true ↔ Prop2 (aprs M (A.take k)))) (fun x => some (.exit 0, fl [(2, lp h 1 2), (4, lp h 3 2), (5, .bool x.2)], lH h N M s K x.1))
  (fun k x hk hk2 hI => by
   obtain ⟨r, b⟩ := x
   obtain ⟨hI, hb⟩ := hI
   dsimp only at hI hb ⊢
   have ha := B.ok _ (List.getElem_mem hk)
   obtain ⟨⟨r', b'⟩, i1, i2⟩ := l_zz60_1 (nro := nro) N M K s h hn hK hK62 k A[k] ha (aprs M (A.take k)) r b hI hb (hsc 5)
   rw [← aprs_take M A hk] at i1
   refine ⟨(r', b'), i1, ?_⟩
   dsimp only at i2 ⊢
   have t1 := fun L => hs.vidx' (L := L) (k := .i64) (j := (k : Int)) (by omega) hk2
   have t2 := fun L => hs.vload' (L := L) hk
   simp only [Int.toNat_natCast] at t1
   have w1 : IntKind.i64.wrap ((k : Int) + 1) = (k : Int) + 1 := wrap64 (by omega) (by omega)
   generalize A[k] = a at t2 i2 ha
   conv => lhs; rw [floop_at i_zz60_B2.eq_1]
   simp at i2
   have hrl := hI.1
   have hrl' := i1.1.1
   clear hI i1 ha B hs he hK e0 nm hb
   simp (disch := first | assumption | omega | (simp [*] <;> omega) | fail) [hl, hk, hk2, t1, t2, w1, i2, hn'])
  (fun x hI => by
   have hrl := hI.1.1
   rw [floop_at i_zz60_B2.eq_1]
   clear hs B he hK e0 nm hI
   simp (disch := first | assumption | omega | (simp [*] <;> omega) | fail) [hl, hrl]) 0 (List.replicate K 0, true) (by omega) ⟨by
    refine (IsAdj.zero K).congr fun x y _ => ⟨False.elim, fun h => ?_⟩
    simp [adjP, aprs] at h, by simp [aprs, Prop2]⟩
 obtain ⟨⟨r, b⟩, ⟨h1, hb⟩, h2⟩ := main
 rw [List.take_length] at h1 hb
 have e : liftR N M A = r := by unfold liftR; rw [← hK]; exact h1.eq
 have eb : decide (Faith M A) = b := by
  by_cases c : Faith M A
  ·rw [decide_eq_true c]; exact (hb.mpr c).symm
  ·rw [decide_eq_false c]
   cases b
   ·rfl
   ·exact absurd (hb.mp rfl) c
 rw [e, eb]
 have hrl := h1.1
 refine v_zz60 (by simp [i_zz60]) ?_
 rw [fbody_eq]
 simp at he h2
 clear hs B h1 hK e hb eb
 simp (disch := first | assumption | omega | (simp [*] <;> omega) | fail) [i_zz60, he, e0, w0, h2, hl, hrl, hn', fresults, fresL, fres1]
end

/- The law of HalfOf. -/
section
open Go
variable {nro : Nat}
abbrev hh (h : VH) (n : Int) (s : Value) (D L : List Int) : VH := h ++ [⟨0, [.int .i64 n, s]⟩, ⟨0, [.int .i64 0, .slice none 0 0]⟩, ⟨1, ints D⟩, ⟨1, ints L⟩]
end

/- The law of HalfOf: the program's side. -/
section
open Go
variable {nro : Nat}
theorem GV.of {n : Nat} {r : List Int} {adj : Nat → Nat → Prop} (h : IsAdj n r adj) (h1 : 1 ≤ n) (h2 : n ≤ 62) (hlt : ∀ v w, v < n → adj v w → w < n) (hirr : ∀ v, ¬ adj v v) (hsym : ∀ v w, adj v w → adj w v) : GV n r := by
 have R := Rok.of h h2 hlt
 refine ⟨by omega, by omega, by rw [h.1], fun v hv => ?_, fun v w hv hw => ?_⟩
 ·rw [h.1] at hv
  obtain ⟨r1, r2⟩ := R.row v hv
  refine ⟨r1, ?_, ?_⟩
  ·have e : ((2 ^ n : Nat) : Int) = (2 : Int) ^ ((n : Int).toNat) := by simp
   rw [← e]; omega
  ·have := (h.2 v hv).2.2 v
   cases hb : rbit r v v
   ·rfl
   ·exact absurd (this.mp hb) (hirr v)
 ·rw [h.1] at hv hw
  have a := (h.2 v hv).2.2 w
  have b := (h.2 w hw).2.2 v
  rw [Bool.eq_iff_iff, a, b]
  exact ⟨hsym v w, hsym w v⟩
end

/- GirthOf, GirthAt, CountShortest, EdgesOf. -/
section
open Go
open Classical
variable {nro : Nat}
theorem c_zz73 (x : Int) (h : VH) : vcall F nro k_zz73 [.int .i64 x] h = some (.tuple #[.int .i64 x, .int .i64 (if x = 0 then 4 else 0)], h) := by
 refine v_zz73 (by simp [i_zz73]) ?_
 rw [fbody_eq]
 by_cases c : x = 0
 ·simp (disch := first | assumption | omega | (simp [*] <;> omega) | fail) [i_zz73, c]
 ·simp (disch := first | assumption | omega | (simp [*] <;> omega) | fail) [i_zz73, c]
theorem c_zz46 (n : Int) (s : Value) (rows : List Int) (h : VH) (hs : Sli h s rows) (hn : nro ≤ h.length) :
  vcall F nro k_zz46 [gv n s] h = some (.tuple #[.int .i64 (giA n rows).1, .int .i64 (giA n rows).2], h) := by
 refine v_zz46 (by simp [i_zz46]) ?_
 rw [fbody_eq]
 have hn' := fun k => Nat.le_trans hn (Nat.le_add_right h.length k)
 have hso := fun k => hs.oldCk (k := k)
 have hi := c_zz49 (nro := nro) n s rows (bx h n s) (hs.app _)
 have hf := fun x => c_zz73 (nro := nro) x (bx h n s)
 unfold giA
 by_cases g : GV n rows
 ·have hlo := g.lo
  obtain ⟨N, rfl⟩ : ∃ N : Nat, n = N := ⟨n.toNat, by omega⟩
  have hg := c_zz15 (nro := nro) N s rows (bx h N s) (hs.app _) g (by simp; omega)
  rw [if_neg (fun h => h g), Int.toNat_natCast]
  rw [decide_eq_true g] at hi
  obtain ⟨x, hx⟩ : ∃ x, x = girF rows N 0 0 := ⟨_, rfl⟩
  rw [← hx] at hg ⊢
  clear hx g
  by_cases c2 : x = 0
  ·subst c2
   simp (disch := first | assumption | omega | (simp [*] <;> omega) | fail) [i_zz46, hi, hg, hf, hn', hso]
  ·simp (disch := first | assumption | omega | (simp [*] <;> omega) | fail) [i_zz46, hi, hg, hf, c2, hn', hso]
 ·rw [if_pos g]
  rw [decide_eq_false g] at hi
  clear g
  simp (disch := first | assumption | omega | (simp [*] <;> omega) | fail) [i_zz46, hi, hn', hso]
theorem c_zz45 (n : Nat) (s : Value) (rows : List Int) (h : VH) (hs : Sli h s rows) (hn : nro ≤ h.length) (g : GV n rows) :
  ∃ v M, vcall F nro k_zz45 [gv n s] h = some (.tuple #[v, .int .i64 0], h ++ M) ∧ SL2 h.length M v (edgesF rows n 0) := by
 have hn' := fun k => Nat.le_trans hn (Nat.le_add_right h.length k)
 have hso := fun k => hs.oldCk (k := k)
 have hi := c_zz49 (nro := nro) n s rows (bx h n s) (hs.app _)
 rw [decide_eq_true g] at hi
 obtain ⟨q, M, e1, e2⟩ := c_zz14 (nro := nro) n s rows (bx h n s) (hs.app _) (by simp; omega) g.rok
 have e2' : SL2 (h.length + [(⟨0, [.int .i64 n, s]⟩ : VO)].length) M q (edgesF rows n 0) := by simpa using e2
 obtain ⟨v, M', e3, e4⟩ := SL2.fwdC (h := h) (pre := [⟨0, [.int .i64 n, s]⟩]) e2' .i64 0
 obtain ⟨qa, qm, rfl⟩ := e2.shape
 refine ⟨v, M', ?_, e4⟩
 refine v_zz45 (by simp [i_zz45]) ?_
 rw [fbody_eq]
 simp at e1 e3
 clear e2 e2' e4 g
 simp (disch := first | assumption | omega | (simp [*] <;> omega) | fail) [i_zz45, hi, e1, e3, hn', hso, fresults, fresL, fres1]
end

/- Faithful bases have as many edges as told; the functions on lifts. -/
section
open Go
variable {nro : Nat}
theorem nodup_subG {α : Type} [DecidableEq α] : ∀ {l1 l2 : List α}, l1.Nodup → (∀ x ∈ l1, x ∈ l2) → l1.length ≤ l2.length
 | [], _, _, _ => Nat.zero_le _
 | a :: l1, l2, h1, hs => by
  rw [List.nodup_cons] at h1
  have ha := hs a List.mem_cons_self
  have := nodup_subG (l1 := l1) (l2 := l2.erase a) h1.2 fun x hx => (List.mem_erase_of_ne (by rintro rfl; exact h1.1 hx)).mpr (hs x (List.mem_cons_of_mem _ hx))
  rw [List.length_erase_of_mem ha] at this
  have := List.length_pos_of_mem ha
  rw [List.length_cons]
  omega
theorem nodup_allG {α : Type} [DecidableEq α] {l1 l2 : List α} (h1 : l1.Nodup) (hs : ∀ x ∈ l1, x ∈ l2) (hl : l2.length ≤ l1.length) {y : α} (hy : y ∈ l2) : y ∈ l1 := by
 apply Classical.byContradiction
 intro hn
 have := nodup_subG (l1 := l1) (l2 := l2.erase y) h1 fun x hx => (List.mem_erase_of_ne (by rintro rfl; exact hn hx)).mpr (hs x hx)
 rw [List.length_erase_of_mem hy] at this
 have := List.length_pos_of_mem hy
 omega
theorem nodup_turnG {α : Type} [DecidableEq α] {l1 l2 : List α} (h1 : l1.Nodup) (hs : ∀ x ∈ l1, x ∈ l2) (hl : l2.length ≤ l1.length) : l2.Nodup := by
 apply Classical.byContradiction
 intro hn
 have key : ∀ {l : List α}, ¬ l.Nodup → ∃ x, x ∈ l.erase x := by
  intro l
  induction l with
  | nil => intro h; exact absurd List.nodup_nil h
  | cons a l ih =>
   intro h
   by_cases c : a ∈ l
   ·exact ⟨a, by rw [List.erase_cons_head]; exact c⟩
   ·have : ¬ l.Nodup := fun h2 => h (List.nodup_cons.mpr ⟨c, h2⟩)
    obtain ⟨x, hx⟩ := ih this
    refine ⟨x, ?_⟩
    have hne : a ≠ x := by rintro rfl; exact c (List.mem_of_mem_erase hx)
    rw [List.erase_cons_tail (by simpa using hne)]
    exact List.mem_cons_of_mem _ hx
 obtain ⟨x, hx⟩ := key hn
 have := nodup_subG (l1 := l1) (l2 := l2.erase x) h1 fun z hz => by
  by_cases c : z = x
  ·rw [c]; exact hx
  ·exact (List.mem_erase_of_ne c).mpr (hs z hz)
 have h3 := List.mem_of_mem_erase hx
 rw [List.length_erase_of_mem h3] at this
 have := List.length_pos_of_mem h3
 omega
theorem edgF_nodup (rows : List Int) (v n w : Nat) : (edgF rows v n w).Nodup := by
  by_cases h : w < n
  · rw [edgF_step h, List.nodup_append]
    refine ⟨by split <;> simp, edgF_nodup rows v n (w + 1), ?_⟩
    intro a ha b hb e
    subst e
    rw [edgF_mem] at hb
    obtain ⟨k, h1, _, _, h2⟩ := hb
    split at ha
    · rw [List.mem_singleton] at ha
      rw [ha] at h2
      have h3 := (List.cons.inj (List.cons.inj h2).2).1
      omega
    · cases ha
  · rw [edgF_end h]; exact List.nodup_nil
 termination_by n - w
theorem edgesF_nodup (rows : List Int) (n v : Nat) : (edgesF rows n v).Nodup := by
  by_cases h : v < n
  · rw [edgesF_step h, List.nodup_append]
    refine ⟨edgF_nodup rows v n _, edgesF_nodup rows n (v + 1), ?_⟩
    intro a ha b hb e
    subst e
    rw [edgF_mem] at ha
    rw [edgesF_mem] at hb
    obtain ⟨k, _, _, _, h2⟩ := ha
    obtain ⟨u, k', h3, _, _, _, h4⟩ := hb
    rw [h2] at h4
    have := (List.cons.inj h4).1
    omega
  · rw [edgesF_end h]; exact List.nodup_nil
 termination_by n - v
section
variable {N M K : Nat} {A : List Ar} (B : IsB N M A) (hK : K = N * M)
include B hK
theorem aprs_mem {p : Nat × Nat} (hp : p ∈ aprs M A) : ∃ a ∈ A, ∃ i, i < M ∧ p = aP M a i ∧ aV M a i < K ∧ aW M a i < K := by
 unfold aprs at hp
 rw [List.mem_flatMap] at hp
 obtain ⟨a, ha, hp⟩ := hp
 unfold apl at hp
 rw [List.mem_map] at hp
 obtain ⟨i, hi, rfl⟩ := hp
 rw [List.mem_range] at hi
 obtain ⟨P, Q, f, t, v, C⟩ := ArN.ex (B.ok a ha)
 have hM : 0 < M := by omega
 refine ⟨a, ha, i, hi, rfl, ?_, ?_⟩
 ·unfold aV
  rw [C.ef, Int.toNat_natCast, hK]
  exact plc_lt C.hf hi
 ·unfold aW
  rw [C.et, C.ev, Int.toNat_natCast, Int.toNat_natCast, hK]
  exact plc_lt C.ht (Nat.mod_lt _ hM)
theorem aprs_rng {p : Nat × Nat} (hp : p ∈ aprs M A) : p.1 ≤ p.2 ∧ p.2 < K := by
 obtain ⟨a, _, i, _, rfl, h1, h2⟩ := aprs_mem B hK hp
 unfold aP nrm
 dsimp only
 omega
theorem adjP_lt {v w : Nat} (h : adjP (aprs M A) v w) : v < K ∧ w < K := by
 have := aprs_rng B hK h.2
 unfold nrm at this
 dsimp only at this
 omega
theorem liftR_is : IsAdj K (liftR N M A) (adjP (aprs M A)) := by
 have nm := B.nm
 have e : (N : Int) * M = ((N * M : Nat) : Int) := by rw [Int.natCast_mul]
 unfold liftR
 rw [← hK]
 exact adjRows_is fun v w _ h => by
  have := (adjP_lt B hK h).2
  omega
theorem lift_gv : GV K (liftR N M A) := by
 have nm := B.nm
 have n1 := B.n1
 have m1 := B.m1
 have e : (N : Int) * M = ((N * M : Nat) : Int) := by rw [Int.natCast_mul]
 have h1 : 1 ≤ K := by
  rw [hK]
  exact Nat.mul_le_mul (by omega : 1 ≤ N) (by omega : 1 ≤ M)
 refine GV.of (liftR_is B hK) h1 (by omega) (fun v w _ h => (adjP_lt B hK h).2) (fun v h => h.1 rfl) (fun v w h => ⟨fun e => h.1 e.symm, ?_⟩)
 rw [show nrm w v = nrm v w from nrm_eq.mpr (by unfold joins; omega)]
 exact h.2
theorem faith_iff : Faith M A ↔ (edgesF (liftR N M A) K 0).length = A.length * M := by
 have hI := liftR_is B hK
 have hn := edgesF_nodup (liftR N M A) K 0
 have hm : ∀ u k : Nat, u < k → k < K → (rbit (liftR N M A) u k = true ↔ (u, k) ∈ aprs M A) := fun u k h1 h2 => by
  rw [(hI.2 u (by omega)).2.2 k]
  unfold adjP
  rw [show nrm u k = (u, k) by unfold nrm; rw [Nat.min_eq_left (by omega), Nat.max_eq_right (by omega)]]
  exact ⟨fun h => h.2, fun h => ⟨by omega, h⟩⟩
 let f : Nat × Nat → List Int := fun p => [(p.1 : Int), (p.2 : Int)]
 have hf : ∀ p q, f p = f q → p = q := by
  rintro ⟨a, b⟩ ⟨c, d⟩ h
  have h1 := (List.cons.inj h).1
  have h2 := (List.cons.inj (List.cons.inj h).2).1
  simp only at h1 h2
  rw [Prod.mk.injEq]
  omega
 have hsub : ∀ e ∈ edgesF (liftR N M A) K 0, e ∈ (aprs M A).map f := by
  intro e he
  rw [edgesF_mem] at he
  obtain ⟨u, k, _, h1, h2, h3, rfl⟩ := he
  exact List.mem_map.mpr ⟨(u, k), (hm u k h1 h2).mp h3, rfl⟩
 have hlen : ((aprs M A).map f).length = A.length * M := by rw [List.length_map, aprs_len]
 constructor
 ·rintro ⟨h1, h2⟩
  have hP : ((aprs M A).map f).Nodup := by
   have : ∀ l : List (Nat × Nat), l.Nodup → (l.map f).Nodup := by
    intro l
    induction l with
    | nil => intro _; exact List.nodup_nil
    | cons a l ih =>
     intro h
     rw [List.nodup_cons] at h
     rw [List.map_cons, List.nodup_cons]
     refine ⟨?_, ih h.2⟩
     intro hc
     rw [List.mem_map] at hc
     obtain ⟨b, hb, e⟩ := hc
     have := hf _ _ e
     subst this
     exact h.1 hb
   exact this _ h1
  have a1 := nodup_subG hn hsub
  have a2 := nodup_subG hP (l2 := edgesF (liftR N M A) K 0) (by
   intro e he
   rw [List.mem_map] at he
   obtain ⟨⟨u, k⟩, hp, rfl⟩ := he
   have hr := aprs_rng B hK hp
   have hne := h2 _ hp
   dsimp only at hr hne
   rw [edgesF_mem]
   exact ⟨u, k, by omega, by omega, hr.2, (hm u k (by omega) hr.2).mpr hp, rfl⟩)
  omega
 ·intro h
  have hl : ((aprs M A).map f).length ≤ (edgesF (liftR N M A) K 0).length := by omega
  have h1 := nodup_turnG hn hsub hl
  refine ⟨?_, fun p hp => ?_⟩
  ·have : ∀ l : List (Nat × Nat), (l.map f).Nodup → l.Nodup := by
    intro l
    induction l with
    | nil => intro _; exact List.nodup_nil
    | cons a l ih =>
     intro h
     rw [List.map_cons, List.nodup_cons] at h
     rw [List.nodup_cons]
     exact ⟨fun hc => h.1 (List.mem_map_of_mem hc), ih h.2⟩
   exact this _ h1
  ·have := nodup_allG hn hsub hl (List.mem_map_of_mem hp)
   rw [edgesF_mem] at this
   obtain ⟨u, k, _, h2, _, _, e⟩ := this
   have e1 := (List.cons.inj e).1
   have e2 := (List.cons.inj (List.cons.inj e).2).1
   omega
end
noncomputable def liftAns (n m : Int) (A : List Ar) : GAns := by
 classical exact if IsB n m A then .inl (((n.toNat * m.toNat : Nat) : Int), liftR n.toNat m.toNat A) else .inr 1
section
variable {n m : Int} {A : List Ar} {s : Value} {h : VH}
open Classical in
theorem c_zz63 (hs : SlA h s A) (hA : A.length ≤ 1000) (hn : nro ≤ h.length) : vcall F nro k_zz63 [bv n m s] h = some (gres h (liftAns n m A)) := by
 have hn' := fun k => Nat.le_trans hn (Nat.le_add_right h.length k)
 have hso := hs.old
 have hsc := fun k => hs.oldCk (k := k)
 have hnj := hs.nj
 have hc := c_zz62 (nro := nro) n m s A (h ++ [⟨0, [.int .i64 n, .int .i64 m, s]⟩, ⟨0, [.int .i64 0, .slice none 0 0]⟩]) (hs.app _) hA
 refine v_zz63 (by simp [i_zz63]) ?_
 rw [fbody_eq]
 unfold liftAns
 by_cases B : IsB n m A
 ·rw [if_pos B]
  rw [decide_eq_true B] at hc
  obtain ⟨N, rfl⟩ : ∃ N : Nat, n = N := ⟨n.toNat, by have := B.n1; omega⟩
  obtain ⟨M, rfl⟩ : ∃ M : Nat, m = M := ⟨m.toNat, by have := B.m1; omega⟩
  rw [Int.toNat_natCast, Int.toNat_natCast]
  have hl := c_zz78 (nro := nro) N M (N * M) s A (h ++ [⟨0, [.int .i64 N, .int .i64 M, s]⟩, ⟨0, [.int .i64 0, .slice none 0 0]⟩]) (hs.app _) B (by simp; omega) rfl
  have hrl := (liftR_is B rfl).1
  obtain ⟨K, hK⟩ : ∃ K, K = N * M := ⟨_, rfl⟩
  rw [← hK] at hl hrl ⊢
  generalize liftR N M A = r at hl hrl ⊢
  simp at hl
  clear hs B hK
  simp (disch := first | assumption | omega | (simp [*] <;> omega) | fail) [i_zz63, hc, hl, hrl, hn', gres, fresults, fresL, fres1]
 ·rw [if_neg B]
  rw [decide_eq_false B] at hc
  clear hs B
  simp (disch := first | assumption | omega | (simp [*] <;> omega) | fail) [i_zz63, hc, hn', gres, fresults, fresL, fres1]
open Classical in
theorem c_zz65 (hs : SlA h s A) (hA : A.length ≤ 1000) (hn : nro ≤ h.length) : vcall F nro k_zz65 [bv n m s] h = some (gres h (liftAns n m A)) := by
 have hn' := fun k => Nat.le_trans hn (Nat.le_add_right h.length k)
 have hso := hs.old
 have hsc := fun k => hs.oldCk (k := k)
 have hnj := hs.nj
 have hc := c_zz77 (nro := nro) n m s A (h ++ [⟨0, [.int .i64 n, .int .i64 m, s]⟩, ⟨0, [.int .i64 0, .slice none 0 0]⟩]) (hs.app _) hA (by simp; omega)
 refine v_zz65 (by simp [i_zz65]) ?_
 rw [fbody_eq]
 unfold liftAns
 by_cases B : IsB n m A
 ·rw [if_pos B]
  rw [decide_eq_true B] at hc
  obtain ⟨N, rfl⟩ : ∃ N : Nat, n = N := ⟨n.toNat, by have := B.n1; omega⟩
  obtain ⟨M, rfl⟩ : ∃ M : Nat, m = M := ⟨m.toNat, by have := B.m1; omega⟩
  rw [Int.toNat_natCast, Int.toNat_natCast]
  have hl := c_zz60 (nro := nro) N M (N * M) s A (h ++ [⟨0, [.int .i64 N, .int .i64 M, s]⟩, ⟨0, [.int .i64 0, .slice none 0 0]⟩]) (hs.app _) B (by simp; omega) rfl
  have hrl := (liftR_is B rfl).1
  obtain ⟨K, hK⟩ : ∃ K, K = N * M := ⟨_, rfl⟩
  rw [← hK] at hl hrl ⊢
  generalize liftR N M A = r at hl hrl ⊢
  generalize decide (Faith M A) = b at hl
  simp at hl
  clear hs B hK
  simp (disch := first | assumption | omega | (simp [*] <;> omega) | fail) [i_zz65, hc, hl, hrl, hn', gres, fresults, fresL, fres1]
 ·rw [if_neg B]
  rw [decide_eq_false B] at hc
  clear hs B
  simp (disch := first | assumption | omega | (simp [*] <;> omega) | fail) [i_zz65, hc, hn', gres, fresults, fresL, fres1]
end
end

/- Parts are counted by their leaders; lifts' parts and edges. -/
section
open Go
variable {nro : Nat}
def cntB (p : Nat → Bool) : Nat → Nat
 | 0 => 0
 | k + 1 => cntB p k + if p k = true then 1 else 0
theorem cntB_le (p : Nat → Bool) : ∀ k, cntB p k ≤ k
 | 0 => Nat.le_refl _
 | k + 1 => by
  have := cntB_le p k
  rw [cntB]
  split <;> omega
theorem cntB_same {p q : Nat → Bool} : ∀ {k : Nat}, (∀ v, v < k → p v = q v) → cntB p k = cntB q k
 | 0, _ => rfl
 | k + 1, h => by rw [cntB, cntB, cntB_same (k := k) fun v hv => h v (by omega), h k (by omega)]
theorem cntB_one {p q : Nat → Bool} {a : Nat} : ∀ {k : Nat}, a < k → (∀ v, v < k → v ≠ a → p v = q v) → p a = true → q a = false → cntB p k = cntB q k + 1
 | 0, ha, _, _, _ => by omega
 | k + 1, ha, h, h1, h2 => by
  rw [cntB, cntB]
  by_cases e : a = k
  ·subst e
   rw [cntB_same (k := a) (p := p) (q := q) fun v hv => h v (by omega) (by omega), h1, h2]
   simp
  ·rw [cntB_one (k := k) (by omega) (fun v hv => h v (by omega)) h1 h2, h k (by omega) (fun e2 => e e2.symm)]
   omega
theorem LL.len {h : VH} {v : Value} {ess : List (List Int)} (hl : LL h v ess) : vlen h v = some (.int .i64 ess.length, h) := by
 obtain ⟨vs, e, h1, _⟩ := hl
 rw [h1.vlen, e]
def lc (rows : List Int) (n : Nat) : Nat := cntB (fun v => lead rows v == v) n
theorem parts_cnt {n : Nat} {rows : List Int} (R : Rok n rows) (hs : ∀ v w, rbit rows v w = true → rbit rows w v = true) : ∀ (k left : Nat), left < k → left < 2 ^ n → (∀ v w, left.testBit v = true → cnn rows v w → left.testBit w = true) →
  (partsF rows left).length = cntB (fun v => left.testBit v && (lead rows v == v)) n
 | 0, _, h, _, _ => by omega
 | k + 1, left, hk, hl, hcl => by
  by_cases h0 : left = 0
  ·subst h0
   rw [partsF_zero]
   have : ∀ k, cntB (fun v => (0 : Nat).testBit v && (lead rows v == v)) k = 0 := by
    intro k
    induction k with
    | zero => rfl
    | succ k ih => rw [cntB, ih]; simp
   rw [this]; rfl
  ·obtain ⟨e1, e2⟩ := partsF_step R h0 hl
   obtain ⟨_, _, b1, b2, b3⟩ := low_bit h0 hl R.le
   obtain ⟨a, ha⟩ : ∃ a, a = low left := ⟨_, rfl⟩
   rw [← ha] at e1 e2 b1 b2 b3
   have la : lead rows a = a := by
    obtain ⟨c1, c2, c3, c4⟩ := lead_spec R b2
    have h1 := hcl a _ b1 c1
    rcases Nat.lt_or_ge (lead rows a) a with h | h
    ·rw [b3 _ h] at h1; cases h1
    ·omega
   have ih := parts_cnt R hs k (nand left (part rows a)) (by omega) (by omega) (fun v w hv hc => by
    rw [nand_bit, Bool.and_eq_true, Bool.not_eq_true'] at hv ⊢
    refine ⟨hcl v w hv.1 hc, ?_⟩
    rw [← Bool.not_eq_true] at hv ⊢
    intro h
    rw [part_cnn R b2] at h
    apply hv.2
    rw [part_cnn R b2]
    exact cnn_trans h (cnn_symm hs hc))
   rw [e1, List.length_cons, ih]
   refine (cntB_one (a := a) b2 (fun v hv hne => ?_) (by rw [b1, la]; simp) ?_).symm
   ·rw [nand_bit]
    by_cases c : lead rows v = v
    ·have : (part rows a).testBit v = false := by
      rw [← Bool.not_eq_true, part_cnn R b2]
      intro h
      have := (lead_eq R hs b2 hv).mpr h
      omega
     rw [this]; simp
    ·rw [show (lead rows v == v) = false by simpa using c]; simp
   ·rw [nand_bit, (part_cnn R b2 a).mpr (cnn_refl a)]; simp
theorem parts_lc {n : Nat} {rows : List Int} (g : GV n rows) : (partsF rows (2 ^ n - 1)).length = lc rows n := by
 have hb : ∀ v, (2 ^ n - 1).testBit v = decide (v < n) := fun v => Nat.testBit_two_pow_sub_one n v
 rw [parts_cnt g.rok (fun v w h => g.sym' h) (2 ^ n) (2 ^ n - 1) (all_lt n) (all_lt n) (fun v w hv hc => by
  rw [hb] at hv ⊢
  rw [decide_eq_true_iff] at hv ⊢
  exact cnn_lt g.rok hv hc)]
 unfold lc
 exact cntB_same fun v hv => by rw [hb, decide_eq_true hv]; simp
theorem c_zz44 (n : Nat) (s : Value) (rows : List Int) (h : VH) (hs : Sli h s rows) (hn : nro ≤ h.length) (g : GV n rows) :
  vcall F nro k_zz44 [gv n s] h = some (.int .i64 (lc rows n), h) := by
 have hn' := fun k => Nat.le_trans hn (Nat.le_add_right h.length k)
 have hso := fun k => hs.oldCk (k := k)
 have hle := g.hi
 have hl := c_zz26 (nro := nro) n s rows (bx h n s) (hs.app _) (by simp; omega) g
 have main := for_upR (call := vcall F nro) (nro := nro) (live := [1, 3, 4, 5]) (c := i_zz44_B1) (h0 := bx h n s ++ [⟨1, ints (leads rows n)⟩]) (n := n) (fun v (c : Nat) => [bp h, .slice (some ⟨h.length + 1, 0, none⟩) n n, .int .i64 c, .int .i64 v]) (fun _ _ => bx h n s ++ [⟨1, ints (leads rows n)⟩]) (fun v c => c = cntB (fun v => lead rows v == v) v)
  (fun c => some (.exit 0, fl [(4, .int .i64 c)], bx h n s ++ [⟨1, ints (leads rows n)⟩]))
  (fun v c hv hv2 hI => by
   have w3 : IntKind.i64.wrap ((v : Int) + 1) = (v : Int) + 1 := wrap64 (by omega) (by omega)
   have t2 := tbl_take1 (g := fun w => (lead rows w : Int)) hv
   have hll : (leads rows n).length = n := by simp [leads]
   rw [show tbl n (fun w => (lead rows w : Int)) = leads rows n from rfl] at t2
   have hcv := cntB_le (fun v => lead rows v == v) v
   rw [← hI] at hcv
   have w4 : IntKind.i64.wrap ((c : Int) + 1) = (c : Int) + 1 := wrap64 (by omega) (by omega)
   generalize leads rows n = Ls at t2 hll hl ⊢
   by_cases e : lead rows v = v
   ·refine ⟨c + 1, by rw [cntB, ← hI, if_pos (by simpa using e)], ?_⟩
    rw [floop_at i_zz44_B1.eq_1]
    rw [e] at t2
    clear hs g hI hl e
    simp (disch := first | assumption | omega | (simp [*] <;> omega) | fail) [hv, hv2, t2, hll, w3, w4, hn', hso]
   ·refine ⟨c, by rw [cntB, ← hI, if_neg (by simpa using e)]; rfl, ?_⟩
    rw [floop_at i_zz44_B1.eq_1]
    have e' : ¬ (lead rows v : Int) = v := by omega
    generalize lead rows v = z at *
    clear hs g hI hl
    simp (disch := first | assumption | omega | (simp [*] <;> omega) | fail) [hv, hv2, t2, hll, w3, w4, e, e', hn', hso])
  (fun c _ => by
   rw [floop_at i_zz44_B1.eq_1]
   clear hs g hl
   simp (disch := first | assumption | omega | (simp [*] <;> omega) | fail) [hn', hso]) 0 0 (Nat.zero_le _) rfl
 obtain ⟨c, hc, l2⟩ := main
 rw [← show c = lc rows n from hc]
 refine v_zz44 (by simp [i_zz44]) ?_
 rw [fbody_eq]
 have hll : (leads rows n).length = n := by simp [leads]
 generalize leads rows n = Ls at l2 hll hl
 simp at hl l2
 clear hs g hc
 simp (disch := first | assumption | omega | (simp [*] <;> omega) | fail) [i_zz44, hl, l2, hll, hn', hso]
open Classical in
theorem c_zz50 (n : Nat) (s : Value) (rows : List Int) (h : VH) (hs : Sli h s rows) (hn : nro ≤ h.length) (g : GV n rows) :
  ∃ v M, vcall F nro k_zz50 [gv n s] h = some (.tuple #[v, .int .i64 0], h ++ M) ∧ SL2 h.length M v (partsF rows (2 ^ n - 1)) := by
 have hn' := fun k => Nat.le_trans hn (Nat.le_add_right h.length k)
 have hso := fun k => hs.oldCk (k := k)
 have hi := c_zz49 (nro := nro) n s rows (bx h n s) (hs.app _)
 rw [decide_eq_true g] at hi
 obtain ⟨q, M, e1, e2⟩ := c_zz16 (nro := nro) n s rows (bx h n s) (hs.app _) (by simp; omega) g.rok
 have e2' : SL2 (h.length + [(⟨0, [.int .i64 n, s]⟩ : VO)].length) M q (partsF rows (2 ^ n - 1)) := by simpa using e2
 obtain ⟨v, M', e3, e4⟩ := SL2.fwdC (h := h) (pre := [⟨0, [.int .i64 n, s]⟩]) e2' .i64 0
 obtain ⟨qa, qm, rfl⟩ := e2.shape
 refine ⟨v, M', ?_, e4⟩
 refine v_zz50 (by simp [i_zz50]) ?_
 rw [fbody_eq]
 simp at e1 e3
 clear e2 e2' e4 g
 simp (disch := first | assumption | omega | (simp [*] <;> omega) | fail) [i_zz50, hi, e1, e3, hn', hso, fresults, fresL, fres1]
section
variable {n m : Int} {A : List Ar} {s : Value} {h : VH}
noncomputable def lpA (n m : Int) (A : List Ar) : Int × Int := by
 classical exact if IsB n m A then ((lc (liftR n.toNat m.toNat A) (n.toNat * m.toNat) : Int), 0) else (0, 1)
open Classical in
theorem c_zz34 (hs : SlA h s A) (hA : A.length ≤ 1000) (hn : nro ≤ h.length) : vcall F nro k_zz34 [bv n m s] h = some (.tuple #[.int .i64 (lpA n m A).1, .int .i64 (lpA n m A).2], h) := by
 have hn' := fun k => Nat.le_trans hn (Nat.le_add_right h.length k)
 have hso := hs.old
 have hsc := fun k => hs.oldCk (k := k)
 have hnj := hs.nj
 have hc := c_zz77 (nro := nro) n m s A (bx3 h n m s) (hs.app _) hA (by simp; omega)
 refine v_zz34 (by simp [i_zz34]) ?_
 rw [fbody_eq]
 unfold lpA
 by_cases B : IsB n m A
 ·rw [if_pos B]
  rw [decide_eq_true B] at hc
  obtain ⟨N, rfl⟩ : ∃ N : Nat, n = N := ⟨n.toNat, by have := B.n1; omega⟩
  obtain ⟨M, rfl⟩ : ∃ M : Nat, m = M := ⟨m.toNat, by have := B.m1; omega⟩
  rw [Int.toNat_natCast, Int.toNat_natCast]
  have hl := c_zz60 (nro := nro) N M (N * M) s A (bx3 h N M s) (hs.app _) B (by simp; omega) rfl
  have g := lift_gv B rfl
  obtain ⟨K, hK⟩ : ∃ K, K = N * M := ⟨_, rfl⟩
  rw [← hK] at hl g ⊢
  have hrl := g.len
  generalize liftR N M A = r at hl hrl g ⊢
  have hrl' : r.length = K := by omega
  have hp := c_zz44 (nro := nro) K (.slice (some ⟨h.length + 1, 0, none⟩) r.length r.length) r (bx3 h N M s ++ [⟨1, ints r⟩, ⟨0, [.int .i64 K, .slice (some ⟨h.length + 1, 0, none⟩) K K]⟩]) (sli_at (by simp)) (by simp; omega) g
  rw [hrl'] at hp
  generalize decide (Faith M A) = b at hl
  generalize lc r K = z at hp ⊢
  simp at hl hp
  clear hs B hK g
  simp (disch := first | assumption | omega | (simp [*] <;> omega) | fail) [i_zz34, hc, hl, hp, hrl', hn', fresults, fresL, fres1]
 ·rw [if_neg B]
  rw [decide_eq_false B] at hc
  clear hs B
  simp (disch := first | assumption | omega | (simp [*] <;> omega) | fail) [i_zz34, hc, hn', fresults, fresL, fres1]
open Classical in
theorem c_zz29 (hs : SlA h s A) (hA : A.length ≤ 1000) (hn : nro ≤ h.length) : vcall F nro k_zz29 [bv n m s] h = some (.tuple #[.int .i64 (lpA n m A).1, .int .i64 (lpA n m A).2], h) := by
 have hn' := fun k => Nat.le_trans hn (Nat.le_add_right h.length k)
 have hso := hs.old
 have hsc := fun k => hs.oldCk (k := k)
 have hnj := hs.nj
 have hc := c_zz62 (nro := nro) n m s A (bx3 h n m s) (hs.app _) hA
 refine v_zz29 (by simp [i_zz29]) ?_
 rw [fbody_eq]
 unfold lpA
 by_cases B : IsB n m A
 ·rw [if_pos B]
  rw [decide_eq_true B] at hc
  obtain ⟨N, rfl⟩ : ∃ N : Nat, n = N := ⟨n.toNat, by have := B.n1; omega⟩
  obtain ⟨M, rfl⟩ : ∃ M : Nat, m = M := ⟨m.toNat, by have := B.m1; omega⟩
  rw [Int.toNat_natCast, Int.toNat_natCast]
  have hl := c_zz78 (nro := nro) N M (N * M) s A (bx3 h N M s) (hs.app _) B (by simp; omega) rfl
  have g := lift_gv B rfl
  obtain ⟨K, hK⟩ : ∃ K, K = N * M := ⟨_, rfl⟩
  rw [← hK] at hl g ⊢
  have hrl := g.len
  generalize liftR N M A = r at hl hrl g ⊢
  have hrl' : r.length = K := by omega
  obtain ⟨q, M2, e1, e2⟩ := c_zz16 (nro := nro) K (.slice (some ⟨h.length + 1, 0, none⟩) r.length r.length) r (bx3 h N M s ++ [⟨1, ints r⟩]) (sli_at (by simp)) (by simp; omega) g.rok
  rw [hrl'] at e1
  rw [← parts_lc g]
  have hv := LL.len e2.ll
  generalize partsF r (2 ^ K - 1) = ps at e1 e2 hv ⊢
  obtain ⟨qa, qm, rfl⟩ := e2.shape
  simp at hl e1 hv
  clear hs B hK g e2
  simp (disch := first | assumption | omega | (simp [*] <;> omega) | fail) [i_zz29, hc, hl, e1, hv, hrl', hn', fresults, fresL, fres1]
 ·rw [if_neg B]
  rw [decide_eq_false B] at hc
  clear hs B
  simp (disch := first | assumption | omega | (simp [*] <;> omega) | fail) [i_zz29, hc, hn', fresults, fresL, fres1]
end
end

/- Faithful bases, told by both. -/
section
open Go
variable {nro : Nat}
section
variable {n m : Int} {A : List Ar} {s : Value} {h : VH}
noncomputable def faA (n m : Int) (A : List Ar) : Bool × Int := by
 classical exact if IsB n m A then (decide (Faith m.toNat A), 0) else (false, 1)
open Classical in
theorem c_zz25 (hs : SlA h s A) (hA : A.length ≤ 1000) (hn : nro ≤ h.length) : vcall F nro k_zz25 [bv n m s] h = some (.tuple #[.bool (faA n m A).1, .int .i64 (faA n m A).2], h) := by
 have hn' := fun k => Nat.le_trans hn (Nat.le_add_right h.length k)
 have hso := hs.old
 have hsc := fun k => hs.oldCk (k := k)
 have hnj := hs.nj
 have hc := c_zz77 (nro := nro) n m s A (bx3 h n m s) (hs.app _) hA (by simp; omega)
 refine v_zz25 (by simp [i_zz25]) ?_
 rw [fbody_eq]
 unfold faA
 by_cases B : IsB n m A
 ·rw [if_pos B]
  rw [decide_eq_true B] at hc
  obtain ⟨N, rfl⟩ : ∃ N : Nat, n = N := ⟨n.toNat, by have := B.n1; omega⟩
  obtain ⟨M, rfl⟩ : ∃ M : Nat, m = M := ⟨m.toNat, by have := B.m1; omega⟩
  rw [Int.toNat_natCast]
  have hl := c_zz60 (nro := nro) N M (N * M) s A (bx3 h N M s) (hs.app _) B (by simp; omega) rfl
  generalize liftR N M A = r at hl ⊢
  generalize N * M = K at hl
  generalize decide (Faith M A) = b at hl ⊢
  simp at hl
  clear hs B
  simp (disch := first | assumption | omega | (simp [*] <;> omega) | fail) [i_zz25, hc, hl, hn', fresults, fresL, fres1]
 ·rw [if_neg B]
  rw [decide_eq_false B] at hc
  clear hs B
  simp (disch := first | assumption | omega | (simp [*] <;> omega) | fail) [i_zz25, hc, hn', fresults, fresL, fres1]
open Classical in
theorem c_zz21 (hs : SlA h s A) (hA : A.length ≤ 1000) (hn : nro ≤ h.length) : vcall F nro k_zz21 [bv n m s] h = some (.tuple #[.bool (faA n m A).1, .int .i64 (faA n m A).2], h) := by
 have hn' := fun k => Nat.le_trans hn (Nat.le_add_right h.length k)
 have hso := hs.old
 have hsc := fun k => hs.oldCk (k := k)
 have hnj := hs.nj
 have hvl := fun L => hs.vlen' (L := L)
 have hc := c_zz62 (nro := nro) n m s A (bx3 h n m s) (hs.app _) hA
 refine v_zz21 (by simp [i_zz21]) ?_
 rw [fbody_eq]
 unfold faA
 by_cases B : IsB n m A
 ·rw [if_pos B]
  rw [decide_eq_true B] at hc
  obtain ⟨N, rfl⟩ : ∃ N : Nat, n = N := ⟨n.toNat, by have := B.n1; omega⟩
  obtain ⟨M, rfl⟩ : ∃ M : Nat, m = M := ⟨m.toNat, by have := B.m1; omega⟩
  rw [Int.toNat_natCast]
  have hl := c_zz78 (nro := nro) N M (N * M) s A (bx3 h N M s) (hs.app _) B (by simp; omega) rfl
  have g := lift_gv B rfl
  have hf := faith_iff B rfl
  have m2 := B.m2
  have al := B.len
  have hm := Nat.mul_le_mul al (show M ≤ 62 by omega)
  have w : IntKind.i64.wrap ((A.length : Int) * (M : Int)) = ((A.length * M : Nat) : Int) := by
   rw [← Int.natCast_mul]
   exact wrap64 (by omega) (by omega)
  have ed : decide (Faith M A) = decide ((edgesF (liftR N M A) (N * M) 0).length = A.length * M) := by
   by_cases c : Faith M A
   ·rw [decide_eq_true c, decide_eq_true (hf.mp c)]
   ·rw [decide_eq_false c, decide_eq_false (fun h => c (hf.mpr h))]
  rw [ed]
  clear ed hf
  obtain ⟨K, hK⟩ : ∃ K, K = N * M := ⟨_, rfl⟩
  rw [← hK] at hl g ⊢
  have hrl := g.len
  generalize liftR N M A = r at hl hrl g ⊢
  have hrl' : r.length = K := by omega
  obtain ⟨q, M2, e1, e2⟩ := c_zz14 (nro := nro) K (.slice (some ⟨h.length + 1, 0, none⟩) r.length r.length) r (bx3 h N M s ++ [⟨1, ints r⟩]) (sli_at (by simp)) (by simp; omega) g.rok
  rw [hrl'] at e1
  have hv := LL.len e2.ll
  generalize edgesF r K 0 = ps at e1 e2 hv ⊢
  obtain ⟨qa, qm, rfl⟩ := e2.shape
  simp at hl e1 hv
  have ew : ∀ y : Nat, (((ps.length : Nat) : Int) = ((y : Nat) : Int)) ↔ ps.length = y := fun y => by omega
  generalize A.length * M = z at w ⊢
  clear hs B hK g e2 hm
  simp (disch := first | assumption | omega | (simp [*] <;> omega) | fail) [i_zz21, hc, hl, e1, hv, hvl, hrl', w, hn', fresults, fresL, fres1]
  omega
 ·rw [if_neg B]
  rw [decide_eq_false B] at hc
  clear hs B
  simp (disch := first | assumption | omega | (simp [*] <;> omega) | fail) [i_zz21, hc, hn', fresults, fresL, fres1]
end
end

end Go.Proofs.YtbomdghbblakoaaDoor.Zv

