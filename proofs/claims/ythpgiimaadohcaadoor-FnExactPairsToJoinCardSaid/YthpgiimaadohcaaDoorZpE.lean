/- Part E of the proof: ZwDist2, ZwMay, ZwFill, ZwWalk, ZwGirth, ZwUp, ZwLL, ZwEdges, ZwLawGreedy, ZwFits, ZwGiven, ZwLawFill, ZwPairs, ZwLawPairs. Conditions: none. -/
import Derived.Test.YthpgiimaadohcaaDoorZpC
import Derived.Test.YthpgiimaadohcaaDoorZpD
set_option linter.unusedSimpArgs false
set_option linter.unusedVariables false
/- The program's distances from a vertex. -/
namespace Go.Proofs.YthpgiimaadohcaaDoor.Zv
open Go
variable {nro : Nat}

/-- The number d at some places. -/
def setAll (o : List Int) (d : Nat) : List Int → List Int
  | [] => o
  | y :: l => setAll (o.set y.toNat d) d l
theorem setAll_len (d : Nat) : ∀ (l : List Int) (o : List Int), (setAll o d l).length = o.length
  | [], _ => rfl
  | y :: l, o => by simp [setAll, setAll_len d l]
theorem setAll_get (d b : Nat) : ∀ (l : List Int) (o : List Int), b < o.length → (∀ y ∈ l, 0 ≤ y) → (setAll o d l).getD b 0 = if (b : Int) ∈ l then (d : Int) else o.getD b 0
  | [], o, _, _ => by simp [setAll]
  | y :: l, o, hb, h0 => by
    have h1 := h0 y (List.mem_cons_self ..)
    rw [setAll, setAll_get d b l _ (by simpa using hb) fun z hz => h0 z (List.mem_cons_of_mem _ hz)]
    by_cases h2 : (b : Int) ∈ l
    · rw [if_pos h2, if_pos (List.mem_cons_of_mem _ h2)]
    · rw [if_neg h2]
      by_cases h3 : (b : Int) = y
      · rw [if_pos (by rw [h3]; exact List.mem_cons_self ..)]
        have : y.toNat = b := by omega
        rw [this, List.getD_eq_getElem?_getD, List.getElem?_set_self hb]
        rfl
      · rw [if_neg (by simp [h3, h2])]
        rw [List.getD_eq_getElem?_getD, List.getElem?_set_ne (by omega), ← List.getD_eq_getElem?_getD]

/-- The heap of the search: the graph, the number -1 that was repeated, the distances. -/
def dh (h : VH) (n : Nat) (s : Value) (o : List Int) : VH := h ++ [⟨0, [.int .i64 n, s]⟩, ⟨1, [.int .i64 (-1)]⟩, ⟨1, ints o⟩]

theorem l_impl_Graph_distances_1 (h : VH) (n : Nat) (s : Value) (rows : List Int) (hs : Sli h s rows) (R : Rok n rows) (hn : nro ≤ h.length) (met d : Nat) (L : List Int) (hL : ∀ y ∈ L, 0 ≤ y ∧ y < n) (hLl : L.length ≤ 62) (o0 : List Int)
    (k j : Nat) (hk : k = L.length - j) (hj : j ≤ L.length) (o : List Int) (ho : o.length = n) (acc : Nat) (ha : acc < 2 ^ 62) :
    floop (vcall F nro) nro [2, 5, 6, 8, 9, 25, 26, 27] i_impl_Graph_distances_B1 (dh h n s o0 ++ [⟨1, ints L⟩]) [bp h, .slice (some ⟨h.length + 2, 0, none⟩) n n, .int .i64 met, .int .i64 d, .int .i64 acc, .slice (some ⟨h.length + 3, 0, none⟩) L.length L.length, .int .i64 L.length, .int .i64 j] (dh h n s o ++ [⟨1, ints L⟩]) =
      some (.exit 2, fl [(2, bp h), (5, .slice (some ⟨h.length + 2, 0, none⟩) n n), (6, .int .i64 met), (8, .int .i64 d), (9, .int .i64 ((acc ||| orL rows (L.drop j) : Nat) : Int))], dh h n s (setAll o d (L.drop j)) ++ [⟨1, ints L⟩]) := by
  have hn' := fun k => Nat.le_trans hn (Nat.le_add_right h.length k)
  have hsc := fun k => hs.oldCk (k := k)
  have hle := R.le
  have hlen := R.len
  unfold dh
  rw [floop_at i_impl_Graph_distances_B1.eq_1]
  by_cases hlt : j < L.length
  · obtain ⟨y, hy⟩ : ∃ y : Nat, L[j] = (y : Int) := by
      have := hL L[j] (List.getElem_mem hlt)
      exact ⟨L[j].toNat, by omega⟩
    have hyn : y < n := by
      have := hL L[j] (List.getElem_mem hlt)
      omega
    have hyr : y < rows.length := by omega
    have hyo : y < o.length := by omega
    obtain ⟨r1, r2⟩ := R.row y hyn
    have r3 := le62 hle r2
    have hor := ior_nat (a := acc) (b := (rows.getD y 0).toNat) (by omega) (by omega)
    have e1 : (((rows.getD y 0).toNat : Nat) : Int) = rows[y]'hyr := by rw [getD_at rows hyr] at r1 ⊢; omega
    rw [e1] at hor
    have vx := fun L => (hs.app L).vidx (k := .i64) (j := (y : Int)) (by omega) (by omega)
    have vl := fun L => (hs.app L).vload hyr
    have hlt' : (j : Int) < L.length := by omega
    have ih := l_impl_Graph_distances_1 h n s rows hs R hn met d L hL hLl o0 (k - 1) (j + 1) (by omega) hlt (o.set y d) (by simpa using ho) (acc ||| (rows.getD y 0).toNat) (Nat.or_lt_two_pow ha r3)
    rw [show ((j + 1 : Nat) : Int) = (j : Int) + 1 by omega] at ih
    rw [List.drop_eq_getElem_cons hlt, hy]
    simp only [orL, setAll, Int.toNat_natCast]
    rw [← Nat.or_assoc]
    obtain ⟨a2, ha2⟩ : ∃ a2, a2 = acc ||| (rows.getD y 0).toNat := ⟨_, rfl⟩
    rw [← ha2] at ih hor ⊢
    obtain ⟨q, hq⟩ : ∃ q, q = orL rows (L.drop (j + 1)) := ⟨_, rfl⟩
    rw [← hq] at ih ⊢
    obtain ⟨q2, hq2⟩ : ∃ q2, q2 = setAll (o.set y d) d (L.drop (j + 1)) := ⟨_, rfl⟩
    rw [← hq2] at ih ⊢
    unfold dh at ih
    simp at ih
    have hyn' : (y : Int) < n := by omega
    have sp := splice_ints (v := (d : Int)) hyo
    have t1 := take1_ints (xs := L) hlt
    rw [hy] at t1
    clear ha2 hq hq2 r1 r2 r3 e1 hL hk
    simp (disch := first | assumption | omega | (simp [*] <;> omega) | fail) [wrap64, hlt', hlt, vx, vl, hor, hsc, ih, hn', hn, hyn', hyn, ho, hyo, sp, t1, hy]
  · have hlt' : ¬ (j : Int) < L.length := by omega
    rw [List.drop_eq_nil_of_le (by omega)]
    simp only [orL, setAll, Nat.or_zero]
    simp (disch := first | assumption | omega | (simp [*] <;> omega) | fail) [hlt']
 termination_by k
 decreasing_by omega

/-- The list of the levels. -/
def dl (rows : List Int) (met f d : Nat) (o : List Int) : List Int :=
  if f = 0 then o else
    if h : met < (met ||| nxt rows f) ∧ (met ||| nxt rows f) < 2 ^ 62 then dl rows (met ||| nxt rows f) (nand (nxt rows f) met) (d + 1) (setAll o d (bitL f)) else setAll o d (bitL f)
 termination_by 2 ^ 62 - met
 decreasing_by omega
theorem dl_zero {rows : List Int} {met d : Nat} {o : List Int} : dl rows met 0 d o = o := by rw [dl, if_pos rfl]
theorem dl_step {n : Nat} {rows : List Int} (R : Rok n rows) {met f d : Nat} {o : List Int} (hm : met < 2 ^ n) (hf : f < 2 ^ n) (h0 : ¬ f = 0) :
    dl rows met f d o = dl rows (met ||| nxt rows f) (nand (nxt rows f) met) (d + 1) (setAll o d (bitL f)) := by
  have h2 := le62 R.le (Nat.or_lt_two_pow hm (nxt_lt R hf))
  by_cases h1 : met < met ||| nxt rows f
  · conv => lhs; rw [dl]
    rw [if_neg h0, dif_pos ⟨h1, h2⟩]
  · conv => lhs; rw [dl]
    rw [if_neg h0, dif_neg (fun h => h1 h.1), or_or_zero (rows := rows) h1, dl_zero]
theorem dl_len {rows : List Int} {met f d : Nat} {o : List Int} : (dl rows met f d o).length = o.length := by
  rw [dl]
  split
  · rfl
  · split
    · rw [dl_len, setAll_len]
    · rw [setAll_len]
 termination_by 2 ^ 62 - met
 decreasing_by omega

/-- What is met already and not in front keeps its number. -/
theorem dl_old {n : Nat} {rows : List Int} (R : Rok n rows) (b : Nat) (hb : b < n) (met f d : Nat) (o : List Int) (ho : o.length = n) (hm : met < 2 ^ n) (hf : f < 2 ^ n) (h1 : met.testBit b = true) (h2 : f.testBit b = false) :
    (dl rows met f d o).getD b 0 = o.getD b 0 := by
  by_cases h0 : f = 0
  · subst h0; rw [dl_zero]
  · have hx := nxt_lt R hf
    have hnl := nand_le (nxt rows f) met
    have hs : (setAll o d (bitL f)).getD b 0 = o.getD b 0 := by
      rw [setAll_get d b _ _ (by omega) fun y hy => (bitL_lt hf y hy).1, if_neg]
      intro h
      have := (bitL_mem f b).mp h
      rw [Int.toNat_natCast] at this
      rw [h2] at this
      exact Bool.noConfusion this.2.2
    by_cases h3 : met < met ||| nxt rows f
    · have := dl_old R b hb (met ||| nxt rows f) (nand (nxt rows f) met) (d + 1) (setAll o d (bitL f)) (by rw [setAll_len]; exact ho) (Nat.or_lt_two_pow hm hx) (by omega) (by rw [Nat.testBit_or, h1]; rfl) (by rw [nand_bit, h1]; simp)
      rw [dl_step R hm hf h0, this, hs]
    · rw [dl_step R hm hf h0, or_or_zero (rows := rows) h3, dl_zero, hs]
 termination_by 2 ^ n - met
 decreasing_by
  have := Nat.or_lt_two_pow hm hx
  omega

theorem dl_get {n : Nat} {rows : List Int} (R : Rok n rows) (b : Nat) (hb : b < n) (met f d : Nat) (o : List Int) (ho : o.length = n) (hm : met < 2 ^ n) (hf : f < 2 ^ n) (hfm : ∀ j, f.testBit j = true → met.testBit j = true) :
    (dl rows met f d o).getD b 0 = if lev rows met f d b < 0 then o.getD b 0 else lev rows met f d b := by
  by_cases h0 : f = 0
  · subst h0; rw [dl_zero, lev_zero]; rfl
  · have hx := nxt_lt R hf
    have hnl := nand_le (nxt rows f) met
    have hs : (setAll o d (bitL f)).getD b 0 = if f.testBit b = true then (d : Int) else o.getD b 0 := by
      rw [setAll_get d b _ _ (by omega) fun y hy => (bitL_lt hf y hy).1]
      have hl := R.le
      have e : ((b : Int) ∈ bitL f) ↔ f.testBit b = true := by
        rw [bitL_mem, Int.toNat_natCast]
        exact ⟨fun h => h.2.2, fun h => ⟨by omega, by omega, h⟩⟩
      simp only [e]
    rw [dl_step R hm hf h0]
    by_cases hbb : f.testBit b = true
    · rw [lev_bit hbb, if_neg (by omega), dl_old R b hb _ _ _ _ (by rw [setAll_len]; exact ho) (Nat.or_lt_two_pow hm hx) (by omega) (by rw [Nat.testBit_or, hfm b hbb]; rfl) (by rw [nand_bit, hfm b hbb]; simp), hs, if_pos hbb]
    · have hbb' : f.testBit b = false := by simpa using hbb
      rw [lev_step R hm hf h0 hbb']
      rw [if_neg hbb] at hs
      by_cases h3 : met < met ||| nxt rows f
      · rw [dl_get R b hb (met ||| nxt rows f) (nand (nxt rows f) met) (d + 1) (setAll o d (bitL f)) (by rw [setAll_len]; exact ho) (Nat.or_lt_two_pow hm hx) (by omega) (by
          intro j hj
          rw [nand_bit] at hj
          simp at hj
          rw [Nat.testBit_or, hj.1]
          simp), hs]
      · rw [or_or_zero (rows := rows) h3, dl_zero, lev_zero, hs]
        rfl
 termination_by 2 ^ n - met
 decreasing_by
  have := Nat.or_lt_two_pow hm hx
  omega

theorem l_impl_Graph_distances_2 (h : VH) (n : Nat) (s : Value) (rows : List Int) (hs : Sli h s rows) (R : Rok n rows) (hn : nro ≤ h.length) (o0 : List Int) (met f d : Nat) (hm : met < 2 ^ n) (hf : f < 2 ^ n) (hd : ¬ f = 0 → d ≤ met) (o : List Int) (ho : o.length = n) :
    floop (vcall F nro) nro [2, 5, 6, 7, 8] i_impl_Graph_distances_B2 (dh h n s o0) [bp h, .slice (some ⟨h.length + 2, 0, none⟩) n n, .int .i64 met, .int .i64 f, .int .i64 d] (dh h n s o) =
      some (.exit 0, fl [(5, .slice (some ⟨h.length + 2, 0, none⟩) n n)], dh h n s (dl rows met f d o)) := by
  have hn' := fun k => Nat.le_trans hn (Nat.le_add_right h.length k)
  have hsc := fun k => hs.oldCk (k := k)
  have hle := R.le
  have hm62 := le62 hle hm
  have hf62 := le62 hle hf
  rw [floop_at i_impl_Graph_distances_B2.eq_1]
  by_cases h0 : f = 0
  · subst h0
    rw [dl_zero]
    unfold dh
    simp (disch := first | assumption | omega | (simp [*] <;> omega) | fail) [hn, hn']
  · have h0' : ¬ (f : Int) = 0 := by omega
    have hdm := hd h0
    rw [dl_step R hm hf h0]
    have hx := nxt_lt R hf
    have hx62 := le62 hle hx
    have hnl := nand_le (nxt rows f) met
    have hc := c_impl_list (nro := nro) f hf62 (dh h n s o) (by unfold dh; simp; omega)
    have hlL := bitL_len f
    have lp := l_impl_Graph_distances_1 (nro := nro) h n s rows hs R hn met d (bitL f) (bitL_lt hf) hlL o (bitL f).length 0 (by omega) (Nat.zero_le _) o ho 0 (by omega)
    rw [List.drop_zero, Nat.zero_or, show orL rows (bitL f) = nxt rows f from rfl] at lp
    have hih := l_impl_Graph_distances_2 h n s rows hs R hn o0 (met ||| nxt rows f) (nand (nxt rows f) met) (d + 1) (Nat.or_lt_two_pow hm hx) (by omega) (by
      intro hne
      rcases Nat.lt_or_ge met (met ||| nxt rows f) with h1 | h1
      · omega
      · exact absurd (or_or_zero (rows := rows) (by omega)) hne) (setAll o d (bitL f)) (by rw [setAll_len]; exact ho)
    have a1 := iandNot_nat (a := nxt rows f) (b := met) hx62 hm62
    have a2 := ior_nat (a := met) (b := nxt rows f) (by omega) (by omega)
    have a6 : IntKind.i64.wrap ((d : Int) + 1) = (d : Int) + 1 := wrap64 (by omega) (by omega)
    rw [show ((d + 1 : Nat) : Int) = (d : Int) + 1 by omega] at hih
    obtain ⟨x, hxx⟩ : ∃ x, x = nxt rows f := ⟨_, rfl⟩
    rw [← hxx] at lp hih a1 a2 ⊢
    obtain ⟨z, hz⟩ : ∃ z, z = nand x met := ⟨_, rfl⟩
    rw [← hz] at a1 hih ⊢
    obtain ⟨m2, hm2⟩ : ∃ m2, m2 = met ||| x := ⟨_, rfl⟩
    rw [← hm2] at a2 hih ⊢
    obtain ⟨q, hq⟩ : ∃ q, q = dl rows m2 z (d + 1) (setAll o d (bitL f)) := ⟨_, rfl⟩
    rw [← hq] at hih ⊢
    have hsl := setAll_len d (bitL f) o
    obtain ⟨q2, hq2⟩ : ∃ q2, q2 = setAll o d (bitL f) := ⟨_, rfl⟩
    rw [← hq2] at hih lp hsl
    obtain ⟨Lf, hLf⟩ : ∃ Lf, Lf = bitL f := ⟨_, rfl⟩
    rw [← hLf] at hc lp hlL
    simp only [Int.natCast_zero] at lp
    unfold dh at hc lp hih ⊢
    simp at hc lp hih
    clear hxx hz hm2 hq hq2 hLf hnl hm hf hx hd hx62
    simp (disch := first | assumption | omega | (simp [*] <;> omega) | fail) [h0, h0', hc, lp, a1, a2, a6, hih, hn, hn', hsc]
 termination_by (if f = 0 then 0 else 2 ^ 62 - met + 1)
 decreasing_by
  rw [if_neg h0]
  split
  · omega
  · rename_i hne
    rcases Nat.lt_or_ge met (met ||| nxt rows f) with h1 | h1
    · omega
    · exact absurd (or_or_zero (rows := rows) (by omega)) hne

/-- The distances of all vertices from a. -/
def dists (rows : List Int) (n a : Nat) : List Int := dl rows (2 ^ a) (2 ^ a) 0 (List.replicate n (-1))
theorem dists_len (rows : List Int) (n a : Nat) : (dists rows n a).length = n := by
  unfold dists
  rw [dl_len, List.length_replicate]
theorem dists_get {n : Nat} {rows : List Int} (R : Rok n rows) {a b : Nat} (ha : a < n) (hb : b < n) : (dists rows n a).getD b 0 = far rows a b := by
  have hp : 2 ^ a < 2 ^ n := Nat.pow_lt_pow_right (by omega) ha
  unfold dists far
  rw [dl_get R b hb _ _ _ _ (by simp) hp hp (fun _ h => h)]
  have hg := lev_ge rows (2 ^ a) (2 ^ a) 0 b
  split
  · rw [List.getD_eq_getElem?_getD, List.getElem?_replicate, if_pos hb]
    simp
    omega
  · rfl

theorem c_impl_Graph_distances (n a : Nat) (s : Value) (rows : List Int) (h : VH) (hs : Sli h s rows) (R : Rok n rows) (ha : a < n) (hn : nro ≤ h.length) :
    vcall F nro k_impl_Graph_distances [gv n s, .int .i64 a] h = some (.slice (some ⟨h.length, 0, none⟩) n n, h ++ [⟨1, ints (dists rows n a)⟩]) := by
  have hn' := fun k => Nat.le_trans hn (Nat.le_add_right h.length k)
  refine v_impl_Graph_distances (by simp [i_impl_Graph_distances]) ?_
  rw [fbody_eq]
  have hle := R.le
  have hp : 2 ^ a < 2 ^ n := Nat.pow_lt_pow_right (by omega) ha
  have lp := l_impl_Graph_distances_2 (nro := nro) h n s rows hs R hn (List.replicate n (-1)) (2 ^ a) (2 ^ a) 0 hp hp (fun _ => Nat.zero_le _) (List.replicate n (-1)) (by simp)
  have w2 : ishl .i64 1 (a : Int) = ((2 ^ a : Nat) : Int) := by
    have := ishl_one (b := (a : Int)) (by omega)
    rwa [Int.toNat_natCast] at this
  have hr := c_slices_Repeat (nro := nro) (.slice (some ⟨h.length + 1, 0, none⟩) 1 1) n (h ++ [⟨0, [.int .i64 n, s]⟩, ⟨1, [.int .i64 (-1)]⟩]) (by simp [Sli, Sl, vsrc, ints]) (by omega) (by omega) (by simp; omega)
  have hdl := dists_len rows n a
  rw [show dl rows (2 ^ a) (2 ^ a) 0 (List.replicate n (-1)) = dists rows n a from rfl] at lp
  obtain ⟨q, hq⟩ : ∃ q, q = dists rows n a := ⟨_, rfl⟩
  rw [← hq] at lp hdl ⊢
  obtain ⟨p, hpp⟩ : ∃ p, p = 2 ^ a := ⟨_, rfl⟩
  rw [← hpp] at lp w2
  simp only [Int.natCast_zero] at lp
  unfold dh at lp
  simp at lp hr
  clear hpp hp hq
  simp (disch := first | assumption | omega | (simp [*] <;> omega) | fail) [i_impl_Graph_distances, hr, w2, lp, hn, hn', hdl]
end Go.Proofs.YthpgiimaadohcaaDoor.Zv

/- May two vertices be joined: the reference's and the program's tests are one. -/
namespace Go.Proofs.YthpgiimaadohcaaDoor.Zv
open Go
variable {nro : Nat}

theorem l_spec_l01Bits (h : VH) (x : Nat) (hx : x < 2 ^ 63) (c : Nat) (hc : c + pc x ≤ 1000) :
    floop (vcall F nro) nro [0, 3] i_spec_l01Bits_B1 h [.int .i64 x, .int .i64 c] h = some (.exit 0, fl [(3, .int .i64 ((c + pc x : Nat) : Int))], h) := by
  rw [floop_at i_spec_l01Bits_B1.eq_1]
  by_cases h0 : x = 0
  · subst h0
    rw [pc_zero]
    simp (disch := first | assumption | omega | (simp [*] <;> omega) | fail) []
  · have e := pc_step x
    have ih := l_spec_l01Bits h (x / 2) (by omega) (c + x % 2) (by omega)
    have h0' : (0 : Int) < x := by omega
    have h0'' : 0 < x := by omega
    have e1 : (x : Int).tmod 2 = ((x % 2 : Nat) : Int) := (Int.ofNat_tmod x 2).symm
    have e2 : (x : Int).tdiv 2 = ((x / 2 : Nat) : Int) := (Int.ofNat_tdiv x 2).symm
    have e3 : c + x % 2 + pc (x / 2) = c + pc x := by omega
    rw [e3] at ih
    obtain ⟨y, hy⟩ : ∃ y, y = x / 2 := ⟨_, rfl⟩
    obtain ⟨z, hz⟩ : ∃ z, z = x % 2 := ⟨_, rfl⟩
    have w1 : IntKind.i64.wrap (y : Int) = y := wrap64 (by omega) (by omega)
    have w2 : IntKind.i64.wrap ((c : Int) + z) = (c : Int) + z := wrap64 (by omega) (by omega)
    rw [← hy] at e2 ih
    rw [← hz] at e1 ih
    simp only [Int.natCast_add] at ih ⊢
    clear e e3 hy hz hc
    simp (disch := first | assumption | omega | (simp [*] <;> omega) | fail) [h0, h0', h0'', e1, e2, w1, w2, ih]
 termination_by x
 decreasing_by omega

theorem c_spec_l01Bits (x : Nat) (hx : x < 2 ^ 62) (h : VH) : vcall F nro k_spec_l01Bits [.int .i64 x] h = some (.int .i64 (pc x), h) := by
  refine v_spec_l01Bits (by simp [i_spec_l01Bits]) ?_
  rw [fbody_eq]
  have hp := pc_le x 62 hx
  have lp := l_spec_l01Bits (nro := nro) h x (by omega) 0 (by omega)
  rw [Nat.zero_add] at lp
  simp only [Int.natCast_zero] at lp
  simp (disch := first | assumption | omega | (simp [*] <;> omega) | fail) [i_spec_l01Bits, lp]

/-- The degree of a vertex. -/
def deg (rows : List Int) (v : Nat) : Nat := pc (rows.getD v 0).toNat

theorem c_spec_l01Degree (n v : Nat) (s : Value) (rows : List Int) (h : VH) (hs : Sli h s rows) (R : Rok n rows) (hv : v < n) :
    vcall F nro k_spec_l01Degree [gv n s, .int .i64 v] h = some (.int .i64 (deg rows v), h) := by
  refine v_spec_l01Degree (by simp [i_spec_l01Degree]) ?_
  rw [fbody_eq]
  obtain ⟨r1, r2⟩ := R.row v hv
  have r3 := le62 R.le r2
  have hl := R.len
  have hc := c_spec_l01Bits (nro := nro) (rows.getD v 0).toNat r3 (bx h n s)
  have hvl : v < rows.length := by omega
  have e1 : (((rows.getD v 0).toNat : Nat) : Int) = rows[v]'hvl := by rw [getD_at rows hvl] at r1 ⊢; omega
  rw [e1] at hc
  unfold deg
  have vx := fun L => (hs.app L).vidx (k := .i64) (j := (v : Int)) (by omega) (by omega)
  have vl := fun L => (hs.app L).vload hvl
  obtain ⟨p, hp⟩ : ∃ p, p = pc (rows.getD v 0).toNat := ⟨_, rfl⟩
  rw [← hp] at hc ⊢
  clear hp e1 r1 r2 r3
  simp (disch := first | assumption | omega | (simp [*] <;> omega) | fail) [i_spec_l01Degree, vx, vl, hc]

theorem c_impl_degree (n v : Nat) (s : Value) (rows : List Int) (h : VH) (hs : Sli h s rows) (R : Rok n rows) (hv : v < n) :
    vcall F nro k_impl_Graph_degree [gv n s, .int .i64 v] h = some (.int .i64 (deg rows v), h) := by
  obtain ⟨r1, r2⟩ := R.row v hv
  have r3 := le62 R.le r2
  have hl := R.len
  have := c_impl_Graph_degree (nro := nro) n v s rows h hs (by omega) (by omega) (by rw [Int.toNat_natCast]; exact r1) (by rw [Int.toNat_natCast]; omega)
  rw [Int.toNat_natCast] at this
  exact this

theorem lev_le {n : Nat} {rows : List Int} (R : Rok n rows) (met f d b : Nat) (hm : met < 2 ^ n) (hf : f < 2 ^ n) (hd : ¬ f = 0 → d ≤ met) : lev rows met f d b ≤ 4611686018427387904 := by
  have hm62 := le62 R.le hm
  by_cases h0 : f = 0
  · subst h0; rw [lev_zero]; omega
  · by_cases hb : f.testBit b = true
    · rw [lev_bit hb]
      have := hd h0
      omega
    · rw [lev_step R hm hf h0 (by simpa using hb)]
      have hx := nxt_lt R hf
      have hnl := nand_le (nxt rows f) met
      by_cases h3 : met < met ||| nxt rows f
      · have := hd h0
        exact lev_le R (met ||| nxt rows f) (nand (nxt rows f) met) (d + 1) b (Nat.or_lt_two_pow hm hx) (by omega) (fun _ => by omega)
      · rw [or_or_zero (rows := rows) h3, lev_zero]; omega
 termination_by 2 ^ n - met
 decreasing_by
  have := Nat.or_lt_two_pow hm hx
  omega
theorem far_le {n : Nat} {rows : List Int} (R : Rok n rows) {a : Nat} (ha : a < n) (b : Nat) : far rows a b ≤ 4611686018427387904 := by
  have hp : 2 ^ a < 2 ^ n := Nat.pow_lt_pow_right (by omega) ha
  exact lev_le R _ _ _ b hp hp (fun _ => Nat.zero_le _)
theorem far_ge (rows : List Int) (a b : Nat) : -1 ≤ far rows a b := lev_ge ..

/-- May two vertices be joined? -/
def mayB (rows : List Int) (k c : Int) (v w : Nat) : Bool :=
  !(rbit rows v w || decide (k ≤ deg rows v) || decide (k ≤ deg rows w)) && (decide (far rows v w < 0) || decide (c ≤ far rows v w + 1))

theorem has_spec (n v w : Nat) (s : Value) (rows : List Int) (h : VH) (hs : Sli h s rows) (R : Rok n rows) (hv : v < n) (hw : w < n) : vcall F nro k_spec_l01Has [gv n s, .int .i64 v, .int .i64 w] h = some (.bool (rbit rows v w), h) := by
  obtain ⟨r1, r2⟩ := R.row v hv
  have r3 := le62 R.le r2
  have hl := R.len
  have hle := R.le
  have := c_spec_l01Has' (nro := nro) n v w s rows h hs (by omega) (by omega) (by omega) (by omega) (by rw [Int.toNat_natCast]; exact r1) (by rw [Int.toNat_natCast]; omega)
  rw [Int.toNat_natCast, Int.toNat_natCast] at this
  exact this
theorem has_impl (n v w : Nat) (s : Value) (rows : List Int) (h : VH) (hs : Sli h s rows) (R : Rok n rows) (hv : v < n) (hw : w < n) : vcall F nro k_impl_Graph_has [gv n s, .int .i64 v, .int .i64 w] h = some (.bool (rbit rows v w), h) := by
  obtain ⟨r1, r2⟩ := R.row v hv
  have r3 := le62 R.le r2
  have hl := R.len
  have hle := R.le
  have := c_impl_Graph_has (nro := nro) n v w s rows h hs (by omega) (by omega) (by omega) (by omega) (by rw [Int.toNat_natCast]; exact r1) (by rw [Int.toNat_natCast]; omega)
  rw [Int.toNat_natCast, Int.toNat_natCast] at this
  exact this

theorem c_spec_l07May (n v w : Nat) (k c : Int) (s : Value) (rows : List Int) (h : VH) (hs : Sli h s rows) (R : Rok n rows) (hv : v < n) (hw : w < n) (hne : v ≠ w) :
    vcall F nro k_spec_l07May [gv n s, .int .i64 k, .int .i64 c, .int .i64 v, .int .i64 w] h = some (.bool (mayB rows k c v w), h) := by
  refine v_spec_l07May (by simp [i_spec_l07May]) ?_
  rw [fbody_eq]
  have h1 := has_spec (nro := nro) n v w s rows (bx h n s) (hs.app _) R hv hw
  have h2 := c_spec_l01Degree (nro := nro) n v s rows (bx h n s) (hs.app _) R hv
  have h3 := c_spec_l01Degree (nro := nro) n w s rows (bx h n s) (hs.app _) R hw
  have h4 := c_spec_l07Far (nro := nro) n v w s rows (bx h n s) (hs.app _) R hv hw
  have f1 := far_le R hv w
  have f2 := far_ge rows v w
  have hne' : ¬ (v : Int) = w := by omega
  unfold mayB
  obtain ⟨x, hx⟩ : ∃ x, x = far rows v w := ⟨_, rfl⟩
  rw [← hx] at h4 f1 f2 ⊢
  obtain ⟨b, hb⟩ : ∃ b, b = rbit rows v w := ⟨_, rfl⟩
  rw [← hb] at h1 ⊢
  obtain ⟨d1, hd1⟩ : ∃ d, d = deg rows v := ⟨_, rfl⟩
  rw [← hd1] at h2 ⊢
  obtain ⟨d2, hd2⟩ : ∃ d, d = deg rows w := ⟨_, rfl⟩
  rw [← hd2] at h3 ⊢
  clear hx hb hd1 hd2
  have w1 : IntKind.i64.wrap (x + 1) = x + 1 := wrap64 (by omega) (by omega)
  cases b
  · by_cases k1 : k ≤ d1
    · simp (disch := first | assumption | omega | (simp [*] <;> omega) | fail) [i_spec_l07May, h1, h2, hne, hne', k1]
    · by_cases k2 : k ≤ d2
      · simp (disch := first | assumption | omega | (simp [*] <;> omega) | fail) [i_spec_l07May, h1, h2, h3, hne, hne', k1, k2]
      · by_cases k3 : x < 0
        · simp (disch := first | assumption | omega | (simp [*] <;> omega) | fail) [i_spec_l07May, h1, h2, h3, h4, hne, hne', k1, k2, k3]
        · simp (disch := first | assumption | omega | (simp [*] <;> omega) | fail) [i_spec_l07May, h1, h2, h3, h4, hne, hne', k1, k2, k3, w1]
  · simp (disch := first | assumption | omega | (simp [*] <;> omega) | fail) [i_spec_l07May, h1, hne, hne']

theorem c_impl_Graph_mayJoin (n v w : Nat) (k c : Int) (s : Value) (rows : List Int) (h : VH) (hs : Sli h s rows) (R : Rok n rows) (hv : v < n) (hw : w < n) (hn : nro ≤ h.length) :
    vcall F nro k_impl_Graph_mayJoin [gv n s, .int .i64 v, .int .i64 w, .int .i64 k, .int .i64 c] h = some (.bool (mayB rows k c v w), h) := by
  refine v_impl_Graph_mayJoin (by simp [i_impl_Graph_mayJoin]) ?_
  rw [fbody_eq]
  have hn' := fun k => Nat.le_trans hn (Nat.le_add_right h.length k)
  have h1 := has_impl (nro := nro) n v w s rows (bx h n s) (hs.app _) R hv hw
  have h2 := c_impl_degree (nro := nro) n v s rows (bx h n s) (hs.app _) R hv
  have h3 := c_impl_degree (nro := nro) n w s rows (bx h n s) (hs.app _) R hw
  have h4 := c_impl_Graph_distances (nro := nro) n v s rows (bx h n s) (hs.app _) R hv (by simp; omega)
  have f1 := far_le R hv w
  have f2 := far_ge rows v w
  have f3 := dists_get R hv hw
  have f4 := dists_len rows n v
  unfold mayB
  obtain ⟨x, hx⟩ : ∃ x, x = far rows v w := ⟨_, rfl⟩
  rw [← hx] at f1 f2 f3 ⊢
  obtain ⟨D, hD⟩ : ∃ D, D = dists rows n v := ⟨_, rfl⟩
  rw [← hD] at h4 f3 f4
  obtain ⟨b, hb⟩ : ∃ b, b = rbit rows v w := ⟨_, rfl⟩
  rw [← hb] at h1 ⊢
  obtain ⟨d1, hd1⟩ : ∃ d, d = deg rows v := ⟨_, rfl⟩
  rw [← hd1] at h2 ⊢
  obtain ⟨d2, hd2⟩ : ∃ d, d = deg rows w := ⟨_, rfl⟩
  rw [← hd2] at h3 ⊢
  clear hx hb hd1 hd2 hD
  have hwD : w < D.length := by omega
  rw [getD_at D hwD] at f3
  have w1 : IntKind.i64.wrap (x + 1) = x + 1 := wrap64 (by omega) (by omega)
  have hw' : (w : Int) < n := by omega
  have t1 := take1_ints hwD
  rw [f3] at t1
  simp at h4
  cases b
  · by_cases k1 : k ≤ d1
    · simp (disch := first | assumption | omega | (simp [*] <;> omega) | fail) [i_impl_Graph_mayJoin, h1, h2, k1]
    · by_cases k2 : k ≤ d2
      · simp (disch := first | assumption | omega | (simp [*] <;> omega) | fail) [i_impl_Graph_mayJoin, h1, h2, h3, k1, k2]
      · by_cases k3 : x < 0
        · simp (disch := first | assumption | omega | (simp [*] <;> omega) | fail) [i_impl_Graph_mayJoin, h1, h2, h3, h4, k1, k2, k3, hw, hw', f4, t1, hn, hn']
        · simp (disch := first | assumption | omega | (simp [*] <;> omega) | fail) [i_impl_Graph_mayJoin, h1, h2, h3, h4, k1, k2, k3, w1, hw, hw', f4, t1, hn, hn']
  · simp (disch := first | assumption | omega | (simp [*] <;> omega) | fail) [i_impl_Graph_mayJoin, h1]
end Go.Proofs.YthpgiimaadohcaaDoor.Zv

/- Graphs that are filled with all edges that may be. -/
namespace Go.Proofs.YthpgiimaadohcaaDoor.Zv
open Go
variable {nro : Nat}

theorem Rok.isAdj {n : Nat} {rows : List Int} (R : Rok n rows) : IsAdj n rows (fun v w => rbit rows v w = true) := by
  refine ⟨R.len, fun v hv => ?_⟩
  obtain ⟨r1, r2⟩ := R.row v hv
  have := le62 R.le r2
  exact ⟨r1, by omega, fun w => Iff.rfl⟩
theorem bit_lt {x n j : Nat} (h : x < 2 ^ n) (hb : x.testBit j = true) : j < n := by
  rcases Nat.lt_or_ge j n with h1 | h1
  · exact h1
  · rw [Nat.testBit_lt_two_pow (Nat.lt_of_lt_of_le h (Nat.pow_le_pow_right (by omega) h1))] at hb
    cases hb
theorem Rok.lt {n : Nat} {rows : List Int} (R : Rok n rows) {v w : Nat} (hv : v < n) (h : rbit rows v w = true) : w < n := bit_lt (R.row v hv).2 h
theorem Rok.of {n : Nat} {rows : List Int} {adj : Nat → Nat → Prop} (h : IsAdj n rows adj) (hn : n ≤ 62) (hlt : ∀ v w, v < n → adj v w → w < n) : Rok n rows := by
  refine ⟨h.1, hn, fun v hv => ?_⟩
  obtain ⟨h1, _, h3⟩ := h.2 v hv
  refine ⟨h1, Nat.lt_pow_two_of_testBit _ fun w hw => ?_⟩
  have : ¬ rbit rows v w = true := fun hb => by
    have := hlt v w hv ((h3 w).mp hb)
    omega
  unfold rbit at this
  simpa using this
theorem Rok.put2 {n : Nat} {rows : List Int} (R : Rok n rows) {v w : Nat} (hv : v < n) (hw : w < n) : Rok n (put2 rows v w) := by
  have := R.isAdj.put2 (a := (v : Int)) (b := (w : Int)) (by omega) (by omega) (by omega) (by omega) R.le
  refine Rok.of this R.le fun x y hx hxy => ?_
  rcases hxy with h | ⟨_, h⟩ | ⟨_, h⟩
  · exact R.lt hx h
  · omega
  · omega
theorem Rok.zero {n : Nat} (hn : n ≤ 62) : Rok n (List.replicate n 0) := Rok.of (IsAdj.zero n) hn fun _ _ _ h => h.elim
theorem GV.rok {n : Nat} {rows : List Int} (g : GV n rows) : Rok n rows := by
  have hl := g.len
  have hi := g.hi
  refine ⟨by omega, by omega, fun v hv => ?_⟩
  obtain ⟨h1, h2, _⟩ := g.row v (by omega)
  refine ⟨h1, ?_⟩
  rw [Int.toNat_natCast] at h2
  have e : ((2 ^ n : Nat) : Int) = (2 : Int) ^ n := by simp
  omega

end Go.Proofs.YthpgiimaadohcaaDoor.Zv

/- Levels are distances: the shortest walks. -/
namespace Go.Proofs.YthpgiimaadohcaaDoor.Zv
open Go

/-- There is a walk of k steps from a to b. -/
def Wk (rows : List Int) : Nat → Nat → Nat → Prop
  | 0, a, b => a = b
  | k + 1, a, b => ∃ c, Wk rows k a c ∧ rbit rows c b = true

theorem Wk.front {rows : List Int} : ∀ (k a b : Nat), Wk rows (k + 1) a b ↔ ∃ c, rbit rows a c = true ∧ Wk rows k c b
  | 0, a, b => by
    constructor
    · rintro ⟨c, rfl, h⟩; exact ⟨b, h, rfl⟩
    · rintro ⟨c, h, rfl⟩; exact ⟨a, rfl, h⟩
  | k + 1, a, b => by
    constructor
    · rintro ⟨c, h1, h2⟩
      obtain ⟨d, h3, h4⟩ := (Wk.front k a c).mp h1
      exact ⟨d, h3, c, h4, h2⟩
    · rintro ⟨d, h3, c, h4, h2⟩
      exact ⟨c, (Wk.front k a c).mpr ⟨d, h3, h4⟩, h2⟩
theorem Wk.symm {rows : List Int} (hs : ∀ v w, rbit rows v w = true → rbit rows w v = true) : ∀ (k a b : Nat), Wk rows k a b → Wk rows k b a
  | 0, _, _, h => Eq.symm h
  | k + 1, a, b, h => by
    obtain ⟨c, h1, h2⟩ := h
    exact (Wk.front k b a).mpr ⟨c, hs _ _ h2, Wk.symm hs k a c h1⟩
theorem Wk.add {rows : List Int} (d a : Nat) : ∀ (m b : Nat), Wk rows (d + m) a b → ∃ c, Wk rows d a c ∧ Wk rows m c b
  | 0, b, h => ⟨b, h, rfl⟩
  | m + 1, b, h => by
    obtain ⟨c, h1, h2⟩ := h
    obtain ⟨e, h3, h4⟩ := Wk.add d a m c h1
    exact ⟨e, h3, c, h4, h2⟩
theorem Wk.comp {rows : List Int} {k a c : Nat} (h : Wk rows k a c) : ∀ (m b : Nat), Wk rows m c b → Wk rows (k + m) a b
  | 0, b, h2 => by cases h2; exact h
  | m + 1, b, h2 => by
    obtain ⟨e, h3, h4⟩ := h2
    exact ⟨e, Wk.comp h m e h3, h4⟩

/-- The shortest walk from a to b has d steps. -/
def Dst (rows : List Int) (d a b : Nat) : Prop := Wk rows d a b ∧ ∀ e, e < d → ¬ Wk rows e a b
theorem Dst.unique {rows : List Int} {d d' a b : Nat} (h : Dst rows d a b) (h' : Dst rows d' a b) : d = d' := by
  rcases Nat.lt_trichotomy d d' with h1 | h1 | h1
  · exact absurd h.1 (h'.2 d h1)
  · exact h1
  · exact absurd h'.1 (h.2 d' h1)
theorem Wk.dst {rows : List Int} {a b : Nat} : ∀ (k : Nat), Wk rows k a b → ∃ d, d ≤ k ∧ Dst rows d a b := by
  intro k
  induction k using Nat.strongRecOn with
  | ind k ih =>
    intro h
    by_cases h1 : ∃ e, e < k ∧ Wk rows e a b
    · obtain ⟨e, h2, h3⟩ := h1
      obtain ⟨d, h4, h5⟩ := ih e h2 h3
      exact ⟨d, by omega, h5⟩
    · exact ⟨k, Nat.le_refl _, h, fun e he hw => h1 ⟨e, he, hw⟩⟩
theorem Dst.before {rows : List Int} {d m a b : Nat} (h : Dst rows (d + m) a b) : ∃ c, Dst rows d a c := by
  obtain ⟨c, h1, h2⟩ := Wk.add d a m b h.1
  refine ⟨c, h1, fun e he hw => ?_⟩
  exact h.2 (e + m) (by omega) (hw.comp m b h2)

theorem orL_bit (rows : List Int) (j : Nat) : ∀ (l : List Int), (orL rows l).testBit j = true ↔ ∃ y ∈ l, rbit rows y.toNat j = true
  | [] => by simp [orL]
  | y :: l => by
    rw [orL, Nat.testBit_or, Bool.or_eq_true, orL_bit rows j l]
    simp [rbit]
theorem nxt_bit {n : Nat} {rows : List Int} {f : Nat} (hf : f < 2 ^ n) (hn : n ≤ 62) (j : Nat) : (nxt rows f).testBit j = true ↔ ∃ i, f.testBit i = true ∧ rbit rows i j = true := by
  unfold nxt
  rw [orL_bit]
  constructor
  · rintro ⟨y, h1, h2⟩
    exact ⟨y.toNat, ((bitL_mem f y).mp h1).2.2, h2⟩
  · rintro ⟨i, h1, h2⟩
    have := bit_lt hf h1
    exact ⟨i, (bitL_mem f i).mpr ⟨by omega, by omega, by rw [Int.toNat_natCast]; exact h1⟩, by rw [Int.toNat_natCast]; exact h2⟩

/-- What a number and its sign tell. -/
def IsDist (rows : List Int) (a b : Nat) (x : Int) : Prop := (x = -1 ∧ ∀ e, ¬ Wk rows e a b) ∨ ∃ d : Nat, x = d ∧ Dst rows d a b
theorem IsDist.unique {rows rows' : List Int} {a b a' b' : Nat} {x x' : Int} (h : IsDist rows a b x) (h' : IsDist rows' a' b' x') (e : ∀ k, Wk rows k a b ↔ Wk rows' k a' b') : x = x' := by
  rcases h with ⟨rfl, h⟩ | ⟨d, rfl, h⟩ <;> rcases h' with ⟨rfl, h'⟩ | ⟨d', rfl, h'⟩
  · rfl
  · exact absurd ((e d').mpr h'.1) (h d')
  · exact absurd ((e d).mp h.1) (h' d)
  · have : Dst rows d' a b := ⟨(e d').mpr h'.1, fun k hk hw => h'.2 k hk ((e k).mp hw)⟩
    rw [h.unique this]

theorem lev_dist {n : Nat} {rows : List Int} (R : Rok n rows) (a b met f d : Nat) (hm : met < 2 ^ n) (hf : f < 2 ^ n) (h1 : ∀ j, met.testBit j = true ↔ ∃ e, e ≤ d ∧ Wk rows e a j) (h2 : ∀ j, f.testBit j = true ↔ Dst rows d a j) (h3 : ∀ e, e < d → ¬ Wk rows e a b) :
    IsDist rows a b (lev rows met f d b) := by
  by_cases h0 : f = 0
  · subst h0
    rw [lev_zero]
    refine .inl ⟨rfl, fun e hw => ?_⟩
    obtain ⟨k, hk, hd⟩ := Wk.dst e hw
    rcases Nat.lt_or_ge k d with hlt | hge
    · exact h3 k hlt hd.1
    · obtain ⟨m, rfl⟩ : ∃ m, k = d + m := ⟨k - d, by omega⟩
      obtain ⟨c, hc⟩ := hd.before
      have := (h2 c).mpr hc
      simp at this
  · by_cases hb : f.testBit b = true
    · rw [lev_bit hb]
      exact .inr ⟨d, rfl, (h2 b).mp hb⟩
    · rw [lev_step R hm hf h0 (by simpa using hb)]
      have hx := nxt_lt R hf
      have hnl := nand_le (nxt rows f) met
      have n1 := nxt_bit (rows := rows) hf R.le
      have n2 : ∀ j, (met ||| nxt rows f).testBit j = true ↔ ∃ e, e ≤ d + 1 ∧ Wk rows e a j := by
        intro j
        rw [Nat.testBit_or, Bool.or_eq_true, h1, n1]
        constructor
        · rintro (⟨e, he, hw⟩ | ⟨i, hi, hij⟩)
          · exact ⟨e, by omega, hw⟩
          · exact ⟨d + 1, Nat.le_refl _, i, ((h2 i).mp hi).1, hij⟩
        · rintro ⟨e, he, hw⟩
          rcases Nat.lt_or_ge d e with hlt | hge
          · have : e = d + 1 := by omega
            subst this
            obtain ⟨c, hc, hcj⟩ := hw
            by_cases hmin : ∃ k, k < d ∧ Wk rows k a c
            · obtain ⟨k, hk, hkw⟩ := hmin
              exact .inl ⟨k + 1, by omega, c, hkw, hcj⟩
            · exact .inr ⟨c, (h2 c).mpr ⟨hc, fun k hk hw => hmin ⟨k, hk, hw⟩⟩, hcj⟩
          · exact .inl ⟨e, hge, hw⟩
      have n3 : ∀ j, (nand (nxt rows f) met).testBit j = true ↔ Dst rows (d + 1) a j := by
        intro j
        rw [nand_bit, Bool.and_eq_true, n1, Bool.not_eq_true', ← Bool.not_eq_true, h1]
        constructor
        · rintro ⟨⟨i, hi, hij⟩, hno⟩
          exact ⟨⟨i, ((h2 i).mp hi).1, hij⟩, fun e he hw => hno ⟨e, by omega, hw⟩⟩
        · rintro ⟨⟨c, hc, hcj⟩, hmin⟩
          refine ⟨⟨c, (h2 c).mpr ⟨hc, fun k hk hw => ?_⟩, hcj⟩, fun ⟨e, he, hw⟩ => hmin e (by omega) hw⟩
          exact hmin (k + 1) (by omega) ⟨c, hw, hcj⟩
      have n4 : ∀ e, e < d + 1 → ¬ Wk rows e a b := by
        intro e he hw
        rcases Nat.lt_or_ge e d with hlt | hge
        · exact h3 e hlt hw
        · have : e = d := by omega
          subst this
          exact hb ((h2 b).mpr ⟨hw, h3⟩)
      by_cases h5 : met < met ||| nxt rows f
      · exact lev_dist R a b _ _ (d + 1) (Nat.or_lt_two_pow hm hx) (by omega) n2 n3 n4
      · rw [or_or_zero (rows := rows) h5] at n3 ⊢
        rw [lev_zero]
        refine .inl ⟨rfl, fun e hw => ?_⟩
        obtain ⟨k, hk, hd⟩ := Wk.dst e hw
        rcases Nat.lt_or_ge k (d + 1) with hlt | hge
        · exact n4 k hlt hd.1
        · obtain ⟨m, rfl⟩ : ∃ m, k = d + 1 + m := ⟨k - (d + 1), by omega⟩
          obtain ⟨c, hc⟩ := hd.before
          have := (n3 c).mpr hc
          simp at this
 termination_by 2 ^ n - met
 decreasing_by
  have := Nat.or_lt_two_pow hm hx
  omega

theorem far_dist {n : Nat} {rows : List Int} (R : Rok n rows) {a : Nat} (ha : a < n) (b : Nat) : IsDist rows a b (far rows a b) := by
  have hp : 2 ^ a < 2 ^ n := Nat.pow_lt_pow_right (by omega) ha
  refine lev_dist R a b _ _ 0 hp hp (fun j => ?_) (fun j => ?_) (fun e he => by omega)
  · rw [Nat.testBit_two_pow, decide_eq_true_eq]
    constructor
    · intro h; exact ⟨0, Nat.le_refl _, h⟩
    · rintro ⟨e, he, hw⟩
      have : e = 0 := by omega
      subst this
      exact hw
  · rw [Nat.testBit_two_pow, decide_eq_true_eq]
    constructor
    · intro h; exact ⟨h, fun e he => by omega⟩
    · intro h; exact h.1

/-- Two graphs in which walks go alike. -/
theorem far_same {n : Nat} {rows rows' : List Int} (R : Rok n rows) (R' : Rok n rows') {a b : Nat} (ha : a < n) (hb : b < n) (hs : ∀ v w, rbit rows v w = true → rbit rows w v = true) (e : ∀ v w, rbit rows v w = true ↔ rbit rows' v w = true) : far rows a b = far rows' b a := by
  refine (far_dist R ha b).unique (far_dist R' hb a) fun k => ?_
  have e2 : ∀ (k v w : Nat), Wk rows k v w ↔ Wk rows' k v w := by
    intro k
    induction k with
    | zero => intro v w; exact Iff.rfl
    | succ k ih =>
      intro v w
      constructor
      · rintro ⟨c, h1, h2⟩; exact ⟨c, (ih v c).mp h1, (e c w).mp h2⟩
      · rintro ⟨c, h1, h2⟩; exact ⟨c, (ih v c).mpr h1, (e c w).mpr h2⟩
  exact ⟨fun h => (e2 k b a).mp (h.symm hs), fun h => Wk.symm hs k b a ((e2 k b a).mpr h)⟩
end Go.Proofs.YthpgiimaadohcaaDoor.Zv

/- Girths: the least length of a cycle with an edge, at a vertex, of all. -/
namespace Go.Proofs.YthpgiimaadohcaaDoor.Zv
open Go
variable {nro : Nat}

theorem rbit_lt {n : Nat} {rows : List Int} (R : Rok n rows) {v w : Nat} (h : rbit rows v w = true) : v < n ∧ w < n := by
  have hv : v < n := by
    rcases Nat.lt_or_ge v n with h1 | h1
    · exact h1
    · have hl := R.len
      unfold rbit at h
      rw [List.getD_eq_getElem?_getD, List.getElem?_eq_none (by omega)] at h
      simp at h
  exact ⟨hv, R.lt hv h⟩
/-- A graph without one of its edges. -/
theorem cut_rok {n : Nat} {rows : List Int} (g : GV n rows) {a b : Nat} (ha : a < n) (hb : b < n) (hab : rbit rows a b = true) :
    Rok n (cut2 rows a b) ∧ ∀ v w, rbit (cut2 rows a b) v w = true ↔ rbit rows v w = true ∧ ¬ ((v = a ∧ w = b) ∨ (v = b ∧ w = a)) := by
  have R := g.rok
  have hl := g.len
  have hba : rbit rows b a = true := by rw [g.sym b a (by omega) (by omega)]; exact hab
  have hne : (a : Int) ≠ b := by
    intro e
    have e : a = b := by omega
    subst e
    obtain ⟨_, _, h⟩ := g.row a (by omega)
    rw [h] at hab
    cases hab
  have := R.isAdj.cut2 (a := (a : Int)) (b := (b : Int)) (by omega) (by omega) (by omega) (by omega) hne (by simpa using hab) (by simpa using hba)
  simp only [Int.toNat_natCast] at this
  have R2 : Rok n (cut2 rows a b) := Rok.of this R.le fun v w hv h => R.lt hv h.1
  refine ⟨R2, fun v w => ?_⟩
  by_cases hv : v < n
  · exact (this.2 v hv).2.2 w
  · constructor
    · intro h; exact absurd (rbit_lt R2 h).1 hv
    · intro h; exact absurd (rbit_lt R h.1).1 hv

/-- The least length of a cycle with an edge; 0 without one. -/
def arF (rows : List Int) (a b : Nat) : Int := far (cut2 rows a b) a b + 1
theorem GV.sym' {n : Nat} {rows : List Int} (g : GV n rows) {v w : Nat} (h : rbit rows v w = true) : rbit rows w v = true := by
  have hl := g.len
  obtain ⟨h1, h2⟩ := rbit_lt g.rok h
  rw [g.sym w v (by omega) (by omega)]
  exact h
theorem GV.ne {n : Nat} {rows : List Int} (g : GV n rows) {v w : Nat} (h : rbit rows v w = true) : v ≠ w := by
  rintro rfl
  have hl := g.len
  obtain ⟨h1, _⟩ := rbit_lt g.rok h
  obtain ⟨_, _, h2⟩ := g.row v (by omega)
  rw [h2] at h
  cases h
theorem arF_symm {n : Nat} {rows : List Int} (g : GV n rows) {a b : Nat} (hab : rbit rows a b = true) : arF rows a b = arF rows b a := by
  obtain ⟨ha, hb⟩ := rbit_lt g.rok hab
  obtain ⟨R1, e1⟩ := cut_rok g ha hb hab
  obtain ⟨R2, e2⟩ := cut_rok g hb ha (g.sym' hab)
  unfold arF
  rw [far_same R1 R2 ha hb (fun v w h => ?_) (fun v w => ?_)]
  · rw [e1] at h ⊢
    exact ⟨g.sym' h.1, fun h2 => h.2 (by omega)⟩
  · rw [e1, e2]
    constructor <;> (rintro ⟨h1, h2⟩; exact ⟨h1, fun h3 => h2 (by omega)⟩)
theorem arF_ge {n : Nat} {rows : List Int} (a b : Nat) : 0 ≤ arF rows a b := by
  have := far_ge (cut2 rows a b) a b
  unfold arF
  omega
theorem c_impl_Graph_around (n a b : Nat) (s : Value) (rows : List Int) (h : VH) (hs : Sli h s rows) (g : GV n rows) (hab : rbit rows a b = true) (hn : nro ≤ h.length) :
    vcall F nro k_impl_Graph_around [gv n s, .int .i64 a, .int .i64 b] h = some (.int .i64 (arF rows a b), h) := by
  refine v_impl_Graph_around (by simp [i_impl_Graph_around]) ?_
  rw [fbody_eq]
  have hn' := fun k => Nat.le_trans hn (Nat.le_add_right h.length k)
  obtain ⟨ha, hb⟩ := rbit_lt g.rok hab
  obtain ⟨R2, _⟩ := cut_rok g ha hb hab
  have R := g.rok
  have hl := R.len
  have hle := R.le
  have hne := g.ne hab
  have ho := c_impl_own (nro := nro) n s rows (h ++ [⟨0, [.int .i64 n, s]⟩]) (hs.app _) (by intro e; rw [e] at hl; simp at hl; omega) (by omega) (by simp; omega)
  obtain ⟨r1, r2⟩ := R.row a ha
  obtain ⟨q1, q2⟩ := R.row b hb
  have r3 := le62 hle r2
  have q3 := le62 hle q2
  have ht := c_impl_Graph_take (nro := nro) n (h.length + 1) n a b rows (h ++ [⟨0, [.int .i64 n, s]⟩, ⟨1, ints rows⟩, ⟨0, [.int .i64 n, .slice (some ⟨h.length + 1, 0, none⟩) n n]⟩]) (by simp) hl (by omega) (by omega) (by omega) (by omega) (by omega) hle (by omega)
    (by rw [Int.toNat_natCast]; exact r1) (by rw [Int.toNat_natCast]; omega) (by rw [Int.toNat_natCast, Int.toNat_natCast]; exact hab) (by rw [Int.toNat_natCast]; exact q1) (by rw [Int.toNat_natCast]; omega) (by rw [Int.toNat_natCast, Int.toNat_natCast]; exact g.sym' hab)
  have hl2 := R2.len
  have hd := c_impl_Graph_distances (nro := nro) n a (.slice (some ⟨h.length + 1, 0, none⟩) n n) (cut2 rows a b) (h ++ [⟨0, [.int .i64 n, s]⟩, ⟨1, ints (cut2 rows a b)⟩, ⟨0, [.int .i64 n, .slice (some ⟨h.length + 1, 0, none⟩) n n]⟩]) (by
    have := sli_at (h := h ++ [⟨0, [.int .i64 n, s]⟩, ⟨1, ints (cut2 rows a b)⟩, ⟨0, [.int .i64 n, .slice (some ⟨h.length + 1, 0, none⟩) n n]⟩]) (b := h.length + 1) (xs := cut2 rows a b) (by simp)
    rw [hl2] at this
    exact this) R2 ha (by simp; omega)
  have f1 := far_le R2 ha b
  have f2 := far_ge (cut2 rows a b) a b
  have f3 := dists_get R2 ha hb
  have f4 := dists_len (cut2 rows a b) n a
  unfold arF
  obtain ⟨x, hx⟩ : ∃ x, x = far (cut2 rows a b) a b := ⟨_, rfl⟩
  rw [← hx] at f1 f2 f3 ⊢
  obtain ⟨D, hD⟩ : ∃ D, D = dists (cut2 rows a b) n a := ⟨_, rfl⟩
  rw [← hD] at hd f3 f4
  obtain ⟨c, hc⟩ : ∃ c, c = cut2 rows a b := ⟨_, rfl⟩
  rw [← hc] at ht hd
  have hbD : b < D.length := by omega
  rw [getD_at D hbD] at f3
  have t1 := take1_ints hbD
  rw [f3] at t1
  have hb' : (b : Int) < n := by omega
  have w1 : IntKind.i64.wrap (x + 1) = x + 1 := wrap64 (by omega) (by omega)
  simp at ht hd
  rw [hl] at ho
  simp at ho
  clear hx hD hc R2 hl2
  simp (disch := first | assumption | omega | (simp [*] <;> omega) | fail) [i_impl_Graph_around, ho, ht, hd, hn, hn', f4, hb, hb', t1, w1]

/-! ### the least of lengths -/
/-- The lesser one of two lengths; 0 stands for none. -/
def minP (best n : Int) : Int := if 0 < n ∧ (best = 0 ∨ n < best) then n else best
theorem minP_ok {best n c : Int} (hb : 0 ≤ best) (hc : 1 ≤ c) : (minP best n = 0 ∨ c ≤ minP best n) ↔ (best = 0 ∨ c ≤ best) ∧ (n ≤ 0 ∨ c ≤ n) := by
  unfold minP
  split <;> omega
theorem minP_ge {best n : Int} (hb : 0 ≤ best) : 0 ≤ minP best n := by
  unfold minP
  split <;> omega
/-- The least length at v with the vertices of a list. -/
def gaL (rows : List Int) (v : Nat) (best : Int) : List Int → Int
  | [] => best
  | y :: l => gaL rows v (minP best (arF rows v y.toNat)) l
theorem gaL_ge {rows : List Int} {v : Nat} : ∀ (l : List Int) (best : Int), 0 ≤ best → 0 ≤ gaL rows v best l
  | [], _, h => h
  | y :: l, best, h => gaL_ge l _ (minP_ge h)
theorem gaL_ok {rows : List Int} {v : Nat} {c : Int} (hc : 1 ≤ c) : ∀ (l : List Int) (best : Int), 0 ≤ best → ((gaL rows v best l = 0 ∨ c ≤ gaL rows v best l) ↔ (best = 0 ∨ c ≤ best) ∧ ∀ y ∈ l, arF rows v y.toNat ≤ 0 ∨ c ≤ arF rows v y.toNat)
  | [], best, h => by simp [gaL]
  | y :: l, best, h => by
    rw [gaL, gaL_ok hc l _ (minP_ge h), minP_ok h hc]
    simp only [List.mem_cons, forall_eq_or_imp]
    exact ⟨fun ⟨⟨a, b⟩, c⟩ => ⟨a, b, c⟩, fun ⟨a, b, c⟩ => ⟨⟨a, b⟩, c⟩⟩
/-- The neighbours of v. -/
def nbL (rows : List Int) (v : Nat) : List Int := bitL (rows.getD v 0).toNat
theorem nbL_mem (rows : List Int) (v : Nat) (y : Int) : y ∈ nbL rows v ↔ 0 ≤ y ∧ y < 62 ∧ rbit rows v y.toNat = true := bitL_mem _ y
theorem nbL_nat {rows : List Int} {v j : Nat} (hj : j < (nbL rows v).length) : ∃ y : Nat, (nbL rows v)[j] = (y : Int) ∧ rbit rows v y = true := by
  have h := (nbL_mem rows v (nbL rows v)[j]).mp (List.getElem_mem hj)
  exact ⟨((nbL rows v)[j]).toNat, by omega, h.2.2⟩

theorem c_impl_listRow (n v : Nat) (rows : List Int) (R : Rok n rows) (hv : v < n) (h : VH) (hn : nro ≤ h.length) :
    vcall F nro k_impl_list [.int .i64 (rows[v]'(by have := R.len; omega))] h = some (.slice (some ⟨h.length, 0, none⟩) (nbL rows v).length (nbL rows v).length, h ++ [⟨1, ints (nbL rows v)⟩]) := by
  have hl := R.len
  obtain ⟨r1, r2⟩ := R.row v hv
  have := c_impl_list (nro := nro) (rows.getD v 0).toNat (le62 R.le r2) h hn
  rw [Int.toNat_of_nonneg r1] at this
  rw [← getD_at rows (by omega)]
  exact this

theorem l_impl_Graph_girthAt (h : VH) (n v : Nat) (s : Value) (rows : List Int) (hs : Sli h s rows) (g : GV n rows) (hn : nro ≤ h.length) (k j : Nat) (hk : k = (nbL rows v).length - j) (hj : j ≤ (nbL rows v).length) (best : Int) (hb : 0 ≤ best) :
    floop (vcall F nro) nro [1, 2, 5, 14, 15, 16] i_impl_Graph_girthAt_B1 (h ++ [⟨0, [.int .i64 n, s]⟩, ⟨1, ints (nbL rows v)⟩]) [.int .i64 v, bp h, .int .i64 best, .slice (some ⟨h.length + 1, 0, none⟩) (nbL rows v).length (nbL rows v).length, .int .i64 (nbL rows v).length, .int .i64 j] (h ++ [⟨0, [.int .i64 n, s]⟩, ⟨1, ints (nbL rows v)⟩]) =
      some (.exit 0, fl [(5, .int .i64 (gaL rows v best ((nbL rows v).drop j)))], h ++ [⟨0, [.int .i64 n, s]⟩, ⟨1, ints (nbL rows v)⟩]) := by
  have hn' := fun k => Nat.le_trans hn (Nat.le_add_right h.length k)
  have hsc := fun k => hs.oldCk (k := k)
  rw [floop_at i_impl_Graph_girthAt_B1.eq_1]
  by_cases hlt : j < (nbL rows v).length
  · obtain ⟨y, hy, hvy⟩ := nbL_nat hlt
    have hc := c_impl_Graph_around (nro := nro) n v y s rows (h ++ [⟨0, [.int .i64 n, s]⟩, ⟨1, ints (nbL rows v)⟩]) (hs.app _) g hvy (by simp; omega)
    have a1 := arF_ge (n := n) (rows := rows) v y
    have ih := l_impl_Graph_girthAt h n v s rows hs g hn (k - 1) (j + 1) (by omega) hlt (minP best (arF rows v y)) (minP_ge hb)
    rw [show ((j + 1 : Nat) : Int) = (j : Int) + 1 by omega] at ih
    rw [List.drop_eq_getElem_cons hlt, hy, gaL, Int.toNat_natCast]
    have hll : (nbL rows v).length ≤ 62 := bitL_len _
    have t1 := take1_ints hlt
    rw [hy] at t1
    obtain ⟨q, hq⟩ : ∃ q, q = gaL rows v (minP best (arF rows v y)) ((nbL rows v).drop (j + 1)) := ⟨_, rfl⟩
    rw [← hq] at ih ⊢
    obtain ⟨x, hx⟩ : ∃ x, x = arF rows v y := ⟨_, rfl⟩
    rw [← hx] at hc a1 ih
    have hlt' : (j : Int) < (nbL rows v).length := by omega
    clear hq hx hk
    unfold minP at ih
    by_cases c1 : 0 < x
    · by_cases c2 : best = 0
      · rw [if_pos ⟨c1, .inl c2⟩] at ih
        simp (disch := first | assumption | omega | (simp [*] <;> omega) | fail) [wrap64, hlt', hlt, hc, c1, c2, ih, hsc, t1, hy]
      · by_cases c3 : x < best
        · rw [if_pos ⟨c1, .inr c3⟩] at ih
          simp (disch := first | assumption | omega | (simp [*] <;> omega) | fail) [wrap64, hlt', hlt, hc, c1, c2, c3, ih, hsc, t1, hy]
        · rw [if_neg (by omega)] at ih
          simp (disch := first | assumption | omega | (simp [*] <;> omega) | fail) [wrap64, hlt', hlt, hc, c1, c2, c3, ih, hsc, t1, hy]
    · rw [if_neg (fun h => c1 h.1)] at ih
      simp (disch := first | assumption | omega | (simp [*] <;> omega) | fail) [wrap64, hlt', hlt, hc, c1, ih, hsc, t1, hy]
  · have hlt' : ¬ (j : Int) < (nbL rows v).length := by omega
    rw [List.drop_eq_nil_of_le (by omega), gaL]
    simp (disch := first | assumption | omega | (simp [*] <;> omega) | fail) [hlt', hlt]
 termination_by k
 decreasing_by omega

theorem c_impl_Graph_girthAt (n v : Nat) (s : Value) (rows : List Int) (h : VH) (hs : Sli h s rows) (g : GV n rows) (hv : v < n) (hn : nro ≤ h.length) :
    vcall F nro k_impl_Graph_girthAt [gv n s, .int .i64 v] h = some (.int .i64 (gaL rows v 0 (nbL rows v)), h) := by
  refine v_impl_Graph_girthAt (by simp [i_impl_Graph_girthAt]) ?_
  rw [fbody_eq]
  have hn' := fun k => Nat.le_trans hn (Nat.le_add_right h.length k)
  have R := g.rok
  have hl := R.len
  have hvl : v < rows.length := by omega
  have hL := c_impl_listRow (nro := nro) n v rows R hv (h ++ [⟨0, [.int .i64 n, s]⟩]) (by simp; omega)
  have lp := l_impl_Graph_girthAt (nro := nro) h n v s rows hs g hn (nbL rows v).length 0 (by omega) (Nat.zero_le _) 0 (by omega)
  rw [List.drop_zero] at lp
  have vx := fun L => (hs.app L).vidx (k := .i64) (j := (v : Int)) (by omega) (by omega)
  have vl := fun L => (hs.app L).vload hvl
  obtain ⟨q, hq⟩ : ∃ q, q = gaL rows v 0 (nbL rows v) := ⟨_, rfl⟩
  rw [← hq] at lp ⊢
  clear hq
  simp only [Int.natCast_zero] at lp
  simp at hL
  simp (disch := first | assumption | omega | (simp [*] <;> omega) | fail) [i_impl_Graph_girthAt, vx, vl, hL, lp, hn, hn']

/-- The girth, from v on. -/
def girF (rows : List Int) (n : Nat) (best : Int) (v : Nat) : Int := if h : v < n then girF rows n (minP best (gaL rows v 0 (nbL rows v))) (v + 1) else best
 termination_by n - v
theorem girF_end {rows : List Int} {n v : Nat} {best : Int} (h : ¬ v < n) : girF rows n best v = best := by rw [girF, dif_neg h]
theorem girF_step {rows : List Int} {n v : Nat} {best : Int} (h : v < n) : girF rows n best v = girF rows n (minP best (gaL rows v 0 (nbL rows v))) (v + 1) := by rw [girF, dif_pos h]
theorem girF_ok {rows : List Int} {n : Nat} {c : Int} (hc : 1 ≤ c) (v : Nat) (best : Int) (hb : 0 ≤ best) : (girF rows n best v = 0 ∨ c ≤ girF rows n best v) ↔ (best = 0 ∨ c ≤ best) ∧ ∀ u, v ≤ u → u < n → ∀ y ∈ nbL rows u, arF rows u y.toNat ≤ 0 ∨ c ≤ arF rows u y.toNat := by
  by_cases h : v < n
  · rw [girF_step h, girF_ok hc (v + 1) _ (minP_ge hb), minP_ok hb hc]
    have h1 := gaL_ok (rows := rows) (v := v) hc (nbL rows v) 0 (by omega)
    have h2 := gaL_ge (rows := rows) (v := v) (nbL rows v) 0 (by omega)
    constructor
    · rintro ⟨⟨a, b⟩, c'⟩
      refine ⟨a, fun u hu hun => ?_⟩
      by_cases e : u = v
      · subst e
        exact (h1.mp (by omega)).2
      · exact c' u (by omega) hun
    · rintro ⟨a, b⟩
      refine ⟨⟨a, ?_⟩, fun u hu hun => b u (by omega) hun⟩
      have := h1.mpr ⟨.inl rfl, b v (Nat.le_refl _) h⟩
      omega
  · rw [girF_end h]
    constructor
    · intro h1; exact ⟨h1, fun u hu hun => by omega⟩
    · intro h1; exact h1.1
 termination_by n - v

theorem l_impl_Graph_girth (h : VH) (n : Nat) (s : Value) (rows : List Int) (hs : Sli h s rows) (g : GV n rows) (hn : nro ≤ h.length) (v : Nat) (best : Int) (hb : 0 ≤ best) :
    floop (vcall F nro) nro [1, 3, 7, 8] i_impl_Graph_girth_B1 (bx h n s) [bp h, .int .i64 best, .int .i64 n, .int .i64 v] (bx h n s) =
      some (.exit 0, fl [(3, .int .i64 (girF rows n best v))], bx h n s) := by
  have hn' := fun k => Nat.le_trans hn (Nat.le_add_right h.length k)
  have hsc := fun k => hs.oldCk (k := k)
  have hle := g.rok.le
  rw [floop_at i_impl_Graph_girth_B1.eq_1]
  by_cases hlt : v < n
  · have hlt' : (v : Int) < n := by omega
    have hc := c_impl_Graph_girthAt (nro := nro) n v s rows (bx h n s) (hs.app _) g hlt (by simp; omega)
    have ih := l_impl_Graph_girth h n s rows hs g hn (v + 1) (minP best (gaL rows v 0 (nbL rows v))) (minP_ge hb)
    rw [show ((v + 1 : Nat) : Int) = (v : Int) + 1 by omega] at ih
    rw [girF_step hlt]
    obtain ⟨q, hq⟩ : ∃ q, q = girF rows n (minP best (gaL rows v 0 (nbL rows v))) (v + 1) := ⟨_, rfl⟩
    rw [← hq] at ih ⊢
    obtain ⟨x, hx⟩ : ∃ x, x = gaL rows v 0 (nbL rows v) := ⟨_, rfl⟩
    rw [← hx] at hc ih
    clear hq hx
    unfold minP at ih
    by_cases c1 : 0 < x
    · by_cases c2 : best = 0
      · rw [if_pos ⟨c1, .inl c2⟩] at ih
        simp (disch := first | assumption | omega | (simp [*] <;> omega) | fail) [wrap64, hlt', hlt, hc, c1, c2, ih, hsc]
      · by_cases c3 : x < best
        · rw [if_pos ⟨c1, .inr c3⟩] at ih
          simp (disch := first | assumption | omega | (simp [*] <;> omega) | fail) [wrap64, hlt', hlt, hc, c1, c2, c3, ih, hsc]
        · rw [if_neg (by omega)] at ih
          simp (disch := first | assumption | omega | (simp [*] <;> omega) | fail) [wrap64, hlt', hlt, hc, c1, c2, c3, ih, hsc]
    · rw [if_neg (fun h => c1 h.1)] at ih
      simp (disch := first | assumption | omega | (simp [*] <;> omega) | fail) [wrap64, hlt', hlt, hc, c1, ih, hsc]
  · have hlt' : ¬ (v : Int) < n := by omega
    rw [girF_end hlt]
    simp (disch := first | assumption | omega | (simp [*] <;> omega) | fail) [hlt', hlt]
 termination_by n - v

theorem c_impl_Graph_girth (n : Nat) (s : Value) (rows : List Int) (h : VH) (hs : Sli h s rows) (g : GV n rows) (hn : nro ≤ h.length) :
    vcall F nro k_impl_Graph_girth [gv n s] h = some (.int .i64 (girF rows n 0 0), h) := by
  refine v_impl_Graph_girth (by simp [i_impl_Graph_girth]) ?_
  rw [fbody_eq]
  have lp := l_impl_Graph_girth (nro := nro) h n s rows hs g hn 0 0 (by omega)
  obtain ⟨q, hq⟩ : ∃ q, q = girF rows n 0 0 := ⟨_, rfl⟩
  rw [← hq] at lp ⊢
  clear hq
  simp only [Int.natCast_zero] at lp
  simp (disch := first | assumption | omega | (simp [*] <;> omega) | fail) [i_impl_Graph_girth, lp]
end Go.Proofs.YthpgiimaadohcaaDoor.Zv

/- Loops that count up, told once. -/
namespace Go.Proofs.YthpgiimaadohcaaDoor.Zv
open Go

section
variable {call : VCall} {nro : Nat} {live : List Nat} {c : FC} {h0 : VH} {n : Nat}

open Classical in
/-- A loop that looks for something bad. -/
theorem for_find (V : Nat → List Value) (h : VH) (bad : Nat → Prop) (r d : Option (VX × FE × VH))
    (step : ∀ i, i < n → (i : Int) < n → (bad i → floop call nro live c h0 (V i) h = r) ∧ (¬ bad i → floop call nro live c h0 (V i) h = floop call nro live c h0 (V (i + 1)) h))
    (stop : floop call nro live c h0 (V n) h = d) (i : Nat) (hi : i ≤ n) :
    floop call nro live c h0 (V i) h = if ∃ j, i ≤ j ∧ j < n ∧ bad j then r else d := by
  by_cases hlt : i < n
  · obtain ⟨h1, h2⟩ := step i hlt (by omega)
    by_cases hb : bad i
    · rw [h1 hb, if_pos ⟨i, Nat.le_refl _, hlt, hb⟩]
    · rw [h2 hb, for_find V h bad r d step stop (i + 1) hlt]
      have : (∃ j, i + 1 ≤ j ∧ j < n ∧ bad j) ↔ ∃ j, i ≤ j ∧ j < n ∧ bad j := by
        constructor
        · rintro ⟨j, h1, h2, h3⟩; exact ⟨j, by omega, h2, h3⟩
        · rintro ⟨j, h1, h2, h3⟩
          refine ⟨j, ?_, h2, h3⟩
          have : j ≠ i := fun e => hb (e ▸ h3)
          omega
      simp only [this]
  · have : i = n := by omega
    subst this
    rw [stop, if_neg]
    rintro ⟨j, h1, h2, _⟩
    omega
 termination_by n - i

/-- The same, the state being found. -/
theorem for_upR {α : Type} (V : Nat → α → List Value) (H : Nat → α → VH) (I : Nat → α → Prop) (R : α → Option (VX × FE × VH))
    (step : ∀ i a, i < n → (i : Int) < n → I i a → ∃ a', I (i + 1) a' ∧ floop call nro live c h0 (V i a) (H i a) = floop call nro live c h0 (V (i + 1) a') (H (i + 1) a'))
    (stop : ∀ a, I n a → floop call nro live c h0 (V n a) (H n a) = R a) (i : Nat) (a : α) (hi : i ≤ n) (h : I i a) :
    ∃ a', I n a' ∧ floop call nro live c h0 (V i a) (H i a) = R a' := by
  by_cases hlt : i < n
  · obtain ⟨a', h1, h2⟩ := step i a hlt (by omega) h
    rw [h2]
    exact for_upR V H I R step stop (i + 1) a' hlt h1
  · have : i = n := by omega
    subst this
    exact ⟨a, h, stop a h⟩
 termination_by n - i
end
end Go.Proofs.YthpgiimaadohcaaDoor.Zv

/- Lists of lists in new memory. -/
namespace Go.Proofs.YthpgiimaadohcaaDoor.Zv
open Go
variable {nro : Nat}

/-- Where nothing is handed on that is new, a cleaning drops all that is new, or nothing. -/
theorem cleanup_old {h0 h : VH} {vs : List Value} (hv : ∀ v ∈ vs, Old h0.length v) : kclean h0 vs h = (vs, h) ∨ (okT h0.length h0 (h.take h0.length) ∧ kclean h0 vs h = (vs, h.take h0.length)) := by
  unfold kclean cleanup
  rw [keepL_nil hv]
  by_cases hc : okT h0.length h0 (h.take h0.length) ∧ flatL h0.length [] h
  · rw [if_pos hc]
    refine .inr ⟨hc.1, ?_⟩
    simp only [List.filterMap_nil, List.append_nil, Prod.mk.injEq, and_true]
    have : ∀ v ∈ vs, tren (renOf h0.length []) v = v := fun v h => tren_old (hv v h) fun i hi => by simp only [renOf, if_pos hi]
    exact (List.map_congr_left this).trans (by simp)
  · rw [if_neg hc]
    exact .inl rfl

/-- A list of lists in new memory from n on: each inner list in an object of its own. -/
structure EI (n : Nat) (vs : List Value) (G : VH) (ess : List (List Int)) : Prop where
  len : vs.length = ess.length
  at_ : ∀ i : Nat, i < ess.length → ∃ k, vs[i]? = some (.slice (some ⟨n + k, 0, none⟩) (ess.getD i []).length (ess.getD i []).length) ∧ G[k]? = some ⟨1, ints (ess.getD i [])⟩
  nd : (vs.flatMap arefs).Nodup

theorem EI.nil (n : Nat) (G : VH) : EI n [] G [] := ⟨rfl, fun i hi => by simp at hi, by simp⟩
theorem EI.more {n : Nat} {vs : List Value} {G : VH} {ess : List (List Int)} (e : EI n vs G ess) (L : VH) : EI n vs (G ++ L) ess := by
  refine ⟨e.len, fun i hi => ?_, e.nd⟩
  obtain ⟨k, h1, h2⟩ := e.at_ i hi
  exact ⟨k, h1, by rw [List.getElem?_append_left (List.getElem?_eq_some_iff.mp h2).1]; exact h2⟩
theorem EI.lt {n : Nat} {vs : List Value} {G : VH} {ess : List (List Int)} (e : EI n vs G ess) {r : Nat} (hr : r ∈ vs.flatMap arefs) : n ≤ r ∧ r < n + G.length := by
  obtain ⟨v, hv, hr⟩ := List.mem_flatMap.mp hr
  obtain ⟨i, hi, rfl⟩ := List.mem_iff_getElem.mp hv
  have hl := e.len
  obtain ⟨k, h1, h2⟩ := e.at_ i (by omega)
  have h3 := (List.getElem?_eq_some_iff.mp h1).2
  have h4 := (List.getElem?_eq_some_iff.mp h2).1
  rw [h3] at hr
  simp [arefs] at hr
  omega
theorem EI.push {n : Nat} {vs : List Value} {G : VH} {ess : List (List Int)} (e : EI n vs G ess) (xs : List Int) (L : VH) : EI n (vs ++ [.slice (some ⟨n + G.length, 0, none⟩) xs.length xs.length]) (G ++ ⟨1, ints xs⟩ :: L) (ess ++ [xs]) := by
  have hl := e.len
  have e2 := e.more (⟨1, ints xs⟩ :: L)
  refine ⟨by simp [hl], fun i hi => ?_, ?_⟩
  · by_cases h : i < ess.length
    · obtain ⟨k', h1, h2⟩ := e2.at_ i h
      have e1 : (ess ++ [xs]).getD i [] = ess.getD i [] := by simp only [List.getD_eq_getElem?_getD]; rw [List.getElem?_append_left h]
      rw [e1]
      exact ⟨k', by rw [List.getElem?_append_left (by omega)]; exact h1, h2⟩
    · have hi2 : i = ess.length := by simp at hi; omega
      subst hi2
      have e1 : (ess ++ [xs]).getD ess.length [] = xs := by simp [List.getD_eq_getElem?_getD]
      rw [e1]
      exact ⟨G.length, by rw [← hl]; simp, by simp⟩
  · rw [List.flatMap_append]
    refine List.nodup_append.mpr ⟨e.nd, by simp [arefs], fun a ha b hb => ?_⟩
    have := (e.lt ha).2
    simp [arefs] at hb
    omega

/-- A list of lists that a call has handed out: in memory from n on. -/
def SL2 (n : Nat) (M : VH) (v : Value) (ess : List (List Int)) : Prop := ∃ b vs, v = .slice (some ⟨n + b, 0, none⟩) ess.length ess.length ∧ M[b]? = some ⟨1, vs⟩ ∧ EI n vs M ess

theorem EI.cleanP {P0 P : VH} {vs0 vs vals : List Value} {G0 G : VH} {ess0 ess : List (List Int)} (e0 : EI (P.length + 1) vs0 G0 ess0) (e : EI (P.length + 1) vs G ess) (hP : P0.length = P.length) (hG : G0.length ≤ G.length) (hv : ∀ v ∈ vals, Old (P.length + 1 + G0.length) v) :
    ∃ G1, kclean (P0 ++ ⟨1, vs0⟩ :: G0) vals (P ++ ⟨1, vs⟩ :: G) = (vals, P ++ ⟨1, vs⟩ :: G1) ∧ EI (P.length + 1) vs G1 ess ∧ G0.length ≤ G1.length := by
  have hlen : (P0 ++ (⟨1, vs0⟩ : VO) :: G0).length = P.length + 1 + G0.length := by simp; omega
  rcases cleanup_old (h0 := P0 ++ ⟨1, vs0⟩ :: G0) (h := P ++ ⟨1, vs⟩ :: G) (vs := vals) (by rw [hlen]; exact hv) with hk | ⟨hok, hk⟩
  · exact ⟨G, hk, e, hG⟩
  · have e1 : (P ++ (⟨1, vs⟩ : VO) :: G).take (P0 ++ (⟨1, vs0⟩ : VO) :: G0).length = P ++ ⟨1, vs⟩ :: G.take G0.length := by
      rw [hlen, List.take_append, List.take_of_length_le (by omega)]
      rw [show P.length + 1 + G0.length - P.length = G0.length + 1 by omega]
      rfl
    rw [e1] at hk hok
    refine ⟨G.take G0.length, hk, ⟨e.len, fun i hi => ?_, e.nd⟩, by simp; omega⟩
    obtain ⟨k, h1, h2⟩ := e.at_ i hi
    have hk : k < G0.length := by
      have h3 := hok P.length ⟨1, vs⟩ (by rw [hget0]; rfl)
      have hmem : P.length + 1 + k ∈ orefs ⟨1, vs⟩ := by
        unfold orefs
        refine List.mem_flatMap.mpr ⟨_, List.mem_of_getElem? h1, ?_⟩
        simp [crefs, arefs]
      rcases h3 with h3 | h3
      · rw [← hP, hget0] at h3
        simp at h3
        subst h3
        have hi0 : i < ess0.length := by
          have := (List.getElem?_eq_some_iff.mp h1).1
          rw [← e0.len]; exact this
        obtain ⟨k', h4, h5⟩ := e0.at_ i hi0
        rw [h1] at h4
        simp at h4
        have : k = k' := h4.1
        subst this
        exact (List.getElem?_eq_some_iff.mp h5).1
      · have := h3 _ hmem
        rw [hlen] at this
        omega
    exact ⟨k, h1, by rw [List.getElem?_take, if_pos hk]; exact h2⟩

/-- A function's end: a list of lists is handed out, perhaps beside something flat. -/
theorem EI.fin {h pre : VH} {vs : List Value} {G : VH} {ess : List (List Int)} (e : EI (h.length + pre.length + 1) vs G ess) (w : Value → Value) (hw1 : ∀ a n t, trefs (w (.slice (some a) n t)) = [a.block]) (hw2 : ∀ r a n t, tren r (w (.slice (some a) n t)) = w (.slice (some { a with block := r a.block }) n t)) :
    ∃ v M, kclean h [w (.slice (some ⟨h.length + pre.length, 0, none⟩) vs.length vs.length)] (h ++ (pre ++ ⟨1, vs⟩ :: G)) = ([w v], h ++ M) ∧ SL2 h.length M v ess := by
  have hl2 := e.len
  have hk : keepL h.length [w (.slice (some ⟨h.length + pre.length, 0, none⟩) vs.length vs.length)] = [h.length + pre.length] := by
    unfold keepL
    simp [hw1, dedup]
  have hget : (h ++ (pre ++ ⟨1, vs⟩ :: G))[h.length + pre.length]? = some ⟨1, vs⟩ := by rw [hgetk]; simp
  by_cases hf : flatL h.length [h.length + pre.length] (h ++ (pre ++ ⟨1, vs⟩ :: G))
  · have hvs : vs = [] := by
      obtain ⟨o, ho, hr⟩ := hf (h.length + pre.length) (by simp)
      have : o = ⟨1, vs⟩ := by rw [hget] at ho; simpa using ho.symm
      subst this
      cases hv : ess with
      | nil => rw [hv] at hl2; exact List.length_eq_zero_iff.mp hl2
      | cons x r =>
        exfalso
        obtain ⟨j, h1, _⟩ := e.at_ 0 (by rw [hv]; simp)
        have := hr (h.length + pre.length + 1 + j) (by
          unfold orefs
          refine List.mem_flatMap.mpr ⟨_, List.mem_of_getElem? h1, ?_⟩
          simp [crefs, arefs])
        omega
    subst hvs
    have hes : ess = [] := List.length_eq_zero_iff.mp hl2.symm
    rw [hes]
    refine ⟨.slice (some ⟨h.length + 0, 0, none⟩) 0 0, [⟨1, []⟩], ?_, 0, [], by simp, rfl, EI.nil _ _⟩
    rw [cleanup_keep hk hf]
    simp [hw2, renOf_one, hget]
  · refine ⟨.slice (some ⟨h.length + pre.length, 0, none⟩) vs.length vs.length, pre ++ ⟨1, vs⟩ :: G, ?_, pre.length, vs, by rw [hl2], by simp, hl2, fun i hi => ?_, e.nd⟩
    · unfold kclean cleanup
      rw [hk, if_neg (fun h => hf h.2)]
    · obtain ⟨j, h1, h2⟩ := e.at_ i hi
      exact ⟨pre.length + 1 + j, by rw [h1]; congr 4; omega, by
        rw [List.getElem?_append_right (by omega), show pre.length + 1 + j - pre.length = j + 1 by omega]
        exact h2⟩
theorem EI.fin1 {h pre : VH} {vs : List Value} {G : VH} {ess : List (List Int)} (e : EI (h.length + pre.length + 1) vs G ess) :
    ∃ v M, kclean h [.slice (some ⟨h.length + pre.length, 0, none⟩) vs.length vs.length] (h ++ (pre ++ ⟨1, vs⟩ :: G)) = ([v], h ++ M) ∧ SL2 h.length M v ess :=
  e.fin (fun v => v) (fun a n t => by simp [trefs, vrefs, crefs, arefs]) (fun r a n t => by simp [tren, vren, cren, aren])
theorem EI.finC {h pre : VH} {vs : List Value} {G : VH} {ess : List (List Int)} (e : EI (h.length + pre.length + 1) vs G ess) (k : IntKind) (x : Int) :
    ∃ v M, kclean h [.tuple #[.slice (some ⟨h.length + pre.length, 0, none⟩) vs.length vs.length, .int k x]] (h ++ (pre ++ ⟨1, vs⟩ :: G)) = ([.tuple #[v, .int k x]], h ++ M) ∧ SL2 h.length M v ess :=
  e.fin (fun v => .tuple #[v, .int k x]) (fun a n t => by simp [trefs, vrefs, crefs, arefs]) (fun r a n t => by simp [tren, vren, cren, aren])
/-- What a call has handed out is handed on. -/
theorem SL2.fwd {h pre M : VH} {q : Value} {ess : List (List Int)} (hS : SL2 (h.length + pre.length) M q ess) (w : Value → Value) (hw1 : ∀ a n t, trefs (w (.slice (some a) n t)) = [a.block]) (hw2 : ∀ r a n t, tren r (w (.slice (some a) n t)) = w (.slice (some { a with block := r a.block }) n t)) :
    ∃ v M', kclean h [w q] (h ++ (pre ++ M)) = ([w v], h ++ M') ∧ SL2 h.length M' v ess := by
  obtain ⟨b, vs, rfl, hb, e⟩ := hS
  have hk : keepL h.length [w (.slice (some ⟨h.length + pre.length + b, 0, none⟩) ess.length ess.length)] = [h.length + pre.length + b] := by
    unfold keepL
    have : h.length ≤ h.length + pre.length + b := by omega
    simp [hw1, dedup, this]
  have hget : (h ++ (pre ++ M))[h.length + pre.length + b]? = some ⟨1, vs⟩ := by
    rw [Nat.add_assoc, hgetk, List.getElem?_append_right (by omega), Nat.add_sub_cancel_left]
    exact hb
  by_cases hf : flatL h.length [h.length + pre.length + b] (h ++ (pre ++ M))
  · have hes : ess = [] := by
      obtain ⟨o, ho, hr⟩ := hf (h.length + pre.length + b) (by simp)
      have : o = ⟨1, vs⟩ := by rw [hget] at ho; simpa using ho.symm
      subst this
      cases hv : ess with
      | nil => rfl
      | cons x r =>
        exfalso
        obtain ⟨j, h1, _⟩ := e.at_ 0 (by rw [hv]; simp)
        have := hr (h.length + pre.length + j) (by
          unfold orefs
          refine List.mem_flatMap.mpr ⟨_, List.mem_of_getElem? h1, ?_⟩
          simp [crefs, arefs])
        omega
    have hvs : vs = [] := List.length_eq_zero_iff.mp (by rw [e.len, hes]; rfl)
    subst hvs hes
    refine ⟨.slice (some ⟨h.length + 0, 0, none⟩) 0 0, [⟨1, []⟩], ?_, 0, [], by simp, rfl, EI.nil _ _⟩
    rw [cleanup_keep hk hf]
    have : renOf h.length [h.length + pre.length + b] (h.length + pre.length + b) = h.length := by simp [renOf]; omega
    simp only [List.map_cons, List.map_nil, hw2, this, List.filterMap_cons, hget, List.filterMap_nil]
    rfl
  · refine ⟨.slice (some ⟨h.length + pre.length + b, 0, none⟩) ess.length ess.length, pre ++ M, ?_, pre.length + b, vs, by rw [Nat.add_assoc], by rw [List.getElem?_append_right (by omega), Nat.add_sub_cancel_left]; exact hb, e.len, fun i hi => ?_, e.nd⟩
    · unfold kclean cleanup
      rw [hk, if_neg (fun h => hf h.2)]
    · obtain ⟨j, h1, h2⟩ := e.at_ i hi
      exact ⟨pre.length + j, by rw [h1]; congr 4; omega, by rw [List.getElem?_append_right (by omega), Nat.add_sub_cancel_left]; exact h2⟩
theorem SL2.fwdC {h pre M : VH} {q : Value} {ess : List (List Int)} (hS : SL2 (h.length + pre.length) M q ess) (k : IntKind) (x : Int) :
    ∃ v M', kclean h [.tuple #[q, .int k x]] (h ++ (pre ++ M)) = ([.tuple #[v, .int k x]], h ++ M') ∧ SL2 h.length M' v ess :=
  hS.fwd (fun v => .tuple #[v, .int k x]) (fun a n t => by simp [trefs, vrefs, crefs, arefs]) (fun r a n t => by simp [tren, vren, cren, aren])

theorem SL2.shape {n : Nat} {M : VH} {v : Value} {ess : List (List Int)} (h : SL2 n M v ess) : ∃ a m, v = .slice (some a) m m := by
  obtain ⟨b, vs, rfl, _⟩ := h
  exact ⟨_, _, rfl⟩

/-! ### lists of lists that are read -/
/-- What a list of lists reads as. -/
def LL (h : VH) (v : Value) (ess : List (List Int)) : Prop := ∃ vs, vs.length = ess.length ∧ Sl h v vs ∧ ∀ (i : Nat) (hi : i < vs.length), Sli h vs[i] (ess.getD i [])
theorem LL.app {h : VH} {v : Value} {ess : List (List Int)} (hl : LL h v ess) (L : VH) : LL (h ++ L) v ess := by
  obtain ⟨vs, h1, h2, h3⟩ := hl
  exact ⟨vs, h1, h2.app L, fun i hi => (h3 i hi).app L⟩
theorem LL.nil (h : VH) : LL h (.slice none 0 0) [] := ⟨[], rfl, by simp [Sl, vsrc], fun i hi => by simp at hi⟩
theorem LL.old {h : VH} {v : Value} {ess : List (List Int)} (hl : LL h v ess) : Old h.length v := by
  obtain ⟨vs, h1, h2, h3⟩ := hl
  exact h2.old
theorem SL2.read {h M L : VH} {q : Value} {es : List (List Int)} (hs : SL2 h.length M q es) : ∃ vs, vs.length = es.length ∧ Sl (h ++ M ++ L) q vs ∧ ∀ (i : Nat) (hi : i < vs.length), Sli (h ++ M ++ L) vs[i] (es.getD i []) := by
  obtain ⟨b, vs, rfl, h1, h2⟩ := hs
  have hget : ∀ k, (h ++ M ++ L)[h.length + k]? = (M ++ L)[k]? := fun k => by
    rw [List.append_assoc, List.getElem?_append_right (by simp), Nat.add_sub_cancel_left]
  refine ⟨vs, h2.len, ?_, fun i hi => ?_⟩
  · have h3 : (M ++ L)[b]? = some ⟨1, vs⟩ := by rw [List.getElem?_append_left (List.getElem?_eq_some_iff.mp h1).1]; exact h1
    unfold Sl
    rw [vsrc_ref]
    simp only [hget, h3, h2.len]
    simp [h2.len]
    rw [List.take_of_length_le (by rw [h2.len]; exact Nat.le_refl _)]
  · have hi' : i < es.length := by rw [← h2.len]; exact hi
    obtain ⟨k, k1, k2⟩ := h2.at_ i hi'
    have e : vs[i] = .slice (some ⟨h.length + k, 0, none⟩) (es.getD i []).length (es.getD i []).length := (List.getElem?_eq_some_iff.mp k1).2
    rw [e]
    refine sli_at ?_
    rw [hget, List.getElem?_append_left (List.getElem?_eq_some_iff.mp k2).1]
    exact k2

theorem SL2.ll {h M : VH} {q : Value} {es : List (List Int)} (hs : SL2 h.length M q es) : LL (h ++ M) q es := by
  obtain ⟨vs, h1, h2, h3⟩ := hs.read (L := [])
  rw [List.append_nil] at h2
  refine ⟨vs, h1, h2, fun i hi => ?_⟩
  have := h3 i hi
  rw [List.append_nil] at this
  exact this

theorem c_laws_eqInt64SS (s t : Value) (xs ys : List (List Int)) (h : VH) (hs : LL h s xs) (ht : LL h t ys) (hx : xs.length ≤ 100000) (hxx : ∀ e ∈ xs, e.length ≤ 100000) :
    vcall F nro k_laws_eqInt64SS [s, t] h = some (.bool (decide (xs = ys)), h) := by
  obtain ⟨vs, v1, v2, v3⟩ := hs
  obtain ⟨ws, w1, w2, w3⟩ := ht
  refine v_laws_eqInt64SS (by simp [i_laws_eqInt64SS]) ?_
  rw [fbody_eq]
  by_cases hl : xs.length = ys.length
  · have lp := for_find (call := vcall F nro) (nro := nro) (live := [0, 1, 5]) (c := i_laws_eqInt64SS_B1) (h0 := h) (n := xs.length) (fun i => [s, t, .int .i64 i]) h (fun i => xs.getD i [] ≠ ys.getD i []) (some (.ret, fl [(4, .bool false)], h)) (some (.exit 0, fl [], h)) (fun i hi hi2 => ?_) ?_ 0 (by omega)
    · simp only [Int.natCast_zero] at lp
      by_cases e : xs = ys
      · rw [if_neg (by rintro ⟨j, _, _, hj⟩; exact hj (by rw [e]))] at lp
        rw [decide_eq_true e]
        have hl' : (vs.length : Int) = ws.length := by omega
        simp (disch := first | assumption | omega | (simp [*] <;> omega) | fail) [i_laws_eqInt64SS, v2.vlen, w2.vlen, hl', lp]
      · rw [if_pos (by
          apply Classical.byContradiction
          intro hno
          apply e
          apply List.ext_getElem hl
          intro k h1 h2
          apply Classical.byContradiction
          intro hne
          exact hno ⟨k, by omega, by omega, by simpa [h1, h2] using hne⟩)] at lp
        rw [decide_eq_false e]
        have hl' : (vs.length : Int) = ws.length := by omega
        simp (disch := first | assumption | omega | (simp [*] <;> omega) | fail) [i_laws_eqInt64SS, v2.vlen, w2.vlen, hl', lp]
    · have o1 := v2.old
      have o2 := w2.old
      have iv : i < vs.length := by omega
      have iw : i < ws.length := by omega
      have hgx : xs.getD i [] ∈ xs := by rw [List.getD_eq_getElem?_getD, List.getElem?_eq_getElem hi]; exact List.getElem_mem hi
      have hc := c_laws_eqInt64S (nro := nro) vs[i] ws[i] _ _ h (v3 i iv) (w3 i iw) (by have := hxx _ hgx; omega)
      have b1 : (i : Int) < vs.length := by omega
      have b2 : (i : Int) < ws.length := by omega
      rw [floop_at i_laws_eqInt64SS_B1.eq_1]
      obtain ⟨a, ha⟩ : ∃ a, a = xs.getD i [] := ⟨_, rfl⟩
      obtain ⟨b, hb⟩ : ∃ b, b = ys.getD i [] := ⟨_, rfl⟩
      rw [← ha, ← hb] at hc ⊢
      clear ha hb hgx hxx v3 w3
      constructor <;> intro hb <;> simp (disch := first | assumption | omega | (simp [*] <;> omega) | fail) [v2.vlen, v2.vidx, v2.vload, w2.vlen, w2.vidx, w2.vload, wrap64, hi, hi2, b1, b2, iv, iw, hb, hc]
    · rw [floop_at i_laws_eqInt64SS_B1.eq_1]
      have b1 : ¬ (xs.length : Int) < vs.length := by omega
      simp (disch := first | assumption | omega | (simp [*] <;> omega) | fail) [v2.vlen, b1]
  · have hl' : ¬ (vs.length : Int) = ws.length := by omega
    have : xs ≠ ys := fun e => hl (by rw [e])
    simp (disch := first | assumption | omega | (simp [*] <;> omega) | fail) [i_laws_eqInt64SS, v2.vlen, w2.vlen, hl', this]

/-! ### marks -/
/-- What is written: runs of numbers. -/
def mks (k : Int) : List (List Int) → List (List Int)
  | [] => []
  | e :: es => cnt k e.length :: mks (k + e.length) es
def tot : List (List Int) → Nat
  | [] => 0
  | e :: es => e.length + tot es
theorem mks_len (k : Int) : ∀ es, (mks k es).length = es.length
  | [] => rfl
  | e :: es => by simp [mks, mks_len (k + e.length) es]
theorem mks_tot (k : Int) : ∀ es, tot (mks k es) = tot es
  | [] => rfl
  | e :: es => by simp [mks, tot, mks_tot (k + e.length) es]
theorem mks_mks (k : Int) : ∀ es, mks k (mks k es) = mks k es
  | [] => rfl
  | e :: es => by simp [mks, mks_mks (k + e.length) es]

theorem EI.set {n : Nat} {vs : List Value} {G : VH} {A : List (List Int)} {e : List Int} {B : List (List Int)} (h : EI n vs G (A ++ e :: B)) (xs : List Int) (hx : xs.length = e.length) : ∃ k, vs[A.length]? = some (.slice (some ⟨n + k, 0, none⟩) e.length e.length) ∧ G[k]? = some ⟨1, ints e⟩ ∧ EI n vs (G.set k ⟨1, ints xs⟩) (A ++ xs :: B) := by
  have hlt : A.length < (A ++ e :: B).length := by simp
  have eA : (A ++ e :: B).getD A.length [] = e := by simp [List.getD_eq_getElem?_getD]
  obtain ⟨k, h1, h2⟩ := h.at_ A.length hlt
  rw [eA] at h1 h2
  have hk := (List.getElem?_eq_some_iff.mp h2).1
  refine ⟨k, h1, h2, by rw [h.len]; simp, fun i hi => ?_, h.nd⟩
  by_cases e1 : i = A.length
  · subst e1
    have e2 : (A ++ xs :: B).getD A.length [] = xs := by simp [List.getD_eq_getElem?_getD]
    rw [e2, hx]
    exact ⟨k, h1, by simp [hk]⟩
  · have e3 : (A ++ xs :: B).getD i [] = (A ++ e :: B).getD i [] := by
      simp only [List.getD_eq_getElem?_getD, List.getElem?_append]
      split
      · rfl
      · have : i - A.length = (i - A.length - 1) + 1 := by omega
        rw [this]
        rfl
    have hi' : i < (A ++ e :: B).length := by simpa using hi
    obtain ⟨k', h3, h4⟩ := h.at_ i hi'
    rw [e3]
    refine ⟨k', h3, ?_⟩
    rw [List.getElem?_set, if_neg]
    · exact h4
    · intro e4
      subst e4
      -- two places with one object
      have hnd := h.nd
      have l1 := (List.getElem?_eq_some_iff.mp h1)
      have l3 := (List.getElem?_eq_some_iff.mp h3)
      obtain ⟨p1, q1⟩ := l1
      obtain ⟨p3, q3⟩ := l3
      have key : ∀ (us : List Value), (us.flatMap arefs).Nodup → ∀ i j (hi : i < us.length) (hj : j < us.length), i < j → ∀ r, r ∈ arefs us[i] → r ∉ arefs us[j] := by
        intro us
        induction us with
        | nil => intro _ i j hi; simp at hi
        | cons u us ih =>
          intro hn i j hi hj hij r hr hr2
          rw [List.flatMap_cons] at hn
          obtain ⟨_, n2, n3⟩ := List.nodup_append.mp hn
          cases j with
          | zero => omega
          | succ j =>
            cases i with
            | zero =>
              refine n3 r (by simpa using hr) r (List.mem_flatMap.mpr ⟨_, List.getElem_mem (by simpa using hj), by simpa using hr2⟩) rfl
            | succ i => exact ih n2 i j (by simpa using hi) (by simpa using hj) (by omega) r (by simpa using hr) (by simpa using hr2)
      rcases Nat.lt_or_gt_of_ne e1 with hlt2 | hgt
      · exact key vs hnd i A.length p3 p1 hlt2 (n + k) (by rw [q3]; simp [arefs]) (by rw [q1]; simp [arefs])
      · exact key vs hnd A.length i p1 p3 hgt (n + k) (by rw [q1]; simp [arefs]) (by rw [q3]; simp [arefs])

theorem l_laws_markInt64SS (P L : VH) (b : Nat) (vs : List Value) (hn : nro ≤ P.length) (B : List (List Int)) : ∀ (A : List (List Int)) (M M0 : VH) (k : Int), EI P.length vs M (A ++ B) → M[b]? = some ⟨1, vs⟩ → (∀ e ∈ B, e.length ≤ 100000) → (A ++ B).length ≤ 100000 → 0 ≤ k → k ≤ A.length * 100000 + 1 → M0.length = M.length →
    ∃ M', floop (vcall F nro) nro [0, 1, 5] i_laws_markInt64SS_B1 (P ++ (M0 ++ L)) [.slice (some ⟨P.length + b, 0, none⟩) vs.length vs.length, .int .i64 k, .int .i64 A.length] (P ++ (M ++ L)) =
      some (.exit 0, fl [(1, .int .i64 (k + tot B))], P ++ (M' ++ L)) ∧ M'.length = M.length ∧ EI P.length vs M' (A ++ mks k B) ∧ M'[b]? = some ⟨1, vs⟩ := by
  induction B with
  | nil =>
    intro A M M0 k e hb _ _ hk0 hk1 _
    have hl := e.len
    rw [List.append_nil] at hl
    refine ⟨M, ?_, rfl, e, hb⟩
    rw [floop_at i_laws_markInt64SS_B1.eq_1]
    have hb' : (M ++ L)[b]? = some ⟨1, vs⟩ := by rw [List.getElem?_append_left (List.getElem?_eq_some_iff.mp hb).1]; exact hb
    have e2 : ¬ (A.length : Int) < vs.length := by omega
    simp only [tot, Int.natCast_zero, Int.add_zero]
    simp (disch := first | assumption | omega | (simp [*] <;> omega) | fail) [hb', e2]
  | cons x B ihB =>
    intro A M M0 k e hb hx hlen hk0 hk1 hM
    have hl := e.len
    simp at hl hlen
    obtain ⟨j, h1, h2, h3⟩ := e.set (cnt k x.length) (by simp)
    have hxl := hx x (List.mem_cons_self ..)
    have hj := (List.getElem?_eq_some_iff.mp h2).1
    have hAv : A.length < vs.length := by omega
    have hjb : j ≠ b := by
      rintro rfl
      rw [hb] at h2
      have e1 : vs = ints x := by simpa using h2
      have : vs[A.length]? = some (.slice (some ⟨P.length + j, 0, none⟩) x.length x.length) := h1
      rw [e1, ints_get] at this
      cases hxx : x[A.length]? <;> rw [hxx] at this <;> simp at this
    have hb2 : (M.set j ⟨1, ints (cnt k x.length)⟩)[b]? = some ⟨1, vs⟩ := by rw [List.getElem?_set, if_neg hjb]; exact hb
    have e3 : A ++ cnt k x.length :: B = (A ++ [cnt k x.length]) ++ B := by simp
    rw [e3] at h3
    obtain ⟨M', g1, g2, g3, g4⟩ := ihB (A ++ [cnt k x.length]) (M.set j ⟨1, ints (cnt k x.length)⟩) M0 (k + x.length) h3 hb2 (fun e he => hx e (List.mem_cons_of_mem _ he)) (by simp; omega) (by omega) (by simp; omega) (by simp [hM])
    refine ⟨M', ?_, by simpa using g2, by simpa [mks] using g3, g4⟩
    obtain ⟨H, hH⟩ : ∃ H, H = P ++ (M ++ L) := ⟨_, rfl⟩
    have q1 : H[P.length + b]? = some ⟨1, vs⟩ := by rw [hH, hgetk, List.getElem?_append_left (List.getElem?_eq_some_iff.mp hb).1]; exact hb
    have q2 : H[P.length + j]? = some ⟨1, ints x⟩ := by rw [hH, hgetk, List.getElem?_append_left hj]; exact h2
    have q3 : H.set (P.length + j) ⟨1, ints (cnt k x.length)⟩ = P ++ (M.set j ⟨1, ints (cnt k x.length)⟩ ++ L) := by rw [hH, hsetk, List.set_append_left _ _ hj]
    have hc := c_laws_markInt64S (nro := nro) (P.length + j) x.length x k H q2 rfl (by omega) hk0 (by omega)
    rw [q3] at hc
    have hcl : kclean (P ++ (M0 ++ L)) [.slice (some ⟨P.length + b, 0, none⟩) vs.length vs.length, .int .i64 (k + x.length), .int .i64 ((A.length : Int) + 1)] (P ++ (M.set j ⟨1, ints (cnt k x.length)⟩ ++ L)) = ([.slice (some ⟨P.length + b, 0, none⟩) vs.length vs.length, .int .i64 (k + x.length), .int .i64 ((A.length : Int) + 1)], P ++ (M.set j ⟨1, ints (cnt k x.length)⟩ ++ L)) := by
      have hbl := (List.getElem?_eq_some_iff.mp hb).1
      rcases cleanup_old (h0 := P ++ (M0 ++ L)) (h := P ++ (M.set j ⟨1, ints (cnt k x.length)⟩ ++ L)) (vs := [.slice (some ⟨P.length + b, 0, none⟩) vs.length vs.length, .int .i64 (k + x.length), .int .i64 ((A.length : Int) + 1)]) (by
        intro v hv
        simp at hv
        rcases hv with rfl | rfl | rfl <;> intro r hr <;> simp [trefs, vrefs, crefs, arefs] at hr ⊢ <;> omega) with hk | ⟨_, hk⟩
      · exact hk
      · rw [hk, List.take_of_length_le (by simp; omega)]
    have hlv : List.take 1 (List.drop A.length vs) = [.slice (some ⟨P.length + j, 0, none⟩) x.length x.length] := by
      rw [List.drop_eq_getElem_cons hAv]
      have := (List.getElem?_eq_some_iff.mp h1).2
      simp [this]
    have hA1 : (A.length : Int) < vs.length := by omega
    simp at g1
    have w1 : IntKind.i64.wrap ((A.length : Int) + 1) = (A.length : Int) + 1 := wrap64 (by omega) (by omega)
    rw [floop_at i_laws_markInt64SS_B1.eq_1]
    rw [← hH]
    have g5 : (k + x.length) + (tot B : Int) = k + (tot (x :: B) : Int) := by simp only [tot]; omega
    rw [g5] at g1
    clear hH q3 h3 g2 g3 g4 e hb2 h2 hb hx e3 hk1 ihB
    simp (disch := first | assumption | omega | (simp [*] <;> omega) | fail) [q1, hc, hA1, hAv, hlv, w1, hcl, g1]

theorem c_laws_markInt64SS (P M L : VH) (v : Value) (es : List (List Int)) (hS : SL2 P.length M v es) (hn : nro ≤ P.length) (hx : ∀ e ∈ es, e.length ≤ 100000) (hl : es.length ≤ 100000) :
    ∃ M', vcall F nro k_laws_markInt64SS [v, .int .i64 1] (P ++ (M ++ L)) = some (.int .i64 (1 + tot es), P ++ (M' ++ L)) ∧ M'.length = M.length ∧ SL2 P.length M' v (mks 1 es) := by
  obtain ⟨b, vs, rfl, hb, e⟩ := hS
  obtain ⟨M', g1, g2, g3, g4⟩ := l_laws_markInt64SS (nro := nro) P L b vs hn es [] M M 1 (by simpa using e) hb hx (by simpa using hl) (by omega) (by simp) rfl
  refine ⟨M', ?_, g2, b, vs, by rw [mks_len], g4, by simpa using g3⟩
  refine v_laws_markInt64SS (by simp [i_laws_markInt64SS]) ?_
  rw [fbody_eq]
  rw [e.len] at g1
  simp at g1
  have hcl : kclean (P ++ (M ++ L)) [.int .i64 (1 + (tot es : Int))] (P ++ (M' ++ L)) = ([.int .i64 (1 + (tot es : Int))], P ++ (M' ++ L)) := by
    rcases cleanup_old (h0 := P ++ (M ++ L)) (h := P ++ (M' ++ L)) (vs := [.int .i64 (1 + (tot es : Int))]) (by simp) with hk | ⟨_, hk⟩
    · exact hk
    · rw [hk, List.take_of_length_le (by simp; omega)]
  simp (disch := first | assumption | omega | (simp [*] <;> omega) | fail) [i_laws_markInt64SS, g1, hcl]

theorem c_laws_markInt64SS_nil (k : Int) (h : VH) : vcall F nro k_laws_markInt64SS [.slice none 0 0, .int .i64 k] h = some (.int .i64 k, h) := by
  refine v_laws_markInt64SS (by simp [i_laws_markInt64SS]) ?_
  rw [fbody_eq]
  simp [i_laws_markInt64SS]
  rw [floop_at i_laws_markInt64SS_B1.eq_1]
  simp

/-- A function's end that hands on nothing new. -/
theorem kclean_take {h H : VH} {vs : List Value} (ht : H.take h.length = h) (hv : ∀ v ∈ vs, Old h.length v) : kclean h vs H = (vs, h) := by
  have e : H = h ++ H.drop h.length := by
    conv => lhs; rw [← List.take_append_drop h.length H, ht]
  rw [e]
  exact cleanup_drop hv

theorem l_laws_heldInt64SS (h : VH) (s : Value) (vs : List Value) (h2 : Sl h s vs) (B : List (List Int)) : ∀ (i : Nat) (k : Int), i + B.length = vs.length → (∀ (j : Nat) (hj : i + j < vs.length), Sli h vs[i + j] (B.getD j [])) → mks k B = B → (∀ e ∈ B, e.length ≤ 100000) → vs.length ≤ 100000 → 0 ≤ k → k ≤ i * 100000 + 1 →
    floop (vcall F nro) nro [0, 1, 5] i_laws_heldInt64SS_B1 h [s, .int .i64 k, .int .i64 i] h = some (.exit 0, fl [(1, .int .i64 (k + tot B))], h) := by
  induction B with
  | nil =>
    intro i k hi _ _ _ _ _ _
    have e2 : ¬ (i : Int) < vs.length := by simp at hi; omega
    rw [floop_at i_laws_heldInt64SS_B1.eq_1]
    simp only [tot, Int.natCast_zero, Int.add_zero]
    simp (disch := first | assumption | omega | (simp [*] <;> omega) | fail) [h2.vlen, e2]
  | cons x B ihB =>
    intro i k hi hr hm hx hl hk0 hk1
    simp at hi
    have iv : i < vs.length := by omega
    have iv' : (i : Int) < vs.length := by omega
    have o2 := h2.old
    have r0 := hr 0 (by omega)
    simp only [Nat.add_zero] at r0
    have r1 : Sli h vs[i] x := r0
    simp only [mks, List.cons.injEq] at hm
    have hxl := hx x (List.mem_cons_self ..)
    have hc := c_laws_heldInt64S (nro := nro) vs[i] x h r1 k hk0 (by omega)
    rw [if_pos hm.1.symm] at hc
    have ih := ihB (i + 1) (k + x.length) (by omega) (fun j hj => by
      have := hr (j + 1) (by omega)
      simp only [show i + (j + 1) = i + 1 + j by omega] at this
      exact this) hm.2 (fun e he => hx e (List.mem_cons_of_mem _ he)) hl (by omega) (by omega)
    simp at ih
    have g5 : (k + x.length) + (tot B : Int) = k + (tot (x :: B) : Int) := by simp only [tot]; omega
    rw [g5] at ih
    have e3 : ¬ k + (x.length : Int) < 0 := by omega
    have w1 : IntKind.i64.wrap ((i : Int) + 1) = (i : Int) + 1 := wrap64 (by omega) (by omega)
    rw [floop_at i_laws_heldInt64SS_B1.eq_1]
    clear hm hx hr r0 r1 ihB
    simp (disch := first | assumption | omega | (simp [*] <;> omega) | fail) [h2.vlen, h2.vidx, h2.vload, iv, iv', hc, e3, w1, ih]

theorem c_laws_heldInt64SS (h : VH) (s : Value) (es : List (List Int)) (hs : LL h s es) (hm : mks 1 es = es) (hx : ∀ e ∈ es, e.length ≤ 100000) (hl : es.length ≤ 100000) :
    vcall F nro k_laws_heldInt64SS [s, .int .i64 1] h = some (.int .i64 (1 + tot es), h) := by
  obtain ⟨vs, h1, h2, h3⟩ := hs
  have lp := l_laws_heldInt64SS (nro := nro) h s vs h2 es 0 1 (by omega) (fun j hj => by
    have := h3 j (by omega)
    simp only [Nat.zero_add]
    exact this) hm hx (by omega) (by omega) (by omega)
  refine v_laws_heldInt64SS (by simp [i_laws_heldInt64SS]) ?_
  rw [fbody_eq]
  simp only [Int.natCast_zero] at lp
  simp (disch := first | assumption | omega | (simp [*] <;> omega) | fail) [i_laws_heldInt64SS, lp]
end Go.Proofs.YthpgiimaadohcaaDoor.Zv

/- Lists of lists: all edges. -/
namespace Go.Proofs.YthpgiimaadohcaaDoor.Zv
open Go
variable {nro : Nat}

/-- The edges of v from w on. -/
def edgF (rows : List Int) (v n w : Nat) : List (List Int) := if h : w < n then (if rbit rows v w = true then [[(v : Int), (w : Int)]] else []) ++ edgF rows v n (w + 1) else []
 termination_by n - w
theorem edgF_end {rows : List Int} {v n w : Nat} (h : ¬ w < n) : edgF rows v n w = [] := by rw [edgF, dif_neg h]
theorem edgF_step {rows : List Int} {v n w : Nat} (h : w < n) : edgF rows v n w = (if rbit rows v w = true then [[(v : Int), (w : Int)]] else []) ++ edgF rows v n (w + 1) := by rw [edgF, dif_pos h]
/-- All edges from v on. -/
def edgesF (rows : List Int) (n v : Nat) : List (List Int) := if h : v < n then edgF rows v n (v + 1) ++ edgesF rows n (v + 1) else []
 termination_by n - v
theorem edgesF_end {rows : List Int} {n v : Nat} (h : ¬ v < n) : edgesF rows n v = [] := by rw [edgesF, dif_neg h]
theorem edgesF_step {rows : List Int} {n v : Nat} (h : v < n) : edgesF rows n v = edgF rows v n (v + 1) ++ edgesF rows n (v + 1) := by rw [edgesF, dif_pos h]
theorem edgF_mem (rows : List Int) (v n w : Nat) (e : List Int) : e ∈ edgF rows v n w ↔ ∃ k : Nat, w ≤ k ∧ k < n ∧ rbit rows v k = true ∧ e = [(v : Int), (k : Int)] := by
  by_cases h : w < n
  · rw [edgF_step h, List.mem_append, edgF_mem rows v n (w + 1) e]
    split
    · rename_i hb
      simp only [List.mem_singleton]
      constructor
      · rintro (rfl | ⟨k, h1, h2, h3, h4⟩)
        · exact ⟨w, Nat.le_refl _, h, hb, rfl⟩
        · exact ⟨k, by omega, h2, h3, h4⟩
      · rintro ⟨k, h1, h2, h3, h4⟩
        by_cases e : k = w
        · subst e; exact .inl h4
        · exact .inr ⟨k, by omega, h2, h3, h4⟩
    · rename_i hb
      simp only [List.not_mem_nil, false_or]
      constructor
      · rintro ⟨k, h1, h2, h3, h4⟩
        exact ⟨k, by omega, h2, h3, h4⟩
      · rintro ⟨k, h1, h2, h3, h4⟩
        by_cases e : k = w
        · subst e; exact absurd h3 hb
        · exact ⟨k, by omega, h2, h3, h4⟩
  · rw [edgF_end h]
    simp only [List.not_mem_nil, false_iff]
    rintro ⟨k, h1, h2, _⟩
    omega
 termination_by n - w
theorem edgesF_mem (rows : List Int) (n v : Nat) (e : List Int) : e ∈ edgesF rows n v ↔ ∃ u k : Nat, v ≤ u ∧ u < k ∧ k < n ∧ rbit rows u k = true ∧ e = [(u : Int), (k : Int)] := by
  by_cases h : v < n
  · rw [edgesF_step h, List.mem_append, edgF_mem, edgesF_mem rows n (v + 1) e]
    constructor
    · rintro (⟨k, h1, h2, h3, h4⟩ | ⟨u, k, h1, h2, h3, h4, h5⟩)
      · exact ⟨v, k, Nat.le_refl _, by omega, h2, h3, h4⟩
      · exact ⟨u, k, by omega, h2, h3, h4, h5⟩
    · rintro ⟨u, k, h1, h2, h3, h4, h5⟩
      by_cases e : u = v
      · subst e; exact .inl ⟨k, by omega, h3, h4, h5⟩
      · exact .inr ⟨u, k, by omega, h2, h3, h4, h5⟩
  · rw [edgesF_end h]
    simp only [List.not_mem_nil, false_iff]
    rintro ⟨u, k, h1, h2, h3, _⟩
    omega
 termination_by n - v
theorem edgF_len (rows : List Int) (v n w : Nat) (hw : w ≤ n) : (edgF rows v n w).length ≤ n - w := by
  by_cases h : w < n
  · rw [edgF_step h, List.length_append]
    have := edgF_len rows v n (w + 1) h
    split <;> simp <;> omega
  · rw [edgF_end h]; simp
 termination_by n - w

/-- The heap in the loops. -/
abbrev eH (h : VH) (n : Int) (s : Value) (vs : List Value) (G : VH) : VH := h ++ ⟨0, [.int .i64 n, s]⟩ :: ⟨1, vs⟩ :: G
abbrev eq1 (h : VH) (m : Nat) : Value := .slice (some ⟨h.length + 1, 0, none⟩) m m
theorem eH_clean {h : VH} {n : Int} {s : Value} {vs0 vs vals : List Value} {G0 G : VH} {ess0 ess : List (List Int)} (e0 : EI (h.length + 2) vs0 G0 ess0) (e : EI (h.length + 2) vs G ess) (hG : G0.length ≤ G.length) (hv : ∀ v ∈ vals, Old (h.length + 2 + G0.length) v) :
    ∃ G1, kclean (eH h n s vs0 G0) vals (eH h n s vs G) = (vals, eH h n s vs G1) ∧ EI (h.length + 2) vs G1 ess ∧ G0.length ≤ G1.length := by
  have := EI.cleanP (P0 := h ++ [⟨0, [.int .i64 n, s]⟩]) (P := h ++ [⟨0, [.int .i64 n, s]⟩]) (by simpa using e0) (by simpa using e) rfl hG (by simpa using hv)
  simpa using this

theorem l_spec_l01Edges_1 (n : Int) (s : Value) (rows : List Int) (h : VH) (hs : Sli h s rows) (hn : nro ≤ h.length) (g : GV n rows) (v : Nat) (hv : v < n.toNat) (vs0 : List Value) (G0 : VH) (ess0 : List (List Int)) (e0 : EI (h.length + 2) vs0 G0 ess0) (hm : vs0.length ≤ v * 62) :
    ∃ a : List Value × VH, (EI (h.length + 2) a.1 a.2 (ess0 ++ edgF rows v n.toNat (v + 1)) ∧ G0.length ≤ a.2.length) ∧ floop (vcall F nro) nro [1, 3, 4, 5] i_spec_l01Edges_B1 (eH h n s vs0 G0) [bp h, eq1 h vs0.length, .int .i64 v, .int .i64 ((v + 1 : Nat) : Int)] (eH h n s vs0 G0) =
      some (.exit 2, fl [(1, bp h), (3, eq1 h a.1.length), (4, .int .i64 v)], eH h n s a.1 a.2) := by
  have hlen := g.len
  have g0 := g.hi
  have hp := pow_le62 g.hi
  obtain ⟨g1, g2, _⟩ := g.row v (by omega)
  refine Exists.elim (for_upR (call := vcall F nro) (nro := nro) (live := [1, 3, 4, 5]) (c := i_spec_l01Edges_B1) (h0 := eH h n s vs0 G0) (n := n.toNat) (fun i (a : List Value × VH) => [bp h, eq1 h a.1.length, .int .i64 v, .int .i64 i]) (fun i a => eH h n s a.1 a.2)
    (fun i a => (∃ ess, EI (h.length + 2) a.1 a.2 ess ∧ ess ++ edgF rows v n.toNat i = ess0 ++ edgF rows v n.toNat (v + 1)) ∧ G0.length ≤ a.2.length ∧ a.1.length ≤ v * 62 + i) (fun a => some (.exit 2, fl [(1, bp h), (3, eq1 h a.1.length), (4, .int .i64 v)], eH h n s a.1 a.2)) ?_ ?_ (v + 1) (vs0, G0) (by omega) ⟨⟨ess0, e0, rfl⟩, Nat.le_refl _, by simp; omega⟩) ?_
  · rintro w ⟨vs, G⟩ hlt hlt0 ⟨⟨ess, e, hess⟩, hG, hm⟩
    dsimp only at e hG hm ⊢
    have hlt' : (w : Int) < n := by omega
    rw [floop_at i_spec_l01Edges_B1.eq_1]
    rw [edgF_step hlt, ← List.append_assoc] at hess
    obtain ⟨H, hH⟩ : ∃ H, H = eH h n s vs G := ⟨_, rfl⟩
    have hc := c_spec_l01Has' (nro := nro) n v w s rows H (by rw [hH]; exact hs.app _) (by omega) (by omega) (by omega) (by omega) (by rw [Int.toNat_natCast]; exact g1) (by rw [Int.toNat_natCast]; omega)
    rw [Int.toNat_natCast, Int.toNat_natCast] at hc
    have hq : H[h.length + 1]? = some ⟨1, vs⟩ := by rw [hH]; simp
    have hbx : H[h.length]? = some ⟨0, [.int .i64 n, s]⟩ := by rw [hH]; simp
    have hHl : H.length = h.length + 2 + G.length := by rw [hH]; simp; omega
    have hnH : nro ≤ H.length := by omega
    have hn2 := fun k => Nat.le_trans hnH (Nat.le_add_right H.length k)
    have hn1 := fun k => Nat.le_trans hn (Nat.le_add_right h.length k)
    obtain ⟨K, hK⟩ : ∃ K, K = eH h n s vs0 G0 := ⟨_, rfl⟩
    have hold : ∀ m, ∀ x ∈ [bp h, eq1 h m, Value.int .i64 v, Value.int .i64 ((w : Int) + 1)], Old (h.length + 2 + G0.length) x := by
      intro m x hx
      simp at hx
      rcases hx with rfl | rfl | rfl | rfl <;> intro r hr <;> simp [trefs, vrefs, crefs, arefs] at hr ⊢ <;> omega
    by_cases hb : rbit rows v w = true
    · rw [if_pos hb] at hess
      have b1 : (vs.length + 1) * 24 ≤ 1099511627776 := by omega
      have b2 : vs.length < 1099511627776 := by omega
      have hnew : H.set (h.length + 1) ⟨1, vs ++ [.slice (some ⟨H.length, 0, none⟩) 2 2]⟩ ++ [⟨1, [.int .i64 v, .int .i64 w]⟩, ⟨1, [.slice (some ⟨H.length, 0, none⟩) 2 2]⟩] = eH h n s (vs ++ [.slice (some ⟨h.length + 2 + G.length, 0, none⟩) 2 2]) (G ++ ⟨1, [.int .i64 v, .int .i64 w]⟩ :: [⟨1, [.slice (some ⟨h.length + 2 + G.length, 0, none⟩) 2 2]⟩]) := by
        rw [hHl, hH]; simp
      have e1 := e.push [(v : Int), (w : Int)] [⟨1, [.slice (some ⟨h.length + 2 + G.length, 0, none⟩) 2 2]⟩]
      obtain ⟨G1, hk, e2, e3⟩ := eH_clean (n := n) (s := s) e0 e1 (by simp; omega) (hold (vs.length + 1))
      refine ⟨(_, G1), ⟨⟨_, e2, hess⟩, e3, by simp; omega⟩, ?_⟩
      rw [← hK] at hk ⊢
      rw [← hH]
      simp at hk
      simp only [List.length_append, List.length_singleton, List.length_cons, List.length_nil]
      clear hold hHl hH hK e1 e e0 e2 hess
      simp (disch := first | assumption | omega | (simp [*] <;> omega) | fail) [hbx, hq, hget_old hq, hset_old hq, hc, hb, wrap64, hlt', hn1, hnH, hn2, b1, b2, hnew, hk]
    · rw [if_neg hb, List.append_nil] at hess
      obtain ⟨G1, hk, e2, e3⟩ := eH_clean (n := n) (s := s) e0 e hG (hold vs.length)
      refine ⟨(vs, G1), ⟨⟨_, e2, hess⟩, e3, by simp; omega⟩, ?_⟩
      rw [← hK, ← hH] at hk
      rw [← hK, ← hH]
      clear hold hHl hH hK e e0 e2 hess
      simp (disch := first | assumption | omega | (simp [*] <;> omega) | fail) [hbx, hq, hc, hb, wrap64, hlt', hnH, hn2, hk]
  · rintro ⟨vs, G⟩ _
    have e : ((n.toNat : Nat) : Int) = n := by omega
    rw [floop_at i_spec_l01Edges_B1.eq_1]
    simp (disch := first | assumption | omega | (simp [*] <;> omega) | fail) [e]
  · rintro a ⟨⟨⟨ess, k1, k2⟩, k3, k4⟩, h2⟩
    rw [edgF_end (by omega), List.append_nil] at k2
    rw [k2] at k1
    exact ⟨a, ⟨k1, k3⟩, h2⟩

theorem l_spec_l01Edges_2 (n : Int) (s : Value) (rows : List Int) (h : VH) (hs : Sli h s rows) (hn : nro ≤ h.length) (g : GV n rows) :
    ∃ a : List Value × VH, EI (h.length + 2) a.1 a.2 (edgesF rows n.toNat 0) ∧ floop (vcall F nro) nro [1, 3, 4] i_spec_l01Edges_B2 (eH h n s [] []) [bp h, eq1 h 0, .int .i64 0] (eH h n s [] []) =
      some (.exit 0, fl [(3, eq1 h a.1.length)], eH h n s a.1 a.2) := by
  have hlen := g.len
  have g0 := g.hi
  refine Exists.elim (for_upR (call := vcall F nro) (nro := nro) (live := [1, 3, 4]) (c := i_spec_l01Edges_B2) (h0 := eH h n s [] []) (n := n.toNat) (fun i (a : List Value × VH) => [bp h, eq1 h a.1.length, .int .i64 i]) (fun i a => eH h n s a.1 a.2)
    (fun i a => (∃ ess, EI (h.length + 2) a.1 a.2 ess ∧ ess ++ edgesF rows n.toNat i = edgesF rows n.toNat 0) ∧ a.1.length ≤ i * 62) (fun a => some (.exit 0, fl [(3, eq1 h a.1.length)], eH h n s a.1 a.2)) ?_ ?_ 0 ([], []) (by omega) ⟨⟨[], EI.nil _ _, rfl⟩, by simp⟩) ?_
  · rintro v ⟨vs, G⟩ hlt hlt0 ⟨⟨ess, e, hess⟩, hm⟩
    dsimp only at e hm ⊢
    have hlt' : (v : Int) < n := by omega
    obtain ⟨⟨vs1, G1⟩, ⟨i2, i3⟩, i1⟩ := l_spec_l01Edges_1 (nro := nro) n s rows h hs hn g v hlt vs G ess e hm
    dsimp only at i1 i2 i3
    have i4 : vs1.length ≤ (v + 1) * 62 := by
      have := i2.len
      have := e.len
      have := edgF_len rows v n.toNat (v + 1) (by omega)
      simp at *
      omega
    have hold : ∀ x ∈ [bp h, eq1 h vs1.length, Value.int .i64 ((v : Int) + 1)], Old (h.length + 2 + ([] : VH).length) x := by
      intro x hx
      simp at hx
      rcases hx with rfl | rfl | rfl <;> intro r hr <;> simp [trefs, vrefs, crefs, arefs] at hr ⊢ <;> omega
    obtain ⟨G2, hk, e2, e3⟩ := eH_clean (n := n) (s := s) (EI.nil (h.length + 2) []) i2 (by simp) hold
    rw [edgesF_step hlt, ← List.append_assoc] at hess
    refine ⟨(vs1, G2), ⟨⟨_, e2, hess⟩, i4⟩, ?_⟩
    rw [floop_at i_spec_l01Edges_B2.eq_1]
    obtain ⟨K, hK⟩ : ∃ K, K = eH h n s [] [] := ⟨_, rfl⟩
    obtain ⟨H, hH⟩ : ∃ H, H = eH h n s vs G := ⟨_, rfl⟩
    obtain ⟨H1, hH1⟩ : ∃ H1, H1 = eH h n s vs1 G1 := ⟨_, rfl⟩
    have hbx : H[h.length]? = some ⟨0, [.int .i64 n, s]⟩ := by rw [hH]; simp
    rw [← hK, ← hH1] at hk
    rw [← hH, ← hH1] at i1
    rw [← hK, ← hH]
    clear hold hH hH1 hK e e2 i2 hess
    simp at i1
    simp (disch := first | assumption | omega | (simp [*] <;> omega) | fail) [hbx, wrap64, hlt', i1, hk]
  · rintro ⟨vs, G⟩ _
    have e : ((n.toNat : Nat) : Int) = n := by omega
    rw [floop_at i_spec_l01Edges_B2.eq_1]
    simp (disch := first | assumption | omega | (simp [*] <;> omega) | fail) [e]
  · rintro a ⟨⟨⟨ess, k1, k2⟩, _⟩, h2⟩
    rw [edgesF_end (by omega), List.append_nil] at k2
    rw [k2] at k1
    exact ⟨a, k1, h2⟩

theorem c_spec_l01Edges (n : Int) (s : Value) (rows : List Int) (h : VH) (hs : Sli h s rows) (hn : nro ≤ h.length) (g : GV n rows) :
    ∃ v M, vcall F nro k_spec_l01Edges [gv n s] h = some (v, h ++ M) ∧ SL2 h.length M v (edgesF rows n.toNat 0) := by
  have hn' := fun k => Nat.le_trans hn (Nat.le_add_right h.length k)
  obtain ⟨⟨vs', G'⟩, l2, l1⟩ := l_spec_l01Edges_2 (nro := nro) n s rows h hs hn g
  obtain ⟨v, M, k1, k2⟩ := EI.fin1 (h := h) (pre := [⟨0, [.int .i64 n, s]⟩]) l2
  refine ⟨v, M, ?_, k2⟩
  refine v_spec_l01Edges (by simp [i_spec_l01Edges]) ?_
  rw [fbody_eq]
  simp at l1 k1
  simp (disch := first | assumption | omega | (simp [*] <;> omega) | fail) [i_spec_l01Edges, l1, hn', k1]
end Go.Proofs.YthpgiimaadohcaaDoor.Zv

/- The law of GreedyGraph. -/
namespace Go.Proofs.YthpgiimaadohcaaDoor.Zv
open Go
variable {nro : Nat}

/-- k and c are as told. -/
def kcB (k c : Int) : Bool := decide (1 ≤ k ∧ k ≤ 6) && decide (3 ≤ c ∧ c ≤ 12)
theorem c_spec_l07Numbers (k c : Int) (h : VH) : vcall F nro k_spec_l07Numbers [.int .i64 k, .int .i64 c] h = some (.bool (kcB k c), h) := by
  refine v_spec_l07Numbers (by simp [i_spec_l07Numbers]) ?_
  rw [fbody_eq]
  have h1 := c_spec_l01In (nro := nro) k 1 6 h
  have h2 := c_spec_l01In (nro := nro) c 3 12 h
  unfold kcB
  by_cases g : 1 ≤ k ∧ k ≤ 6
  · rw [decide_eq_true g] at h1 ⊢
    simp (disch := first | assumption | omega | (simp [*] <;> omega) | fail) [i_spec_l07Numbers, h1, h2]
  · rw [decide_eq_false g] at h1 ⊢
    simp (disch := first | assumption | omega | (simp [*] <;> omega) | fail) [i_spec_l07Numbers, h1]
theorem c_impl_isBoth (k c : Int) (h : VH) : vcall F nro k_impl_isBoth [.int .i64 k, .int .i64 c] h = some (.bool (kcB k c), h) := by
  refine v_impl_isBoth (by simp [i_impl_isBoth]) ?_
  rw [fbody_eq]
  unfold kcB
  by_cases g1 : 1 ≤ k
  · by_cases g2 : k ≤ 6
    · by_cases g3 : 3 ≤ c
      · by_cases g4 : c ≤ 12
        · simp (disch := first | assumption | omega | (simp [*] <;> omega) | fail) [i_impl_isBoth, g1, g2, g3, g4]
        · simp (disch := first | assumption | omega | (simp [*] <;> omega) | fail) [i_impl_isBoth, g1, g2, g3, g4]
      · simp (disch := first | assumption | omega | (simp [*] <;> omega) | fail) [i_impl_isBoth, g1, g2, g3]
    · simp (disch := first | assumption | omega | (simp [*] <;> omega) | fail) [i_impl_isBoth, g1, g2]
  · simp (disch := first | assumption | omega | (simp [*] <;> omega) | fail) [i_impl_isBoth, g1]

end Go.Proofs.YthpgiimaadohcaaDoor.Zv

/- Does a graph fit k and c: the program's test and the reference's are one. -/
namespace Go.Proofs.YthpgiimaadohcaaDoor.Zv
open Go
variable {nro : Nat}

/-! ### degrees, the greatest of numbers -/
def degF (rows : List Int) (n v : Nat) : List Int := if h : v < n then (deg rows v : Int) :: degF rows n (v + 1) else []
 termination_by n - v
theorem degF_end {rows : List Int} {n v : Nat} (h : ¬ v < n) : degF rows n v = [] := by rw [degF, dif_neg h]
theorem degF_step {rows : List Int} {n v : Nat} (h : v < n) : degF rows n v = (deg rows v : Int) :: degF rows n (v + 1) := by rw [degF, dif_pos h]
theorem degF_len (rows : List Int) (n v : Nat) : (degF rows n v).length = n - v := by
  by_cases h : v < n
  · rw [degF_step h, List.length_cons, degF_len rows n (v + 1)]; omega
  · rw [degF_end h]; simp; omega
 termination_by n - v
theorem degF_all (rows : List Int) (n v : Nat) (k : Int) : (∀ x ∈ degF rows n v, x ≤ k) ↔ ∀ u, v ≤ u → u < n → (deg rows u : Int) ≤ k := by
  by_cases h : v < n
  · rw [degF_step h]
    simp only [List.mem_cons, forall_eq_or_imp]
    rw [degF_all rows n (v + 1) k]
    constructor
    · rintro ⟨a, b⟩ u hu hun
      by_cases e : u = v
      · subst e; exact a
      · exact b u (by omega) hun
    · intro a
      exact ⟨a v (Nat.le_refl _) h, fun u hu hun => a u (by omega) hun⟩
  · rw [degF_end h]
    simp
    intro u hu hun
    omega
 termination_by n - v

theorem l_impl_Graph_degrees (h : VH) (n : Nat) (s : Value) (rows : List Int) (hs : Sli h s rows) (R : Rok n rows) (hn : nro ≤ h.length) (y0 : List Int) (v : Nat) (hv : v ≤ n) (ys : List Int) (hy : ys.length ≤ v) :
    floop (vcall F nro) nro [1, 3, 7, 8] i_impl_Graph_degrees_B1 (bx h n s ++ [⟨1, ints y0⟩]) [bp h, .slice (some ⟨h.length + 1, 0, none⟩) ys.length ys.length, .int .i64 n, .int .i64 v] (bx h n s ++ [⟨1, ints ys⟩]) =
      some (.exit 0, fl [(3, .slice (some ⟨h.length + 1, 0, none⟩) (ys ++ degF rows n v).length (ys ++ degF rows n v).length)], bx h n s ++ [⟨1, ints (ys ++ degF rows n v)⟩]) := by
  have hn' := fun k => Nat.le_trans hn (Nat.le_add_right h.length k)
  have hsc := fun k => hs.oldCk (k := k)
  have hle := R.le
  rw [floop_at i_impl_Graph_degrees_B1.eq_1]
  by_cases hlt : v < n
  · have hlt' : (v : Int) < n := by omega
    have hc := c_impl_degree (nro := nro) n v s rows (bx h n s ++ [⟨1, ints ys⟩]) ((hs.app _).app _) R hlt
    have ih := l_impl_Graph_degrees h n s rows hs R hn y0 (v + 1) (by omega) (ys ++ [(deg rows v : Int)]) (by simp; omega)
    rw [show ((v + 1 : Nat) : Int) = (v : Int) + 1 by omega] at ih
    rw [degF_step hlt]
    obtain ⟨d, hd⟩ : ∃ d, d = deg rows v := ⟨_, rfl⟩
    rw [← hd] at hc ih ⊢
    clear hd
    simp at ih hc
    have b1 : (ys.length + 1) * 8 ≤ 1099511627776 := by omega
    have b2 : ys.length < 1099511627776 := by omega
    simp (disch := first | assumption | omega | (simp [*] <;> omega) | fail) [wrap64, hlt', hlt, hc, hn', ih, hsc, b1, b2, ints_snoc]
  · have hlt' : ¬ (v : Int) < n := by omega
    rw [degF_end hlt]
    simp (disch := first | assumption | omega | (simp [*] <;> omega) | fail) [hlt', hlt]
 termination_by n - v

theorem c_impl_Graph_degrees (n : Nat) (s : Value) (rows : List Int) (h : VH) (hs : Sli h s rows) (R : Rok n rows) (hn : nro ≤ h.length) :
    vcall F nro k_impl_Graph_degrees [gv n s] h = some (.slice (some ⟨h.length, 0, none⟩) n n, h ++ [⟨1, ints (degF rows n 0)⟩]) := by
  refine v_impl_Graph_degrees (by simp [i_impl_Graph_degrees]) ?_
  rw [fbody_eq]
  have lp := l_impl_Graph_degrees (nro := nro) h n s rows hs R hn [] 0 (by omega) [] (by simp)
  have hdl := degF_len rows n 0
  simp at lp
  rw [hdl, Nat.sub_zero] at lp
  simp (disch := first | assumption | omega | (simp [*] <;> omega) | fail) [i_impl_Graph_degrees, lp, hdl]

def mxL (m : Int) : List Int → Int
  | [] => m
  | x :: l => mxL (if m < x then x else m) l
theorem mxL_le (k : Int) : ∀ (l : List Int) (m : Int), mxL m l ≤ k ↔ m ≤ k ∧ ∀ x ∈ l, x ≤ k
  | [], m => by simp [mxL]
  | x :: l, m => by
    rw [mxL, mxL_le k l]
    simp only [List.mem_cons, forall_eq_or_imp]
    by_cases h : m < x
    · rw [if_pos h]
      exact ⟨fun ⟨a, b⟩ => ⟨by omega, a, b⟩, fun ⟨_, a, b⟩ => ⟨a, b⟩⟩
    · rw [if_neg h]
      exact ⟨fun ⟨a, b⟩ => ⟨a, by omega, b⟩, fun ⟨a, _, b⟩ => ⟨a, b⟩⟩

theorem l_slices_Max (h : VH) (s : Value) (xs : List Int) (hs : Sli h s xs) (hl : xs.length ≤ 1000) (k j : Nat) (hk : k = xs.length - j) (hj : j ≤ xs.length) (m : Int) :
    floop (vcall F nro) nro [0, 3, 4] i_slices_Max_int64_int64_B1 h [s, .int .i64 m, .int .i64 j] h = some (.exit 0, fl [(3, .int .i64 (mxL m (xs.drop j)))], h) := by
  have hso := hs.old
  rw [floop_at i_slices_Max_int64_int64_B1.eq_1]
  by_cases hlt : j < xs.length
  · have hlt' : (j : Int) < xs.length := by omega
    have vl := hs.vlen
    have vx := hs.vidx (k := .i64) (j := (j : Int)) (by omega) hlt'
    have vd := hs.vload hlt
    have ih := l_slices_Max h s xs hs hl (k - 1) (j + 1) (by omega) hlt (if m < xs[j] then xs[j] else m)
    rw [show ((j + 1 : Nat) : Int) = (j : Int) + 1 by omega] at ih
    rw [List.drop_eq_getElem_cons hlt, mxL]
    obtain ⟨x, hx⟩ : ∃ x, x = xs[j] := ⟨_, rfl⟩
    rw [← hx] at vd ih ⊢
    by_cases c1 : m < x
    · rw [if_pos c1] at ih ⊢
      simp (disch := first | assumption | omega | (simp [*] <;> omega) | fail) [wrap64, hlt', vl, vx, vd, ih, c1, vminmax, vminmaxL, vminmax2]
    · rw [if_neg c1] at ih ⊢
      simp (disch := first | assumption | omega | (simp [*] <;> omega) | fail) [wrap64, hlt', vl, vx, vd, ih, c1, vminmax, vminmaxL, vminmax2]
  · have hlt' : ¬ (j : Int) < xs.length := by omega
    have vl := hs.vlen
    rw [List.drop_eq_nil_of_le (by omega), mxL]
    simp (disch := first | assumption | omega | (simp [*] <;> omega) | fail) [hlt', vl]
 termination_by k
 decreasing_by omega

theorem c_slices_Max (s : Value) (x : Int) (xs : List Int) (h : VH) (hs : Sli h s (x :: xs)) (hl : xs.length ≤ 999) :
    vcall F nro k_slices_Max_int64_int64 [s] h = some (.int .i64 (mxL x xs), h) := by
  refine v_slices_Max_int64_int64 (by simp [i_slices_Max_int64_int64]) ?_
  rw [fbody_eq]
  have vl := hs.vlen
  have vx := hs.vidx (k := .i64) (j := 0) (by omega) (by simp)
  have vd := hs.vload (j := 0) (by simp)
  have lp := l_slices_Max (nro := nro) h s (x :: xs) hs (by simp; omega) xs.length 1 (by simp) (by simp) x
  rw [List.drop_succ_cons, List.drop_zero] at lp
  simp only [Int.natCast_one] at lp
  simp at vl vd
  have e : ¬ ((xs.length : Int) + 1 < 1) := by omega
  obtain ⟨q, hq⟩ : ∃ q, q = mxL x xs := ⟨_, rfl⟩
  rw [← hq] at lp ⊢
  clear hq
  simp (disch := first | assumption | omega | (simp [*] <;> omega) | fail) [i_slices_Max_int64_int64, vl, vx, vd, lp, e]

/-! ### does a graph fit -/
def FitsP (rows : List Int) (n : Nat) (k c : Int) : Prop := (∀ v, v < n → (deg rows v : Int) ≤ k) ∧ ∀ u w, rbit rows u w = true → arF rows u w ≤ 0 ∨ c ≤ arF rows u w

open Classical in
theorem c_impl_Graph_fits (n : Nat) (k c : Int) (s : Value) (rows : List Int) (h : VH) (hs : Sli h s rows) (g : GV n rows) (hc : 1 ≤ c) (hn : nro ≤ h.length) :
    vcall F nro k_impl_Graph_fits [gv n s, .int .i64 k, .int .i64 c] h = some (.bool (decide (FitsP rows n k c)), h) := by
  refine v_impl_Graph_fits (by simp [i_impl_Graph_fits]) ?_
  rw [fbody_eq]
  have R := g.rok
  have hl := R.len
  have hle := R.le
  have hlo := g.lo
  have hg := c_impl_Graph_girth (nro := nro) n s rows (bx h n s) (hs.app _) g (by simp; omega)
  have hd := c_impl_Graph_degrees (nro := nro) n s rows (bx h n s) (hs.app _) R (by simp; omega)
  have e0 : degF rows n 0 = (deg rows 0 : Int) :: degF rows n 1 := degF_step (by omega)
  have hdl := degF_len rows n 1
  have hm := c_slices_Max (nro := nro) (.slice (some ⟨h.length + 1, 0, none⟩) n n) (deg rows 0) (degF rows n 1) (bx h n s ++ [⟨1, ints (degF rows n 0)⟩]) (by
    have := sli_at (h := bx h n s ++ [⟨1, ints (degF rows n 0)⟩]) (b := h.length + 1) (xs := degF rows n 0) (by simp)
    rw [degF_len rows n 0, Nat.sub_zero] at this
    rw [← e0]
    exact this) (by omega)
  have h1 := (girF_ok (rows := rows) (n := n) (c := c) hc 0 0 (by omega))
  have h2 : mxL (deg rows 0) (degF rows n 1) ≤ k ↔ ∀ v, v < n → (deg rows v : Int) ≤ k := by
    rw [mxL_le]
    have := degF_all rows n 0 k
    rw [e0] at this
    simp only [List.mem_cons, forall_eq_or_imp] at this
    rw [this]
    exact ⟨fun h v hv => h v (Nat.zero_le _) hv, fun h v _ hv => h v hv⟩
  have h3 : (girF rows n 0 0 = 0 ∨ c ≤ girF rows n 0 0) ↔ ∀ u w, rbit rows u w = true → arF rows u w ≤ 0 ∨ c ≤ arF rows u w := by
    rw [h1]
    constructor
    · rintro ⟨_, a⟩ u w huw
      obtain ⟨hu, hw⟩ := rbit_lt R huw
      have := a u (Nat.zero_le _) hu w ((nbL_mem rows u w).mpr ⟨by omega, by omega, by rw [Int.toNat_natCast]; exact huw⟩)
      rwa [Int.toNat_natCast] at this
    · intro a
      exact ⟨.inl rfl, fun u _ _ y hy => a u y.toNat ((nbL_mem rows u y).mp hy).2.2⟩
  have h4 : decide (FitsP rows n k c) = (decide (mxL (deg rows 0) (degF rows n 1) ≤ k) && (decide (girF rows n 0 0 = 0) || decide (c ≤ girF rows n 0 0))) := by
    unfold FitsP
    rw [Bool.eq_iff_iff]
    simp only [decide_eq_true_eq, Bool.and_eq_true, Bool.or_eq_true]
    rw [← h2, ← h3]
  rw [h4]
  obtain ⟨x, hx⟩ : ∃ x, x = mxL (deg rows 0) (degF rows n 1) := ⟨_, rfl⟩
  rw [← hx] at hm ⊢
  obtain ⟨y, hy⟩ : ∃ y, y = girF rows n 0 0 := ⟨_, rfl⟩
  rw [← hy] at hg ⊢
  obtain ⟨D, hD⟩ : ∃ D, D = degF rows n 0 := ⟨_, rfl⟩
  rw [← hD] at hd hm
  clear h1 h2 h3 h4 hx hy hD e0 hdl
  simp at hd hm
  by_cases c1 : x ≤ k
  · by_cases c2 : y = 0
    · simp (disch := first | assumption | omega | (simp [*] <;> omega) | fail) [i_impl_Graph_fits, hg, hd, hm, c1, c2]
    · simp (disch := first | assumption | omega | (simp [*] <;> omega) | fail) [i_impl_Graph_fits, hg, hd, hm, c1, c2]
  · simp (disch := first | assumption | omega | (simp [*] <;> omega) | fail) [i_impl_Graph_fits, hg, hd, hm, c1]

/-! ### lists of edges -/
theorem arF_ne1 {n : Nat} {rows : List Int} (g : GV n rows) {a b : Nat} (hab : rbit rows a b = true) : far (cut2 rows a b) a b ≠ 0 := by
  obtain ⟨ha, hb⟩ := rbit_lt g.rok hab
  have h := far_dist (cut_rok g ha hb hab).1 ha b
  intro e
  rw [e] at h
  rcases h with ⟨h, _⟩ | ⟨d, h1, h2⟩
  · omega
  · have : d = 0 := by omega
    subst this
    exact g.ne hab h2.1

open Classical in
theorem l_spec_l07Fits_1 (h : VH) (n : Nat) (k c : Int) (s : Value) (rows : List Int) (hs : Sli h s rows) (R : Rok n rows) (v : Nat) :
    floop (vcall F nro) nro [1, 2, 3, 7] i_spec_l07Fits_B1 (bx h n s) [.int .i64 k, .int .i64 c, bp h, .int .i64 v] (bx h n s) =
      if ∃ u, v ≤ u ∧ u < n ∧ k < (deg rows u : Int) then some (.ret, fl [(6, .bool false)], bx h n s) else some (.exit 0, fl [(2, .int .i64 c), (3, bp h)], bx h n s) := by
  have hsc := fun k => hs.oldCk (k := k)
  have hle := R.le
  rw [floop_at i_spec_l07Fits_B1.eq_1]
  by_cases hlt : v < n
  · have hlt' : (v : Int) < n := by omega
    have hc := c_spec_l01Degree (nro := nro) n v s rows (bx h n s) (hs.app _) R hlt
    by_cases hb : k < (deg rows v : Int)
    · rw [if_pos ⟨v, Nat.le_refl _, hlt, hb⟩]
      obtain ⟨d, hd⟩ : ∃ d, d = deg rows v := ⟨_, rfl⟩
      rw [← hd] at hc hb
      simp (disch := first | assumption | omega | (simp [*] <;> omega) | fail) [hlt', hlt, hc, hb]
    · have ih := l_spec_l07Fits_1 h n k c s rows hs R (v + 1)
      rw [show ((v + 1 : Nat) : Int) = (v : Int) + 1 by omega] at ih
      have e : (∃ u, v ≤ u ∧ u < n ∧ k < (deg rows u : Int)) ↔ ∃ u, v + 1 ≤ u ∧ u < n ∧ k < (deg rows u : Int) := by
        constructor
        · rintro ⟨u, h1, h2, h3⟩
          by_cases e : u = v
          · subst e; exact absurd h3 hb
          · exact ⟨u, by omega, h2, h3⟩
        · rintro ⟨u, h1, h2, h3⟩; exact ⟨u, by omega, h2, h3⟩
      simp only [e]
      obtain ⟨d, hd⟩ : ∃ d, d = deg rows v := ⟨_, rfl⟩
      rw [← hd] at hc hb
      obtain ⟨r, hr⟩ : ∃ r, r = (if ∃ u, v + 1 ≤ u ∧ u < n ∧ k < (deg rows u : Int) then some (VX.ret, fl [(6, .bool false)], bx h n s) else some (.exit 0, fl [(2, .int .i64 c), (3, bp h)], bx h n s)) := ⟨_, rfl⟩
      rw [← hr] at ih ⊢
      clear hr e hd
      simp (disch := first | assumption | omega | (simp [*] <;> omega) | fail) [wrap64, hlt', hlt, hc, hb, ih, hsc]
  · have hlt' : ¬ (v : Int) < n := by omega
    rw [if_neg (by rintro ⟨u, h1, h2, _⟩; omega)]
    simp (disch := first | assumption | omega | (simp [*] <;> omega) | fail) [hlt', hlt]
 termination_by n - v

theorem l_spec_l07Fits_2 (H : VH) (i3 n : Nat) (c : Int) (s q : Value) (rows : List Int) (hs : Sli H s rows) (g : GV n rows) (hn : nro ≤ H.length) (h3 : H[i3]? = some ⟨0, [.int .i64 n, s]⟩) (es : List (List Int)) (vs : List Value) (hl : vs.length = es.length) (hll : es.length ≤ 100000) (S : ∀ L, Sl (H ++ L) q vs) (I : ∀ L (i : Nat) (hi : i < vs.length), Sli (H ++ L) vs[i] (es.getD i [])) (hE : ∀ e ∈ es, ∃ u w : Nat, rbit rows u w = true ∧ e = [(u : Int), (w : Int)]) (k i : Nat) (hk : k = es.length - i) (hi : i ≤ es.length) :
    ((∃ e ∈ es.drop i, ∃ u w : Nat, e = [(u : Int), (w : Int)] ∧ ¬ (arF rows u w ≤ 0 ∨ c ≤ arF rows u w)) → ∃ L, floop (vcall F nro) nro [2, 3, 8, 9] i_spec_l07Fits_B2 H [.int .i64 c, .pointer (some ⟨i3, 0, some 2⟩), q, .int .i64 i] H = some (.ret, fl [(6, .bool false)], H ++ [L])) ∧
    ((¬ ∃ e ∈ es.drop i, ∃ u w : Nat, e = [(u : Int), (w : Int)] ∧ ¬ (arF rows u w ≤ 0 ∨ c ≤ arF rows u w)) → floop (vcall F nro) nro [2, 3, 8, 9] i_spec_l07Fits_B2 H [.int .i64 c, .pointer (some ⟨i3, 0, some 2⟩), q, .int .i64 i] H = some (.exit 2, fl [], H)) := by
  have hi3 : i3 < H.length := (List.getElem?_eq_some_iff.mp h3).1
  have po3 : Old H.length (.pointer (some ⟨i3, 0, some 2⟩)) := fun r hr => by simp [trefs, vrefs, crefs, arefs] at hr; omega
  have S0 := S []
  rw [List.append_nil] at S0
  have oq : Old H.length q := S0.old
  clear hi3
  rw [floop_at i_spec_l07Fits_B2.eq_1]
  by_cases hlt : i < es.length
  · have hlt' : (i : Int) < vs.length := by omega
    have hlv : i < vs.length := by omega
    have hget : es.getD i [] = es[i] := by rw [List.getD_eq_getElem?_getD, List.getElem?_eq_getElem hlt]; rfl
    obtain ⟨u, w, huw, heq⟩ := hE es[i] (List.getElem_mem hlt)
    obtain ⟨hu, hw⟩ := rbit_lt g.rok huw
    obtain ⟨R2, _⟩ := cut_rok g hu hw huw
    have hrl := g.rok.len
    have hle := g.rok.le
    have hne := g.ne huw
    have I0 := I [] i hlv
    rw [List.append_nil, hget, heq] at I0
    have I1 := I [⟨1, ints (cut2 rows u w)⟩] i hlv
    rw [hget, heq] at I1
    have S1 := S [⟨1, ints (cut2 rows u w)⟩]
    have hcut := c_spec_l01Cut (nro := nro) n u w s rows H hs hn g (by omega) (by omega) (by omega) (by omega) (by omega) (by rw [Int.toNat_natCast, Int.toNat_natCast]; exact huw)
    rw [hrl] at hcut
    have hl2 := R2.len
    have hfar := c_spec_l07Far (nro := nro) n u w (.slice (some ⟨H.length, 0, none⟩) n n) (cut2 rows u w) (H ++ [⟨1, ints (cut2 rows u w)⟩]) (by
      have := sli_at (h := H ++ [⟨1, ints (cut2 rows u w)⟩]) (b := H.length) (xs := cut2 rows u w) (by simp)
      rw [hl2] at this
      exact this) R2 hu hw
    have f1 := far_le R2 hu w
    have f2 := far_ge (cut2 rows u w) u w
    have f3 := arF_ne1 g huw
    have ih := l_spec_l07Fits_2 H i3 n c s q rows hs g hn h3 es vs hl hll S I hE (k - 1) (i + 1) (by omega) hlt
    rw [show ((i + 1 : Nat) : Int) = (i : Int) + 1 by omega] at ih
    rw [List.drop_eq_getElem_cons hlt]
    have hA : arF rows u w = far (cut2 rows u w) u w + 1 := rfl
    have e : (∃ e ∈ es[i] :: es.drop (i + 1), ∃ u w : Nat, e = [(u : Int), (w : Int)] ∧ ¬ (arF rows u w ≤ 0 ∨ c ≤ arF rows u w)) ↔ ¬ (arF rows u w ≤ 0 ∨ c ≤ arF rows u w) ∨ ∃ e ∈ es.drop (i + 1), ∃ u w : Nat, e = [(u : Int), (w : Int)] ∧ ¬ (arF rows u w ≤ 0 ∨ c ≤ arF rows u w) := by
      constructor
      · rintro ⟨e, he, u', w', h1, h2⟩
        rcases List.mem_cons.mp he with rfl | he
        · rw [heq] at h1
          simp at h1
          have q1 : u' = u := by omega
          have q2 : w' = w := by omega
          subst q1 q2
          exact .inl h2
        · exact .inr ⟨e, he, u', w', h1, h2⟩
      · rintro (h1 | ⟨e, he, h1⟩)
        · exact ⟨_, List.mem_cons_self .., u, w, heq, h1⟩
        · exact ⟨e, List.mem_cons_of_mem _ he, h1⟩
    simp only [e]
    rw [hA]
    obtain ⟨x, hx⟩ : ∃ x, x = far (cut2 rows u w) u w := ⟨_, rfl⟩
    rw [← hx] at hfar f1 f2 f3 ⊢
    obtain ⟨cr, hcr⟩ : ∃ cr, cr = cut2 rows u w := ⟨_, rfl⟩
    rw [← hcr] at hcut hfar I1 S1
    obtain ⟨r, hr⟩ : ∃ r, r = (∃ e ∈ es.drop (i + 1), ∃ u w : Nat, e = [(u : Int), (w : Int)] ∧ ¬ (arF rows u w ≤ 0 ∨ c ≤ arF rows u w)) := ⟨_, rfl⟩
    simp only [← hr] at ih ⊢
    clear e hr hA hcr hx hE I S R2 hl2 hget heq hk
    have w1 : IntKind.i64.wrap (x + 1) = x + 1 := wrap64 (by omega) (by omega)
    have hn1 : nro ≤ H.length + 1 := by omega
    obtain ⟨fl0, hfl0⟩ : ∃ fl0, fl0 = floop (vcall F nro) nro [2, 3, 8, 9] i_spec_l07Fits_B2 H [.int .i64 c, .pointer (some ⟨i3, 0, some 2⟩), q, .int .i64 ((i : Int) + 1)] H := ⟨_, rfl⟩
    rw [← hfl0] at ih
    have hfl1 := hfl0.symm
    clear hfl0
    by_cases c1 : 0 < x
    · by_cases c2 : x + 1 < c
      · refine ⟨fun _ => ⟨⟨1, ints cr⟩, ?_⟩, fun h => absurd (.inl (by omega)) h⟩
        simp (disch := first | assumption | omega | (simp [*] <;> omega) | fail) [S0.vlen, S0.vidx, S0.vload, I0.vidx, I0.vload, S1.vidx, S1.vload, I1.vidx, I1.vload, h3, hcut, hfar, hlt', hlv, c1, c2, w1]
      · have e2 : (¬ (x + 1 ≤ 0 ∨ c ≤ x + 1) ∨ r) ↔ r := by
          constructor
          · rintro (h | h)
            · omega
            · exact h
          · exact .inr
        simp only [e2]
        simp (disch := first | assumption | omega | (simp [*] <;> omega) | fail) [S0.vlen, S0.vidx, S0.vload, I0.vidx, I0.vload, S1.vidx, S1.vload, I1.vidx, I1.vload, h3, hcut, hfar, hlt', hlv, c1, c2, w1, hfl1, wrap64]
        exact ih
    · have e2 : (¬ (x + 1 ≤ 0 ∨ c ≤ x + 1) ∨ r) ↔ r := by
        constructor
        · rintro (h | h)
          · omega
          · exact h
        · exact .inr
      simp only [e2]
      simp (disch := first | assumption | omega | (simp [*] <;> omega) | fail) [S0.vlen, S0.vidx, S0.vload, I0.vidx, I0.vload, S1.vidx, S1.vload, I1.vidx, I1.vload, h3, hcut, hfar, hlt', hlv, c1, hfl1, wrap64]
      exact ih
  · have hlt' : ¬ (i : Int) < vs.length := by omega
    rw [List.drop_eq_nil_of_le (by omega)]
    refine ⟨fun h => ?_, fun _ => ?_⟩
    · obtain ⟨e, he, _⟩ := h
      cases he
    · simp (disch := first | assumption | omega | (simp [*] <;> omega) | fail) [S0.vlen, hlt']
 termination_by k
 decreasing_by omega
end Go.Proofs.YthpgiimaadohcaaDoor.Zv

/- The code of a graph that has to fit k and c. -/
namespace Go.Proofs.YthpgiimaadohcaaDoor.Zv
open Go
variable {nro : Nat}

theorem edges_len' (rows : List Int) (n v : Nat) (hn : n ≤ 62) : (edgesF rows n v).length ≤ (n - v) * 62 := by
  by_cases h : v < n
  · rw [edgesF_step h, List.length_append]
    have h1 := edges_len' rows n (v + 1) hn
    have h2 := edgF_len rows v n (v + 1) h
    have e : n - v = (n - (v + 1)) + 1 := by omega
    rw [e, Nat.add_mul]
    omega
  · rw [edgesF_end h]; simp
 termination_by n - v

open Classical in
theorem c_spec_l07Fits (n : Nat) (k c : Int) (s : Value) (rows : List Int) (h : VH) (hs : Sli h s rows) (g : GV n rows) (hn : nro ≤ h.length) :
    vcall F nro k_spec_l07Fits [gv n s, .int .i64 k, .int .i64 c] h = some (.bool (decide (FitsP rows n k c)), h) := by
  refine v_spec_l07Fits (by simp [i_spec_l07Fits]) ?_
  rw [fbody_eq]
  have hn' := fun k => Nat.le_trans hn (Nat.le_add_right h.length k)
  have R := g.rok
  have hle := R.le
  have l1 := l_spec_l07Fits_1 (nro := nro) h n k c s rows hs R 0
  simp only [Int.natCast_zero] at l1
  by_cases hd : ∃ u, 0 ≤ u ∧ u < n ∧ k < (deg rows u : Int)
  · rw [if_pos hd] at l1
    have hF : ¬ FitsP rows n k c := by
      rintro ⟨h1, _⟩
      obtain ⟨u, _, hu, hk⟩ := hd
      have := h1 u hu
      omega
    rw [decide_eq_false hF]
    simp (disch := first | assumption | omega | (simp [*] <;> omega) | fail) [i_spec_l07Fits, l1]
  · rw [if_neg hd] at l1
    obtain ⟨q, M, he, hS⟩ := c_spec_l01Edges (nro := nro) n s rows (bx h n s) (hs.app _) (by simp; omega) g
    rw [Int.toNat_natCast] at hS
    obtain ⟨vs, r1, r2, r3⟩ := hS.read (L := [])
    have hel := edges_len' rows n 0 hle
    have l2 := l_spec_l07Fits_2 (nro := nro) (bx h n s ++ M) h.length n c s q rows ((hs.app _).app _) g (by simp; omega) (by simp) (edgesF rows n 0) vs r1 (by omega)
      (fun L => by
        have := r2.app L
        rw [List.append_nil] at this
        exact this)
      (fun L i hi => by
        have := (r3 i hi).app L
        rw [List.append_nil] at this
        exact this)
      (fun e he => by
        obtain ⟨u, w, _, _, _, h1, h2⟩ := (edgesF_mem rows n 0 e).mp he
        exact ⟨u, w, h1, h2⟩) _ 0 rfl (Nat.zero_le _)
    rw [List.drop_zero] at l2
    simp only [Int.natCast_zero] at l2
    have hF : FitsP rows n k c ↔ ¬ ∃ e ∈ edgesF rows n 0, ∃ u w : Nat, e = [(u : Int), (w : Int)] ∧ ¬ (arF rows u w ≤ 0 ∨ c ≤ arF rows u w) := by
      constructor
      · rintro ⟨_, h2⟩ ⟨e, he, u, w, h3, h4⟩
        obtain ⟨u', w', _, _, _, h5, h6⟩ := (edgesF_mem rows n 0 e).mp he
        rw [h3] at h6
        simp at h6
        have q1 : u' = u := by omega
        have q2 : w' = w := by omega
        subst q1 q2
        exact h4 (h2 _ _ h5)
      · intro h1
        refine ⟨fun v hv => ?_, fun u w huw => ?_⟩
        · rcases Int.lt_or_le k (deg rows v : Int) with h2 | h2
          · exact absurd ⟨v, Nat.zero_le _, hv, h2⟩ hd
          · exact h2
        · obtain ⟨hu, hw⟩ := rbit_lt R huw
          by_cases h2 : arF rows u w ≤ 0 ∨ c ≤ arF rows u w
          · exact h2
          · exfalso
            have hne := g.ne huw
            rcases Nat.lt_or_gt_of_ne hne with h3 | h3
            · exact h1 ⟨_, (edgesF_mem rows n 0 _).mpr ⟨u, w, Nat.zero_le _, h3, hw, huw, rfl⟩, u, w, rfl, h2⟩
            · rw [arF_symm g huw] at h2
              exact h1 ⟨_, (edgesF_mem rows n 0 _).mpr ⟨w, u, Nat.zero_le _, h3, hu, g.sym' huw, rfl⟩, w, u, rfl, h2⟩
    by_cases hE : ∃ e ∈ edgesF rows n 0, ∃ u w : Nat, e = [(u : Int), (w : Int)] ∧ ¬ (arF rows u w ≤ 0 ∨ c ≤ arF rows u w)
    · obtain ⟨L, l3⟩ := l2.1 hE
      rw [decide_eq_false (fun h => hF.mp h hE)]
      clear l2 hF hE hel r1 r2 r3 hS
      simp at he l3
      simp (disch := first | assumption | omega | (simp [*] <;> omega) | fail) [i_spec_l07Fits, l1, he, l3, hn, hn']
    · have l3 := l2.2 hE
      rw [decide_eq_true (hF.mpr hE)]
      clear l2 hF hE hel r1 r2 r3 hS
      simp at he l3
      simp (disch := first | assumption | omega | (simp [*] <;> omega) | fail) [i_spec_l07Fits, l1, he, l3, hn, hn']

open Classical in
/-- The code. -/
noncomputable def fitC (n : Int) (rows : List Int) (k c : Int) : Int := if GV n rows then if kcB k c = true then if FitsP rows n.toNat k c then 0 else 5 else 2 else 1

open Classical in
theorem c_spec_l07Given (n k c : Int) (s : Value) (rows : List Int) (h : VH) (hs : Sli h s rows) (hn : nro ≤ h.length) :
    vcall F nro k_spec_l07Given [gv n s, .int .i64 k, .int .i64 c] h = some (.int .i64 (fitC n rows k c), h) := by
  refine v_spec_l07Given (by simp [i_spec_l07Given]) ?_
  rw [fbody_eq]
  have h1 := c_spec_l01Is (nro := nro) n s rows (bx h n s) (hs.app _)
  have h2 := c_spec_l07Numbers (nro := nro) k c (bx h n s)
  unfold fitC
  by_cases g : GV n rows
  · rw [if_pos g]
    rw [decide_eq_true g] at h1
    by_cases g2 : kcB k c = true
    · rw [if_pos g2]
      rw [g2] at h2
      have hlo := g.lo
      obtain ⟨N, rfl⟩ : ∃ N : Nat, n = N := ⟨n.toNat, by omega⟩
      rw [Int.toNat_natCast]
      have h3 := c_spec_l07Fits (nro := nro) N k c s rows (bx h N s) (hs.app _) g (by simp; omega)
      by_cases g3 : FitsP rows N k c
      · rw [if_pos g3]
        rw [decide_eq_true g3] at h3
        simp (disch := first | assumption | omega | (simp [*] <;> omega) | fail) [i_spec_l07Given, h1, h2, h3]
      · rw [if_neg g3]
        rw [decide_eq_false g3] at h3
        simp (disch := first | assumption | omega | (simp [*] <;> omega) | fail) [i_spec_l07Given, h1, h2, h3]
    · rw [if_neg g2]
      have g2' : kcB k c = false := by simpa using g2
      rw [g2'] at h2
      simp (disch := first | assumption | omega | (simp [*] <;> omega) | fail) [i_spec_l07Given, h1, h2]
  · rw [if_neg g]
    rw [decide_eq_false g] at h1
    simp (disch := first | assumption | omega | (simp [*] <;> omega) | fail) [i_spec_l07Given, h1]

open Classical in
theorem c_impl_bothCode (n k c : Int) (s : Value) (rows : List Int) (h : VH) (hs : Sli h s rows) :
    vcall F nro k_impl_bothCode [gv n s, .int .i64 k, .int .i64 c] h = some (.int .i64 (if GV n rows then if kcB k c = true then 0 else 2 else 1), h) := by
  refine v_impl_bothCode (by simp [i_impl_bothCode]) ?_
  rw [fbody_eq]
  have h1 := c_impl_IsGraph (nro := nro) n s rows (bx h n s) (hs.app _)
  have h2 := c_impl_isBoth (nro := nro) k c (bx h n s)
  by_cases g : GV n rows
  · rw [if_pos g]
    simp only [g, decide_true] at h1
    by_cases g2 : kcB k c = true
    · rw [if_pos g2]
      rw [g2] at h2
      simp (disch := first | assumption | omega | (simp [*] <;> omega) | fail) [i_impl_bothCode, h1, h2]
    · rw [if_neg g2]
      have g2' : kcB k c = false := by simpa using g2
      rw [g2'] at h2
      simp (disch := first | assumption | omega | (simp [*] <;> omega) | fail) [i_impl_bothCode, h1, h2]
  · rw [if_neg g]
    simp only [g, decide_false] at h1
    simp (disch := first | assumption | omega | (simp [*] <;> omega) | fail) [i_impl_bothCode, h1]

open Classical in
theorem c_impl_fitCode (n k c : Int) (s : Value) (rows : List Int) (h : VH) (hs : Sli h s rows) (hn : nro ≤ h.length) :
    vcall F nro k_impl_fitCode [gv n s, .int .i64 k, .int .i64 c] h = some (.int .i64 (fitC n rows k c), h) := by
  have hb := c_impl_bothCode (nro := nro) n k c s rows (bx h n s) (hs.app _)
  refine v_impl_fitCode (by simp [i_impl_fitCode]) ?_
  rw [fbody_eq]
  unfold fitC
  by_cases g : GV n rows
  · rw [if_pos g] at hb ⊢
    by_cases g2 : kcB k c = true
    · rw [if_pos g2] at hb ⊢
      have hlo := g.lo
      obtain ⟨N, rfl⟩ : ∃ N : Nat, n = N := ⟨n.toNat, by omega⟩
      rw [Int.toNat_natCast]
      have hc1 : 1 ≤ c := by
        unfold kcB at g2
        simp at g2
        omega
      have h3 := c_impl_Graph_fits (nro := nro) N k c s rows (bx h N s) (hs.app _) g hc1 (by simp; omega)
      by_cases g3 : FitsP rows N k c
      · rw [if_pos g3]
        rw [decide_eq_true g3] at h3
        simp (disch := first | assumption | omega | (simp [*] <;> omega) | fail) [i_impl_fitCode, hb, h3]
      · rw [if_neg g3]
        rw [decide_eq_false g3] at h3
        simp (disch := first | assumption | omega | (simp [*] <;> omega) | fail) [i_impl_fitCode, hb, h3]
    · rw [if_neg g2] at hb ⊢
      simp (disch := first | assumption | omega | (simp [*] <;> omega) | fail) [i_impl_fitCode, hb]
  · rw [if_neg g] at hb ⊢
    simp (disch := first | assumption | omega | (simp [*] <;> omega) | fail) [i_impl_fitCode, hb]
end Go.Proofs.YthpgiimaadohcaaDoor.Zv

/- The law of FillGraph. -/
namespace Go.Proofs.YthpgiimaadohcaaDoor.Zv
open Go
variable {nro : Nat}

theorem fitC_gv {n : Int} {rows : List Int} {k c : Int} (h : fitC n rows k c = 0) : GV n rows := by
  unfold fitC at h
  split at h
  · assumption
  · omega

end Go.Proofs.YthpgiimaadohcaaDoor.Zv

/- Pairs that may be joined: lists of lists. -/
namespace Go.Proofs.YthpgiimaadohcaaDoor.Zv
open Go
variable {nro : Nat}

def pairF (k c : Int) (rows : List Int) (v n w : Nat) : List (List Int) := if h : w < n then (if mayB rows k c v w = true then [[(v : Int), (w : Int)]] else []) ++ pairF k c rows v n (w + 1) else []
 termination_by n - w
theorem pairF_end {k c : Int} {rows : List Int} {v n w : Nat} (h : ¬ w < n) : pairF k c rows v n w = [] := by rw [pairF, dif_neg h]
theorem pairF_step {k c : Int} {rows : List Int} {v n w : Nat} (h : w < n) : pairF k c rows v n w = (if mayB rows k c v w = true then [[(v : Int), (w : Int)]] else []) ++ pairF k c rows v n (w + 1) := by rw [pairF, dif_pos h]
theorem pairF_len (k c : Int) (rows : List Int) (v n w : Nat) (hw : w ≤ n) : (pairF k c rows v n w).length ≤ n - w := by
  by_cases h : w < n
  · rw [pairF_step h, List.length_append]
    have := pairF_len k c rows v n (w + 1) h
    split <;> simp <;> omega
  · rw [pairF_end h]; simp
 termination_by n - w
def pairsF (k c : Int) (rows : List Int) (n v : Nat) : List (List Int) := if h : v < n then pairF k c rows v n (v + 1) ++ pairsF k c rows n (v + 1) else []
 termination_by n - v
theorem pairsF_end {k c : Int} {rows : List Int} {n v : Nat} (h : ¬ v < n) : pairsF k c rows n v = [] := by rw [pairsF, dif_neg h]
theorem pairsF_step {k c : Int} {rows : List Int} {n v : Nat} (h : v < n) : pairsF k c rows n v = pairF k c rows v n (v + 1) ++ pairsF k c rows n (v + 1) := by rw [pairsF, dif_pos h]
theorem pairsF_len (k c : Int) (rows : List Int) (n v : Nat) (hn : n ≤ 62) : (pairsF k c rows n v).length ≤ (n - v) * 62 := by
  by_cases h : v < n
  · rw [pairsF_step h, List.length_append]
    have h1 := pairsF_len k c rows n (v + 1) hn
    have h2 := pairF_len k c rows v n (v + 1) h
    have e : n - v = (n - (v + 1)) + 1 := by omega
    rw [e, Nat.add_mul]
    omega
  · rw [pairsF_end h]; simp
 termination_by n - v

theorem l_impl_Graph_pairs_1 (n : Nat) (k c : Int) (s : Value) (rows : List Int) (h : VH) (hs : Sli h s rows) (hn : nro ≤ h.length) (R : Rok n rows) (v : Nat) (hv : v < n) (vs0 : List Value) (G0 : VH) (ess0 : List (List Int)) (e0 : EI (h.length + 2) vs0 G0 ess0) (hm : vs0.length ≤ v * 62) :
    ∃ a : List Value × VH, (EI (h.length + 2) a.1 a.2 (ess0 ++ pairF k c rows v n (v + 1)) ∧ G0.length ≤ a.2.length) ∧ floop (vcall F nro) nro [1, 2, 3, 7, 8, 9, 12, 13] i_impl_Graph_pairs_B1 (eH h n s vs0 G0) [.int .i64 k, .int .i64 c, bp h, eq1 h vs0.length, .int .i64 v, .int .i64 ((v + 1 : Nat) : Int), .int .i64 n, .int .i64 v] (eH h n s vs0 G0) =
      some (.exit 2, fl [(1, .int .i64 k), (2, .int .i64 c), (3, bp h), (7, eq1 h a.1.length), (12, .int .i64 n), (13, .int .i64 v)], eH h n s a.1 a.2) := by
  have hlen := R.len
  have g0 := R.le
  refine Exists.elim (for_upR (call := vcall F nro) (nro := nro) (live := [1, 2, 3, 7, 8, 9, 12, 13]) (c := i_impl_Graph_pairs_B1) (h0 := eH h n s vs0 G0) (n := n) (fun i (a : List Value × VH) => [.int .i64 k, .int .i64 c, bp h, eq1 h a.1.length, .int .i64 v, .int .i64 i, .int .i64 n, .int .i64 v]) (fun i a => eH h n s a.1 a.2)
    (fun i a => (∃ ess, EI (h.length + 2) a.1 a.2 ess ∧ ess ++ pairF k c rows v n i = ess0 ++ pairF k c rows v n (v + 1)) ∧ G0.length ≤ a.2.length ∧ a.1.length ≤ v * 62 + i ∧ v < i) (fun a => some (.exit 2, fl [(1, .int .i64 k), (2, .int .i64 c), (3, bp h), (7, eq1 h a.1.length), (12, .int .i64 n), (13, .int .i64 v)], eH h n s a.1 a.2)) ?_ ?_ (v + 1) (vs0, G0) (by omega) ⟨⟨ess0, e0, rfl⟩, Nat.le_refl _, by simp; omega, by omega⟩) ?_
  · rintro w ⟨vs, G⟩ hlt hlt0 ⟨⟨ess, e, hess⟩, hG, hm, hvw⟩
    dsimp only at e hG hm ⊢
    rw [floop_at i_impl_Graph_pairs_B1.eq_1]
    rw [pairF_step hlt, ← List.append_assoc] at hess
    obtain ⟨H, hH⟩ : ∃ H, H = eH h n s vs G := ⟨_, rfl⟩
    have hq : H[h.length + 1]? = some ⟨1, vs⟩ := by rw [hH]; simp
    have hbx : H[h.length]? = some ⟨0, [.int .i64 n, s]⟩ := by rw [hH]; simp
    have hHl : H.length = h.length + 2 + G.length := by rw [hH]; simp; omega
    have hnH : nro ≤ H.length := by omega
    have hc := c_impl_Graph_mayJoin (nro := nro) n v w k c s rows H (by rw [hH]; exact hs.app _) R hv hlt hnH
    have hn2 := fun k => Nat.le_trans hnH (Nat.le_add_right H.length k)
    have hn1 := fun k => Nat.le_trans hn (Nat.le_add_right h.length k)
    obtain ⟨K, hK⟩ : ∃ K, K = eH h n s vs0 G0 := ⟨_, rfl⟩
    have hold : ∀ m, ∀ x ∈ [.int .i64 k, .int .i64 c, bp h, eq1 h m, .int .i64 v, .int .i64 ((w : Int) + 1), .int .i64 n, .int .i64 v], Old (h.length + 2 + G0.length) x := by
      intro m x hx
      simp at hx
      rcases hx with rfl | rfl | rfl | rfl | rfl | rfl | rfl | rfl <;> intro r hr <;> simp [trefs, vrefs, crefs, arefs] at hr ⊢ <;> omega
    by_cases hb : mayB rows k c v w = true
    · rw [if_pos hb] at hess
      have b1 : (vs.length + 1) * 24 ≤ 1099511627776 := by omega
      have b2 : vs.length < 1099511627776 := by omega
      have hnew : H.set (h.length + 1) ⟨1, vs ++ [.slice (some ⟨H.length, 0, none⟩) 2 2]⟩ ++ [⟨1, [.int .i64 v, .int .i64 w]⟩, ⟨1, [.slice (some ⟨H.length, 0, none⟩) 2 2]⟩] = eH h n s (vs ++ [.slice (some ⟨h.length + 2 + G.length, 0, none⟩) 2 2]) (G ++ ⟨1, [.int .i64 v, .int .i64 w]⟩ :: [⟨1, [.slice (some ⟨h.length + 2 + G.length, 0, none⟩) 2 2]⟩]) := by
        rw [hHl, hH]; simp
      have e1 := e.push [(v : Int), (w : Int)] [⟨1, [.slice (some ⟨h.length + 2 + G.length, 0, none⟩) 2 2]⟩]
      obtain ⟨G1, hk, e2, e3⟩ := eH_clean (n := n) (s := s) e0 e1 (by simp; omega) (hold (vs.length + 1))
      refine ⟨(_, G1), ⟨⟨_, e2, hess⟩, e3, by simp; omega, by omega⟩, ?_⟩
      rw [← hK] at hk ⊢
      rw [← hH]
      simp at hk
      simp only [List.length_append, List.length_singleton, List.length_cons, List.length_nil]
      clear hold hHl hH hK e1 e e0 e2 hess
      simp (disch := first | assumption | omega | (simp [*] <;> omega) | fail) [hbx, hq, hget_old hq, hset_old hq, hc, hb, wrap64, hlt, hlt0, hn1, hnH, hn2, b1, b2, hnew, hk]
    · rw [if_neg hb, List.append_nil] at hess
      have hb' : mayB rows k c v w = false := by simpa using hb
      obtain ⟨G1, hk, e2, e3⟩ := eH_clean (n := n) (s := s) e0 e hG (hold vs.length)
      refine ⟨(vs, G1), ⟨⟨_, e2, hess⟩, e3, by simp; omega, by omega⟩, ?_⟩
      rw [← hK, ← hH] at hk
      rw [← hK, ← hH]
      clear hold hHl hH hK e e0 e2 hess
      simp (disch := first | assumption | omega | (simp [*] <;> omega) | fail) [hbx, hq, hc, hb', wrap64, hlt, hlt0, hnH, hn2, hk]
  · rintro ⟨vs, G⟩ _
    rw [floop_at i_impl_Graph_pairs_B1.eq_1]
    simp (disch := first | assumption | omega | (simp [*] <;> omega) | fail) []
  · rintro a ⟨⟨⟨ess, k1, k2⟩, k3, k4⟩, h2⟩
    rw [pairF_end (by omega), List.append_nil] at k2
    rw [k2] at k1
    exact ⟨a, ⟨k1, k3⟩, h2⟩

theorem l_impl_Graph_pairs_2 (n : Nat) (k c : Int) (s : Value) (rows : List Int) (h : VH) (hs : Sli h s rows) (hn : nro ≤ h.length) (R : Rok n rows) :
    ∃ a : List Value × VH, EI (h.length + 2) a.1 a.2 (pairsF k c rows n 0) ∧ floop (vcall F nro) nro [1, 2, 3, 7, 12, 13] i_impl_Graph_pairs_B2 (eH h n s [] []) [.int .i64 k, .int .i64 c, bp h, eq1 h 0, .int .i64 n, .int .i64 0] (eH h n s [] []) =
      some (.exit 0, fl [(7, eq1 h a.1.length)], eH h n s a.1 a.2) := by
  have hlen := R.len
  have g0 := R.le
  refine Exists.elim (for_upR (call := vcall F nro) (nro := nro) (live := [1, 2, 3, 7, 12, 13]) (c := i_impl_Graph_pairs_B2) (h0 := eH h n s [] []) (n := n) (fun i (a : List Value × VH) => [.int .i64 k, .int .i64 c, bp h, eq1 h a.1.length, .int .i64 n, .int .i64 i]) (fun i a => eH h n s a.1 a.2)
    (fun i a => (∃ ess, EI (h.length + 2) a.1 a.2 ess ∧ ess ++ pairsF k c rows n i = pairsF k c rows n 0) ∧ a.1.length ≤ i * 62) (fun a => some (.exit 0, fl [(7, eq1 h a.1.length)], eH h n s a.1 a.2)) ?_ ?_ 0 ([], []) (by omega) ⟨⟨[], EI.nil _ _, rfl⟩, by simp⟩) ?_
  · rintro v ⟨vs, G⟩ hlt hlt0 ⟨⟨ess, e, hess⟩, hm⟩
    dsimp only at e hm ⊢
    obtain ⟨⟨vs1, G1⟩, ⟨i2, i3⟩, i1⟩ := l_impl_Graph_pairs_1 (nro := nro) n k c s rows h hs hn R v hlt vs G ess e hm
    dsimp only at i1 i2 i3
    have i4 : vs1.length ≤ (v + 1) * 62 := by
      have := i2.len
      have := e.len
      have := pairF_len k c rows v n (v + 1) (by omega)
      simp at *
      omega
    have hold : ∀ x ∈ [.int .i64 k, .int .i64 c, bp h, eq1 h vs1.length, .int .i64 n, .int .i64 ((v : Int) + 1)], Old (h.length + 2 + ([] : VH).length) x := by
      intro x hx
      simp at hx
      rcases hx with rfl | rfl | rfl | rfl | rfl | rfl <;> intro r hr <;> simp [trefs, vrefs, crefs, arefs] at hr ⊢ <;> omega
    obtain ⟨G2, hk, e2, e3⟩ := eH_clean (n := n) (s := s) (EI.nil (h.length + 2) []) i2 (by simp) hold
    rw [pairsF_step hlt, ← List.append_assoc] at hess
    refine ⟨(vs1, G2), ⟨⟨_, e2, hess⟩, i4⟩, ?_⟩
    rw [floop_at i_impl_Graph_pairs_B2.eq_1]
    obtain ⟨K, hK⟩ : ∃ K, K = eH h n s [] [] := ⟨_, rfl⟩
    obtain ⟨H, hH⟩ : ∃ H, H = eH h n s vs G := ⟨_, rfl⟩
    obtain ⟨H1, hH1⟩ : ∃ H1, H1 = eH h n s vs1 G1 := ⟨_, rfl⟩
    have hbx : H[h.length]? = some ⟨0, [.int .i64 n, s]⟩ := by rw [hH]; simp
    rw [← hK, ← hH1] at hk
    rw [← hH, ← hH1] at i1
    rw [← hK, ← hH]
    clear hold hH hH1 hK e e2 i2 hess
    simp at i1
    simp (disch := first | assumption | omega | (simp [*] <;> omega) | fail) [hbx, wrap64, hlt, hlt0, i1, hk]
  · rintro ⟨vs, G⟩ _
    rw [floop_at i_impl_Graph_pairs_B2.eq_1]
    simp (disch := first | assumption | omega | (simp [*] <;> omega) | fail) []
  · rintro a ⟨⟨⟨ess, k1, k2⟩, _⟩, h2⟩
    rw [pairsF_end (by omega), List.append_nil] at k2
    rw [k2] at k1
    exact ⟨a, k1, h2⟩

theorem l_spec_PairsToJoin_1 (n : Nat) (k c : Int) (s : Value) (rows : List Int) (h : VH) (hs : Sli h s rows) (hn : nro ≤ h.length) (R : Rok n rows) (v : Nat) (hv : v < n) (vs0 : List Value) (G0 : VH) (ess0 : List (List Int)) (e0 : EI (h.length + 2) vs0 G0 ess0) (hm : vs0.length ≤ v * 62) :
    ∃ a : List Value × VH, (EI (h.length + 2) a.1 a.2 (ess0 ++ pairF k c rows v n (v + 1)) ∧ G0.length ≤ a.2.length) ∧ floop (vcall F nro) nro [1, 2, 3, 9, 10, 11] i_spec_PairsToJoin_B1 (eH h n s vs0 G0) [.int .i64 k, .int .i64 c, bp h, eq1 h vs0.length, .int .i64 v, .int .i64 ((v + 1 : Nat) : Int)] (eH h n s vs0 G0) =
      some (.exit 2, fl [(1, .int .i64 k), (2, .int .i64 c), (3, bp h), (9, eq1 h a.1.length), (10, .int .i64 v)], eH h n s a.1 a.2) := by
  have hlen := R.len
  have g0 := R.le
  refine Exists.elim (for_upR (call := vcall F nro) (nro := nro) (live := [1, 2, 3, 9, 10, 11]) (c := i_spec_PairsToJoin_B1) (h0 := eH h n s vs0 G0) (n := n) (fun i (a : List Value × VH) => [.int .i64 k, .int .i64 c, bp h, eq1 h a.1.length, .int .i64 v, .int .i64 i]) (fun i a => eH h n s a.1 a.2)
    (fun i a => (∃ ess, EI (h.length + 2) a.1 a.2 ess ∧ ess ++ pairF k c rows v n i = ess0 ++ pairF k c rows v n (v + 1)) ∧ G0.length ≤ a.2.length ∧ a.1.length ≤ v * 62 + i ∧ v < i) (fun a => some (.exit 2, fl [(1, .int .i64 k), (2, .int .i64 c), (3, bp h), (9, eq1 h a.1.length), (10, .int .i64 v)], eH h n s a.1 a.2)) ?_ ?_ (v + 1) (vs0, G0) (by omega) ⟨⟨ess0, e0, rfl⟩, Nat.le_refl _, by simp; omega, by omega⟩) ?_
  · rintro w ⟨vs, G⟩ hlt hlt0 ⟨⟨ess, e, hess⟩, hG, hm, hvw⟩
    dsimp only at e hG hm ⊢
    rw [floop_at i_spec_PairsToJoin_B1.eq_1]
    rw [pairF_step hlt, ← List.append_assoc] at hess
    obtain ⟨H, hH⟩ : ∃ H, H = eH h n s vs G := ⟨_, rfl⟩
    have hq : H[h.length + 1]? = some ⟨1, vs⟩ := by rw [hH]; simp
    have hbx : H[h.length]? = some ⟨0, [.int .i64 n, s]⟩ := by rw [hH]; simp
    have hHl : H.length = h.length + 2 + G.length := by rw [hH]; simp; omega
    have hnH : nro ≤ H.length := by omega
    have hc := c_spec_l07May (nro := nro) n v w k c s rows H (by rw [hH]; exact hs.app _) R hv hlt (by omega)
    have hn2 := fun k => Nat.le_trans hnH (Nat.le_add_right H.length k)
    have hn1 := fun k => Nat.le_trans hn (Nat.le_add_right h.length k)
    obtain ⟨K, hK⟩ : ∃ K, K = eH h n s vs0 G0 := ⟨_, rfl⟩
    have hold : ∀ m, ∀ x ∈ [.int .i64 k, .int .i64 c, bp h, eq1 h m, .int .i64 v, .int .i64 ((w : Int) + 1)], Old (h.length + 2 + G0.length) x := by
      intro m x hx
      simp at hx
      rcases hx with rfl | rfl | rfl | rfl | rfl | rfl <;> intro r hr <;> simp [trefs, vrefs, crefs, arefs] at hr ⊢ <;> omega
    by_cases hb : mayB rows k c v w = true
    · rw [if_pos hb] at hess
      have b1 : (vs.length + 1) * 24 ≤ 1099511627776 := by omega
      have b2 : vs.length < 1099511627776 := by omega
      have hnew : H.set (h.length + 1) ⟨1, vs ++ [.slice (some ⟨H.length, 0, none⟩) 2 2]⟩ ++ [⟨1, [.int .i64 v, .int .i64 w]⟩, ⟨1, [.slice (some ⟨H.length, 0, none⟩) 2 2]⟩] = eH h n s (vs ++ [.slice (some ⟨h.length + 2 + G.length, 0, none⟩) 2 2]) (G ++ ⟨1, [.int .i64 v, .int .i64 w]⟩ :: [⟨1, [.slice (some ⟨h.length + 2 + G.length, 0, none⟩) 2 2]⟩]) := by
        rw [hHl, hH]; simp
      have e1 := e.push [(v : Int), (w : Int)] [⟨1, [.slice (some ⟨h.length + 2 + G.length, 0, none⟩) 2 2]⟩]
      obtain ⟨G1, hk, e2, e3⟩ := eH_clean (n := n) (s := s) e0 e1 (by simp; omega) (hold (vs.length + 1))
      refine ⟨(_, G1), ⟨⟨_, e2, hess⟩, e3, by simp; omega, by omega⟩, ?_⟩
      rw [← hK] at hk ⊢
      rw [← hH]
      simp at hk
      simp only [List.length_append, List.length_singleton, List.length_cons, List.length_nil]
      clear hold hHl hH hK e1 e e0 e2 hess
      simp (disch := first | assumption | omega | (simp [*] <;> omega) | fail) [hbx, hq, hget_old hq, hset_old hq, hc, hb, wrap64, hlt, hlt0, hn1, hnH, hn2, b1, b2, hnew, hk]
    · rw [if_neg hb, List.append_nil] at hess
      have hb' : mayB rows k c v w = false := by simpa using hb
      obtain ⟨G1, hk, e2, e3⟩ := eH_clean (n := n) (s := s) e0 e hG (hold vs.length)
      refine ⟨(vs, G1), ⟨⟨_, e2, hess⟩, e3, by simp; omega, by omega⟩, ?_⟩
      rw [← hK, ← hH] at hk
      rw [← hK, ← hH]
      clear hold hHl hH hK e e0 e2 hess
      simp (disch := first | assumption | omega | (simp [*] <;> omega) | fail) [hbx, hq, hc, hb', wrap64, hlt, hlt0, hnH, hn2, hk]
  · rintro ⟨vs, G⟩ _
    rw [floop_at i_spec_PairsToJoin_B1.eq_1]
    simp (disch := first | assumption | omega | (simp [*] <;> omega) | fail) []
  · rintro a ⟨⟨⟨ess, k1, k2⟩, k3, k4⟩, h2⟩
    rw [pairF_end (by omega), List.append_nil] at k2
    rw [k2] at k1
    exact ⟨a, ⟨k1, k3⟩, h2⟩

theorem l_spec_PairsToJoin_2 (n : Nat) (k c : Int) (s : Value) (rows : List Int) (h : VH) (hs : Sli h s rows) (hn : nro ≤ h.length) (R : Rok n rows) :
    ∃ a : List Value × VH, EI (h.length + 2) a.1 a.2 (pairsF k c rows n 0) ∧ floop (vcall F nro) nro [1, 2, 3, 9, 10] i_spec_PairsToJoin_B2 (eH h n s [] []) [.int .i64 k, .int .i64 c, bp h, eq1 h 0, .int .i64 0] (eH h n s [] []) =
      some (.exit 0, fl [(9, eq1 h a.1.length)], eH h n s a.1 a.2) := by
  have hlen := R.len
  have g0 := R.le
  refine Exists.elim (for_upR (call := vcall F nro) (nro := nro) (live := [1, 2, 3, 9, 10]) (c := i_spec_PairsToJoin_B2) (h0 := eH h n s [] []) (n := n) (fun i (a : List Value × VH) => [.int .i64 k, .int .i64 c, bp h, eq1 h a.1.length, .int .i64 i]) (fun i a => eH h n s a.1 a.2)
    (fun i a => (∃ ess, EI (h.length + 2) a.1 a.2 ess ∧ ess ++ pairsF k c rows n i = pairsF k c rows n 0) ∧ a.1.length ≤ i * 62) (fun a => some (.exit 0, fl [(9, eq1 h a.1.length)], eH h n s a.1 a.2)) ?_ ?_ 0 ([], []) (by omega) ⟨⟨[], EI.nil _ _, rfl⟩, by simp⟩) ?_
  · rintro v ⟨vs, G⟩ hlt hlt0 ⟨⟨ess, e, hess⟩, hm⟩
    dsimp only at e hm ⊢
    obtain ⟨⟨vs1, G1⟩, ⟨i2, i3⟩, i1⟩ := l_spec_PairsToJoin_1 (nro := nro) n k c s rows h hs hn R v hlt vs G ess e hm
    dsimp only at i1 i2 i3
    have i4 : vs1.length ≤ (v + 1) * 62 := by
      have := i2.len
      have := e.len
      have := pairF_len k c rows v n (v + 1) (by omega)
      simp at *
      omega
    have hold : ∀ x ∈ [.int .i64 k, .int .i64 c, bp h, eq1 h vs1.length, .int .i64 ((v : Int) + 1)], Old (h.length + 2 + ([] : VH).length) x := by
      intro x hx
      simp at hx
      rcases hx with rfl | rfl | rfl | rfl | rfl <;> intro r hr <;> simp [trefs, vrefs, crefs, arefs] at hr ⊢ <;> omega
    obtain ⟨G2, hk, e2, e3⟩ := eH_clean (n := n) (s := s) (EI.nil (h.length + 2) []) i2 (by simp) hold
    rw [pairsF_step hlt, ← List.append_assoc] at hess
    refine ⟨(vs1, G2), ⟨⟨_, e2, hess⟩, i4⟩, ?_⟩
    rw [floop_at i_spec_PairsToJoin_B2.eq_1]
    obtain ⟨K, hK⟩ : ∃ K, K = eH h n s [] [] := ⟨_, rfl⟩
    obtain ⟨H, hH⟩ : ∃ H, H = eH h n s vs G := ⟨_, rfl⟩
    obtain ⟨H1, hH1⟩ : ∃ H1, H1 = eH h n s vs1 G1 := ⟨_, rfl⟩
    have hbx : H[h.length]? = some ⟨0, [.int .i64 n, s]⟩ := by rw [hH]; simp
    rw [← hK, ← hH1] at hk
    rw [← hH, ← hH1] at i1
    rw [← hK, ← hH]
    clear hold hH hH1 hK e e2 i2 hess
    simp at i1
    simp (disch := first | assumption | omega | (simp [*] <;> omega) | fail) [hbx, wrap64, hlt, hlt0, i1, hk]
  · rintro ⟨vs, G⟩ _
    rw [floop_at i_spec_PairsToJoin_B2.eq_1]
    simp (disch := first | assumption | omega | (simp [*] <;> omega) | fail) []
  · rintro a ⟨⟨⟨ess, k1, k2⟩, _⟩, h2⟩
    rw [pairsF_end (by omega), List.append_nil] at k2
    rw [k2] at k1
    exact ⟨a, k1, h2⟩

theorem c_impl_Graph_pairs (n : Nat) (k c : Int) (s : Value) (rows : List Int) (h : VH) (hs : Sli h s rows) (hn : nro ≤ h.length) (R : Rok n rows) :
    ∃ v M, vcall F nro k_impl_Graph_pairs [gv n s, .int .i64 k, .int .i64 c] h = some (v, h ++ M) ∧ SL2 h.length M v (pairsF k c rows n 0) := by
  have hn' := fun k => Nat.le_trans hn (Nat.le_add_right h.length k)
  obtain ⟨⟨vs', G'⟩, l2, l1⟩ := l_impl_Graph_pairs_2 (nro := nro) n k c s rows h hs hn R
  obtain ⟨v, M, k1, k2⟩ := EI.fin1 (h := h) (pre := [⟨0, [.int .i64 n, s]⟩]) l2
  refine ⟨v, M, ?_, k2⟩
  refine v_impl_Graph_pairs (by simp [i_impl_Graph_pairs]) ?_
  rw [fbody_eq]
  simp at l1 k1
  simp (disch := first | assumption | omega | (simp [*] <;> omega) | fail) [i_impl_Graph_pairs, l1, hn', k1]

theorem c_impl_PairsToJoin (n k c : Int) (s : Value) (rows : List Int) (h : VH) (hs : Sli h s rows) (hn : nro ≤ h.length) (hz : fitC n rows k c = 0) :
    ∃ v M, vcall F nro k_impl_PairsToJoin [gv n s, .int .i64 k, .int .i64 c] h = some (.tuple #[v, .int .i64 0], h ++ M) ∧ SL2 h.length M v (pairsF k c rows n.toNat 0) := by
  have hn' := fun k => Nat.le_trans hn (Nat.le_add_right h.length k)
  have hc := c_impl_fitCode (nro := nro) n k c s rows (bx h n s) (hs.app _) (by simp; omega)
  have g := fitC_gv hz
  have hlo := g.lo
  obtain ⟨N, rfl⟩ : ∃ N : Nat, n = N := ⟨n.toNat, by omega⟩
  rw [hz] at hc
  rw [Int.toNat_natCast]
  obtain ⟨q, M, he, hS⟩ := c_impl_Graph_pairs (nro := nro) N k c s rows (bx h N s) (hs.app _) (by simp; omega) g.rok
  have hS' : SL2 (h.length + [(⟨0, [.int .i64 N, s]⟩ : VO)].length) M q (pairsF k c rows N 0) := by simpa using hS
  obtain ⟨v, M', k1, k2⟩ := hS'.fwdC .i64 0
  refine ⟨v, M', ?_, k2⟩
  refine v_impl_PairsToJoin (by simp [i_impl_PairsToJoin]) ?_
  rw [fbody_eq]
  simp at he k1
  obtain ⟨a, m, rfl⟩ := hS.shape
  clear hz hS hS' k2
  simp (disch := first | assumption | omega | (simp [*] <;> omega) | fail) [i_impl_PairsToJoin, hc, he, k1, fresults, fresL, fres1, hn', hn]
theorem c_impl_PairsToJoin_bad (n k c : Int) (s : Value) (rows : List Int) (h : VH) (hs : Sli h s rows) (hn : nro ≤ h.length) (hz : fitC n rows k c ≠ 0) :
    vcall F nro k_impl_PairsToJoin [gv n s, .int .i64 k, .int .i64 c] h = some (.tuple #[.slice none 0 0, .int .i64 (fitC n rows k c)], h) := by
  have hn' := fun k => Nat.le_trans hn (Nat.le_add_right h.length k)
  have hc := c_impl_fitCode (nro := nro) n k c s rows (bx h n s) (hs.app _) (by simp; omega)
  obtain ⟨x, hx⟩ : ∃ x, x = fitC n rows k c := ⟨_, rfl⟩
  rw [← hx] at hc hz ⊢
  clear hx
  refine v_impl_PairsToJoin (by simp [i_impl_PairsToJoin]) ?_
  rw [fbody_eq]
  simp (disch := first | assumption | omega | (simp [*] <;> omega) | fail) [i_impl_PairsToJoin, hc, hz, fresults, fresL, fres1, hn', hn]

theorem c_spec_PairsToJoin (n k c : Int) (s : Value) (rows : List Int) (h : VH) (hs : Sli h s rows) (hn : nro ≤ h.length) (hz : fitC n rows k c = 0) :
    ∃ v M, vcall F nro k_spec_PairsToJoin [gv n s, .int .i64 k, .int .i64 c] h = some (.tuple #[v, .int .i64 0], h ++ M) ∧ SL2 h.length M v (pairsF k c rows n.toNat 0) := by
  have hn' := fun k => Nat.le_trans hn (Nat.le_add_right h.length k)
  have hc := c_spec_l07Given (nro := nro) n k c s rows (bx h n s) (hs.app _) (by simp; omega)
  have g := fitC_gv hz
  have hlo := g.lo
  obtain ⟨N, rfl⟩ : ∃ N : Nat, n = N := ⟨n.toNat, by omega⟩
  rw [hz] at hc
  rw [Int.toNat_natCast]
  obtain ⟨⟨vs', G'⟩, l2, l1⟩ := l_spec_PairsToJoin_2 (nro := nro) N k c s rows h hs hn g.rok
  obtain ⟨v, M, k1, k2⟩ := EI.finC (h := h) (pre := [⟨0, [.int .i64 N, s]⟩]) l2 .i64 0
  refine ⟨v, M, ?_, k2⟩
  refine v_spec_PairsToJoin (by simp [i_spec_PairsToJoin]) ?_
  rw [fbody_eq]
  simp at l1 k1
  clear hz k2
  simp (disch := first | assumption | omega | (simp [*] <;> omega) | fail) [i_spec_PairsToJoin, hc, l1, k1, fresults, fresL, fres1, hn', hn]
theorem c_spec_PairsToJoin_bad (n k c : Int) (s : Value) (rows : List Int) (h : VH) (hs : Sli h s rows) (hn : nro ≤ h.length) (hz : fitC n rows k c ≠ 0) :
    vcall F nro k_spec_PairsToJoin [gv n s, .int .i64 k, .int .i64 c] h = some (.tuple #[.slice none 0 0, .int .i64 (fitC n rows k c)], h) := by
  have hn' := fun k => Nat.le_trans hn (Nat.le_add_right h.length k)
  have hc := c_spec_l07Given (nro := nro) n k c s rows (bx h n s) (hs.app _) (by simp; omega)
  obtain ⟨x, hx⟩ : ∃ x, x = fitC n rows k c := ⟨_, rfl⟩
  rw [← hx] at hc hz ⊢
  clear hx
  refine v_spec_PairsToJoin (by simp [i_spec_PairsToJoin]) ?_
  rw [fbody_eq]
  simp (disch := first | assumption | omega | (simp [*] <;> omega) | fail) [i_spec_PairsToJoin, hc, hz, fresults, fresL, fres1, hn', hn]

theorem pairF_el (k c : Int) (rows : List Int) (v n w : Nat) : ∀ e ∈ pairF k c rows v n w, e.length = 2 := by
  by_cases h : w < n
  · rw [pairF_step h]
    intro e he
    rcases List.mem_append.mp he with h1 | h1
    · split at h1
      · simp at h1; rw [h1]; rfl
      · cases h1
    · exact pairF_el k c rows v n (w + 1) e h1
  · rw [pairF_end h]; intro e he; cases he
 termination_by n - w
theorem pairsF_el (k c : Int) (rows : List Int) (n v : Nat) : ∀ e ∈ pairsF k c rows n v, e.length = 2 := by
  by_cases h : v < n
  · rw [pairsF_step h]
    intro e he
    rcases List.mem_append.mp he with h1 | h1
    · exact pairF_el k c rows v n (v + 1) e h1
    · exact pairsF_el k c rows n (v + 1) e h1
  · rw [pairsF_end h]; intro e he; cases he
 termination_by n - v
end Go.Proofs.YthpgiimaadohcaaDoor.Zv

/- The law of PairsToJoin. -/
namespace Go.Proofs.YthpgiimaadohcaaDoor.Zv
open Go
variable {nro : Nat}

theorem law_PairsToJoin (n : Int) (s : Value) (rows : List Int) (k c : Int) (h : VH) (hs : Sli h s rows) (h3 : rows.length ≤ 9223372036854775807) (_ : -9223372036854775808 ≤ k) (_ : k ≤ 9223372036854775807) (_ : -9223372036854775808 ≤ c) (_ : c ≤ 9223372036854775807) (hn : nro ≤ h.length) :
    vcall F nro k_laws_FnExactPairsToJoin [gv n s, .int .i64 k, .int .i64 c] h = some (.bool true, h) := by
  refine v_laws_FnExactPairsToJoin (by simp [i_laws_FnExactPairsToJoin]) ?_
  rw [fbody_eq]
  have hc1 := c_laws_szGraph (nro := nro) n s rows 1048576 (bx h n s) (hs.app _) (by omega) (by omega) h3
  by_cases hr : 1048576 < (rows.length : Int)
  · rw [if_pos hr] at hc1
    simp (disch := first | assumption | omega | (simp [*] <;> omega) | fail) [i_laws_FnExactPairsToJoin, hc1]
  · rw [if_neg hr] at hc1
    have hr2 : ¬ (1048576 - (rows.length : Int) < 0) := by omega
    have h5 : rows.length ≤ 1048576 := by omega
    have hn' := fun k => Nat.le_trans hn (Nat.le_add_right h.length k)
    have t0 := c_laws_toGraph (nro := nro) n s rows (bx h n s) (hs.app _) (by omega) (by simp; omega)
    by_cases hz : fitC n rows k c = 0
    · have hlo := (fitC_gv hz).lo
      have hhi := (fitC_gv hz).hi
      have hrl := (fitC_gv hz).len
      have el : ∀ e ∈ pairsF k c rows n.toNat 0, e.length ≤ 100000 := fun e he => by rw [pairsF_el k c rows n.toNat 0 e he]; omega
      have ln := pairsF_len k c rows n.toNat 0 (by omega)
      -- the reference's answer
      obtain ⟨w0, Mw, cw, sw⟩ := c_spec_PairsToJoin (nro := nro) n k c (.slice (some ⟨h.length + 1, 0, none⟩) rows.length rows.length) rows (bx h n s ++ [⟨1, ints rows⟩]) (sli_at (by simp)) (by simp; omega) hz
      obtain ⟨es, hes⟩ : ∃ es, es = pairsF k c rows n.toNat 0 := ⟨_, rfl⟩
      rw [← hes] at sw el ln
      have lw := sw.ll
      obtain ⟨aw, mw, rfl⟩ := sw.shape
      obtain ⟨Hb, hHb⟩ : ∃ Hb, Hb = bx h n s ++ [⟨1, ints rows⟩] ++ Mw := ⟨_, rfl⟩
      rw [← hHb] at cw lw
      have b1 : Hb[h.length]? = some ⟨0, [.int .i64 n, s]⟩ := by rw [hHb]; simp
      have b2 : h.length < Hb.length := by rw [hHb]; simp
      have nb : ∀ k, nro ≤ Hb.length + k := fun k => by omega
      have b3 : Hb.take h.length = h := by rw [hHb]; simp
      have bs : Sli Hb s rows := by rw [hHb]; exact ((hs.app _).app _).app _
      have t1 := c_laws_toGraph (nro := nro) n s rows Hb bs (by omega) (by omega)
      -- the program's
      obtain ⟨P, hP⟩ : ∃ P : VH, P = Hb ++ [⟨1, ints rows⟩, ⟨0, [.int .i64 n, .slice (some ⟨Hb.length, 0, none⟩) rows.length rows.length]⟩] := ⟨_, rfl⟩
      obtain ⟨g0, Mg, cg, sg⟩ := c_impl_PairsToJoin (nro := nro) n k c (.slice (some ⟨Hb.length, 0, none⟩) rows.length rows.length) rows P (sli_at (by rw [hP]; simp)) (by rw [hP]; simp; omega) hz
      rw [← hes] at sg
      have lg := sg.ll
      obtain ⟨ag, mg, rfl⟩ := sg.shape
      obtain ⟨P', hP'⟩ : ∃ P' : VH, P' = Hb ++ [⟨1, ints (cnt 1 rows.length)⟩, ⟨0, [.int .i64 n, .slice (some ⟨Hb.length, 0, none⟩) rows.length rows.length]⟩] := ⟨_, rfl⟩
      have pl : P'.length = P.length := by rw [hP, hP']; simp
      rw [← pl] at sg
      obtain ⟨Mg', mk1, mk2, sg'⟩ := c_laws_markInt64SS (nro := nro) P' Mg [⟨1, ints rows⟩] _ es sg (by rw [hP']; simp; omega) el (by omega)
      have hP0 := hP
      obtain ⟨Hc, hHc⟩ : ∃ Hc, Hc = P ++ Mg := ⟨_, rfl⟩
      obtain ⟨Hd, hHd⟩ : ∃ Hd, Hd = P' ++ (Mg ++ [⟨1, ints rows⟩]) := ⟨_, rfl⟩
      obtain ⟨He, hHe⟩ : ∃ He, He = P' ++ (Mg' ++ [⟨1, ints rows⟩]) := ⟨_, rfl⟩
      rw [← hHc] at cg lg
      rw [← hHd, ← hHe] at mk1
      -- what is read in these heaps
      have wl := fun L => lw.app L
      have wc : ∀ L, LL (Hc ++ L) (.slice (some aw) mw mw) es := fun L => by
        have := lw.app (([⟨1, ints rows⟩, ⟨0, [.int .i64 n, .slice (some ⟨Hb.length, 0, none⟩) rows.length rows.length]⟩] : VH) ++ (Mg ++ L))
        rw [hHc, hP]; simpa using this
      have wd : LL Hd (.slice (some aw) mw mw) es := by
        have := lw.app (([⟨1, ints (cnt 1 rows.length)⟩, ⟨0, [.int .i64 n, .slice (some ⟨Hb.length, 0, none⟩) rows.length rows.length]⟩] : VH) ++ (Mg ++ [⟨1, ints rows⟩]))
        rw [hHd, hP']; simpa using this
      have we : ∀ L, LL (He ++ L) (.slice (some aw) mw mw) es := fun L => by
        have := lw.app (([⟨1, ints (cnt 1 rows.length)⟩, ⟨0, [.int .i64 n, .slice (some ⟨Hb.length, 0, none⟩) rows.length rows.length]⟩] : VH) ++ (Mg' ++ [⟨1, ints rows⟩] ++ L))
        rw [hHe, hP']; simpa using this
      have gd : LL Hd (.slice (some ag) mg mg) es := by
        have := sg.ll.app ([⟨1, ints rows⟩] : VH)
        rw [hHd]; simpa using this
      have ge : ∀ L, LL (He ++ L) (.slice (some ag) mg mg) (mks 1 es) := fun L => by
        have := sg'.ll.app (([⟨1, ints rows⟩] : VH) ++ L)
        rw [hHe]; simpa using this
      have c0 : Hc[Hb.length]? = some ⟨1, ints rows⟩ := by rw [hHc, hP]; simp
      have c1 : Hc[Hb.length + 1]? = some ⟨0, [.int .i64 n, .slice (some ⟨Hb.length, 0, none⟩) rows.length rows.length]⟩ := by rw [hHc, hP]; simp
      have c2 : Hc[h.length]? = some ⟨0, [.int .i64 n, s]⟩ := by rw [hHc, hP, List.append_assoc, List.getElem?_append_left b2]; exact b1
      have d0 : Hd[h.length]? = some ⟨0, [.int .i64 n, s]⟩ := by rw [hHd, hP', List.append_assoc, List.getElem?_append_left b2]; exact b1
      have e0 : He[h.length]? = some ⟨0, [.int .i64 n, s]⟩ := by rw [hHe, hP', List.append_assoc, List.getElem?_append_left b2]; exact b1
      have cs : Sli Hc s rows := by rw [hHc, hP]; exact (bs.app _).app _
      have es' : Sli He s rows := by rw [hHe, hP']; exact (bs.app _).app _
      have hcl : nro ≤ Hc.length := by rw [hHc, hP]; simp; omega
      have hel : nro ≤ He.length := by rw [hHe, hP']; simp; omega
      have het : ∀ L, (He ++ L).take h.length = h := fun L => by
        have : h.length ≤ Hb.length := by omega
        rw [hHe, hP', List.append_assoc, List.append_assoc, List.take_append_of_le_length this]
        exact b3
      have q1 := c_laws_eqInt64SS (nro := nro) _ _ es es Hc lg (by have := wc []; rwa [List.append_nil] at this) (by omega) el
      have t2 := c_laws_toGraph (nro := nro) n s rows Hc cs (by omega) hcl
      have q2 := c_laws_eqGraph (nro := nro) n n (.slice (some ⟨Hb.length, 0, none⟩) rows.length rows.length) (.slice (some ⟨Hc.length, 0, none⟩) rows.length rows.length) rows rows (Hc ++ [⟨1, ints rows⟩]) (sli_at (hget_old c0 _)) (sli_at (by simp)) (by omega)
      have q3 := r_laws_markGraph (nro := nro) n Hb.length rows.length 1 (Hc ++ [⟨1, ints rows⟩]) (sli_at (hget_old c0 _)).is (by omega) (by omega) (by omega)
      have q3' : List.set (Hc ++ [⟨1, ints rows⟩] : VH) Hb.length ⟨1, ints (cnt 1 rows.length)⟩ = Hd := by rw [hHc, hHd, hP, hP']; simp
      rw [q3'] at q3
      have q4 := c_laws_eqInt64SS (nro := nro) _ _ es es Hd gd wd (by omega) el
      have ge0 := ge []
      rw [List.append_nil] at ge0
      have elm : ∀ e ∈ mks 1 es, e.length ≤ 100000 := by
        have : ∀ (l : List (List Int)) (k : Int), (∀ e ∈ l, e.length ≤ 100000) → ∀ e ∈ mks k l, e.length ≤ 100000 := by
          intro l
          induction l with
          | nil => intro k _ e he; cases he
          | cons x l ih =>
            intro k hx e he
            rcases List.mem_cons.mp he with rfl | he
            · have := hx x (List.mem_cons_self ..); simpa using this
            · exact ih _ (fun e he => hx e (List.mem_cons_of_mem _ he)) e he
        exact this es 1 el
      have q5 := c_laws_heldInt64SS (nro := nro) He _ _ ge0 (mks_mks 1 es) elm (by rw [mks_len]; omega)
      rw [mks_tot] at q5
      have t3 := c_laws_toGraph (nro := nro) n s rows He es' (by omega) hel
      obtain ⟨h0, Mh, ch, sh⟩ := c_impl_PairsToJoin (nro := nro) n k c (.slice (some ⟨He.length, 0, none⟩) rows.length rows.length) rows (He ++ [⟨1, ints rows⟩]) (sli_at (by simp)) (by simp; omega) hz
      have lh := sh.ll
      obtain ⟨ah, mh, rfl⟩ := sh.shape
      rw [← hes] at sh lh
      obtain ⟨Hf, hHf⟩ : ∃ Hf, Hf = He ++ [⟨1, ints rows⟩] ++ Mh := ⟨_, rfl⟩
      rw [← hHf] at ch lh
      have wf : LL Hf (.slice (some aw) mw mw) es := by rw [hHf, List.append_assoc]; exact we _
      have gf : LL Hf (.slice (some ag) mg mg) (mks 1 es) := by rw [hHf, List.append_assoc]; exact ge _
      have q6 := c_laws_eqInt64SS (nro := nro) _ _ es es Hf lh wf (by omega) el
      have q7 := c_laws_heldInt64SS (nro := nro) Hf _ _ gf (mks_mks 1 es) elm (by rw [mks_len]; omega)
      rw [mks_tot] at q7
      have q8 : kclean h [.bool true] Hf = ([.bool true], h) := kclean_take (by rw [hHf, List.append_assoc]; exact het _) (by simp)
      have p2 : ¬ (1 + (tot es : Int)) < 0 := by omega
      have p3 : ¬ (1 + (rows.length : Int)) < 0 := by omega
      simp only [decide_true] at q1 q2 q4 q6
      clear hP hP' pl sg sg' hHc hHd hHe hHf hHb lw lg wl wc wd we gd ge lh wf gf het ge0 elm el sh sw mk2 hes q3' ln b3 bs cs es' hz b2
      simp at t0 cw
      rw [hP0] at cg
      simp (disch := first | assumption | omega | (simp [*] <;> omega) | fail) [i_laws_FnExactPairsToJoin, hc1, hr2, t0, cw, b1, t1, cg, q1, c0, c1, c2, hget_old c0, hget_old c1, hget_old c2, hget_old d0, hget_old e0, t2, q2, q3, q4, d0, mk1, q5, e0, t3, ch, q6, q7, q8, p2, p3, nb]
    · have hsi := fun L => hs.is' (L := L)
      have hsr := fun L => hs.rd' (L := L)
      have c1 := fun t h' (is : isSli h' t) (er : rd h' t = rows) hn => c_spec_PairsToJoin_bad (nro := nro) n k c t rows h' (by rw [← er]; exact is.sli) hn hz
      have c2 := fun t h' (is : isSli h' t) (er : rd h' t = rows) hn => c_impl_PairsToJoin_bad (nro := nro) n k c t rows h' (by rw [← er]; exact is.sli) hn hz
      have q1 := fun h' => c_laws_eqInt64SS (nro := nro) (.slice none 0 0) (.slice none 0 0) [] [] h' (LL.nil _) (LL.nil _) (by simp) (by simp)
      have q2 := fun h' => c_laws_heldInt64SS (nro := nro) h' (.slice none 0 0) [] (LL.nil _) rfl (by simp) (by simp)
      have p2 : ¬ (1 + (rows.length : Int)) < 0 := by omega
      clear hs t0
      obtain ⟨x, hx⟩ : ∃ x, x = fitC n rows k c := ⟨_, rfl⟩
      rw [← hx] at c1 c2
      clear hx hz
      simp (disch := first | assumption | omega | (simp [*] <;> omega) | fail) [i_laws_FnExactPairsToJoin, hc1, hr2, r_laws_toGraph, c1, c2, q1, q2, c_laws_markInt64SS_nil, r_laws_eqGraph, r_laws_markGraph, hsi, hsr, hn', hn, h5, p2, tot]
end Go.Proofs.YthpgiimaadohcaaDoor.Zv

