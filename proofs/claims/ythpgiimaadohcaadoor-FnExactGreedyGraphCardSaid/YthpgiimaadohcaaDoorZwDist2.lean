/- The program's distances from a vertex. -/
import Derived.Test.YthpgiimaadohcaaDoorZwDist
namespace Go.Proofs.YthpgiimaadohcaaDoor.Zv
open Go
variable {nro : Nat}

/-- The number d at some places. -/
def setAll (o : List Int) (d : Nat) : List Int → List Int
  | [] => o
  | y :: l => setAll (o.set y.toNat d) d l
theorem setAll_len (d : Nat) : ∀ (l : List Int) (o : List Int), (setAll o d l).length = o.length
  | [], _ => rfl
  | y :: l, o => by simp [setAll, setAll_len d l]
theorem setAll_get (d b : Nat) : ∀ (l : List Int) (o : List Int), b < o.length → (∀ y ∈ l, 0 ≤ y) → (setAll o d l).getD b 0 = if (b : Int) ∈ l then (d : Int) else o.getD b 0
  | [], o, _, _ => by simp [setAll]
  | y :: l, o, hb, h0 => by
    have h1 := h0 y (List.mem_cons_self ..)
    rw [setAll, setAll_get d b l _ (by simpa using hb) fun z hz => h0 z (List.mem_cons_of_mem _ hz)]
    by_cases h2 : (b : Int) ∈ l
    · rw [if_pos h2, if_pos (List.mem_cons_of_mem _ h2)]
    · rw [if_neg h2]
      by_cases h3 : (b : Int) = y
      · rw [if_pos (by rw [h3]; exact List.mem_cons_self ..)]
        have : y.toNat = b := by omega
        rw [this, List.getD_eq_getElem?_getD, List.getElem?_set_self hb]
        rfl
      · rw [if_neg (by simp [h3, h2])]
        rw [List.getD_eq_getElem?_getD, List.getElem?_set_ne (by omega), ← List.getD_eq_getElem?_getD]

/-- The heap of the search: the graph, the number -1 that was repeated, the distances. -/
def dh (h : VH) (n : Nat) (s : Value) (o : List Int) : VH := h ++ [⟨0, [.int .i64 n, s]⟩, ⟨1, [.int .i64 (-1)]⟩, ⟨1, ints o⟩]

theorem l_impl_Graph_distances_1 (h : VH) (n : Nat) (s : Value) (rows : List Int) (hs : Sli h s rows) (R : Rok n rows) (hn : nro ≤ h.length) (met d : Nat) (L : List Int) (hL : ∀ y ∈ L, 0 ≤ y ∧ y < n) (hLl : L.length ≤ 62) (o0 : List Int)
    (k j : Nat) (hk : k = L.length - j) (hj : j ≤ L.length) (o : List Int) (ho : o.length = n) (acc : Nat) (ha : acc < 2 ^ 62) :
    floop (vcall F nro) nro [2, 5, 6, 8, 9, 25, 26, 27] i_impl_Graph_distances_B1 (dh h n s o0 ++ [⟨1, ints L⟩]) [bp h, .slice (some ⟨h.length + 2, 0, none⟩) n n, .int .i64 met, .int .i64 d, .int .i64 acc, .slice (some ⟨h.length + 3, 0, none⟩) L.length L.length, .int .i64 L.length, .int .i64 j] (dh h n s o ++ [⟨1, ints L⟩]) =
      some (.exit 2, fl [(2, bp h), (5, .slice (some ⟨h.length + 2, 0, none⟩) n n), (6, .int .i64 met), (8, .int .i64 d), (9, .int .i64 ((acc ||| orL rows (L.drop j) : Nat) : Int))], dh h n s (setAll o d (L.drop j)) ++ [⟨1, ints L⟩]) := by
  have hn' := fun k => Nat.le_trans hn (Nat.le_add_right h.length k)
  have hsc := fun k => hs.oldCk (k := k)
  have hle := R.le
  have hlen := R.len
  unfold dh
  rw [floop_at i_impl_Graph_distances_B1.eq_1]
  by_cases hlt : j < L.length
  · obtain ⟨y, hy⟩ : ∃ y : Nat, L[j] = (y : Int) := by
      have := hL L[j] (List.getElem_mem hlt)
      exact ⟨L[j].toNat, by omega⟩
    have hyn : y < n := by
      have := hL L[j] (List.getElem_mem hlt)
      omega
    have hyr : y < rows.length := by omega
    have hyo : y < o.length := by omega
    obtain ⟨r1, r2⟩ := R.row y hyn
    have r3 := le62 hle r2
    have hor := ior_nat (a := acc) (b := (rows.getD y 0).toNat) (by omega) (by omega)
    have e1 : (((rows.getD y 0).toNat : Nat) : Int) = rows[y]'hyr := by rw [getD_at rows hyr] at r1 ⊢; omega
    rw [e1] at hor
    have vx := fun L => (hs.app L).vidx (k := .i64) (j := (y : Int)) (by omega) (by omega)
    have vl := fun L => (hs.app L).vload hyr
    have hlt' : (j : Int) < L.length := by omega
    have ih := l_impl_Graph_distances_1 h n s rows hs R hn met d L hL hLl o0 (k - 1) (j + 1) (by omega) hlt (o.set y d) (by simpa using ho) (acc ||| (rows.getD y 0).toNat) (Nat.or_lt_two_pow ha r3)
    rw [show ((j + 1 : Nat) : Int) = (j : Int) + 1 by omega] at ih
    rw [List.drop_eq_getElem_cons hlt, hy]
    simp only [orL, setAll, Int.toNat_natCast]
    rw [← Nat.or_assoc]
    obtain ⟨a2, ha2⟩ : ∃ a2, a2 = acc ||| (rows.getD y 0).toNat := ⟨_, rfl⟩
    rw [← ha2] at ih hor ⊢
    obtain ⟨q, hq⟩ : ∃ q, q = orL rows (L.drop (j + 1)) := ⟨_, rfl⟩
    rw [← hq] at ih ⊢
    obtain ⟨q2, hq2⟩ : ∃ q2, q2 = setAll (o.set y d) d (L.drop (j + 1)) := ⟨_, rfl⟩
    rw [← hq2] at ih ⊢
    unfold dh at ih
    simp at ih
    have hyn' : (y : Int) < n := by omega
    have sp := splice_ints (v := (d : Int)) hyo
    have t1 := take1_ints (xs := L) hlt
    rw [hy] at t1
    clear ha2 hq hq2 r1 r2 r3 e1 hL hk
    simp (disch := first | assumption | omega | (simp [*] <;> omega) | fail) [wrap64, hlt', hlt, vx, vl, hor, hsc, ih, hn', hn, hyn', hyn, ho, hyo, sp, t1, hy]
  · have hlt' : ¬ (j : Int) < L.length := by omega
    rw [List.drop_eq_nil_of_le (by omega)]
    simp only [orL, setAll, Nat.or_zero]
    simp (disch := first | assumption | omega | (simp [*] <;> omega) | fail) [hlt']
 termination_by k
 decreasing_by omega

/-- The list of the levels. -/
def dl (rows : List Int) (met f d : Nat) (o : List Int) : List Int :=
  if f = 0 then o else
    if h : met < (met ||| nxt rows f) ∧ (met ||| nxt rows f) < 2 ^ 62 then dl rows (met ||| nxt rows f) (nand (nxt rows f) met) (d + 1) (setAll o d (bitL f)) else setAll o d (bitL f)
 termination_by 2 ^ 62 - met
 decreasing_by omega
theorem dl_zero {rows : List Int} {met d : Nat} {o : List Int} : dl rows met 0 d o = o := by rw [dl, if_pos rfl]
theorem dl_step {n : Nat} {rows : List Int} (R : Rok n rows) {met f d : Nat} {o : List Int} (hm : met < 2 ^ n) (hf : f < 2 ^ n) (h0 : ¬ f = 0) :
    dl rows met f d o = dl rows (met ||| nxt rows f) (nand (nxt rows f) met) (d + 1) (setAll o d (bitL f)) := by
  have h2 := le62 R.le (Nat.or_lt_two_pow hm (nxt_lt R hf))
  by_cases h1 : met < met ||| nxt rows f
  · conv => lhs; rw [dl]
    rw [if_neg h0, dif_pos ⟨h1, h2⟩]
  · conv => lhs; rw [dl]
    rw [if_neg h0, dif_neg (fun h => h1 h.1), or_or_zero (rows := rows) h1, dl_zero]
theorem dl_len {rows : List Int} {met f d : Nat} {o : List Int} : (dl rows met f d o).length = o.length := by
  rw [dl]
  split
  · rfl
  · split
    · rw [dl_len, setAll_len]
    · rw [setAll_len]
 termination_by 2 ^ 62 - met
 decreasing_by omega

/-- What is met already and not in front keeps its number. -/
theorem dl_old {n : Nat} {rows : List Int} (R : Rok n rows) (b : Nat) (hb : b < n) (met f d : Nat) (o : List Int) (ho : o.length = n) (hm : met < 2 ^ n) (hf : f < 2 ^ n) (h1 : met.testBit b = true) (h2 : f.testBit b = false) :
    (dl rows met f d o).getD b 0 = o.getD b 0 := by
  by_cases h0 : f = 0
  · subst h0; rw [dl_zero]
  · have hx := nxt_lt R hf
    have hnl := nand_le (nxt rows f) met
    have hs : (setAll o d (bitL f)).getD b 0 = o.getD b 0 := by
      rw [setAll_get d b _ _ (by omega) fun y hy => (bitL_lt hf y hy).1, if_neg]
      intro h
      have := (bitL_mem f b).mp h
      rw [Int.toNat_natCast] at this
      rw [h2] at this
      exact Bool.noConfusion this.2.2
    by_cases h3 : met < met ||| nxt rows f
    · have := dl_old R b hb (met ||| nxt rows f) (nand (nxt rows f) met) (d + 1) (setAll o d (bitL f)) (by rw [setAll_len]; exact ho) (Nat.or_lt_two_pow hm hx) (by omega) (by rw [Nat.testBit_or, h1]; rfl) (by rw [nand_bit, h1]; simp)
      rw [dl_step R hm hf h0, this, hs]
    · rw [dl_step R hm hf h0, or_or_zero (rows := rows) h3, dl_zero, hs]
 termination_by 2 ^ n - met
 decreasing_by
  have := Nat.or_lt_two_pow hm hx
  omega

theorem dl_get {n : Nat} {rows : List Int} (R : Rok n rows) (b : Nat) (hb : b < n) (met f d : Nat) (o : List Int) (ho : o.length = n) (hm : met < 2 ^ n) (hf : f < 2 ^ n) (hfm : ∀ j, f.testBit j = true → met.testBit j = true) :
    (dl rows met f d o).getD b 0 = if lev rows met f d b < 0 then o.getD b 0 else lev rows met f d b := by
  by_cases h0 : f = 0
  · subst h0; rw [dl_zero, lev_zero]; rfl
  · have hx := nxt_lt R hf
    have hnl := nand_le (nxt rows f) met
    have hs : (setAll o d (bitL f)).getD b 0 = if f.testBit b = true then (d : Int) else o.getD b 0 := by
      rw [setAll_get d b _ _ (by omega) fun y hy => (bitL_lt hf y hy).1]
      have hl := R.le
      have e : ((b : Int) ∈ bitL f) ↔ f.testBit b = true := by
        rw [bitL_mem, Int.toNat_natCast]
        exact ⟨fun h => h.2.2, fun h => ⟨by omega, by omega, h⟩⟩
      simp only [e]
    rw [dl_step R hm hf h0]
    by_cases hbb : f.testBit b = true
    · rw [lev_bit hbb, if_neg (by omega), dl_old R b hb _ _ _ _ (by rw [setAll_len]; exact ho) (Nat.or_lt_two_pow hm hx) (by omega) (by rw [Nat.testBit_or, hfm b hbb]; rfl) (by rw [nand_bit, hfm b hbb]; simp), hs, if_pos hbb]
    · have hbb' : f.testBit b = false := by simpa using hbb
      rw [lev_step R hm hf h0 hbb']
      rw [if_neg hbb] at hs
      by_cases h3 : met < met ||| nxt rows f
      · rw [dl_get R b hb (met ||| nxt rows f) (nand (nxt rows f) met) (d + 1) (setAll o d (bitL f)) (by rw [setAll_len]; exact ho) (Nat.or_lt_two_pow hm hx) (by omega) (by
          intro j hj
          rw [nand_bit] at hj
          simp at hj
          rw [Nat.testBit_or, hj.1]
          simp), hs]
      · rw [or_or_zero (rows := rows) h3, dl_zero, lev_zero, hs]
        rfl
 termination_by 2 ^ n - met
 decreasing_by
  have := Nat.or_lt_two_pow hm hx
  omega

theorem l_impl_Graph_distances_2 (h : VH) (n : Nat) (s : Value) (rows : List Int) (hs : Sli h s rows) (R : Rok n rows) (hn : nro ≤ h.length) (o0 : List Int) (met f d : Nat) (hm : met < 2 ^ n) (hf : f < 2 ^ n) (hd : ¬ f = 0 → d ≤ met) (o : List Int) (ho : o.length = n) :
    floop (vcall F nro) nro [2, 5, 6, 7, 8] i_impl_Graph_distances_B2 (dh h n s o0) [bp h, .slice (some ⟨h.length + 2, 0, none⟩) n n, .int .i64 met, .int .i64 f, .int .i64 d] (dh h n s o) =
      some (.exit 0, fl [(5, .slice (some ⟨h.length + 2, 0, none⟩) n n)], dh h n s (dl rows met f d o)) := by
  have hn' := fun k => Nat.le_trans hn (Nat.le_add_right h.length k)
  have hsc := fun k => hs.oldCk (k := k)
  have hle := R.le
  have hm62 := le62 hle hm
  have hf62 := le62 hle hf
  rw [floop_at i_impl_Graph_distances_B2.eq_1]
  by_cases h0 : f = 0
  · subst h0
    rw [dl_zero]
    unfold dh
    simp (disch := first | assumption | omega | (simp [*] <;> omega) | fail) [hn, hn']
  · have h0' : ¬ (f : Int) = 0 := by omega
    have hdm := hd h0
    rw [dl_step R hm hf h0]
    have hx := nxt_lt R hf
    have hx62 := le62 hle hx
    have hnl := nand_le (nxt rows f) met
    have hc := c_impl_list (nro := nro) f hf62 (dh h n s o) (by unfold dh; simp; omega)
    have hlL := bitL_len f
    have lp := l_impl_Graph_distances_1 (nro := nro) h n s rows hs R hn met d (bitL f) (bitL_lt hf) hlL o (bitL f).length 0 (by omega) (Nat.zero_le _) o ho 0 (by omega)
    rw [List.drop_zero, Nat.zero_or, show orL rows (bitL f) = nxt rows f from rfl] at lp
    have hih := l_impl_Graph_distances_2 h n s rows hs R hn o0 (met ||| nxt rows f) (nand (nxt rows f) met) (d + 1) (Nat.or_lt_two_pow hm hx) (by omega) (by
      intro hne
      rcases Nat.lt_or_ge met (met ||| nxt rows f) with h1 | h1
      · omega
      · exact absurd (or_or_zero (rows := rows) (by omega)) hne) (setAll o d (bitL f)) (by rw [setAll_len]; exact ho)
    have a1 := iandNot_nat (a := nxt rows f) (b := met) hx62 hm62
    have a2 := ior_nat (a := met) (b := nxt rows f) (by omega) (by omega)
    have a6 : IntKind.i64.wrap ((d : Int) + 1) = (d : Int) + 1 := wrap64 (by omega) (by omega)
    rw [show ((d + 1 : Nat) : Int) = (d : Int) + 1 by omega] at hih
    obtain ⟨x, hxx⟩ : ∃ x, x = nxt rows f := ⟨_, rfl⟩
    rw [← hxx] at lp hih a1 a2 ⊢
    obtain ⟨z, hz⟩ : ∃ z, z = nand x met := ⟨_, rfl⟩
    rw [← hz] at a1 hih ⊢
    obtain ⟨m2, hm2⟩ : ∃ m2, m2 = met ||| x := ⟨_, rfl⟩
    rw [← hm2] at a2 hih ⊢
    obtain ⟨q, hq⟩ : ∃ q, q = dl rows m2 z (d + 1) (setAll o d (bitL f)) := ⟨_, rfl⟩
    rw [← hq] at hih ⊢
    have hsl := setAll_len d (bitL f) o
    obtain ⟨q2, hq2⟩ : ∃ q2, q2 = setAll o d (bitL f) := ⟨_, rfl⟩
    rw [← hq2] at hih lp hsl
    obtain ⟨Lf, hLf⟩ : ∃ Lf, Lf = bitL f := ⟨_, rfl⟩
    rw [← hLf] at hc lp hlL
    simp only [Int.natCast_zero] at lp
    unfold dh at hc lp hih ⊢
    simp at hc lp hih
    clear hxx hz hm2 hq hq2 hLf hnl hm hf hx hd hx62
    simp (disch := first | assumption | omega | (simp [*] <;> omega) | fail) [h0, h0', hc, lp, a1, a2, a6, hih, hn, hn', hsc]
 termination_by (if f = 0 then 0 else 2 ^ 62 - met + 1)
 decreasing_by
  rw [if_neg h0]
  split
  · omega
  · rename_i hne
    rcases Nat.lt_or_ge met (met ||| nxt rows f) with h1 | h1
    · omega
    · exact absurd (or_or_zero (rows := rows) (by omega)) hne

/-- The distances of all vertices from a. -/
def dists (rows : List Int) (n a : Nat) : List Int := dl rows (2 ^ a) (2 ^ a) 0 (List.replicate n (-1))
theorem dists_len (rows : List Int) (n a : Nat) : (dists rows n a).length = n := by
  unfold dists
  rw [dl_len, List.length_replicate]
theorem dists_get {n : Nat} {rows : List Int} (R : Rok n rows) {a b : Nat} (ha : a < n) (hb : b < n) : (dists rows n a).getD b 0 = far rows a b := by
  have hp : 2 ^ a < 2 ^ n := Nat.pow_lt_pow_right (by omega) ha
  unfold dists far
  rw [dl_get R b hb _ _ _ _ (by simp) hp hp (fun _ h => h)]
  have hg := lev_ge rows (2 ^ a) (2 ^ a) 0 b
  split
  · rw [List.getD_eq_getElem?_getD, List.getElem?_replicate, if_pos hb]
    simp
    omega
  · rfl

theorem c_impl_Graph_distances (n a : Nat) (s : Value) (rows : List Int) (h : VH) (hs : Sli h s rows) (R : Rok n rows) (ha : a < n) (hn : nro ≤ h.length) :
    vcall F nro k_impl_Graph_distances [gv n s, .int .i64 a] h = some (.slice (some ⟨h.length, 0, none⟩) n n, h ++ [⟨1, ints (dists rows n a)⟩]) := by
  have hn' := fun k => Nat.le_trans hn (Nat.le_add_right h.length k)
  refine v_impl_Graph_distances (by simp [i_impl_Graph_distances]) ?_
  rw [fbody_eq]
  have hle := R.le
  have hp : 2 ^ a < 2 ^ n := Nat.pow_lt_pow_right (by omega) ha
  have lp := l_impl_Graph_distances_2 (nro := nro) h n s rows hs R hn (List.replicate n (-1)) (2 ^ a) (2 ^ a) 0 hp hp (fun _ => Nat.zero_le _) (List.replicate n (-1)) (by simp)
  have w2 : ishl .i64 1 (a : Int) = ((2 ^ a : Nat) : Int) := by
    have := ishl_one (b := (a : Int)) (by omega)
    rwa [Int.toNat_natCast] at this
  have hr := c_slices_Repeat (nro := nro) (.slice (some ⟨h.length + 1, 0, none⟩) 1 1) n (h ++ [⟨0, [.int .i64 n, s]⟩, ⟨1, [.int .i64 (-1)]⟩]) (by simp [Sli, Sl, vsrc, ints]) (by omega) (by omega) (by simp; omega)
  have hdl := dists_len rows n a
  rw [show dl rows (2 ^ a) (2 ^ a) 0 (List.replicate n (-1)) = dists rows n a from rfl] at lp
  obtain ⟨q, hq⟩ : ∃ q, q = dists rows n a := ⟨_, rfl⟩
  rw [← hq] at lp hdl ⊢
  obtain ⟨p, hpp⟩ : ∃ p, p = 2 ^ a := ⟨_, rfl⟩
  rw [← hpp] at lp w2
  simp only [Int.natCast_zero] at lp
  unfold dh at lp
  simp at lp hr
  clear hpp hp hq
  simp (disch := first | assumption | omega | (simp [*] <;> omega) | fail) [i_impl_Graph_distances, hr, w2, lp, hn, hn', hdl]
end Go.Proofs.YthpgiimaadohcaaDoor.Zv
