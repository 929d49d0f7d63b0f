/- The law of DirectProduct. -/
import Derived.Test.YtcpmodengmffjaaZwProd2
import Derived.Test.YtcpmodengmffjaaZwMark
namespace Go.Proofs.Ytcpmodengmffjaa.Zv
open Go
variable {nro : Nat}

/-- The test of the direct product. -/
def dirP (rows hrows : List Int) (a b c d : Nat) : Prop := rbit rows a c = true ∧ rbit hrows b d = true

theorem dir_eq {N M : Nat} {rows hrows : List Int} (g : GV N rows) (gm : GV M hrows) (X Y : Nat) : madeAdj (N * M) (prodTest M (dirP rows hrows)) X Y ↔ dirAdj N M rows hrows X Y := by
  have hl := g.len
  have hlm := gm.len
  have gl := gm.lo
  have hM : 0 < M := by omega
  have half : ∀ X Y, X < Y → Y < N * M → dirP rows hrows (X / M) (X % M) (Y / M) (Y % M) → dirAdj N M rows hrows X Y := by
    rintro X Y hXY hYN ⟨h1, h2⟩
    have q1 : Y / M < N := Nat.div_lt_of_lt_mul (by rw [Nat.mul_comm]; exact hYN)
    have q2 : X / M ≤ Y / M := Nat.div_le_div_right (Nat.le_of_lt hXY)
    have q3 : X / M ≠ Y / M := by
      intro e
      obtain ⟨_, _, g3⟩ := g.row (X / M) (by omega)
      rw [← e, g3] at h1
      cases h1
    have m1 := Nat.mod_lt X hM
    have m2 := Nat.mod_lt Y hM
    have q4 : X % M ≠ Y % M := by
      intro e
      obtain ⟨_, _, g3⟩ := gm.row (X % M) (by omega)
      rw [← e, g3] at h2
      cases h2
    have eX : X = X / M * M + X % M := by rw [Nat.mul_comm]; exact (Nat.div_add_mod X M).symm
    have eY : Y = Y / M * M + Y % M := by rw [Nat.mul_comm]; exact (Nat.div_add_mod Y M).symm
    have q5 : X / M < Y / M := Nat.lt_of_le_of_ne q2 q3
    refine ⟨_, (edgesF_mem rows N 0 _).mpr ⟨X / M, Y / M, Nat.zero_le _, q5, q1, h1, rfl⟩, ?_⟩
    rcases Nat.lt_or_gt_of_ne q4 with h | h
    · exact ⟨_, (edgesF_mem hrows M 0 _).mpr ⟨X % M, Y % M, by omega, h, m2, h2, rfl⟩, X / M, Y / M, X % M, Y % M, rfl, rfl, .inl (.inl ⟨eX, eY⟩)⟩
    · exact ⟨_, (edgesF_mem hrows M 0 _).mpr ⟨Y % M, X % M, by omega, h, m1, by rw [gm.sym _ _ (by omega) (by omega)]; exact h2, rfl⟩, X / M, Y / M, Y % M, X % M, rfl, rfl, .inr (.inl ⟨eX, eY⟩)⟩
  have sym : ∀ X Y, dirAdj N M rows hrows X Y → dirAdj N M rows hrows Y X := by
    rintro X Y ⟨e1, h1, e2, h2, u, v, x, y, k1, k2, k3⟩
    refine ⟨e1, h1, e2, h2, u, v, x, y, k1, k2, ?_⟩
    rcases k3 with (⟨a, b⟩ | ⟨a, b⟩) | (⟨a, b⟩ | ⟨a, b⟩)
    · exact .inl (.inr ⟨b, a⟩)
    · exact .inl (.inl ⟨b, a⟩)
    · exact .inr (.inr ⟨b, a⟩)
    · exact .inr (.inl ⟨b, a⟩)
  rw [madeAdj_iff]
  constructor
  · rintro (⟨h1, h2, h3⟩ | ⟨h1, h2, h3⟩)
    · exact half X Y h1 h2 h3
    · exact sym _ _ (half Y X h1 h2 h3)
  · rintro ⟨e1, h1, e2, h2, u, v, x, y, rfl, rfl, k3⟩
    obtain ⟨u', v', _, a2, a3, a4, a5⟩ := (edgesF_mem rows N 0 _).mp h1
    obtain ⟨x', y', _, b2, b3, b4, b5⟩ := (edgesF_mem hrows M 0 _).mp h2
    simp at a5 b5
    obtain ⟨a6, a7⟩ := a5
    obtain ⟨b6, b7⟩ := b5
    have c1 : u' = u := by omega
    have c2 : v' = v := by omega
    have c3 : x' = x := by omega
    have c4 : y' = y := by omega
    subst c1 c2 c3 c4
    have b4' : rbit hrows y' x' = true := by rw [gm.sym _ _ (by omega) (by omega)]; exact b4
    have d1 := divmod (M := M) (u := u') (x := x') (by omega)
    have d2 := divmod (M := M) (u := v') (x := y') (by omega)
    have d3 := divmod (M := M) (u := u') (x := y') (by omega)
    have d4 := divmod (M := M) (u := v') (x := x') (by omega)
    have l1 := mul_lt (M := M) (N := N) (x := x') (y := y') a2 a3 (by omega) (by omega)
    have l2 := mul_lt (M := M) (N := N) (x := y') (y := x') a2 a3 (by omega) (by omega)
    rcases k3 with (⟨rfl, rfl⟩ | ⟨rfl, rfl⟩) | (⟨rfl, rfl⟩ | ⟨rfl, rfl⟩)
    · exact .inl ⟨l1.1, l1.2, by unfold prodTest dirP; rw [d1.1, d1.2, d2.1, d2.2]; exact ⟨a4, b4⟩⟩
    · exact .inr ⟨l1.1, l1.2, by unfold prodTest dirP; rw [d1.1, d1.2, d2.1, d2.2]; exact ⟨a4, b4⟩⟩
    · exact .inl ⟨l2.1, l2.2, by unfold prodTest dirP; rw [d3.1, d3.2, d4.1, d4.2]; exact ⟨a4, b4'⟩⟩
    · exact .inr ⟨l2.1, l2.2, by unfold prodTest dirP; rw [d3.1, d3.2, d4.1, d4.2]; exact ⟨a4, b4'⟩⟩

open Classical in
theorem c_impl_DirectProduct_1 (n m : Int) (s t : Value) (rows hrows : List Int) (i j : Nat) (h : VH) (hs : Sli h s rows) (ht : Sli h t hrows) (g : GV n rows) (gm : GV m hrows) (hi : h[i]? = some ⟨0, [.int .i64 n, s]⟩) (hj : h[j]? = some ⟨0, [.int .i64 m, t]⟩) (a b c d : Nat) (ha : a < n.toNat) (hb : b < m.toNat) (hc : c < n.toNat) (hd : d < m.toNat) :
    vcall F nro k_impl_DirectProduct_1 [.int .i64 a, .int .i64 b, .int .i64 c, .int .i64 d, .pointer (some ⟨i, 0, some 2⟩), .pointer (some ⟨j, 0, some 2⟩)] h = some (.bool (decide (dirP rows hrows a b c d)), h) := by
  refine v_impl_DirectProduct_1 (by simp [i_impl_DirectProduct_1]) ?_
  rw [fbody_eq]
  have hl := g.len
  have hlm := gm.len
  have g0 := g.hi
  have gm0 := gm.hi
  have hp := pow_le62 g0
  have hpm := pow_le62 gm0
  obtain ⟨r1, r2, _⟩ := g.row a (by omega)
  obtain ⟨q1, q2, _⟩ := gm.row b (by omega)
  have c1 := c_impl_Graph_has (nro := nro) n a c s rows h hs (by omega) (by omega) (by omega) (by omega) (by rw [Int.toNat_natCast]; exact r1) (by rw [Int.toNat_natCast]; omega)
  have c2 := c_impl_Graph_has (nro := nro) m b d t hrows h ht (by omega) (by omega) (by omega) (by omega) (by rw [Int.toNat_natCast]; exact q1) (by rw [Int.toNat_natCast]; omega)
  rw [Int.toNat_natCast, Int.toNat_natCast] at c1 c2
  unfold dirP
  by_cases h1 : rbit rows a c = true
  · by_cases h2 : rbit hrows b d = true
    · simp (disch := first | assumption | omega | (simp [*] <;> omega) | fail) [i_impl_DirectProduct_1, hi, hj, c1, c2, h1, h2]
    · simp (disch := first | assumption | omega | (simp [*] <;> omega) | fail) [i_impl_DirectProduct_1, hi, hj, c1, c2, h1, h2]
  · simp (disch := first | assumption | omega | (simp [*] <;> omega) | fail) [i_impl_DirectProduct_1, hi, hj, c1, h1]

theorem c_impl_DirectProduct (n m : Int) (s t : Value) (rows hrows : List Int) (h : VH) (hs : Sli h s rows) (ht : Sli h t hrows) (hn : nro ≤ h.length) :
    vcall F nro k_impl_DirectProduct [gv n s, gv m t] h = some (gres h (prodAns dirAdj n rows m hrows)) := by
  have hn' := fun k => Nat.le_trans hn (Nat.le_add_right h.length k)
  rw [← prodAns_eq (P := dirP rows hrows) n rows m hrows (fun N M g gm X Y => dir_eq g gm X Y)]
  have hc := c_impl_product (nro := nro) n m s t rows hrows k_impl_DirectProduct_1 [.pointer (some ⟨h.length, 0, some 2⟩), .pointer (some ⟨h.length + 1, 0, some 2⟩)] (dirP rows hrows) (h ++ [⟨0, [.int .i64 n, s]⟩, ⟨0, [.int .i64 m, t]⟩, ⟨0, [.int .i64 0, .slice none 0 0]⟩]) (hs.app _) (ht.app _) (by simp; omega)
    (by intro k r hr; simp [crefs, arefs] at hr ⊢; omega) (by intro k r hr; simp [trefs, vrefs, crefs, arefs] at hr ⊢; omega) (by
      intro g gm L a b c d ha hb hc hd
      exact c_impl_DirectProduct_1 (nro := nro) n m s t rows hrows h.length (h.length + 1) (h ++ [⟨0, [.int .i64 n, s]⟩, ⟨0, [.int .i64 m, t]⟩, ⟨0, [.int .i64 0, .slice none 0 0]⟩] ++ L) ((hs.app _).app _) ((ht.app _).app _) g gm (by simp) (by simp) a b c d ha hb hc hd)
  refine v_impl_DirectProduct (by simp [i_impl_DirectProduct]) ?_
  rw [fbody_eq]
  cases hp : prodAns2 (dirP rows hrows) n rows m hrows with
  | inl q =>
    obtain ⟨x, r⟩ := q
    rw [hp] at hc
    simp at hc
    simp (disch := first | assumption | omega | (simp [*] <;> omega) | fail) [i_impl_DirectProduct, hc, isAtom, fresults, fresL, fres1, hn', hn]
  | inr c =>
    rw [hp] at hc
    simp at hc
    simp (disch := first | assumption | omega | (simp [*] <;> omega) | fail) [i_impl_DirectProduct, hc, isAtom, fresults, fresL, fres1, hn', hn]

theorem r_spec_DirectProduct (n m : Int) (s t : Value) (h : VH) (hs : isSli h s) (ht : isSli h t) (hn : nro ≤ h.length) : vcall F nro k_spec_DirectProduct [gv n s, gv m t] h = some (gres h (prodAns dirAdj n (rd h s) m (rd h t))) := c_spec_DirectProduct n m s t _ _ h hs.sli ht.sli hn
theorem r_impl_DirectProduct (n m : Int) (s t : Value) (h : VH) (hs : isSli h s) (ht : isSli h t) (hn : nro ≤ h.length) : vcall F nro k_impl_DirectProduct [gv n s, gv m t] h = some (gres h (prodAns dirAdj n (rd h s) m (rd h t))) := c_impl_DirectProduct n m s t _ _ h hs.sli ht.sli hn

theorem law_DirectProduct (n : Int) (s : Value) (rows : List Int) (m : Int) (t : Value) (hrows : List Int) (h : VH) (hs : Sli h s rows) (ht : Sli h t hrows) (h3 : rows.length ≤ 9223372036854775807) (h4 : hrows.length ≤ 9223372036854775807) (hn : nro ≤ h.length) :
    vcall F nro k_laws_FnExactDirectProduct [gv n s, gv m t] h = some (.bool true, h) := by
  refine v_laws_FnExactDirectProduct (by simp [i_laws_FnExactDirectProduct]) ?_
  rw [fbody_eq]
  have hc1 := c_laws_szGraph (nro := nro) n s rows 1048576 (h ++ [⟨0, [.int .i64 n, s]⟩, ⟨0, [.int .i64 m, t]⟩]) (hs.app _) (by omega) (by omega) h3
  by_cases hr : 1048576 < (rows.length : Int)
  · rw [if_pos hr] at hc1
    simp (disch := first | assumption | omega | (simp [*] <;> omega) | fail) [i_laws_FnExactDirectProduct, hc1]
  · rw [if_neg hr] at hc1
    have hr2 : ¬ (1048576 - (rows.length : Int) < 0) := by omega
    have hc2 := c_laws_szGraph (nro := nro) m t hrows (1048576 - rows.length) (h ++ [⟨0, [.int .i64 n, s]⟩, ⟨0, [.int .i64 m, t]⟩]) (ht.app _) (by omega) (by omega) h4
    by_cases hq : 1048576 - (rows.length : Int) < (hrows.length : Int)
    · rw [if_pos hq] at hc2
      simp (disch := first | assumption | omega | (simp [*] <;> omega) | fail) [i_laws_FnExactDirectProduct, hc1, hr2, hc2]
    · rw [if_neg hq] at hc2
      have hq2 : ¬ (1048576 - (rows.length : Int) - hrows.length < 0) := by omega
      have h5 : rows.length ≤ 1048576 := by omega
      have h6 : hrows.length ≤ 1048576 := by omega
      have p1 : ∀ k : Nat, (0 : Int) ≤ 1 + k := fun k => by omega
      have p2 : ∀ k : Nat, ¬ (1 + k : Int) < 0 := fun k => by omega
      have p3 : ∀ k j : Nat, ¬ (1 + k + j : Int) < 0 := fun k j => by omega
      have hn' := fun k => Nat.le_trans hn (Nat.le_add_right h.length k)
      have hsi := fun L => hs.is' (L := L)
      have hsr := fun L => hs.rd' (L := L)
      have hti := fun L => ht.is' (L := L)
      have htr := fun L => ht.rd' (L := L)
      clear hs ht
      cases hp : prodAns dirAdj n rows m hrows with
      | inl q =>
        obtain ⟨x, r⟩ := q
        have hl := prodAns_len (adj := dirAdj) (fun N M g gm X Y hX hXY => by
          have := (dir_eq g gm X Y).mpr hXY
          rw [madeAdj_iff] at this
          omega) hp
        simp (disch := first | assumption | omega | (simp [*] <;> omega) | fail) [i_laws_FnExactDirectProduct, hc1, hr2, hc2, hq2, r_laws_toGraph, r_spec_DirectProduct, r_impl_DirectProduct, r_laws_eqGraph, r_laws_markGraph, r_laws_heldGraph, hp, hsi, hsr, hti, htr, hn', hn, h5, h6, hl, p1, p2, p3]
      | inr c =>
        simp (disch := first | assumption | omega | (simp [*] <;> omega) | fail) [i_laws_FnExactDirectProduct, hc1, hr2, hc2, hq2, r_laws_toGraph, r_spec_DirectProduct, r_impl_DirectProduct, r_laws_eqGraph, r_laws_markGraph, r_laws_markGraph_nil, r_laws_heldGraph, hp, hsi, hsr, hti, htr, hn', hn, h5, h6, p1, p2, p3]
end Go.Proofs.Ytcpmodengmffjaa.Zv
