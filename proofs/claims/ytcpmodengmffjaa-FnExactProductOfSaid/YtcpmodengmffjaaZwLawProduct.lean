/- The law of ProductOf. -/
import Derived.Test.YtcpmodengmffjaaZwProd3
import Derived.Test.YtcpmodengmffjaaZwMark
namespace Go.Proofs.Ytcpmodengmffjaa.Zv
open Go
variable {nro : Nat}

/-- The test of the product. -/
def prP (rows hrows : List Int) (a b c d : Nat) : Prop := (a = c ∧ rbit hrows b d = true) ∨ (b = d ∧ rbit rows a c = true)

theorem pr_eq {N M : Nat} {rows hrows : List Int} (g : GV N rows) (gm : GV M hrows) (X Y : Nat) : madeAdj (N * M) (prodTest M (prP rows hrows)) X Y ↔ prAdj N M rows hrows X Y := by
  have hl := g.len
  have hlm := gm.len
  have gl := gm.lo
  have hM : 0 < M := by omega
  have half : ∀ X Y, X < Y → Y < N * M → prP rows hrows (X / M) (X % M) (Y / M) (Y % M) → prAdj N M rows hrows X Y := by
    intro X Y hXY hYN h1
    have q1 : Y / M < N := Nat.div_lt_of_lt_mul (by rw [Nat.mul_comm]; exact hYN)
    have q2 : X / M ≤ Y / M := Nat.div_le_div_right (Nat.le_of_lt hXY)
    have m1 := Nat.mod_lt X hM
    have m2 := Nat.mod_lt Y hM
    have eX : X = X / M * M + X % M := by rw [Nat.mul_comm]; exact (Nat.div_add_mod X M).symm
    have eY : Y = Y / M * M + Y % M := by rw [Nat.mul_comm]; exact (Nat.div_add_mod Y M).symm
    rcases h1 with ⟨h1, h2⟩ | ⟨h1, h2⟩
    · have q4 : X % M < Y % M := by rw [← h1] at eY; omega
      exact .inr ⟨_, (edgesF_mem hrows M 0 _).mpr ⟨X % M, Y % M, Nat.zero_le _, q4, m2, h2, rfl⟩, X % M, Y % M, X / M, Nat.zero_le _, Nat.lt_of_le_of_lt q2 q1, rfl, .inl ⟨eX, by rw [h1]; exact eY⟩⟩
    · have q3 : X / M ≠ Y / M := by
        intro e
        rw [← e, ← h1] at eY
        omega
      have q5 : X / M < Y / M := Nat.lt_of_le_of_ne q2 q3
      exact .inl ⟨_, (edgesF_mem rows N 0 _).mpr ⟨X / M, Y / M, Nat.zero_le _, q5, q1, h2, rfl⟩, X / M, Y / M, X % M, Nat.zero_le _, m1, rfl, .inl ⟨eX, by rw [h1]; exact eY⟩⟩
  have sym : ∀ X Y, prAdj N M rows hrows X Y → prAdj N M rows hrows Y X := by
    rintro X Y (⟨e, h1, u, v, k, k0, k1, k2, k3⟩ | ⟨e, h1, u, v, k, k0, k1, k2, k3⟩)
    · exact .inl ⟨e, h1, u, v, k, k0, k1, k2, k3.elim (fun ⟨a, b⟩ => .inr ⟨b, a⟩) (fun ⟨a, b⟩ => .inl ⟨b, a⟩)⟩
    · exact .inr ⟨e, h1, u, v, k, k0, k1, k2, k3.elim (fun ⟨a, b⟩ => .inr ⟨b, a⟩) (fun ⟨a, b⟩ => .inl ⟨b, a⟩)⟩
  rw [madeAdj_iff]
  constructor
  · rintro (⟨h1, h2, h3⟩ | ⟨h1, h2, h3⟩)
    · exact half X Y h1 h2 h3
    · exact sym _ _ (half Y X h1 h2 h3)
  · rintro (⟨e, h1, u, v, k, _, k1, rfl, k3⟩ | ⟨e, h1, u, v, k, _, k1, rfl, k3⟩)
    · obtain ⟨u', v', _, a2, a3, a4, a5⟩ := (edgesF_mem rows N 0 _).mp h1
      simp at a5
      have c1 : u' = u := by omega
      have c2 : v' = v := by omega
      subst c1 c2
      have d1 := divmod (M := M) (u := u') (x := k) k1
      have d2 := divmod (M := M) (u := v') (x := k) k1
      have l1 := mul_lt (M := M) (N := N) (x := k) (y := k) a2 a3 k1 k1
      rcases k3 with ⟨rfl, rfl⟩ | ⟨rfl, rfl⟩
      · exact .inl ⟨l1.1, l1.2, by unfold prodTest prP; rw [d1.1, d1.2, d2.1, d2.2]; exact .inr ⟨rfl, a4⟩⟩
      · exact .inr ⟨l1.1, l1.2, by unfold prodTest prP; rw [d1.1, d1.2, d2.1, d2.2]; exact .inr ⟨rfl, a4⟩⟩
    · obtain ⟨u', v', _, a2, a3, a4, a5⟩ := (edgesF_mem hrows M 0 _).mp h1
      simp at a5
      have c1 : u' = u := by omega
      have c2 : v' = v := by omega
      subst c1 c2
      have d1 := divmod (M := M) (u := k) (x := u') (by omega)
      have d2 := divmod (M := M) (u := k) (x := v') a3
      have l2 : k * M + M ≤ N * M := by rw [← Nat.succ_mul]; exact Nat.mul_le_mul_right _ k1
      rcases k3 with ⟨rfl, rfl⟩ | ⟨rfl, rfl⟩
      · exact .inl ⟨by omega, by omega, by unfold prodTest prP; rw [d1.1, d1.2, d2.1, d2.2]; exact .inl ⟨rfl, a4⟩⟩
      · exact .inr ⟨by omega, by omega, by unfold prodTest prP; rw [d1.1, d1.2, d2.1, d2.2]; exact .inl ⟨rfl, a4⟩⟩

open Classical in
theorem c_impl_ProductOf_1 (n m : Int) (s t : Value) (rows hrows : List Int) (i j : Nat) (h : VH) (hs : Sli h s rows) (ht : Sli h t hrows) (g : GV n rows) (gm : GV m hrows) (hi : h[i]? = some ⟨0, [.int .i64 n, s]⟩) (hj : h[j]? = some ⟨0, [.int .i64 m, t]⟩) (a b c d : Nat) (ha : a < n.toNat) (hb : b < m.toNat) (hc : c < n.toNat) (hd : d < m.toNat) :
    vcall F nro k_impl_ProductOf_1 [.int .i64 a, .int .i64 b, .int .i64 c, .int .i64 d, .pointer (some ⟨j, 0, some 2⟩), .pointer (some ⟨i, 0, some 2⟩)] h = some (.bool (decide (prP rows hrows a b c d)), h) := by
  refine v_impl_ProductOf_1 (by simp [i_impl_ProductOf_1]) ?_
  rw [fbody_eq]
  have hl := g.len
  have hlm := gm.len
  have g0 := g.hi
  have gm0 := gm.hi
  have hp := pow_le62 g0
  have hpm := pow_le62 gm0
  obtain ⟨r1, r2, _⟩ := g.row a (by omega)
  obtain ⟨q1, q2, _⟩ := gm.row b (by omega)
  have c1 := c_impl_Graph_has (nro := nro) n a c s rows h hs (by omega) (by omega) (by omega) (by omega) (by rw [Int.toNat_natCast]; exact r1) (by rw [Int.toNat_natCast]; omega)
  have c2 := c_impl_Graph_has (nro := nro) m b d t hrows h ht (by omega) (by omega) (by omega) (by omega) (by rw [Int.toNat_natCast]; exact q1) (by rw [Int.toNat_natCast]; omega)
  rw [Int.toNat_natCast, Int.toNat_natCast] at c1 c2
  unfold prP
  by_cases h1 : a = c
  · subst h1
    by_cases h2 : rbit hrows b d = true
    · simp (disch := first | assumption | omega | (simp [*] <;> omega) | fail) [i_impl_ProductOf_1, hi, hj, c1, c2, h2]
    · by_cases h3 : b = d
      · subst h3
        simp (disch := first | assumption | omega | (simp [*] <;> omega) | fail) [i_impl_ProductOf_1, hi, hj, c1, c2, h2]
      · have h3' : ¬ (b : Int) = d := by omega
        simp (disch := first | assumption | omega | (simp [*] <;> omega) | fail) [i_impl_ProductOf_1, hi, hj, c1, c2, h2, h3, h3']
  · have h1' : ¬ (a : Int) = c := by omega
    by_cases h3 : b = d
    · subst h3
      by_cases h2 : rbit rows a c = true
      · simp (disch := first | assumption | omega | (simp [*] <;> omega) | fail) [i_impl_ProductOf_1, hi, hj, c1, c2, h1, h1', h2]
      · simp (disch := first | assumption | omega | (simp [*] <;> omega) | fail) [i_impl_ProductOf_1, hi, hj, c1, c2, h1, h1', h2]
    · have h3' : ¬ (b : Int) = d := by omega
      simp (disch := first | assumption | omega | (simp [*] <;> omega) | fail) [i_impl_ProductOf_1, hi, hj, c1, c2, h1, h1', h3, h3']

theorem c_impl_ProductOf (n m : Int) (s t : Value) (rows hrows : List Int) (h : VH) (hs : Sli h s rows) (ht : Sli h t hrows) (hn : nro ≤ h.length) :
    vcall F nro k_impl_ProductOf [gv n s, gv m t] h = some (gres h (prodAns prAdj n rows m hrows)) := by
  have hn' := fun k => Nat.le_trans hn (Nat.le_add_right h.length k)
  rw [← prodAns_eq (P := prP rows hrows) n rows m hrows (fun N M g gm X Y => pr_eq g gm X Y)]
  have hc := c_impl_product (nro := nro) n m s t rows hrows k_impl_ProductOf_1 [.pointer (some ⟨h.length + 1, 0, some 2⟩), .pointer (some ⟨h.length, 0, some 2⟩)] (prP rows hrows) (h ++ [⟨0, [.int .i64 n, s]⟩, ⟨0, [.int .i64 m, t]⟩, ⟨0, [.int .i64 0, .slice none 0 0]⟩]) (hs.app _) (ht.app _) (by simp; omega)
    (by intro k r hr; simp [crefs, arefs] at hr ⊢; omega) (by intro k r hr; simp [trefs, vrefs, crefs, arefs] at hr ⊢; omega) (by
      intro g gm L a b c d ha hb hc hd
      exact c_impl_ProductOf_1 (nro := nro) n m s t rows hrows h.length (h.length + 1) (h ++ [⟨0, [.int .i64 n, s]⟩, ⟨0, [.int .i64 m, t]⟩, ⟨0, [.int .i64 0, .slice none 0 0]⟩] ++ L) ((hs.app _).app _) ((ht.app _).app _) g gm (by simp) (by simp) a b c d ha hb hc hd)
  refine v_impl_ProductOf (by simp [i_impl_ProductOf]) ?_
  rw [fbody_eq]
  cases hp : prodAns2 (prP rows hrows) n rows m hrows with
  | inl q =>
    obtain ⟨x, r⟩ := q
    rw [hp] at hc
    simp at hc
    simp (disch := first | assumption | omega | (simp [*] <;> omega) | fail) [i_impl_ProductOf, hc, isAtom, fresults, fresL, fres1, hn', hn]
  | inr c =>
    rw [hp] at hc
    simp at hc
    simp (disch := first | assumption | omega | (simp [*] <;> omega) | fail) [i_impl_ProductOf, hc, isAtom, fresults, fresL, fres1, hn', hn]

theorem r_spec_ProductOf (n m : Int) (s t : Value) (h : VH) (hs : isSli h s) (ht : isSli h t) (hn : nro ≤ h.length) : vcall F nro k_spec_ProductOf [gv n s, gv m t] h = some (gres h (prodAns prAdj n (rd h s) m (rd h t))) := c_spec_ProductOf n m s t _ _ h hs.sli ht.sli hn
theorem r_impl_ProductOf (n m : Int) (s t : Value) (h : VH) (hs : isSli h s) (ht : isSli h t) (hn : nro ≤ h.length) : vcall F nro k_impl_ProductOf [gv n s, gv m t] h = some (gres h (prodAns prAdj n (rd h s) m (rd h t))) := c_impl_ProductOf n m s t _ _ h hs.sli ht.sli hn

theorem law_ProductOf (n : Int) (s : Value) (rows : List Int) (m : Int) (t : Value) (hrows : List Int) (h : VH) (hs : Sli h s rows) (ht : Sli h t hrows) (h3 : rows.length ≤ 9223372036854775807) (h4 : hrows.length ≤ 9223372036854775807) (hn : nro ≤ h.length) :
    vcall F nro k_laws_FnExactProductOf [gv n s, gv m t] h = some (.bool true, h) := by
  refine v_laws_FnExactProductOf (by simp [i_laws_FnExactProductOf]) ?_
  rw [fbody_eq]
  have hc1 := c_laws_szGraph (nro := nro) n s rows 1048576 (h ++ [⟨0, [.int .i64 n, s]⟩, ⟨0, [.int .i64 m, t]⟩]) (hs.app _) (by omega) (by omega) h3
  by_cases hr : 1048576 < (rows.length : Int)
  · rw [if_pos hr] at hc1
    simp (disch := first | assumption | omega | (simp [*] <;> omega) | fail) [i_laws_FnExactProductOf, hc1]
  · rw [if_neg hr] at hc1
    have hr2 : ¬ (1048576 - (rows.length : Int) < 0) := by omega
    have hc2 := c_laws_szGraph (nro := nro) m t hrows (1048576 - rows.length) (h ++ [⟨0, [.int .i64 n, s]⟩, ⟨0, [.int .i64 m, t]⟩]) (ht.app _) (by omega) (by omega) h4
    by_cases hq : 1048576 - (rows.length : Int) < (hrows.length : Int)
    · rw [if_pos hq] at hc2
      simp (disch := first | assumption | omega | (simp [*] <;> omega) | fail) [i_laws_FnExactProductOf, hc1, hr2, hc2]
    · rw [if_neg hq] at hc2
      have hq2 : ¬ (1048576 - (rows.length : Int) - hrows.length < 0) := by omega
      have h5 : rows.length ≤ 1048576 := by omega
      have h6 : hrows.length ≤ 1048576 := by omega
      have p1 : ∀ k : Nat, (0 : Int) ≤ 1 + k := fun k => by omega
      have p2 : ∀ k : Nat, ¬ (1 + k : Int) < 0 := fun k => by omega
      have p3 : ∀ k j : Nat, ¬ (1 + k + j : Int) < 0 := fun k j => by omega
      have hn' := fun k => Nat.le_trans hn (Nat.le_add_right h.length k)
      have hsi := fun L => hs.is' (L := L)
      have hsr := fun L => hs.rd' (L := L)
      have hti := fun L => ht.is' (L := L)
      have htr := fun L => ht.rd' (L := L)
      clear hs ht
      cases hp : prodAns prAdj n rows m hrows with
      | inl q =>
        obtain ⟨x, r⟩ := q
        have hl := prodAns_len (adj := prAdj) (fun N M g gm X Y hX hXY => by
          have := (pr_eq g gm X Y).mpr hXY
          rw [madeAdj_iff] at this
          omega) hp
        simp (disch := first | assumption | omega | (simp [*] <;> omega) | fail) [i_laws_FnExactProductOf, hc1, hr2, hc2, hq2, r_laws_toGraph, r_spec_ProductOf, r_impl_ProductOf, r_laws_eqGraph, r_laws_markGraph, r_laws_heldGraph, hp, hsi, hsr, hti, htr, hn', hn, h5, h6, hl, p1, p2, p3]
      | inr c =>
        simp (disch := first | assumption | omega | (simp [*] <;> omega) | fail) [i_laws_FnExactProductOf, hc1, hr2, hc2, hq2, r_laws_toGraph, r_spec_ProductOf, r_impl_ProductOf, r_laws_eqGraph, r_laws_markGraph, r_laws_markGraph_nil, r_laws_heldGraph, hp, hsi, hsr, hti, htr, hn', hn, h5, h6, p1, p2, p3]
end Go.Proofs.Ytcpmodengmffjaa.Zv
