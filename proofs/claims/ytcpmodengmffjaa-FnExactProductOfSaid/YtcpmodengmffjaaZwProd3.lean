/- Products of graphs: what the reference's product makes (ProductOf). -/
import Derived.Test.YtcpmodengmffjaaZwProd2
namespace Go.Proofs.Ytcpmodengmffjaa.Zv
open Go
variable {nro : Nat}

/-- What is known of the heap in the loops. -/
structure PG (H : VH) (b0 N i2 i3 i5 : Nat) (n : Int) (s : Value) (Nn m : Int) (t : Value) : Prop extends PF H b0 N i3 i5 Nn m t where
  h2 : H[i2]? = some ⟨0, [.int .i64 n, s]⟩
  n2 : i2 ≠ b0
theorem PG.set {H : VH} {b0 N i2 i3 i5 : Nat} {n : Int} {s : Value} {Nn m : Int} {t : Value} (h : PG H b0 N i2 i3 i5 n s Nn m t) (r : List Int) : PG (H.set b0 ⟨1, ints r⟩) b0 N i2 i3 i5 n s Nn m t := by
  refine ⟨h.toPF.set r, ?_, h.n2⟩
  rw [List.getElem?_set_ne (fun e => h.n2 e.symm)]; exact h.h2

/-- The edges of the product for an edge of the first graph and a vertex of the second (from w on), and the other way round. -/
def prE1 (m : Nat) (e : List Int) (w : Nat) (X Y : Nat) : Prop := ∃ u v k : Nat, w ≤ k ∧ k < m ∧ e = [(u : Int), (v : Int)] ∧ ((X = u * m + k ∧ Y = v * m + k) ∨ (X = v * m + k ∧ Y = u * m + k))
def prE2 (n m : Nat) (e : List Int) (w : Nat) (X Y : Nat) : Prop := ∃ x y k : Nat, w ≤ k ∧ k < n ∧ e = [(x : Int), (y : Int)] ∧ ((X = k * m + x ∧ Y = k * m + y) ∨ (X = k * m + y ∧ Y = k * m + x))

theorem l_spec_l09Product_1 (H : VH) (b0 N i2 i3 i5 n m : Nat) (s t p4 q6 q7 : Value) (es1 es2 : List (List Int)) (vs1 vs2 : List Value) (hP : PG H b0 N i2 i3 i5 n s N m t) (l1 : LL H b0 q6 es1 vs1) (l2 : LL H b0 q7 es2 vs2) (hp1 : Pairs n es1) (hp2 : Pairs m es2) (h4 : Old H.length p4) (hn : nro ≤ b0) (hN : N = n * m) (hN2 : N ≤ 62) (hmb : m ≤ 62) (hnb : n ≤ 62) (hl1 : es1.length ≤ 100000) (hl2 : es2.length ≤ 100000)
    (i : Nat) (hi : i < es1.length) (k : Nat) (hk : k ≤ m) (r : List Int) (adj : Nat → Nat → Prop) (ha : IsAdj N r adj) :
    ∃ r', floop (vcall F nro) nro [2, 3, 4, 5, 6, 7, 8, 9] i_spec_l09Product_B1 H [.pointer (some ⟨i2, 0, some 2⟩), .pointer (some ⟨i3, 0, some 2⟩), p4, .pointer (some ⟨i5, 0, some 2⟩), q6, q7, .int .i64 i, .int .i64 k] (H.set b0 ⟨1, ints r⟩) =
      some (.exit 2, fl [(2, .pointer (some ⟨i2, 0, some 2⟩)), (3, .pointer (some ⟨i3, 0, some 2⟩)), (4, p4), (5, .pointer (some ⟨i5, 0, some 2⟩)), (6, q6), (7, q7), (8, .int .i64 i)], H.set b0 ⟨1, ints r'⟩) ∧
      IsAdj N r' (fun X Y => adj X Y ∨ prE1 m (es1.getD i []) k X Y) := by
  obtain ⟨q0, hb⟩ := hP.b
  have hbl := (List.getElem?_eq_some_iff.mp hb).1
  have h2 := (hP.set r).h2
  have h3 := (hP.set r).h3
  have h5 := (hP.set r).h5
  have hb2 : (H.set b0 ⟨1, ints r⟩)[b0]? = some ⟨1, ints r⟩ := hget_set0 hb _
  have o2 : i2 < H.length := (List.getElem?_eq_some_iff.mp hP.h2).1
  have o3 : i3 < H.length := (List.getElem?_eq_some_iff.mp hP.h3).1
  have o5 : i5 < H.length := (List.getElem?_eq_some_iff.mp hP.h5).1
  have po2 : Old H.length (.pointer (some ⟨i2, 0, some 2⟩)) := fun r hr => by simp [trefs, vrefs, crefs, arefs] at hr; omega
  have po3 : Old H.length (.pointer (some ⟨i3, 0, some 2⟩)) := fun r hr => by simp [trefs, vrefs, crefs, arefs] at hr; omega
  have po5 : Old H.length (.pointer (some ⟨i5, 0, some 2⟩)) := fun r hr => by simp [trefs, vrefs, crefs, arefs] at hr; omega
  clear o2 o3 o5
  have e1 := l1.len
  have e2 := l2.len
  have s6 := l1.out r
  have s7 := l2.out r
  have o6 : Old H.length q6 := by have := s6.old; simpa using this
  have o7 : Old H.length q7 := by have := s7.old; simpa using this
  rw [floop_at i_spec_l09Product_B1.eq_1]
  by_cases hlt : k < m
  · obtain ⟨u, v, hu, hv, hE1⟩ := hp1.at hi
    have f6 := l1.inn i (by omega) r
    rw [hE1] at f6
    have bu : u * m + m ≤ N := by rw [hN, ← Nat.succ_mul]; exact Nat.mul_le_mul_right _ hu
    have bv : v * m + m ≤ N := by rw [hN, ← Nat.succ_mul]; exact Nat.mul_le_mul_right _ hv
    have hlt' : (k : Int) < m := by omega
    have hi' : (i : Int) < vs1.length := by omega
    have w1 : IntKind.i64.wrap ((u : Int) * m) = ((u * m : Nat) : Int) := by rw [← Int.natCast_mul]; exact wrap64 (by omega) (by omega)
    have w2 : IntKind.i64.wrap ((v : Int) * m) = ((v * m : Nat) : Int) := by rw [← Int.natCast_mul]; exact wrap64 (by omega) (by omega)
    obtain ⟨U, hU⟩ : ∃ U, U = u * m := ⟨_, rfl⟩
    obtain ⟨V, hV⟩ : ∃ V, V = v * m := ⟨_, rfl⟩
    rw [← hU] at w1 bu
    rw [← hV] at w2 bv
    have w3 : IntKind.i64.wrap ((U : Int) + k) = ((U + k : Nat) : Int) := by rw [← Int.natCast_add]; exact wrap64 (by omega) (by omega)
    have w4 : IntKind.i64.wrap ((V : Int) + k) = ((V + k : Nat) : Int) := by rw [← Int.natCast_add]; exact wrap64 (by omega) (by omega)
    have c1 := c_spec_l01Put (nro := nro) N b0 N ((U + k : Nat) : Int) ((V + k : Nat) : Int) r (H.set b0 ⟨1, ints r⟩) hb2 ha.1 hn (by omega) (by omega) (by omega) (by omega) hN2
    rw [List.set_set] at c1
    have a1 := ha.put2 (a := ((U + k : Nat) : Int)) (b := ((V + k : Nat) : Int)) (by omega) (by omega) (by omega) (by omega) hN2
    obtain ⟨r1, hr1⟩ : ∃ r1, r1 = put2 r ((U + k : Nat) : Int) ((V + k : Nat) : Int) := ⟨_, rfl⟩
    rw [← hr1] at c1 a1
    obtain ⟨r', ih1, ih2⟩ := l_spec_l09Product_1 H b0 N i2 i3 i5 n m s t p4 q6 q7 es1 es2 vs1 vs2 hP l1 l2 hp1 hp2 h4 hn hN hN2 hmb hnb hl1 hl2 i hi (k + 1) hlt _ _ a1
    rw [show ((k + 1 : Nat) : Int) = (k : Int) + 1 by omega] at ih1
    refine ⟨r', ?_, ih2.congr fun X Y _ => ?_⟩
    · simp only [Int.natCast_add] at c1 ih1 w3 w4
      clear ih2 a1 hr1 hp1 hp2 l1 l2 hE1 hP hb hU hV hbl
      simp (disch := first | assumption | omega | (simp [*] <;> omega) | fail) [s7.vlen, s6.vlen, s6.vidx, s6.vload, f6.vidx, f6.vload, h2, h3, h5, wrap64, w1, w2, w3, w4, hlt', hi', c1, ih1]
    · rw [hU, hV]
      simp only [Int.toNat_natCast]
      unfold prE1
      constructor
      · rintro ((h1 | h1) | ⟨u', v', k', g1, g2, g3, g4⟩)
        · exact .inl h1
        · exact .inr ⟨u, v, k, Nat.le_refl _, hlt, hE1, h1⟩
        · exact .inr ⟨u', v', k', by omega, g2, g3, g4⟩
      · rintro (h1 | ⟨u', v', k', g1, g2, g3, g4⟩)
        · exact .inl (.inl h1)
        · by_cases hk : k' = k
          · subst hk
            rw [hE1] at g3
            simp at g3
            have q1 : u' = u := by omega
            have q2 : v' = v := by omega
            subst q1 q2
            exact .inl (.inr g4)
          · exact .inr ⟨u', v', k', by omega, g2, g3, g4⟩
  · have hlt' : ¬ (k : Int) < m := by omega
    refine ⟨r, ?_, ha.congr fun X Y _ => ?_⟩
    · simp (disch := first | assumption | omega | (simp [*] <;> omega) | fail) [h3, hlt']
    · constructor
      · exact .inl
      · rintro (h1 | ⟨u', v', k', g1, g2, _⟩)
        · exact h1
        · omega
 termination_by m - k

theorem l_spec_l09Product_3 (H : VH) (b0 N i2 i3 i5 n m : Nat) (s t p4 q6 q7 : Value) (es1 es2 : List (List Int)) (vs1 vs2 : List Value) (hP : PG H b0 N i2 i3 i5 n s N m t) (l1 : LL H b0 q6 es1 vs1) (l2 : LL H b0 q7 es2 vs2) (hp1 : Pairs n es1) (hp2 : Pairs m es2) (h4 : Old H.length p4) (hn : nro ≤ b0) (hN : N = n * m) (hN2 : N ≤ 62) (hmb : m ≤ 62) (hnb : n ≤ 62) (hl1 : es1.length ≤ 100000) (hl2 : es2.length ≤ 100000)
    (i : Nat) (hi : i < es2.length) (k : Nat) (hk : k ≤ n) (r : List Int) (adj : Nat → Nat → Prop) (ha : IsAdj N r adj) :
    ∃ r', floop (vcall F nro) nro [2, 3, 4, 5, 7, 10, 11] i_spec_l09Product_B3 H [.pointer (some ⟨i2, 0, some 2⟩), .pointer (some ⟨i3, 0, some 2⟩), p4, .pointer (some ⟨i5, 0, some 2⟩), q7, .int .i64 i, .int .i64 k] (H.set b0 ⟨1, ints r⟩) =
      some (.exit 6, fl [(2, .pointer (some ⟨i2, 0, some 2⟩)), (3, .pointer (some ⟨i3, 0, some 2⟩)), (4, p4), (5, .pointer (some ⟨i5, 0, some 2⟩)), (7, q7), (10, .int .i64 i)], H.set b0 ⟨1, ints r'⟩) ∧
      IsAdj N r' (fun X Y => adj X Y ∨ prE2 n m (es2.getD i []) k X Y) := by
  obtain ⟨q0, hb⟩ := hP.b
  have hbl := (List.getElem?_eq_some_iff.mp hb).1
  have h2 := (hP.set r).h2
  have h3 := (hP.set r).h3
  have h5 := (hP.set r).h5
  have hb2 : (H.set b0 ⟨1, ints r⟩)[b0]? = some ⟨1, ints r⟩ := hget_set0 hb _
  have o2 : i2 < H.length := (List.getElem?_eq_some_iff.mp hP.h2).1
  have o3 : i3 < H.length := (List.getElem?_eq_some_iff.mp hP.h3).1
  have o5 : i5 < H.length := (List.getElem?_eq_some_iff.mp hP.h5).1
  have po2 : Old H.length (.pointer (some ⟨i2, 0, some 2⟩)) := fun r hr => by simp [trefs, vrefs, crefs, arefs] at hr; omega
  have po3 : Old H.length (.pointer (some ⟨i3, 0, some 2⟩)) := fun r hr => by simp [trefs, vrefs, crefs, arefs] at hr; omega
  have po5 : Old H.length (.pointer (some ⟨i5, 0, some 2⟩)) := fun r hr => by simp [trefs, vrefs, crefs, arefs] at hr; omega
  clear o2 o3 o5
  have e1 := l1.len
  have e2 := l2.len
  have s6 := l1.out r
  have s7 := l2.out r
  have o6 : Old H.length q6 := by have := s6.old; simpa using this
  have o7 : Old H.length q7 := by have := s7.old; simpa using this
  rw [floop_at i_spec_l09Product_B3.eq_1]
  by_cases hlt : k < n
  · obtain ⟨x, y, hx, hy, hE2⟩ := hp2.at hi
    have f7 := l2.inn i (by omega) r
    rw [hE2] at f7
    have bu : k * m + m ≤ N := by rw [hN, ← Nat.succ_mul]; exact Nat.mul_le_mul_right _ hlt
    have hlt' : (k : Int) < n := by omega
    have hi' : (i : Int) < vs2.length := by omega
    have w1 : IntKind.i64.wrap ((k : Int) * m) = ((k * m : Nat) : Int) := by rw [← Int.natCast_mul]; exact wrap64 (by omega) (by omega)
    obtain ⟨U, hU⟩ : ∃ U, U = k * m := ⟨_, rfl⟩
    rw [← hU] at w1 bu
    have w3 : IntKind.i64.wrap ((U : Int) + x) = ((U + x : Nat) : Int) := by rw [← Int.natCast_add]; exact wrap64 (by omega) (by omega)
    have w4 : IntKind.i64.wrap ((U : Int) + y) = ((U + y : Nat) : Int) := by rw [← Int.natCast_add]; exact wrap64 (by omega) (by omega)
    have c1 := c_spec_l01Put (nro := nro) N b0 N ((U + x : Nat) : Int) ((U + y : Nat) : Int) r (H.set b0 ⟨1, ints r⟩) hb2 ha.1 hn (by omega) (by omega) (by omega) (by omega) hN2
    rw [List.set_set] at c1
    have a1 := ha.put2 (a := ((U + x : Nat) : Int)) (b := ((U + y : Nat) : Int)) (by omega) (by omega) (by omega) (by omega) hN2
    obtain ⟨r1, hr1⟩ : ∃ r1, r1 = put2 r ((U + x : Nat) : Int) ((U + y : Nat) : Int) := ⟨_, rfl⟩
    rw [← hr1] at c1 a1
    obtain ⟨r', ih1, ih2⟩ := l_spec_l09Product_3 H b0 N i2 i3 i5 n m s t p4 q6 q7 es1 es2 vs1 vs2 hP l1 l2 hp1 hp2 h4 hn hN hN2 hmb hnb hl1 hl2 i hi (k + 1) hlt _ _ a1
    rw [show ((k + 1 : Nat) : Int) = (k : Int) + 1 by omega] at ih1
    refine ⟨r', ?_, ih2.congr fun X Y _ => ?_⟩
    · simp only [Int.natCast_add] at c1 ih1 w3 w4
      clear ih2 a1 hr1 hp1 hp2 l1 l2 hE2 hP hb hU hbl
      simp (disch := first | assumption | omega | (simp [*] <;> omega) | fail) [s7.vlen, s7.vidx, s7.vload, f7.vidx, f7.vload, h2, h3, h5, wrap64, w1, w3, w4, hlt', hi', c1, ih1]
    · rw [hU]
      simp only [Int.toNat_natCast]
      unfold prE2
      constructor
      · rintro ((h1 | h1) | ⟨u', v', k', g1, g2, g3, g4⟩)
        · exact .inl h1
        · exact .inr ⟨x, y, k, Nat.le_refl _, hlt, hE2, h1⟩
        · exact .inr ⟨u', v', k', by omega, g2, g3, g4⟩
      · rintro (h1 | ⟨u', v', k', g1, g2, g3, g4⟩)
        · exact .inl (.inl h1)
        · by_cases hk : k' = k
          · subst hk
            rw [hE2] at g3
            simp at g3
            have q1 : u' = x := by omega
            have q2 : v' = y := by omega
            subst q1 q2
            exact .inl (.inr g4)
          · exact .inr ⟨u', v', k', by omega, g2, g3, g4⟩
  · have hlt' : ¬ (k : Int) < n := by omega
    refine ⟨r, ?_, ha.congr fun X Y _ => ?_⟩
    · simp (disch := first | assumption | omega | (simp [*] <;> omega) | fail) [h2, hlt']
    · constructor
      · exact .inl
      · rintro (h1 | ⟨u', v', k', g1, g2, _⟩)
        · exact h1
        · omega
 termination_by n - k

theorem l_spec_l09Product_2 (H : VH) (b0 N i2 i3 i5 n m : Nat) (s t p4 q6 q7 : Value) (es1 es2 : List (List Int)) (vs1 vs2 : List Value) (hP : PG H b0 N i2 i3 i5 n s N m t) (l1 : LL H b0 q6 es1 vs1) (l2 : LL H b0 q7 es2 vs2) (hp1 : Pairs n es1) (hp2 : Pairs m es2) (h4 : Old H.length p4) (hn : nro ≤ b0) (hN : N = n * m) (hN2 : N ≤ 62) (hmb : m ≤ 62) (hnb : n ≤ 62) (hl1 : es1.length ≤ 100000) (hl2 : es2.length ≤ 100000)
    (i : Nat) (hi : i ≤ es1.length) (r : List Int) (adj : Nat → Nat → Prop) (ha : IsAdj N r adj) :
    ∃ r', floop (vcall F nro) nro [2, 3, 4, 5, 6, 7, 8] i_spec_l09Product_B2 H [.pointer (some ⟨i2, 0, some 2⟩), .pointer (some ⟨i3, 0, some 2⟩), p4, .pointer (some ⟨i5, 0, some 2⟩), q6, q7, .int .i64 i] (H.set b0 ⟨1, ints r⟩) =
      some (.exit 0, fl [(2, .pointer (some ⟨i2, 0, some 2⟩)), (3, .pointer (some ⟨i3, 0, some 2⟩)), (4, p4), (5, .pointer (some ⟨i5, 0, some 2⟩)), (7, q7)], H.set b0 ⟨1, ints r'⟩) ∧
      IsAdj N r' (fun X Y => adj X Y ∨ ∃ e ∈ es1.drop i, prE1 m e 0 X Y) := by
  obtain ⟨q0, hb⟩ := hP.b
  have hbl := (List.getElem?_eq_some_iff.mp hb).1
  have h2 := (hP.set r).h2
  have h3 := (hP.set r).h3
  have h5 := (hP.set r).h5
  have hb2 : (H.set b0 ⟨1, ints r⟩)[b0]? = some ⟨1, ints r⟩ := hget_set0 hb _
  have o2 : i2 < H.length := (List.getElem?_eq_some_iff.mp hP.h2).1
  have o3 : i3 < H.length := (List.getElem?_eq_some_iff.mp hP.h3).1
  have o5 : i5 < H.length := (List.getElem?_eq_some_iff.mp hP.h5).1
  have po2 : Old H.length (.pointer (some ⟨i2, 0, some 2⟩)) := fun r hr => by simp [trefs, vrefs, crefs, arefs] at hr; omega
  have po3 : Old H.length (.pointer (some ⟨i3, 0, some 2⟩)) := fun r hr => by simp [trefs, vrefs, crefs, arefs] at hr; omega
  have po5 : Old H.length (.pointer (some ⟨i5, 0, some 2⟩)) := fun r hr => by simp [trefs, vrefs, crefs, arefs] at hr; omega
  clear o2 o3 o5
  have e1 := l1.len
  have e2 := l2.len
  have s6 := l1.out r
  have s7 := l2.out r
  have o6 : Old H.length q6 := by have := s6.old; simpa using this
  have o7 : Old H.length q7 := by have := s7.old; simpa using this
  rw [floop_at i_spec_l09Product_B2.eq_1]
  by_cases hlt : i < es1.length
  · obtain ⟨r1, j1, j2⟩ := l_spec_l09Product_1 (nro := nro) (H.set b0 ⟨1, ints r⟩) b0 N i2 i3 i5 n m s t p4 q6 q7 es1 es2 vs1 vs2 (hP.set r) (l1.set r) (l2.set r) hp1 hp2 (by simpa using h4) hn hN hN2 hmb hnb hl1 hl2 i hlt 0 (by omega) r adj ha
    rw [List.set_set, List.set_set, show ((0 : Nat) : Int) = 0 from rfl] at j1
    obtain ⟨r', ih1, ih2⟩ := l_spec_l09Product_2 H b0 N i2 i3 i5 n m s t p4 q6 q7 es1 es2 vs1 vs2 hP l1 l2 hp1 hp2 h4 hn hN hN2 hmb hnb hl1 hl2 (i + 1) hlt r1 _ j2
    rw [show ((i + 1 : Nat) : Int) = (i : Int) + 1 by omega] at ih1
    have hlt' : (i : Int) < vs1.length := by omega
    refine ⟨r', ?_, ih2.congr fun X Y _ => ?_⟩
    · clear ih2 j2 hp1 hp2 l1 l2 hP hb hbl
      simp (disch := first | assumption | omega | (simp [*] <;> omega) | fail) [s6.vlen, wrap64, hlt', j1, ih1]
    · rw [List.drop_eq_getElem_cons hlt]
      have hE : es1.getD i [] = es1[i] := by rw [List.getD_eq_getElem?_getD, List.getElem?_eq_getElem hlt]; rfl
      rw [hE]
      simp only [List.mem_cons]
      constructor
      · rintro ((h1 | h1) | ⟨e, h1, h2⟩)
        · exact .inl h1
        · exact .inr ⟨_, .inl rfl, h1⟩
        · exact .inr ⟨e, .inr h1, h2⟩
      · rintro (h1 | ⟨e, rfl | h1, h2⟩)
        · exact .inl (.inl h1)
        · exact .inl (.inr h2)
        · exact .inr ⟨e, h1, h2⟩
  · have hlt' : ¬ (i : Int) < vs1.length := by omega
    refine ⟨r, ?_, ha.congr fun X Y _ => ?_⟩
    · simp (disch := first | assumption | omega | (simp [*] <;> omega) | fail) [s6.vlen, hlt']
    · rw [List.drop_eq_nil_of_le (by omega)]
      simp
 termination_by es1.length - i

theorem l_spec_l09Product_4 (H : VH) (b0 N i2 i3 i5 n m : Nat) (s t p4 q6 q7 : Value) (es1 es2 : List (List Int)) (vs1 vs2 : List Value) (hP : PG H b0 N i2 i3 i5 n s N m t) (l1 : LL H b0 q6 es1 vs1) (l2 : LL H b0 q7 es2 vs2) (hp1 : Pairs n es1) (hp2 : Pairs m es2) (h4 : Old H.length p4) (hn : nro ≤ b0) (hN : N = n * m) (hN2 : N ≤ 62) (hmb : m ≤ 62) (hnb : n ≤ 62) (hl1 : es1.length ≤ 100000) (hl2 : es2.length ≤ 100000)
    (i : Nat) (hi : i ≤ es2.length) (r : List Int) (adj : Nat → Nat → Prop) (ha : IsAdj N r adj) :
    ∃ r', floop (vcall F nro) nro [2, 3, 4, 5, 7, 10] i_spec_l09Product_B4 H [.pointer (some ⟨i2, 0, some 2⟩), .pointer (some ⟨i3, 0, some 2⟩), p4, .pointer (some ⟨i5, 0, some 2⟩), q7, .int .i64 i] (H.set b0 ⟨1, ints r⟩) =
      some (.exit 4, fl [(4, p4), (5, .pointer (some ⟨i5, 0, some 2⟩))], H.set b0 ⟨1, ints r'⟩) ∧
      IsAdj N r' (fun X Y => adj X Y ∨ ∃ e ∈ es2.drop i, prE2 n m e 0 X Y) := by
  obtain ⟨q0, hb⟩ := hP.b
  have hbl := (List.getElem?_eq_some_iff.mp hb).1
  have h2 := (hP.set r).h2
  have h3 := (hP.set r).h3
  have h5 := (hP.set r).h5
  have hb2 : (H.set b0 ⟨1, ints r⟩)[b0]? = some ⟨1, ints r⟩ := hget_set0 hb _
  have o2 : i2 < H.length := (List.getElem?_eq_some_iff.mp hP.h2).1
  have o3 : i3 < H.length := (List.getElem?_eq_some_iff.mp hP.h3).1
  have o5 : i5 < H.length := (List.getElem?_eq_some_iff.mp hP.h5).1
  have po2 : Old H.length (.pointer (some ⟨i2, 0, some 2⟩)) := fun r hr => by simp [trefs, vrefs, crefs, arefs] at hr; omega
  have po3 : Old H.length (.pointer (some ⟨i3, 0, some 2⟩)) := fun r hr => by simp [trefs, vrefs, crefs, arefs] at hr; omega
  have po5 : Old H.length (.pointer (some ⟨i5, 0, some 2⟩)) := fun r hr => by simp [trefs, vrefs, crefs, arefs] at hr; omega
  clear o2 o3 o5
  have e1 := l1.len
  have e2 := l2.len
  have s6 := l1.out r
  have s7 := l2.out r
  have o6 : Old H.length q6 := by have := s6.old; simpa using this
  have o7 : Old H.length q7 := by have := s7.old; simpa using this
  rw [floop_at i_spec_l09Product_B4.eq_1]
  by_cases hlt : i < es2.length
  · obtain ⟨r1, j1, j2⟩ := l_spec_l09Product_3 (nro := nro) (H.set b0 ⟨1, ints r⟩) b0 N i2 i3 i5 n m s t p4 q6 q7 es1 es2 vs1 vs2 (hP.set r) (l1.set r) (l2.set r) hp1 hp2 (by simpa using h4) hn hN hN2 hmb hnb hl1 hl2 i hlt 0 (by omega) r adj ha
    rw [List.set_set, List.set_set, show ((0 : Nat) : Int) = 0 from rfl] at j1
    obtain ⟨r', ih1, ih2⟩ := l_spec_l09Product_4 H b0 N i2 i3 i5 n m s t p4 q6 q7 es1 es2 vs1 vs2 hP l1 l2 hp1 hp2 h4 hn hN hN2 hmb hnb hl1 hl2 (i + 1) hlt r1 _ j2
    rw [show ((i + 1 : Nat) : Int) = (i : Int) + 1 by omega] at ih1
    have hlt' : (i : Int) < vs2.length := by omega
    refine ⟨r', ?_, ih2.congr fun X Y _ => ?_⟩
    · clear ih2 j2 hp1 hp2 l1 l2 hP hb hbl
      simp (disch := first | assumption | omega | (simp [*] <;> omega) | fail) [s7.vlen, wrap64, hlt', j1, ih1]
    · rw [List.drop_eq_getElem_cons hlt]
      have hE : es2.getD i [] = es2[i] := by rw [List.getD_eq_getElem?_getD, List.getElem?_eq_getElem hlt]; rfl
      rw [hE]
      simp only [List.mem_cons]
      constructor
      · rintro ((h1 | h1) | ⟨e, h1, h2⟩)
        · exact .inl h1
        · exact .inr ⟨_, .inl rfl, h1⟩
        · exact .inr ⟨e, .inr h1, h2⟩
      · rintro (h1 | ⟨e, rfl | h1, h2⟩)
        · exact .inl (.inl h1)
        · exact .inl (.inr h2)
        · exact .inr ⟨e, h1, h2⟩
  · have hlt' : ¬ (i : Int) < vs2.length := by omega
    refine ⟨r, ?_, ha.congr fun X Y _ => ?_⟩
    · simp (disch := first | assumption | omega | (simp [*] <;> omega) | fail) [s7.vlen, hlt']
    · rw [List.drop_eq_nil_of_le (by omega)]
      simp
 termination_by es2.length - i

/-- Two vertices of the product are neighbours. -/
def prAdj (n m : Nat) (rows hrows : List Int) (X Y : Nat) : Prop := (∃ e ∈ edgesF rows n 0, prE1 m e 0 X Y) ∨ ∃ e ∈ edgesF hrows m 0, prE2 n m e 0 X Y

theorem c_spec_l09Product (n m : Nat) (s t : Value) (rows hrows : List Int) (h : VH) (hs : Sli h s rows) (ht : Sli h t hrows) (hn : nro ≤ h.length) (g : GV n rows) (gm : GV m hrows) (hN : n * m ≤ 62) :
    vcall F nro k_spec_l09Product [gv n s, gv m t] h = some (gv ((n * m : Nat) : Int) (.slice (some ⟨h.length, 0, none⟩) (n * m) (n * m)), h ++ [⟨1, ints (adjRows (n * m) (prAdj n m rows hrows))⟩]) ∧ IsAdj (n * m) (adjRows (n * m) (prAdj n m rows hrows)) (prAdj n m rows hrows) := by
  have hn' := fun k => Nat.le_trans hn (Nat.le_add_right h.length k)
  have g0 := g.hi
  have gm0 := gm.hi
  have g1 := g.lo
  have gm1 := gm.lo
  obtain ⟨N, hNe⟩ : ∃ N, N = n * m := ⟨_, rfl⟩
  rw [← hNe] at hN ⊢
  have hmul : IntKind.i64.wrap ((n : Int) * m) = (N : Int) := by rw [hNe, Int.natCast_mul]; exact wrap64 (by rw [← Int.natCast_mul]; omega) (by rw [← Int.natCast_mul]; omega)
  let b1 : VO := ⟨0, [.int .i64 n, s]⟩
  let b2 : VO := ⟨0, [.int .i64 m, t]⟩
  let z : VO := ⟨0, [.int .i64 0, .slice none 0 0]⟩
  let zs : VO := ⟨1, ints (List.replicate N 0)⟩
  have hE := c_spec_l01Empty (nro := nro) N (h ++ [b1, b2, z]) (by omega) (by omega) (by simp; omega)
  rw [Int.toNat_natCast] at hE
  obtain ⟨q6, M1, he1, hS1⟩ := c_spec_l01Edges (nro := nro) n s rows (h ++ [b1, b2, z, zs]) (hs.app _) (by simp; omega) g
  obtain ⟨q7, M2, he2, hS2⟩ := c_spec_l01Edges (nro := nro) m t hrows (h ++ [b1, b2, z, zs] ++ M1) ((ht.app _).app _) (by simp; omega) gm
  rw [Int.toNat_natCast] at hS1 hS2
  obtain ⟨Hm, hHm⟩ : ∃ Hm, Hm = h ++ [b1, b2, z, zs] ++ M1 ++ M2 := ⟨_, rfl⟩
  let gb : VO := ⟨0, [.int .i64 N, .slice (some ⟨h.length + 3, 0, none⟩) N N]⟩
  obtain ⟨vs1, L1⟩ := LL.of (L := M2 ++ [gb]) hS1 (b0 := h.length + 3) (by simp)
  obtain ⟨vs2, L2⟩ := LL.of (L := [gb]) hS2 (b0 := h.length + 3) (by simp)
  rw [← List.append_assoc, ← hHm] at L1
  rw [← hHm] at L2
  have hml : h.length + 4 ≤ Hm.length := by rw [hHm]; simp
  have hP : PG (Hm ++ [gb]) (h.length + 3) N h.length (h.length + 1) Hm.length n s N m t := by
    refine ⟨⟨⟨List.replicate N 0, ?_⟩, ?_, by simp [gb], by omega, by omega⟩, ?_, by omega⟩
    · rw [hHm]; simp [b1, b2, z, zs]
    · rw [hHm]; simp [b1, b2, z, zs]
    · rw [hHm]; simp [b1, b2, z, zs]
  have z1 := edges_len rows n 0 (by omega)
  have z2 := edges_len hrows m 0 (by omega)
  have z3 : Old (Hm ++ [gb]).length (.pointer (some ⟨h.length + 2, 0, some 2⟩)) := by intro r hr; simp [trefs, vrefs, crefs, arefs] at hr ⊢; omega
  obtain ⟨r0, lp0, la0⟩ := l_spec_l09Product_2 (nro := nro) (Hm ++ [gb]) (h.length + 3) N h.length (h.length + 1) Hm.length n m s t (.pointer (some ⟨h.length + 2, 0, some 2⟩)) q6 q7 _ _ vs1 vs2 hP L1 L2 (edges_pairs rows n) (edges_pairs hrows m) z3 (by omega) hNe hN (by omega) (by omega)
    (by omega) (by omega) 0 (by omega) (List.replicate N 0) _ (IsAdj.zero _)
  obtain ⟨r', lp, la⟩ := l_spec_l09Product_4 (nro := nro) ((Hm ++ [gb]).set (h.length + 3) ⟨1, ints r0⟩) (h.length + 3) N h.length (h.length + 1) Hm.length n m s t (.pointer (some ⟨h.length + 2, 0, some 2⟩)) q6 q7 _ _ vs1 vs2 (hP.set r0) (L1.set r0) (L2.set r0) (edges_pairs rows n) (edges_pairs hrows m) (by rw [List.length_set]; exact z3) (by omega) hNe hN (by omega) (by omega)
    (by omega) (by omega) 0 (by omega) r0 _ la0
  rw [List.set_set, List.set_set] at lp
  have la2 : IsAdj N r' (prAdj n m rows hrows) := la.congr fun X Y _ => by simp [prAdj]
  rw [la2.eq]
  refine ⟨?_, la2⟩
  have hb0 : (Hm ++ [gb])[h.length + 3]? = some zs := by rw [hHm]; simp
  have hset0 : (Hm ++ [gb]).set (h.length + 3) ⟨1, ints (List.replicate N 0)⟩ = Hm ++ [gb] := hset_self hb0
  rw [hset0, show ((0 : Nat) : Int) = 0 from rfl] at lp0
  rw [show ((0 : Nat) : Int) = 0 from rfl] at lp
  obtain ⟨He, hHe⟩ : ∃ He, He = (Hm ++ [gb]).set (h.length + 3) ⟨1, ints r0⟩ := ⟨_, rfl⟩
  rw [← hHe] at lp lp0
  -- what lies where, at the end
  obtain ⟨Hf, hHf⟩ : ∃ Hf, Hf = (Hm ++ [gb]).set (h.length + 3) ⟨1, ints r'⟩ := ⟨_, rfl⟩
  rw [← hHf] at lp
  have f1 : Hf[Hm.length]? = some gb := by rw [hHf]; exact (hP.set r').h5
  have f2 : Hf[h.length + 2]? = some z := by rw [hHf, List.getElem?_set_ne (by omega), hHm]; simp
  have f3 : Hf.set (h.length + 2) ⟨0, [.int .i64 N, .slice (some ⟨h.length + 3, 0, none⟩) N N]⟩ = h ++ b1 :: b2 :: ⟨0, [.int .i64 N, .slice (some ⟨h.length + 3, 0, none⟩) N N]⟩ :: ⟨1, ints r'⟩ :: (M1 ++ M2 ++ [gb]) := by
    rw [hHf, hHm]
    simp [List.append_assoc]
  have hml2 : ∀ k, nro ≤ Hm.length + k := fun k => by omega
  have hml0 : nro ≤ Hm.length := by omega
  have hm1 : Hm[h.length + 1]? = some b2 := by rw [hHm]; simp
  have hm0 : Hm[h.length]? = some b1 := by rw [hHm]; simp
  have he1' : vcall F nro k_spec_l01Edges [gv n s] (h ++ [b1, b2, z, zs]) = some (q6, h ++ [b1, b2, z, zs] ++ M1) := he1
  obtain ⟨Hk, hHk⟩ : ∃ Hk, Hk = h ++ [b1, b2, z, zs] ++ M1 := ⟨_, rfl⟩
  rw [← hHk] at he1 he2
  rw [show Hk ++ M2 = Hm by rw [hHk, hHm]] at he2
  have hk1 : Hk[h.length + 1]? = some b2 := by rw [hHk]; simp
  have hk0 : Hk[h.length]? = some b1 := by rw [hHk]; simp
  refine v_spec_l09Product (by simp [i_spec_l09Product]) ?_
  rw [fbody_eq]
  clear he1' hHk hHm hHf hP L1 L2 hS1 hS2 la la2 la0 z1 z2 z3 hHe hset0 hb0 hml
  simp only [b1, b2, z, zs, gb] at *
  simp at hE
  simp (disch := first | assumption | omega | (simp [*] <;> omega) | fail) [i_spec_l09Product, hE, lp0, he1, he2, hmul, hm1, hm0, hk1, hk0, lp, f1, f2, f3, hn', hml2, hml0, fresults, fresL, fres1]

theorem c_spec_ProductOf (n m : Int) (s t : Value) (rows hrows : List Int) (h : VH) (hs : Sli h s rows) (ht : Sli h t hrows) (hn : nro ≤ h.length) :
    vcall F nro k_spec_ProductOf [gv n s, gv m t] h = some (gres h (prodAns prAdj n rows m hrows)) := by
  have hn' := fun k => Nat.le_trans hn (Nat.le_add_right h.length k)
  let H : VH := h ++ [⟨0, [.int .i64 n, s]⟩, ⟨0, [.int .i64 m, t]⟩, ⟨0, [.int .i64 0, .slice none 0 0]⟩, ⟨2, [.int .i64 n, s, .int .i64 m, t]⟩]
  have hc := c_spec_l09Code2 (nro := nro) n m s t rows hrows (h.length + 3) H (hs.app _) (ht.app _) (by simp [H]) (by simp [H]; omega)
  have js := hs.nj
  have jt := ht.nj
  unfold isJunk at js jt
  refine v_spec_ProductOf (by simp [i_spec_ProductOf]) ?_
  rw [fbody_eq]
  by_cases gg : GV n rows ∧ GV m hrows
  · rw [if_pos gg] at hc
    obtain ⟨g, gm⟩ := gg
    have g1 := g.lo
    have gm1 := gm.lo
    have g0 := g.hi
    have gm0 := gm.hi
    have hmul : n * m ≤ 62 * 62 := Int.mul_le_mul g0 gm0 (by omega) (by omega)
    have hmul0 : 1 * 1 ≤ n * m := Int.mul_le_mul g1 gm1 (by omega) (by omega)
    have ht9 := fun L => c_spec_l09Told (nro := nro) (n * m) (h ++ L)
    have hw : IntKind.i64.wrap (n * m) = n * m := wrap64 (by omega) (by omega)
    by_cases h2 : 62 < n * m
    · have e : prodAns prAdj n rows m hrows = .inr 3 := by unfold prodAns; rw [if_neg (fun h => h ⟨g, gm⟩), if_pos h2]
      rw [if_neg (by omega)] at ht9
      simp only [H] at hc
      simp (disch := first | assumption | omega | (simp [*] <;> omega) | fail) [i_spec_ProductOf, hc, ht9, hw, e, js, jt, fresults, fresL, fres1, hn', hn]
    · have e : prodAns prAdj n rows m hrows = .inl (n * m, adjRows (n.toNat * m.toNat) (prAdj n.toNat m.toNat rows hrows)) := by unfold prodAns; rw [if_neg (fun h => h ⟨g, gm⟩), if_neg h2]
      rw [if_pos (by omega)] at ht9
      obtain ⟨N, rfl⟩ : ∃ N : Nat, n = N := ⟨n.toNat, by omega⟩
      obtain ⟨M, rfl⟩ : ∃ M : Nat, m = M := ⟨m.toNat, by omega⟩
      rw [Int.toNat_natCast, Int.toNat_natCast] at e
      obtain ⟨hd, ha⟩ := c_spec_l09Product (nro := nro) N M s t rows hrows H (hs.app _) (ht.app _) (by simp [H]; omega) g gm (by omega)
      have hal := ha.1
      rw [Int.natCast_mul] at hd
      obtain ⟨R, hR⟩ : ∃ R, R = adjRows (N * M) (prAdj N M rows hrows) := ⟨_, rfl⟩
      rw [← hR] at e hd hal
      simp only [H] at hc hd
      simp at hd
      obtain ⟨Q, hQ⟩ : ∃ Q, Q = N * M := ⟨_, rfl⟩
      rw [← hQ] at hal hd
      have hQ' : (N : Int) * M = (Q : Int) := by rw [hQ, Int.natCast_mul]
      rw [hQ'] at hd hw e ht9
      clear hR ha g gm hQ hmul hmul0 h2
      simp (disch := first | assumption | omega | (simp [*] <;> omega) | fail) [i_spec_ProductOf, hc, ht9, hw, hQ', hd, e, hal, js, jt, fresults, fresL, fres1, hn', hn]
  · have e : prodAns prAdj n rows m hrows = .inr 1 := by unfold prodAns; rw [if_pos gg]
    rw [if_neg gg] at hc
    simp only [H] at hc
    simp (disch := first | assumption | omega | (simp [*] <;> omega) | fail) [i_spec_ProductOf, hc, e, js, jt, fresults, fresL, fres1, hn', hn]
end Go.Proofs.Ytcpmodengmffjaa.Zv
