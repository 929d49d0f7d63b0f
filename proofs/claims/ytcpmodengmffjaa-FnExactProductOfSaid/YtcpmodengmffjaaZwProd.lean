/- Products of graphs: what the reference makes. -/
import Derived.Test.YtcpmodengmffjaaZwEdges
import Derived.Test.YtcpmodengmffjaaZwAdj
import Derived.Test.YtcpmodengmffjaaZwMade
import Derived.Test.YtcpmodengmffjaaZwLawCover
namespace Go.Proofs.Ytcpmodengmffjaa.Zv
open Go
variable {nro : Nat}

theorem Sl.set_ne {h : VH} {v : Value} {cs : List Value} (hs : Sl h v cs) {b : Nat} (hb : ∀ r ∈ arefs v, r ≠ b) (o : VO) : Sl (h.set b o) v cs := by
  rcases hs.inv with ⟨rfl, rfl⟩ | ⟨rfl, rfl⟩ | ⟨a, n, tot, o', rfl, ho, hx⟩
  · rfl
  · rfl
  · have hne : a.block ≠ b := hb a.block (by simp [arefs])
    have e : (h.set b o)[a.block]? = h[a.block]? := by rw [List.getElem?_set_ne (fun h => hne h.symm)]
    unfold Sl at hs ⊢
    rw [vsrc_ref] at hs ⊢
    rw [e]
    exact hs

/-- A list of lists that reads the same whatever object b0 holds. -/
structure LL (H : VH) (b0 : Nat) (q : Value) (es : List (List Int)) (vs : List Value) : Prop where
  len : vs.length = es.length
  out : ∀ r, Sl (H.set b0 ⟨1, ints r⟩) q vs
  inn : ∀ (i : Nat) (hi : i < vs.length) r, Sli (H.set b0 ⟨1, ints r⟩) vs[i] (es.getD i [])
theorem LL.set {H : VH} {b0 : Nat} {q : Value} {es : List (List Int)} {vs : List Value} (h : LL H b0 q es vs) (r : List Int) : LL (H.set b0 ⟨1, ints r⟩) b0 q es vs :=
  ⟨h.len, fun r' => by rw [List.set_set]; exact h.out r', fun i hi r' => by rw [List.set_set]; exact h.inn i hi r'⟩
theorem LL.of {h M L : VH} {q : Value} {es : List (List Int)} (hs : SL2 h.length M q es) {b0 : Nat} (hb : b0 < h.length) : ∃ vs, LL (h ++ M ++ L) b0 q es vs := by
  obtain ⟨b, vs, rfl, h1, h2⟩ := hs
  have hset : ∀ o, (h ++ M ++ L).set b0 o = h.set b0 o ++ M ++ L := fun o => by
    rw [List.append_assoc, List.append_assoc, List.set_append_left _ _ hb]
  have hget : ∀ o k, (h.set b0 o ++ M ++ L)[h.length + k]? = (M ++ L)[k]? := fun o k => by
    rw [List.append_assoc, List.getElem?_append_right (by simp), List.length_set, Nat.add_sub_cancel_left]
  refine ⟨vs, h2.len, fun r => ?_, fun i hi r => ?_⟩
  · rw [hset]
    have h3 : (M ++ L)[b]? = some ⟨1, vs⟩ := by rw [List.getElem?_append_left (List.getElem?_eq_some_iff.mp h1).1]; exact h1
    unfold Sl
    rw [vsrc_ref]
    simp only [hget, h3, h2.len]
    simp [h2.len]
    rw [List.take_of_length_le (by rw [h2.len]; exact Nat.le_refl _)]
  · have hi' : i < es.length := by rw [← h2.len]; exact hi
    obtain ⟨k, k1, k2⟩ := h2.at_ i hi'
    have e : vs[i] = .slice (some ⟨h.length + k, 0, none⟩) (es.getD i []).length (es.getD i []).length := (List.getElem?_eq_some_iff.mp k1).2
    rw [e, hset]
    refine sli_at ?_
    rw [hget, List.getElem?_append_left (List.getElem?_eq_some_iff.mp k2).1]
    exact k2

/-- Lists of pairs of numbers below n. -/
def Pairs (n : Nat) (es : List (List Int)) : Prop := ∀ e ∈ es, ∃ u v : Nat, u < n ∧ v < n ∧ e = [(u : Int), (v : Int)]
theorem Pairs.at {n : Nat} {es : List (List Int)} (h : Pairs n es) {i : Nat} (hi : i < es.length) : ∃ u v : Nat, u < n ∧ v < n ∧ es.getD i [] = [(u : Int), (v : Int)] := by
  have : es.getD i [] = es[i] := by rw [List.getD_eq_getElem?_getD, List.getElem?_eq_getElem hi]; rfl
  rw [this]
  exact h _ (List.getElem_mem hi)
theorem edges_pairs (rows : List Int) (n : Nat) : Pairs n (edgesF rows n 0) := by
  intro e he
  obtain ⟨u, k, _, h2, h3, _, rfl⟩ := (edgesF_mem rows n 0 e).mp he
  exact ⟨u, k, by omega, h3, rfl⟩

/-- What is known of the heap in the loops. -/
structure PF (H : VH) (b0 N i3 i5 : Nat) (Nn m : Int) (t : Value) : Prop where
  b : ∃ q0, H[b0]? = some ⟨1, ints q0⟩
  h3 : H[i3]? = some ⟨0, [.int .i64 m, t]⟩
  h5 : H[i5]? = some ⟨0, [.int .i64 Nn, .slice (some ⟨b0, 0, none⟩) N N]⟩
  n3 : i3 ≠ b0
  n5 : i5 ≠ b0
theorem PF.set {H : VH} {b0 N i3 i5 : Nat} {Nn m : Int} {t : Value} (h : PF H b0 N i3 i5 Nn m t) (r : List Int) : PF (H.set b0 ⟨1, ints r⟩) b0 N i3 i5 Nn m t := by
  obtain ⟨q0, hb⟩ := h.b
  refine ⟨⟨r, hget_set0 hb _⟩, ?_, ?_, h.n3, h.n5⟩
  · rw [List.getElem?_set_ne (fun e => h.n3 e.symm)]; exact h.h3
  · rw [List.getElem?_set_ne (fun e => h.n5 e.symm)]; exact h.h5

/-- The edges of the direct product for two edges. -/
def dirE (m : Nat) (e1 e2 : List Int) (X Y : Nat) : Prop := ∃ u v x y : Nat, e1 = [(u : Int), (v : Int)] ∧ e2 = [(x : Int), (y : Int)] ∧
  (((X = u * m + x ∧ Y = v * m + y) ∨ (X = v * m + y ∧ Y = u * m + x)) ∨ ((X = u * m + y ∧ Y = v * m + x) ∨ (X = v * m + x ∧ Y = u * m + y)))

theorem l_spec_l09Direct_1 (H : VH) (b0 N i3 i5 n m : Nat) (t p4 q6 q7 : Value) (es1 es2 : List (List Int)) (vs1 vs2 : List Value) (hP : PF H b0 N i3 i5 N m t) (l1 : LL H b0 q6 es1 vs1) (l2 : LL H b0 q7 es2 vs2) (hp1 : Pairs n es1) (hp2 : Pairs m es2) (h4 : Old H.length p4) (hn : nro ≤ b0) (hN : N = n * m) (hN2 : N ≤ 62) (hl1 : es1.length ≤ 100000) (hl2 : es2.length ≤ 100000)
    (i : Nat) (hi : i < es1.length) (k : Nat) (hk : k ≤ es2.length) (r : List Int) (adj : Nat → Nat → Prop) (ha : IsAdj N r adj) :
    ∃ r', floop (vcall F nro) nro [3, 4, 5, 6, 7, 8, 9] i_spec_l09Direct_B1 H [.pointer (some ⟨i3, 0, some 2⟩), p4, .pointer (some ⟨i5, 0, some 2⟩), q6, q7, .int .i64 i, .int .i64 k] (H.set b0 ⟨1, ints r⟩) =
      some (.exit 2, fl [(3, .pointer (some ⟨i3, 0, some 2⟩)), (4, p4), (5, .pointer (some ⟨i5, 0, some 2⟩)), (6, q6), (7, q7), (8, .int .i64 i)], H.set b0 ⟨1, ints r'⟩) ∧
      IsAdj N r' (fun X Y => adj X Y ∨ ∃ e2 ∈ es2.drop k, dirE m (es1.getD i []) e2 X Y) := by
  obtain ⟨q0, hb⟩ := hP.b
  have hbl := (List.getElem?_eq_some_iff.mp hb).1
  have h3 := (hP.set r).h3
  have h5 := (hP.set r).h5
  have hb2 : (H.set b0 ⟨1, ints r⟩)[b0]? = some ⟨1, ints r⟩ := hget_set0 hb _
  have o3 : i3 < H.length := (List.getElem?_eq_some_iff.mp hP.h3).1
  have o5 : i5 < H.length := (List.getElem?_eq_some_iff.mp hP.h5).1
  have po3 : Old H.length (.pointer (some ⟨i3, 0, some 2⟩)) := fun r hr => by simp [trefs, vrefs, crefs, arefs] at hr; omega
  have po5 : Old H.length (.pointer (some ⟨i5, 0, some 2⟩)) := fun r hr => by simp [trefs, vrefs, crefs, arefs] at hr; omega
  clear o3 o5
  have e1 := l1.len
  have e2 := l2.len
  rw [floop_at i_spec_l09Direct_B1.eq_1]
  by_cases hlt : k < es2.length
  · obtain ⟨u, v, hu, hv, hE1⟩ := hp1.at hi
    obtain ⟨x, y, hx, hy, hE2⟩ := hp2.at hlt
    have s6 := l1.out r
    have s7 := l2.out r
    have f6 := l1.inn i (by omega) r
    have f7 := l2.inn k (by omega) r
    rw [hE1] at f6
    rw [hE2] at f7
    have o6 : Old H.length q6 := by have := s6.old; simpa using this
    have o7 : Old H.length q7 := by have := s7.old; simpa using this
    have bu : u * m + m ≤ N := by rw [hN, ← Nat.succ_mul]; exact Nat.mul_le_mul_right _ hu
    have bv : v * m + m ≤ N := by rw [hN, ← Nat.succ_mul]; exact Nat.mul_le_mul_right _ hv
    have hlt' : (k : Int) < vs2.length := by omega
    have hi' : (i : Int) < vs1.length := by omega
    have w1 : IntKind.i64.wrap ((u : Int) * m) = ((u * m : Nat) : Int) := by rw [← Int.natCast_mul]; exact wrap64 (by omega) (by omega)
    have w2 : IntKind.i64.wrap ((v : Int) * m) = ((v * m : Nat) : Int) := by rw [← Int.natCast_mul]; exact wrap64 (by omega) (by omega)
    obtain ⟨U, hU⟩ : ∃ U, U = u * m := ⟨_, rfl⟩
    obtain ⟨V, hV⟩ : ∃ V, V = v * m := ⟨_, rfl⟩
    rw [← hU] at w1 bu
    rw [← hV] at w2 bv
    have w3 : IntKind.i64.wrap ((U : Int) + x) = ((U + x : Nat) : Int) := by rw [← Int.natCast_add]; exact wrap64 (by omega) (by omega)
    have w4 : IntKind.i64.wrap ((V : Int) + y) = ((V + y : Nat) : Int) := by rw [← Int.natCast_add]; exact wrap64 (by omega) (by omega)
    have w5 : IntKind.i64.wrap ((U : Int) + y) = ((U + y : Nat) : Int) := by rw [← Int.natCast_add]; exact wrap64 (by omega) (by omega)
    have w6 : IntKind.i64.wrap ((V : Int) + x) = ((V + x : Nat) : Int) := by rw [← Int.natCast_add]; exact wrap64 (by omega) (by omega)
    have c1 := c_spec_l01Put (nro := nro) N b0 N ((U + x : Nat) : Int) ((V + y : Nat) : Int) r (H.set b0 ⟨1, ints r⟩) hb2 ha.1 hn (by omega) (by omega) (by omega) (by omega) hN2
    rw [List.set_set] at c1
    have a1 := ha.put2 (a := ((U + x : Nat) : Int)) (b := ((V + y : Nat) : Int)) (by omega) (by omega) (by omega) (by omega) hN2
    obtain ⟨r1, hr1⟩ : ∃ r1, r1 = put2 r ((U + x : Nat) : Int) ((V + y : Nat) : Int) := ⟨_, rfl⟩
    rw [← hr1] at c1 a1
    have c2 := c_spec_l01Put (nro := nro) N b0 N ((U + y : Nat) : Int) ((V + x : Nat) : Int) r1 (H.set b0 ⟨1, ints r1⟩) (hget_set0 hb _) a1.1 hn (by omega) (by omega) (by omega) (by omega) hN2
    rw [List.set_set] at c2
    have a2 := a1.put2 (a := ((U + y : Nat) : Int)) (b := ((V + x : Nat) : Int)) (by omega) (by omega) (by omega) (by omega) hN2
    have s6' := l1.out r1
    have s7' := l2.out r1
    have f6' := l1.inn i (by omega) r1
    have f7' := l2.inn k (by omega) r1
    rw [hE1] at f6'
    rw [hE2] at f7'
    have h3' := (hP.set r1).h3
    have h5' := (hP.set r1).h5
    obtain ⟨r', ih1, ih2⟩ := l_spec_l09Direct_1 H b0 N i3 i5 n m t p4 q6 q7 es1 es2 vs1 vs2 hP l1 l2 hp1 hp2 h4 hn hN hN2 hl1 hl2 i hi (k + 1) hlt _ _ a2
    rw [show ((k + 1 : Nat) : Int) = (k : Int) + 1 by omega] at ih1
    refine ⟨r', ?_, ih2.congr fun X Y _ => ?_⟩
    · simp only [Int.natCast_add] at c1 c2 ih1
      clear ih2 a1 a2 hr1 hp1 hp2 l1 l2 hE1 hE2 hP hb hU hV hbl
      simp (disch := first | assumption | omega | (simp [*] <;> omega) | fail) [s7.vlen, s6.vlen, s6.vidx, s6.vload, s7.vidx, s7.vload, f6.vidx, f6.vload, f7.vidx, f7.vload, s6'.vidx, s6'.vload, s7'.vidx, s7'.vload, f6'.vidx, f6'.vload, f7'.vidx, f7'.vload, h3, h5, h3', h5', wrap64, w1, w2, w3, w4, w5, w6, hlt', hi', c1, c2, ih1]
    · rw [List.drop_eq_getElem_cons hlt]
      have hE2' : es2[k] = [(x : Int), (y : Int)] := by rw [← hE2, List.getD_eq_getElem?_getD, List.getElem?_eq_getElem hlt]; rfl
      rw [hU, hV]
      simp only [Int.toNat_natCast, List.mem_cons]
      constructor
      · rintro (((h1 | h1) | h1) | ⟨e, h1, h2⟩)
        · exact .inl h1
        · exact .inr ⟨_, .inl rfl, u, v, x, y, hE1, hE2', .inl h1⟩
        · exact .inr ⟨_, .inl rfl, u, v, x, y, hE1, hE2', .inr h1⟩
        · exact .inr ⟨e, .inr h1, h2⟩
      · rintro (h1 | ⟨e, rfl | h1, h2⟩)
        · exact .inl (.inl (.inl h1))
        · obtain ⟨u', v', x', y', g1, g2, g3⟩ := h2
          rw [hE1] at g1
          rw [hE2'] at g2
          simp at g1 g2
          have q1 : u' = u := by omega
          have q2 : v' = v := by omega
          have q3 : x' = x := by omega
          have q4 : y' = y := by omega
          subst q1 q2 q3 q4
          rcases g3 with g3 | g3
          · exact .inl (.inl (.inr g3))
          · exact .inl (.inr g3)
        · exact .inr ⟨e, h1, h2⟩
  · have hlt' : ¬ (k : Int) < vs2.length := by omega
    have s7 := l2.out r
    refine ⟨r, ?_, ha.congr fun X Y _ => ?_⟩
    · simp (disch := first | assumption | omega | (simp [*] <;> omega) | fail) [s7.vlen, hlt']
    · rw [List.drop_eq_nil_of_le (by omega)]
      simp
 termination_by es2.length - k

theorem l_spec_l09Direct_2 (H : VH) (b0 N i3 i5 n m : Nat) (t p4 q6 q7 : Value) (es1 es2 : List (List Int)) (vs1 vs2 : List Value) (hP : PF H b0 N i3 i5 N m t) (l1 : LL H b0 q6 es1 vs1) (l2 : LL H b0 q7 es2 vs2) (hp1 : Pairs n es1) (hp2 : Pairs m es2) (h4 : Old H.length p4) (hn : nro ≤ b0) (hN : N = n * m) (hN2 : N ≤ 62) (hl1 : es1.length ≤ 100000) (hl2 : es2.length ≤ 100000)
    (i : Nat) (hi : i ≤ es1.length) (r : List Int) (adj : Nat → Nat → Prop) (ha : IsAdj N r adj) :
    ∃ r', floop (vcall F nro) nro [3, 4, 5, 6, 7, 8] i_spec_l09Direct_B2 H [.pointer (some ⟨i3, 0, some 2⟩), p4, .pointer (some ⟨i5, 0, some 2⟩), q6, q7, .int .i64 i] (H.set b0 ⟨1, ints r⟩) =
      some (.exit 0, fl [(4, p4), (5, .pointer (some ⟨i5, 0, some 2⟩))], H.set b0 ⟨1, ints r'⟩) ∧
      IsAdj N r' (fun X Y => adj X Y ∨ ∃ e1 ∈ es1.drop i, ∃ e2 ∈ es2, dirE m e1 e2 X Y) := by
  obtain ⟨q0, hb⟩ := hP.b
  have hbl := (List.getElem?_eq_some_iff.mp hb).1
  have o3 : i3 < H.length := (List.getElem?_eq_some_iff.mp hP.h3).1
  have o5 : i5 < H.length := (List.getElem?_eq_some_iff.mp hP.h5).1
  have po3 : Old H.length (.pointer (some ⟨i3, 0, some 2⟩)) := fun r hr => by simp [trefs, vrefs, crefs, arefs] at hr; omega
  have po5 : Old H.length (.pointer (some ⟨i5, 0, some 2⟩)) := fun r hr => by simp [trefs, vrefs, crefs, arefs] at hr; omega
  clear o3 o5
  have e1 := l1.len
  have s6 := l1.out r
  rw [floop_at i_spec_l09Direct_B2.eq_1]
  by_cases hlt : i < es1.length
  · have s6' := l1.out r
    have s7 := l2.out r
    have o6 : Old H.length q6 := by have := s6'.old; simpa using this
    have o7 : Old H.length q7 := by have := s7.old; simpa using this
    obtain ⟨r1, i1, i2⟩ := l_spec_l09Direct_1 (nro := nro) (H.set b0 ⟨1, ints r⟩) b0 N i3 i5 n m t p4 q6 q7 es1 es2 vs1 vs2 (hP.set r) (l1.set r) (l2.set r) hp1 hp2 (by simpa using h4) hn hN hN2 hl1 hl2 i hlt 0 (by omega) r adj ha
    rw [List.set_set, List.set_set, show ((0 : Nat) : Int) = 0 from rfl] at i1
    obtain ⟨r', ih1, ih2⟩ := l_spec_l09Direct_2 H b0 N i3 i5 n m t p4 q6 q7 es1 es2 vs1 vs2 hP l1 l2 hp1 hp2 h4 hn hN hN2 hl1 hl2 (i + 1) hlt r1 _ i2
    rw [show ((i + 1 : Nat) : Int) = (i : Int) + 1 by omega] at ih1
    have hlt' : (i : Int) < vs1.length := by omega
    refine ⟨r', ?_, ih2.congr fun X Y _ => ?_⟩
    · clear ih2 i2 hp1 hp2 l1 l2 hP hb hbl
      simp (disch := first | assumption | omega | (simp [*] <;> omega) | fail) [s6.vlen, wrap64, hlt', i1, ih1]
    · rw [List.drop_eq_getElem_cons hlt, List.drop_zero]
      have hE : es1.getD i [] = es1[i] := by rw [List.getD_eq_getElem?_getD, List.getElem?_eq_getElem hlt]; rfl
      rw [hE]
      simp only [List.mem_cons]
      constructor
      · rintro ((h1 | ⟨e, h1, h2⟩) | ⟨e, h1, h2⟩)
        · exact .inl h1
        · exact .inr ⟨_, .inl rfl, e, h1, h2⟩
        · exact .inr ⟨e, .inr h1, h2⟩
      · rintro (h1 | ⟨e, rfl | h1, h2⟩)
        · exact .inl (.inl h1)
        · exact .inl (.inr h2)
        · exact .inr ⟨e, h1, h2⟩
  · have hlt' : ¬ (i : Int) < vs1.length := by omega
    refine ⟨r, ?_, ha.congr fun X Y _ => ?_⟩
    · simp (disch := first | assumption | omega | (simp [*] <;> omega) | fail) [s6.vlen, hlt']
    · rw [List.drop_eq_nil_of_le (by omega)]
      simp
 termination_by es1.length - i

/-- Two vertices of the direct product are neighbours. -/
def dirAdj (n m : Nat) (rows hrows : List Int) (X Y : Nat) : Prop := ∃ e1 ∈ edgesF rows n 0, ∃ e2 ∈ edgesF hrows m 0, dirE m e1 e2 X Y

theorem edges_len (rows : List Int) (n v : Nat) (hn : n ≤ 62) : (edgesF rows n v).length ≤ (n - v) * 62 := by
  by_cases h : v < n
  · rw [edgesF_step h, List.length_append]
    have h1 := edges_len rows n (v + 1) hn
    have h2 := edgF_len rows v n (v + 1) h
    have e : n - v = (n - (v + 1)) + 1 := by omega
    rw [e, Nat.add_mul]
    omega
  · rw [edgesF_end h]; simp
 termination_by n - v

theorem c_spec_l09Direct (n m : Nat) (s t : Value) (rows hrows : List Int) (h : VH) (hs : Sli h s rows) (ht : Sli h t hrows) (hn : nro ≤ h.length) (g : GV n rows) (gm : GV m hrows) (hN : n * m ≤ 62) :
    vcall F nro k_spec_l09Direct [gv n s, gv m t] h = some (gv ((n * m : Nat) : Int) (.slice (some ⟨h.length, 0, none⟩) (n * m) (n * m)), h ++ [⟨1, ints (adjRows (n * m) (dirAdj n m rows hrows))⟩]) ∧ IsAdj (n * m) (adjRows (n * m) (dirAdj n m rows hrows)) (dirAdj n m rows hrows) := by
  have hn' := fun k => Nat.le_trans hn (Nat.le_add_right h.length k)
  have g0 := g.hi
  have gm0 := gm.hi
  have g1 := g.lo
  have gm1 := gm.lo
  obtain ⟨N, hNe⟩ : ∃ N, N = n * m := ⟨_, rfl⟩
  rw [← hNe] at hN ⊢
  have hmul : IntKind.i64.wrap ((n : Int) * m) = (N : Int) := by rw [hNe, Int.natCast_mul]; exact wrap64 (by rw [← Int.natCast_mul]; omega) (by rw [← Int.natCast_mul]; omega)
  let b1 : VO := ⟨0, [.int .i64 n, s]⟩
  let b2 : VO := ⟨0, [.int .i64 m, t]⟩
  let z : VO := ⟨0, [.int .i64 0, .slice none 0 0]⟩
  let zs : VO := ⟨1, ints (List.replicate N 0)⟩
  have hE := c_spec_l01Empty (nro := nro) N (h ++ [b1, b2, z]) (by omega) (by omega) (by simp; omega)
  rw [Int.toNat_natCast] at hE
  obtain ⟨q6, M1, he1, hS1⟩ := c_spec_l01Edges (nro := nro) n s rows (h ++ [b1, b2, z, zs]) (hs.app _) (by simp; omega) g
  obtain ⟨q7, M2, he2, hS2⟩ := c_spec_l01Edges (nro := nro) m t hrows (h ++ [b1, b2, z, zs] ++ M1) ((ht.app _).app _) (by simp; omega) gm
  rw [Int.toNat_natCast] at hS1 hS2
  obtain ⟨Hm, hHm⟩ : ∃ Hm, Hm = h ++ [b1, b2, z, zs] ++ M1 ++ M2 := ⟨_, rfl⟩
  let gb : VO := ⟨0, [.int .i64 N, .slice (some ⟨h.length + 3, 0, none⟩) N N]⟩
  obtain ⟨vs1, L1⟩ := LL.of (L := M2 ++ [gb]) hS1 (b0 := h.length + 3) (by simp)
  obtain ⟨vs2, L2⟩ := LL.of (L := [gb]) hS2 (b0 := h.length + 3) (by simp)
  rw [← List.append_assoc, ← hHm] at L1
  rw [← hHm] at L2
  have hml : h.length + 4 ≤ Hm.length := by rw [hHm]; simp
  have hP : PF (Hm ++ [gb]) (h.length + 3) N (h.length + 1) Hm.length N m t := by
    refine ⟨⟨List.replicate N 0, ?_⟩, ?_, by simp [gb], by omega, by omega⟩
    · rw [hHm]; simp [b1, b2, z, zs]
    · rw [hHm]; simp [b1, b2, z, zs]
  obtain ⟨r', lp, la⟩ := l_spec_l09Direct_2 (nro := nro) (Hm ++ [gb]) (h.length + 3) N (h.length + 1) Hm.length n m t (.pointer (some ⟨h.length + 2, 0, some 2⟩)) q6 q7 _ _ vs1 vs2 hP L1 L2 (edges_pairs rows n) (edges_pairs hrows m) (by intro r hr; simp [trefs, vrefs, crefs, arefs] at hr ⊢; omega) (by omega) hNe hN
    (by have := edges_len rows n 0 (by omega); omega) (by have := edges_len hrows m 0 (by omega); omega) 0 (by omega) (List.replicate N 0) _ (IsAdj.zero _)
  have la2 : IsAdj N r' (dirAdj n m rows hrows) := la.congr fun X Y _ => by simp [dirAdj]
  rw [la2.eq]
  refine ⟨?_, la2⟩
  have hb0 : (Hm ++ [gb])[h.length + 3]? = some zs := by rw [hHm]; simp
  have hset0 : (Hm ++ [gb]).set (h.length + 3) ⟨1, ints (List.replicate N 0)⟩ = Hm ++ [gb] := hset_self hb0
  rw [hset0, show ((0 : Nat) : Int) = 0 from rfl] at lp
  -- what lies where, at the end
  obtain ⟨Hf, hHf⟩ : ∃ Hf, Hf = (Hm ++ [gb]).set (h.length + 3) ⟨1, ints r'⟩ := ⟨_, rfl⟩
  rw [← hHf] at lp
  have f1 : Hf[Hm.length]? = some gb := by rw [hHf]; exact (hP.set r').h5
  have f2 : Hf[h.length + 2]? = some z := by rw [hHf, List.getElem?_set_ne (by omega), hHm]; simp
  have f3 : Hf.set (h.length + 2) ⟨0, [.int .i64 N, .slice (some ⟨h.length + 3, 0, none⟩) N N]⟩ = h ++ b1 :: b2 :: ⟨0, [.int .i64 N, .slice (some ⟨h.length + 3, 0, none⟩) N N]⟩ :: ⟨1, ints r'⟩ :: (M1 ++ M2 ++ [gb]) := by
    rw [hHf, hHm]
    simp [List.append_assoc]
  have hml2 : ∀ k, nro ≤ Hm.length + k := fun k => by omega
  have hml0 : nro ≤ Hm.length := by omega
  have hm1 : Hm[h.length + 1]? = some b2 := by rw [hHm]; simp
  have hm0 : Hm[h.length]? = some b1 := by rw [hHm]; simp
  have he1' : vcall F nro k_spec_l01Edges [gv n s] (h ++ [b1, b2, z, zs]) = some (q6, h ++ [b1, b2, z, zs] ++ M1) := he1
  obtain ⟨Hk, hHk⟩ : ∃ Hk, Hk = h ++ [b1, b2, z, zs] ++ M1 := ⟨_, rfl⟩
  rw [← hHk] at he1 he2
  rw [show Hk ++ M2 = Hm by rw [hHk, hHm]] at he2
  have hk1 : Hk[h.length + 1]? = some b2 := by rw [hHk]; simp
  have hk0 : Hk[h.length]? = some b1 := by rw [hHk]; simp
  refine v_spec_l09Direct (by simp [i_spec_l09Direct]) ?_
  rw [fbody_eq]
  clear he1' hHk hHm hHf hP L1 L2 hS1 hS2 la la2 hset0 hb0 hml
  simp only [b1, b2, z, zs, gb] at *
  simp at hE
  simp (disch := first | assumption | omega | (simp [*] <;> omega) | fail) [i_spec_l09Direct, hE, he1, he2, hmul, hm1, hm0, hk1, hk0, lp, f1, f2, f3, hn', hml2, hml0, fresults, fresL, fres1]

open Classical in
theorem c_spec_l09Code2 (n m : Int) (s t : Value) (rows hrows : List Int) (b : Nat) (h : VH) (hs : Sli h s rows) (ht : Sli h t hrows) (hb : h[b]? = some ⟨2, [.int .i64 n, s, .int .i64 m, t]⟩) (hn : nro ≤ h.length) :
    vcall F nro k_spec_l09Code [.slice (some ⟨b, 0, none⟩) 2 4] h = some (.int .i64 (if GV n rows ∧ GV m hrows then 0 else 1), h) := by
  refine v_spec_l09Code (by simp [i_spec_l09Code]) ?_
  rw [fbody_eq]
  have hbl := (List.getElem?_eq_some_iff.mp hb).1
  have ho : Old h.length (.slice (some ⟨b, 0, none⟩) 2 4) := fun r hr => by simp [trefs, vrefs, crefs, arefs] at hr; omega
  clear hbl
  have hc1 := c_spec_l01Is (nro := nro) n s rows h hs
  have hc2 := c_spec_l01Is (nro := nro) m t hrows h ht
  have l2 : floop (vcall F nro) nro [0, 3] i_spec_l09Code_B1 h [.slice (some ⟨b, 0, none⟩) 2 4, .int .i64 2] h = some (.exit 0, fl [], h) := by
    rw [floop_at i_spec_l09Code_B1.eq_1]
    simp (disch := first | assumption | omega | (simp [*] <;> omega) | fail) [hb]
  by_cases g : GV n rows
  · by_cases gm : GV m hrows
    · have l1 : floop (vcall F nro) nro [0, 3] i_spec_l09Code_B1 h [.slice (some ⟨b, 0, none⟩) 2 4, .int .i64 1] h = some (.exit 0, fl [], h) := by
        rw [floop_at i_spec_l09Code_B1.eq_1]
        simp (disch := first | assumption | omega | (simp [*] <;> omega) | fail) [hb, hc2, gm, wrap64, l2]
      have l0 : floop (vcall F nro) nro [0, 3] i_spec_l09Code_B1 h [.slice (some ⟨b, 0, none⟩) 2 4, .int .i64 0] h = some (.exit 0, fl [], h) := by
        rw [floop_at i_spec_l09Code_B1.eq_1]
        simp (disch := first | assumption | omega | (simp [*] <;> omega) | fail) [hb, hc1, g, wrap64, l1]
      rw [if_pos ⟨g, gm⟩]
      simp (disch := first | assumption | omega | (simp [*] <;> omega) | fail) [i_spec_l09Code, hb, l0]
    · have l1 : floop (vcall F nro) nro [0, 3] i_spec_l09Code_B1 h [.slice (some ⟨b, 0, none⟩) 2 4, .int .i64 1] h = some (.ret, fl [(2, .int .i64 1)], h) := by
        rw [floop_at i_spec_l09Code_B1.eq_1]
        simp (disch := first | assumption | omega | (simp [*] <;> omega) | fail) [hb, hc2, gm, wrap64]
      have l0 : floop (vcall F nro) nro [0, 3] i_spec_l09Code_B1 h [.slice (some ⟨b, 0, none⟩) 2 4, .int .i64 0] h = some (.ret, fl [(2, .int .i64 1)], h) := by
        rw [floop_at i_spec_l09Code_B1.eq_1]
        simp (disch := first | assumption | omega | (simp [*] <;> omega) | fail) [hb, hc1, g, wrap64, l1]
      rw [if_neg (fun h => gm h.2)]
      simp (disch := first | assumption | omega | (simp [*] <;> omega) | fail) [i_spec_l09Code, hb, l0]
  · have l0 : floop (vcall F nro) nro [0, 3] i_spec_l09Code_B1 h [.slice (some ⟨b, 0, none⟩) 2 4, .int .i64 0] h = some (.ret, fl [(2, .int .i64 1)], h) := by
      rw [floop_at i_spec_l09Code_B1.eq_1]
      simp (disch := first | assumption | omega | (simp [*] <;> omega) | fail) [hb, hc1, g, wrap64]
    rw [if_neg (fun h => g h.1)]
    simp (disch := first | assumption | omega | (simp [*] <;> omega) | fail) [i_spec_l09Code, hb, l0]

theorem c_spec_l09Told (n : Int) (h : VH) : vcall F nro k_spec_l09Told [.int .i64 n] h = some (.int .i64 (if 1 ≤ n ∧ n ≤ 62 then 0 else 3), h) := by
  refine v_spec_l09Told (by simp [i_spec_l09Told]) ?_
  rw [fbody_eq]
  have hc := c_spec_l01In (nro := nro) n 1 62 h
  by_cases g : 1 ≤ n ∧ n ≤ 62
  · rw [decide_eq_true g] at hc
    rw [if_pos g]
    simp (disch := first | assumption | omega | (simp [*] <;> omega) | fail) [i_spec_l09Told, hc]
  · rw [decide_eq_false g] at hc
    rw [if_neg g]
    simp (disch := first | assumption | omega | (simp [*] <;> omega) | fail) [i_spec_l09Told, hc]
theorem c_impl_limitedCode (n : Int) (h : VH) : vcall F nro k_impl_limitedCode [.int .i64 n] h = some (.int .i64 (if 1 ≤ n ∧ n ≤ 62 then 0 else 3), h) := by
  refine v_impl_limitedCode (by simp [i_impl_limitedCode]) ?_
  rw [fbody_eq]
  by_cases h1 : n < 1
  · rw [if_neg (by omega)]
    simp (disch := first | assumption | omega | (simp [*] <;> omega) | fail) [i_impl_limitedCode, h1]
  · by_cases h2 : 62 < n
    · rw [if_neg (by omega)]
      simp (disch := first | assumption | omega | (simp [*] <;> omega) | fail) [i_impl_limitedCode, h1, h2]
    · rw [if_pos (by omega)]
      simp (disch := first | assumption | omega | (simp [*] <;> omega) | fail) [i_impl_limitedCode, h1, h2]

open Classical in
/-- What a product answers. -/
noncomputable def prodAns (adj : Nat → Nat → List Int → List Int → Nat → Nat → Prop) (n : Int) (rows : List Int) (m : Int) (hrows : List Int) : GAns :=
  if ¬ (GV n rows ∧ GV m hrows) then .inr 1 else if 62 < n * m then .inr 3 else .inl (n * m, adjRows (n.toNat * m.toNat) (adj n.toNat m.toNat rows hrows))

theorem c_spec_DirectProduct (n m : Int) (s t : Value) (rows hrows : List Int) (h : VH) (hs : Sli h s rows) (ht : Sli h t hrows) (hn : nro ≤ h.length) :
    vcall F nro k_spec_DirectProduct [gv n s, gv m t] h = some (gres h (prodAns dirAdj n rows m hrows)) := by
  have hn' := fun k => Nat.le_trans hn (Nat.le_add_right h.length k)
  let H : VH := h ++ [⟨0, [.int .i64 n, s]⟩, ⟨0, [.int .i64 m, t]⟩, ⟨0, [.int .i64 0, .slice none 0 0]⟩, ⟨2, [.int .i64 n, s, .int .i64 m, t]⟩]
  have hc := c_spec_l09Code2 (nro := nro) n m s t rows hrows (h.length + 3) H (hs.app _) (ht.app _) (by simp [H]) (by simp [H]; omega)
  have js := hs.nj
  have jt := ht.nj
  unfold isJunk at js jt
  refine v_spec_DirectProduct (by simp [i_spec_DirectProduct]) ?_
  rw [fbody_eq]
  by_cases gg : GV n rows ∧ GV m hrows
  · rw [if_pos gg] at hc
    obtain ⟨g, gm⟩ := gg
    have g1 := g.lo
    have gm1 := gm.lo
    have g0 := g.hi
    have gm0 := gm.hi
    have hmul : n * m ≤ 62 * 62 := Int.mul_le_mul g0 gm0 (by omega) (by omega)
    have hmul0 : 1 * 1 ≤ n * m := Int.mul_le_mul g1 gm1 (by omega) (by omega)
    have ht9 := fun L => c_spec_l09Told (nro := nro) (n * m) (h ++ L)
    have hw : IntKind.i64.wrap (n * m) = n * m := wrap64 (by omega) (by omega)
    by_cases h2 : 62 < n * m
    · have e : prodAns dirAdj n rows m hrows = .inr 3 := by unfold prodAns; rw [if_neg (fun h => h ⟨g, gm⟩), if_pos h2]
      rw [if_neg (by omega)] at ht9
      simp only [H] at hc
      simp (disch := first | assumption | omega | (simp [*] <;> omega) | fail) [i_spec_DirectProduct, hc, ht9, hw, e, js, jt, fresults, fresL, fres1, hn', hn]
    · have e : prodAns dirAdj n rows m hrows = .inl (n * m, adjRows (n.toNat * m.toNat) (dirAdj n.toNat m.toNat rows hrows)) := by unfold prodAns; rw [if_neg (fun h => h ⟨g, gm⟩), if_neg h2]
      rw [if_pos (by omega)] at ht9
      obtain ⟨N, rfl⟩ : ∃ N : Nat, n = N := ⟨n.toNat, by omega⟩
      obtain ⟨M, rfl⟩ : ∃ M : Nat, m = M := ⟨m.toNat, by omega⟩
      rw [Int.toNat_natCast, Int.toNat_natCast] at e
      obtain ⟨hd, ha⟩ := c_spec_l09Direct (nro := nro) N M s t rows hrows H (hs.app _) (ht.app _) (by simp [H]; omega) g gm (by omega)
      have hal := ha.1
      rw [Int.natCast_mul] at hd
      obtain ⟨R, hR⟩ : ∃ R, R = adjRows (N * M) (dirAdj N M rows hrows) := ⟨_, rfl⟩
      rw [← hR] at e hd hal
      simp only [H] at hc hd
      simp at hd
      obtain ⟨Q, hQ⟩ : ∃ Q, Q = N * M := ⟨_, rfl⟩
      rw [← hQ] at hal hd
      have hQ' : (N : Int) * M = (Q : Int) := by rw [hQ, Int.natCast_mul]
      rw [hQ'] at hd hw e ht9
      clear hR ha g gm hQ hmul hmul0 h2
      simp (disch := first | assumption | omega | (simp [*] <;> omega) | fail) [i_spec_DirectProduct, hc, ht9, hw, hQ', hd, e, hal, js, jt, fresults, fresL, fres1, hn', hn]
  · have e : prodAns dirAdj n rows m hrows = .inr 1 := by unfold prodAns; rw [if_pos gg]
    rw [if_neg gg] at hc
    simp only [H] at hc
    simp (disch := first | assumption | omega | (simp [*] <;> omega) | fail) [i_spec_DirectProduct, hc, e, js, jt, fresults, fresL, fres1, hn', hn]
end Go.Proofs.Ytcpmodengmffjaa.Zv
