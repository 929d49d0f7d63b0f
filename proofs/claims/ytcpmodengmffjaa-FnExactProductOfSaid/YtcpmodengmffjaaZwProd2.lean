/- Products of graphs: what the program makes; the law of DirectProduct. -/
import Derived.Test.YtcpmodengmffjaaZwProd
namespace Go.Proofs.Ytcpmodengmffjaa.Zv
open Go
variable {nro : Nat}

theorem c_impl_product_1 (kD : Nat) (caps : List Value) (M b1 b2 x y : Nat) (P : Bool) (h : VH) (hM : 1 ≤ M) (hM2 : M ≤ 62) (hx : x ≤ 62) (hy : y ≤ 62) (h1 : h[b1]? = some ⟨0, [fnv kD caps]⟩) (h2 : h[b2]? = some ⟨0, [.int .i64 M]⟩)
    (hf : vcall F nro kD ([.int .i64 ((x / M : Nat) : Int), .int .i64 ((x % M : Nat) : Int), .int .i64 ((y / M : Nat) : Int), .int .i64 ((y % M : Nat) : Int)] ++ caps) h = some (.bool P, h)) :
    vcall F nro k_impl_product_1 [.int .i64 x, .int .i64 y, .pointer (some ⟨b1, 0, some 1⟩), .pointer (some ⟨b2, 0, some 1⟩)] h = some (.bool P, h) := by
  refine v_impl_product_1 (by simp [i_impl_product_1]) ?_
  rw [fbody_eq]
  have hM0 : ¬ (M : Int) = 0 := by omega
  have e1 : (x : Int).tdiv M = ((x / M : Nat) : Int) := (Int.ofNat_tdiv x M).symm
  have e2 : (y : Int).tdiv M = ((y / M : Nat) : Int) := (Int.ofNat_tdiv y M).symm
  have e3 : (x : Int).tmod M = ((x % M : Nat) : Int) := (Int.ofNat_tmod x M).symm
  have e4 : (y : Int).tmod M = ((y % M : Nat) : Int) := (Int.ofNat_tmod y M).symm
  have d1 : x / M ≤ x := Nat.div_le_self x M
  have d2 : y / M ≤ y := Nat.div_le_self y M
  obtain ⟨p, hp⟩ : ∃ p, p = x / M := ⟨_, rfl⟩
  obtain ⟨q, hq⟩ : ∃ q, q = y / M := ⟨_, rfl⟩
  obtain ⟨r, hr⟩ : ∃ r, r = x % M := ⟨_, rfl⟩
  obtain ⟨u, hu⟩ : ∃ u, u = y % M := ⟨_, rfl⟩
  rw [← hp] at e1 hf d1
  rw [← hq] at e2 hf d2
  rw [← hr] at e3 hf
  rw [← hu] at e4 hf
  clear hp hq hr hu
  simp only [List.cons_append, List.nil_append] at hf
  simp (disch := first | assumption | omega | (simp [*] <;> omega) | fail) [i_impl_product_1, h1, h2, hM0, e1, e2, e3, e4, wrap64, hf]

/-- What the program's product answers, by the test of two pairs. -/
def prodTest (M : Nat) (P : Nat → Nat → Nat → Nat → Prop) (x y : Nat) : Prop := P (x / M) (x % M) (y / M) (y % M)
open Classical in
noncomputable def prodAns2 (P : Nat → Nat → Nat → Nat → Prop) (n : Int) (rows : List Int) (m : Int) (hrows : List Int) : GAns :=
  if ¬ (GV n rows ∧ GV m hrows) then .inr 1 else if 62 < n * m then .inr 3 else .inl (n * m, adjRows (n.toNat * m.toNat) (madeAdj (n.toNat * m.toNat) (prodTest m.toNat P)))

open Classical in
theorem c_impl_product (n m : Int) (s t : Value) (rows hrows : List Int) (kD : Nat) (caps : List Value) (P : Nat → Nat → Nat → Nat → Prop) (h : VH) (hs : Sli h s rows) (ht : Sli h t hrows) (hn : nro ≤ h.length) (hfo : ∀ k, OldC (h.length + k) (fnv kD caps)) (hfo2 : ∀ k, Old (h.length + k) (fnv kD caps))
    (hf : GV n rows → GV m hrows → ∀ L (a b c d : Nat), a < n.toNat → b < m.toNat → c < n.toNat → d < m.toNat → vcall F nro kD ([.int .i64 a, .int .i64 b, .int .i64 c, .int .i64 d] ++ caps) (h ++ L) = some (.bool (decide (P a b c d)), h ++ L)) :
    vcall F nro k_impl_product [gv n s, gv m t, fnv kD caps] h = some (gres h (prodAns2 P n rows m hrows)) := by
  have hn' := fun k => Nat.le_trans hn (Nat.le_add_right h.length k)
  have js := hs.nj
  have jt := ht.nj
  unfold isJunk at js jt
  have hvc : vcells (fnv kD caps) = [fnv kD caps] := by simp [vcells, Value.cells]
  let A : VO := ⟨2, [.int .i64 n, s, .int .i64 m, t]⟩
  let b1 : VO := ⟨0, [.int .i64 n, s]⟩
  let b2 : VO := ⟨0, [.int .i64 m, t]⟩
  let b3 : VO := ⟨0, [fnv kD caps]⟩
  let z : VO := ⟨0, [.int .i64 0, .slice none 0 0]⟩
  have hc := c_impl_areGraphs2 (nro := nro) n m s t rows hrows (h.length + 4) (h ++ [b1, b2, b3, z, A]) (hs.app _) (ht.app _) (by simp [A]) (by simp; omega)
  refine v_impl_product (by simp [i_impl_product]) ?_
  rw [fbody_eq]
  by_cases gg : GV n rows ∧ GV m hrows
  · rw [decide_eq_true gg] at hc
    obtain ⟨g, gm⟩ := gg
    have g1 := g.lo
    have gm1 := gm.lo
    have g0 := g.hi
    have gm0 := gm.hi
    have hmul : n * m ≤ 62 * 62 := Int.mul_le_mul g0 gm0 (by omega) (by omega)
    have hmul0 : 1 * 1 ≤ n * m := Int.mul_le_mul g1 gm1 (by omega) (by omega)
    have ht9 := fun L => c_impl_limitedCode (nro := nro) (n * m) (h ++ L)
    have hw : IntKind.i64.wrap (n * m) = n * m := wrap64 (by omega) (by omega)
    by_cases h2 : 62 < n * m
    · have e : prodAns2 P n rows m hrows = .inr 3 := by unfold prodAns2; rw [if_neg (fun h => h ⟨g, gm⟩), if_pos h2]
      rw [if_neg (by omega)] at ht9
      simp only [A, b1, b2, b3, z] at hc
      clear hf
      simp (disch := first | assumption | omega | (simp [*] <;> omega) | fail) [i_impl_product, hc, ht9, hw, e, js, jt, hvc, fresults, fresL, fres1, hn', hn]
    · have e : prodAns2 P n rows m hrows = .inl (n * m, adjRows (n.toNat * m.toNat) (madeAdj (n.toNat * m.toNat) (prodTest m.toNat P))) := by unfold prodAns2; rw [if_neg (fun h => h ⟨g, gm⟩), if_neg h2]
      rw [if_pos (by omega)] at ht9
      obtain ⟨N, rfl⟩ : ∃ N : Nat, n = N := ⟨n.toNat, by omega⟩
      obtain ⟨M, rfl⟩ : ∃ M : Nat, m = M := ⟨m.toNat, by omega⟩
      rw [Int.toNat_natCast, Int.toNat_natCast] at e
      have hf2 := hf g gm
      rw [Int.toNat_natCast, Int.toNat_natCast] at hf2
      have hNM : N * M ≤ 62 := by
        have : ((N * M : Nat) : Int) = (N : Int) * M := Int.natCast_mul N M
        omega
      obtain ⟨hd, ha⟩ := c_impl_made (nro := nro) (N * M) k_impl_product_1 [.pointer (some ⟨h.length + 2, 0, some 1⟩), .pointer (some ⟨h.length + 5, 0, some 1⟩)] (prodTest M P) (h ++ [b1, b2, b3, z, A, ⟨0, [.int .i64 M]⟩]) (by simp; omega) hNM (by
          intro L x y hxy hyN
          have hxN : x < N * M := by omega
          have hM0 : 0 < M := by omega
          have q1 : x / M < N := Nat.div_lt_of_lt_mul (by rw [Nat.mul_comm]; exact hxN)
          have q2 : y / M < N := Nat.div_lt_of_lt_mul (by rw [Nat.mul_comm]; exact hyN)
          have := c_impl_product_1 (nro := nro) kD caps M (h.length + 2) (h.length + 5) x y (decide (prodTest M P x y)) (h ++ [b1, b2, b3, z, A, ⟨0, [.int .i64 M]⟩] ++ L) (by omega) (by omega) (by omega) (by omega) (by simp [b3]) (by simp) (by
            rw [List.append_assoc]
            exact hf2 _ _ _ _ _ q1 (Nat.mod_lt _ hM0) q2 (Nat.mod_lt _ hM0))
          exact this) (by
          intro k r hr
          simp [trefs, vrefs, crefs, arefs] at hr ⊢
          omega)
      have hal := ha.1
      obtain ⟨R, hR⟩ : ∃ R, R = adjRows (N * M) (madeAdj (N * M) (prodTest M P)) := ⟨_, rfl⟩
      rw [← hR] at e hd hal
      simp only [A, b1, b2, b3, z] at hc hd
      rw [Int.natCast_mul] at hd
      simp at hd
      obtain ⟨Q, hQ⟩ : ∃ Q, Q = N * M := ⟨_, rfl⟩
      rw [← hQ] at hal hd
      have hQ' : (N : Int) * M = (Q : Int) := by rw [hQ, Int.natCast_mul]
      rw [hQ'] at hd hw e ht9
      clear hR ha g gm hQ hmul hmul0 h2 hf hf2 hNM
      simp (disch := first | assumption | omega | (simp [*] <;> omega) | fail) [i_impl_product, hc, ht9, hw, hQ', hd, e, hal, js, jt, hvc, fresults, fresL, fres1, hn', hn, isAtom]
  · have e : prodAns2 P n rows m hrows = .inr 1 := by unfold prodAns2; rw [if_pos gg]
    rw [decide_eq_false gg] at hc
    simp only [A, b1, b2, b3, z] at hc
    clear hf
    simp (disch := first | assumption | omega | (simp [*] <;> omega) | fail) [i_impl_product, hc, e, js, jt, hvc, fresults, fresL, fres1, hn', hn]

theorem madeAdj_iff (N : Nat) (T : Nat → Nat → Prop) (X Y : Nat) : madeAdj N T X Y ↔ (X < Y ∧ Y < N ∧ T X Y) ∨ (Y < X ∧ X < N ∧ T Y X) := by
  constructor
  · rintro ⟨u, k, h1, h2, h3, ⟨rfl, rfl⟩ | ⟨rfl, rfl⟩⟩
    · exact .inl ⟨h1, h2, h3⟩
    · exact .inr ⟨h1, h2, h3⟩
  · rintro (⟨h1, h2, h3⟩ | ⟨h1, h2, h3⟩)
    · exact ⟨X, Y, h1, h2, h3, .inl ⟨rfl, rfl⟩⟩
    · exact ⟨Y, X, h1, h2, h3, .inr ⟨rfl, rfl⟩⟩

theorem divmod {M u x : Nat} (hx : x < M) : (u * M + x) / M = u ∧ (u * M + x) % M = x := by
  constructor
  · rw [Nat.mul_comm, Nat.mul_add_div (by omega), Nat.div_eq_of_lt hx, Nat.add_zero]
  · rw [Nat.mul_comm, Nat.mul_add_mod, Nat.mod_eq_of_lt hx]
theorem mul_lt {M N u v x y : Nat} (hu : u < v) (hv : v < N) (hx : x < M) (hy : y < M) : u * M + x < v * M + y ∧ v * M + y < N * M := by
  have h1 : (u + 1) * M ≤ v * M := Nat.mul_le_mul_right _ hu
  have h2 : (v + 1) * M ≤ N * M := Nat.mul_le_mul_right _ hv
  rw [Nat.add_mul] at h1 h2
  omega

theorem prodAns_eq {adj : Nat → Nat → List Int → List Int → Nat → Nat → Prop} {P : Nat → Nat → Nat → Nat → Prop} (n : Int) (rows : List Int) (m : Int) (hrows : List Int) (h : ∀ N M : Nat, GV N rows → GV M hrows → ∀ X Y, madeAdj (N * M) (prodTest M P) X Y ↔ adj N M rows hrows X Y) :
    prodAns2 P n rows m hrows = prodAns adj n rows m hrows := by
  unfold prodAns2 prodAns
  by_cases gg : GV n rows ∧ GV m hrows
  · rw [if_neg (not_not_intro gg), if_neg (not_not_intro gg)]
    by_cases h6 : 62 < n * m
    · rw [if_pos h6, if_pos h6]
    · rw [if_neg h6, if_neg h6]
      obtain ⟨g, gm⟩ := gg
      have g1 := g.lo
      have gm1 := gm.lo
      obtain ⟨N, rfl⟩ : ∃ N : Nat, n = N := ⟨n.toNat, by omega⟩
      obtain ⟨M, rfl⟩ : ∃ M : Nat, m = M := ⟨m.toNat, by omega⟩
      have : (madeAdj (N * M) (prodTest M P)) = adj N M rows hrows := by
        funext X Y
        exact propext (h N M g gm X Y)
      simp only [Int.toNat_natCast, this]
  · rw [if_pos gg, if_pos gg]

theorem prodAns_len {adj : Nat → Nat → List Int → List Int → Nat → Nat → Prop} {n : Int} {rows : List Int} {m : Int} {hrows : List Int} {x : Int} {r : List Int} (h : ∀ N M : Nat, GV N rows → GV M hrows → ∀ X Y, X < N * M → adj N M rows hrows X Y → Y < N * M) (e : prodAns adj n rows m hrows = .inl (x, r)) : r.length ≤ 62 := by
  unfold prodAns at e
  split at e
  · cases e
  · rename_i gg
    obtain ⟨g, gm⟩ := Classical.not_not.mp gg
    split at e
    · cases e
    · have g1 := g.lo
      have gm1 := gm.lo
      obtain ⟨N, rfl⟩ : ∃ N : Nat, n = N := ⟨n.toNat, by omega⟩
      obtain ⟨M, rfl⟩ : ∃ M : Nat, m = M := ⟨m.toNat, by omega⟩
      have hNM : ((N * M : Nat) : Int) = (N : Int) * M := Int.natCast_mul N M
      cases e
      simp only [Int.toNat_natCast]
      have := adjRows_is (N := N * M) (adj := adj N M rows hrows) (by
        intro v w hv hvw
        have := h N M g gm v w hv hvw
        omega)
      rw [this.1]
      omega
end Go.Proofs.Ytcpmodengmffjaa.Zv
