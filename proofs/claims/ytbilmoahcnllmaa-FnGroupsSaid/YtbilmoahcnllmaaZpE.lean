/- Part E of the proof: ZwCompact, ZwSort2, ZwPdq1, ZwPdq2, ZwPdq3, ZwPdq4, ZwPdq5, ZwPdq8, ZwPdq9, ZwPdq10, ZwPdq11, ZwPdq12, ZwRefC, ZwTup, ZwGp2, ZwGp3, ZwGp4, ZwGp5, ZwGp6, ZwOrd1, ZwOrd2, ZwOrd3, ZwOrd4, ZwOrd5, ZwOrd6, ZwOrd7. Conditions: none. -/
import Derived.Sort.AssemblyPlain
import Derived.Sort.Defs
import Derived.Sort.LotA
import Derived.Sort.LotC
import Derived.Sort.LotD3
import Derived.Sort.Statements
import Derived.Test.YtbilmoahcnllmaaZpD
set_option linter.unusedSimpArgs false
set_option linter.unusedVariables false
/- slices.Compact. -/
namespace Go.Proofs.Ytbilmoahcnllmaa.Zv
open Go
variable {nro : Nat}

/-- The first p elements without those that are as the one before. -/
def ddN (xs : List Int) : Nat → List Int
  | 0 => []
  | p + 1 => if p ≠ 0 ∧ xs.getD p 0 = xs.getD (p - 1) 0 then ddN xs p else ddN xs p ++ [xs.getD p 0]
theorem ddN_le (xs : List Int) : ∀ p, (ddN xs p).length ≤ p
  | 0 => Nat.le_refl _
  | p + 1 => by
    have := ddN_le xs p
    rw [ddN]; split
    · omega
    · simp; omega
theorem ddN_none {xs : List Int} : ∀ {p : Nat}, p ≤ xs.length → (∀ q, 1 ≤ q → q < p → xs.getD q 0 ≠ xs.getD (q - 1) 0) → ddN xs p = xs.take p
  | 0, _, _ => by simp [ddN]
  | p + 1, hp, h => by
    rw [ddN, ddN_none (by omega) fun q h1 h2 => h q h1 (by omega), if_neg]
    · rw [List.take_add_one, List.getD_eq_getElem?_getD, List.getElem?_eq_getElem (by omega)]; rfl
    · rintro ⟨h1, h2⟩
      exact h p (by omega) (by omega) h2
theorem set_here {D xs : List Int} {x : Int} (h : D.length < xs.length) : (D ++ xs.drop D.length).set D.length x = (D ++ [x]) ++ xs.drop (D ++ [x]).length := by
  rw [List.set_append_right _ _ (Nat.le_refl _), Nat.sub_self, List.drop_eq_getElem_cons h, List.set_cons_zero]
  simp
theorem get_there {D xs : List Int} {q : Nat} (h : D.length ≤ q) : (D ++ xs.drop D.length).getD q 0 = xs.getD q 0 := by
  rw [List.getD_eq_getElem?_getD, List.getElem?_append_right h, List.getElem?_drop, List.getD_eq_getElem?_getD]
  rw [show D.length + (q - D.length) = q by omega]

theorem l_cpt1 {h0 G : VH} {blk : Nat} {xs zs : List Int} (I : Inp nro h0 G blk zs) (k k2 : Nat) (hz : zs = ddN xs (k + k2) ++ xs.drop (ddN xs (k + k2)).length) (hk : 1 ≤ k2) (hp : k + k2 ≤ xs.length) (hd : (ddN xs (k + k2)).length < k + k2) :
    floop (vcall F nro) nro [0, 3, 4, 5] i_slices_Compact_int64_int64_B1 h0 [.slice (some ⟨blk, 0, none⟩) xs.length xs.length, .int .i64 (ddN xs (k + k2)).length, .slice (some ⟨blk, k, none⟩) (xs.length - k) xs.length, .int .i64 k2] G =
      some (.exit 2, fl [(0, .slice (some ⟨blk, 0, none⟩) xs.length xs.length), (3, .int .i64 (ddN xs xs.length).length)], G.set blk ⟨1, ints (ddN xs xs.length ++ xs.drop (ddN xs xs.length).length)⟩) := by
  have hb := I.at'
  have hnb := I.nr
  have hlen := I.len
  have hlt := I.lt
  have hbl : blk < h0.length := by rw [← I.upd.1]; exact hlt
  have hzl : zs.length = xs.length := by rw [hz]; simp; omega
  rw [floop_at i_slices_Compact_int64_int64_B1.eq_1]
  by_cases c : k + k2 < xs.length
  · obtain ⟨D, hD⟩ : ∃ D, D = ddN xs (k + k2) := ⟨_, rfl⟩
    rw [← hD] at hz hd ⊢
    have g1 : zs.getD (k + k2) 0 = xs.getD (k + k2) 0 := by rw [hz]; exact get_there (by omega)
    have g0 : zs.getD (k + k2 - 1) 0 = xs.getD (k + k2 - 1) 0 := by rw [hz]; exact get_there (by omega)
    have r1 : List.take 1 (List.drop (k + k2) (ints zs)) = [.int .i64 (xs.getD (k + k2) 0)] := by rw [take1_ints (by omega), ← getD_at zs (by omega), g1]
    have r0 : List.take 1 (List.drop (k + (k2 - 1)) (ints zs)) = [.int .i64 (xs.getD (k + k2 - 1) 0)] := by rw [show k + (k2 - 1) = k + k2 - 1 by omega, take1_ints (by omega), ← getD_at zs (by omega), g0]
    have c' : (k2 : Int) < ((xs.length - k : Nat) : Int) := by omega
    have w1 : IntKind.i64.wrap ((k2 : Int) - 1) = ((k2 - 1 : Nat) : Int) := by rw [wrap64 (by omega) (by omega)]; omega
    have w2 : IntKind.i64.wrap ((k2 : Int) + 1) = (k2 : Int) + 1 := wrap64 (by omega) (by omega)
    have w3 : IntKind.i64.wrap ((D.length : Int) + 1) = (D.length : Int) + 1 := wrap64 (by omega) (by omega)
    have p1 : ((k2 - 1 : Nat) : Int) < ((xs.length - k : Nat) : Int) := by omega
    have e0 : ddN xs (k + (k2 + 1)) = if xs.getD (k + k2) 0 = xs.getD (k + k2 - 1) 0 then D else D ++ [xs.getD (k + k2) 0] := by
      rw [show k + (k2 + 1) = (k + k2) + 1 by omega, ddN, ← hD]
      have : k + k2 ≠ 0 := by omega
      simp only [ne_eq, this, not_false_eq_true, true_and]
    obtain ⟨x, hx⟩ : ∃ x, x = xs.getD (k + k2) 0 := ⟨_, rfl⟩
    obtain ⟨y, hy⟩ : ∃ y, y = xs.getD (k + k2 - 1) 0 := ⟨_, rfl⟩
    rw [← hx] at r1 e0
    rw [← hy] at r0 e0
    by_cases c2 : x = y
    · rw [if_pos c2] at e0
      have ih := l_cpt1 I k (k2 + 1) (by rw [e0]; exact hz) (by omega) (by omega) (by rw [e0]; omega)
      rw [e0, show ((k2 + 1 : Nat) : Int) = (k2 : Int) + 1 by omega] at ih
      have hcl := fun vs => I.clean (vs := vs)
      obtain ⟨q, hq⟩ : ∃ q, q = ddN xs xs.length := ⟨_, rfl⟩
      rw [← hq] at ih ⊢
      have b1 : k + k2 < (ints zs).length := by rw [ints_length]; omega
      have b0 : k + (k2 - 1) < (ints zs).length := by rw [ints_length]; omega
      have b2 : k + k2 < xs.length := c
      have b3 : k + (k2 - 1) < xs.length := by omega
      clear hq hx hy I hz g0 g1 e0 hD
      simp (disch := first | assumption | omega | (simp [*] <;> omega) | fail) [-getElem?_pos, List.getElem?_cons_zero, List.getElem?_cons_succ, c', w1, w2, p1, r1, r0, c2, hb, hcl, hbl, ih, b1, b0, b2, b3, hzl]
    · rw [if_neg c2] at e0
      have hset := set_here (D := D) (xs := xs) (x := x) (by omega)
      rw [← hz] at hset
      have ih := l_cpt1 (I.set (ys := zs.set D.length x) (by simp)) k (k2 + 1) (by rw [e0]; exact hset) (by omega) (by omega) (by rw [e0]; simp; omega)
      rw [e0, List.set_set] at ih
      simp only [List.length_append, List.length_singleton] at ih
      rw [show ((k2 + 1 : Nat) : Int) = (k2 : Int) + 1 by omega, show ((D.length + 1 : Nat) : Int) = (D.length : Int) + 1 by omega] at ih
      have e1 : splice D.length [.int .i64 x] (ints zs) = ints (zs.set D.length x) := splice_ints (by omega)
      have hcl : ∀ (ys : List Int) vs, (∀ v ∈ vs, Old h0.length v) → kclean h0 vs (G.set blk ⟨1, ints ys⟩) = (vs, G.set blk ⟨1, ints ys⟩) := fun ys vs hv => by
        have := cleanup_upd (L := []) (I.upd.set' (b := blk) (flatO_ints _ 1 ys)) hv
        rwa [List.append_nil] at this
      have hg : ∀ o, (G.set blk o)[blk]? = some o := fun o => by simp [hlt]
      obtain ⟨q, hq⟩ : ∃ q, q = ddN xs xs.length := ⟨_, rfl⟩
      rw [← hq] at ih ⊢
      obtain ⟨d, hd2⟩ : ∃ d, d = D.length := ⟨_, rfl⟩
      rw [← hd2] at ih e1 w3 hd ⊢
      obtain ⟨u, hu⟩ : ∃ u, u = zs.set d x := ⟨_, rfl⟩
      rw [← hu] at ih e1
      have b1 : k + k2 < (ints zs).length := by rw [ints_length]; omega
      have b0 : k + (k2 - 1) < (ints zs).length := by rw [ints_length]; omega
      have b2 : k + k2 < xs.length := c
      have b3 : k + (k2 - 1) < xs.length := by omega
      have b4 : (d : Int) < xs.length := by omega
      have b5 : d < xs.length := by omega
      clear hq hx hy I hz g0 g1 e0 hD hd2 hset hu
      simp (disch := first | assumption | omega | (simp [*] <;> omega) | fail) [-getElem?_pos, List.getElem?_cons_zero, List.getElem?_cons_succ, c', w1, w2, w3, p1, r1, r0, c2, hb, hnb, hcl, hg, hbl, hlt, ih, b1, b0, b2, b3, b4, b5, hzl, e1]
  · have e : k + k2 = xs.length := by omega
    have c' : ¬ (k2 : Int) < ((xs.length - k : Nat) : Int) := by omega
    rw [e] at hz ⊢
    rw [← hz, hset_self hb]
    simp (disch := first | assumption | omega | (simp [*] <;> omega) | fail) [-getElem?_pos, List.getElem?_cons_zero, List.getElem?_cons_succ, c', hb, hzl]
 termination_by xs.length - (k + k2)

theorem ddN_grow (xs : List Int) : ∀ (p m : Nat), m ≤ p → (ddN xs p).length ≤ (ddN xs m).length + (p - m)
  | 0, m, h => by
    have : m = 0 := by omega
    subst this; simp
  | p + 1, m, h => by
    by_cases e : m = p + 1
    · subst e; omega
    · have := ddN_grow xs p m (by omega)
      rw [ddN]; split
      · omega
      · simp; omega
theorem splice_zeros {D L : List Int} {m : Nat} (h : L.length = m) : splice D.length (List.replicate m [Value.int .i64 0]).flatten (ints (D ++ L)) = ints (D ++ List.replicate m 0) := by
  have e : (List.replicate m [Value.int .i64 0]).flatten = ints (List.replicate m 0) := by
    clear h
    induction m with
    | zero => rfl
    | succ m ih => rw [List.replicate_succ, List.replicate_succ, List.flatten_cons, ih]; rfl
  rw [e]
  unfold splice ints
  simp only [List.map_append, List.length_map, List.length_replicate]
  have l1 : D.length = (D.map (Value.int .i64)).length := by simp
  have l2 : (D.map (Value.int .i64) ++ L.map (Value.int .i64)).length ≤ D.length + m := by simp; omega
  have t1 : List.take D.length (D.map (Value.int .i64) ++ L.map (Value.int .i64)) = D.map (Value.int .i64) := by
    rw [l1, List.take_left]
  rw [t1, List.drop_eq_nil_of_le l2, List.append_nil]

theorem l_cpt2 {h0 G : VH} {blk : Nat} {xs : List Int} (I : Inp nro h0 G blk xs) (k : Nat) (h1 : 1 ≤ k) (hk : k ≤ xs.length) (hd : ∀ q, 1 ≤ q → q < k → xs.getD q 0 ≠ xs.getD (q - 1) 0) :
    floop (vcall F nro) nro [0, 3] i_slices_Compact_int64_int64_B2 h0 [.slice (some ⟨blk, 0, none⟩) xs.length xs.length, .int .i64 k] G =
      if (ddN xs xs.length).length = xs.length then some (.exit 0, fl [(0, .slice (some ⟨blk, 0, none⟩) xs.length xs.length)], G)
      else some (.ret, fl [(2, .slice (some ⟨blk, 0, none⟩) (ddN xs xs.length).length xs.length)], G.set blk ⟨1, ints (ddN xs xs.length ++ List.replicate (xs.length - (ddN xs xs.length).length) 0)⟩) := by
  have hb := I.at'
  have hnb := I.nr
  have hlen := I.len
  have hlt := I.lt
  have hbl : blk < h0.length := by rw [← I.upd.1]; exact hlt
  rw [floop_at i_slices_Compact_int64_int64_B2.eq_1]
  by_cases c : k < xs.length
  · have c' : (k : Int) < xs.length := by omega
    have r1 : List.take 1 (List.drop k (ints xs)) = [.int .i64 (xs.getD k 0)] := by rw [take1_ints c, ← getD_at xs c]
    have r0 : List.take 1 (List.drop (k - 1) (ints xs)) = [.int .i64 (xs.getD (k - 1) 0)] := by rw [take1_ints (by omega), ← getD_at xs (by omega)]
    have w1 : IntKind.i64.wrap ((k : Int) - 1) = ((k - 1 : Nat) : Int) := by rw [wrap64 (by omega) (by omega)]; omega
    have w2 : IntKind.i64.wrap ((k : Int) + 1) = (k : Int) + 1 := wrap64 (by omega) (by omega)
    have p1 : ((k - 1 : Nat) : Int) < xs.length := by omega
    have b1 : k < xs.length := c
    have b0 : k - 1 < xs.length := by omega
    have hcl := fun vs => I.clean (vs := vs)
    by_cases c2 : xs.getD k 0 = xs.getD (k - 1) 0
    · have e1 : ddN xs (k + 1) = xs.take k := by
        rw [ddN, if_pos ⟨by omega, c2⟩, ddN_none (by omega) hd]
      have hne : ¬ (ddN xs xs.length).length = xs.length := by
        have := ddN_grow xs xs.length (k + 1) (by omega)
        rw [e1] at this
        simp at this
        omega
      rw [if_neg hne]
      have I0 : Inp nro G G blk xs := ⟨hb, hnb, Upd.rfl' G, hlen⟩
      have lp := l_cpt1 I0 k 1 (by rw [e1]; simp; rw [Nat.min_eq_left (by omega)]; simp) (by omega) (by omega) (by rw [e1]; simp; omega)
      rw [e1, List.length_take, Nat.min_eq_left (by omega)] at lp
      simp only [Int.natCast_one] at lp
      have hle := ddN_le xs xs.length
      have s1 : vslice 1 G (.slice (some ⟨blk, 0, none⟩) xs.length xs.length) (some (.int .i64 k)) none = some (.slice (some ⟨blk, k, none⟩) (xs.length - k) xs.length) := by
        simp [vslice, hb]; omega
      obtain ⟨D, hD⟩ : ∃ D, D = ddN xs xs.length := ⟨_, rfl⟩
      rw [← hD] at lp hle hne ⊢
      have hl3 : (ints (D ++ xs.drop D.length)).length = xs.length := by rw [ints_length]; simp; omega
      obtain ⟨G', hG'⟩ : ∃ G', G' = G.set blk ⟨1, ints (D ++ xs.drop D.length)⟩ := ⟨_, rfl⟩
      have hg : G'[blk]? = some ⟨1, ints (D ++ xs.drop D.length)⟩ := by rw [hG']; simp [hlt]
      have s2 : vslice 1 G' (.slice (some ⟨blk, 0, none⟩) xs.length xs.length) (some (.int .i64 D.length)) none = some (.slice (some ⟨blk, D.length, none⟩) (xs.length - D.length) xs.length) := by
        simp only [vslice, hg, hl3, and_self, if_true, Option.getD_some, Option.getD_none]
        rw [if_pos (by omega)]
        simp
      have s3 : vclear nro 1 [.int .i64 0] G' (.slice (some ⟨blk, D.length, none⟩) (xs.length - D.length) xs.length) = some (.tuple #[], G.set blk ⟨1, ints (D ++ List.replicate (xs.length - D.length) 0)⟩) := by
        simp only [vclear, hg, hl3, and_self, if_true]
        rw [if_neg (by omega), if_pos ⟨hnb, by omega, rfl, rfl⟩, splice_zeros (by simp), hG', List.set_set]
      have hl4 : (ints (D ++ List.replicate (xs.length - D.length) 0)).length = xs.length := by rw [ints_length]; simp; omega
      obtain ⟨G2, hG2⟩ : ∃ G2, G2 = G.set blk ⟨1, ints (D ++ List.replicate (xs.length - D.length) 0)⟩ := ⟨_, rfl⟩
      have hg2 : G2[blk]? = some ⟨1, ints (D ++ List.replicate (xs.length - D.length) 0)⟩ := by rw [hG2]; simp [hlt]
      have s4 : vslice 1 G2 (.slice (some ⟨blk, 0, none⟩) xs.length xs.length) none (some (.int .i64 D.length)) = some (.slice (some ⟨blk, 0, none⟩) D.length xs.length) := by
        simp only [vslice, hg2, hl4, and_self, if_true, Option.getD_some, Option.getD_none]
        rw [if_pos (by omega)]
        simp
      rw [← hG'] at lp
      rw [← hG2] at s3 ⊢
      obtain ⟨y, hy⟩ : ∃ y, y = xs.getD (k - 1) 0 := ⟨_, rfl⟩
      rw [c2] at r1
      rw [← hy] at r0 r1
      clear hD hG' hG2 I I0 e1 hd c2 hg hg2 hl3 hl4 hy
      simp (disch := first | assumption | omega | (simp [*] <;> omega) | fail) [-getElem?_pos, List.getElem?_cons_zero, List.getElem?_cons_succ, c', hk, r1, r0, w1, w2, p1, b1, b0, hb, hnb, hbl, hlt, s1, lp, s2, s3, s4]
    · have ih := l_cpt2 I (k + 1) (by omega) c fun q h2 h3 => by
        by_cases e : q = k
        · rw [e]; exact c2
        · exact hd q h2 (by omega)
      rw [show ((k + 1 : Nat) : Int) = (k : Int) + 1 by omega] at ih
      obtain ⟨q, hq⟩ : ∃ q, q = (if (ddN xs xs.length).length = xs.length then some (VX.exit 0, fl [(0, .slice (some ⟨blk, 0, none⟩) xs.length xs.length)], G)
        else some (.ret, fl [(2, .slice (some ⟨blk, 0, none⟩) (ddN xs xs.length).length xs.length)], G.set blk ⟨1, ints (ddN xs xs.length ++ List.replicate (xs.length - (ddN xs xs.length).length) 0)⟩)) := ⟨_, rfl⟩
      rw [← hq] at ih ⊢
      obtain ⟨x, hx⟩ : ∃ x, x = xs.getD k 0 := ⟨_, rfl⟩
      obtain ⟨y, hy⟩ : ∃ y, y = xs.getD (k - 1) 0 := ⟨_, rfl⟩
      rw [← hx] at r1 c2
      rw [← hy] at r0 c2
      clear hq hx hy I hd
      simp (disch := first | assumption | omega | (simp [*] <;> omega) | fail) [-getElem?_pos, List.getElem?_cons_zero, List.getElem?_cons_succ, c', hk, r1, r0, w1, w2, p1, b1, b0, hb, c2, hcl, hbl, ih]
  · have e : k = xs.length := by omega
    have c' : ¬ (k : Int) < xs.length := by omega
    have e1 : ddN xs xs.length = xs := by
      rw [ddN_none (Nat.le_refl _) (by rw [← e]; exact hd), List.take_length]
    rw [e1, if_pos rfl]
    simp (disch := first | assumption | omega | (simp [*] <;> omega) | fail) [-getElem?_pos, List.getElem?_cons_zero, List.getElem?_cons_succ, c', hb]
 termination_by xs.length - k

/-- The elements that are not as the one before. -/
theorem c_Compact {G : VH} {blk : Nat} {xs : List Int} (hb : G[blk]? = some ⟨1, ints xs⟩) (hnb : nro ≤ blk) (hlen : xs.length ≤ 100000) (h0 : 1 ≤ xs.length) :
    vcall F nro k_slices_Compact_int64_int64 [.slice (some ⟨blk, 0, none⟩) xs.length xs.length] G = some (.slice (some ⟨blk, 0, none⟩) (ddN xs xs.length).length xs.length, G.set blk ⟨1, ints (ddN xs xs.length ++ List.replicate (xs.length - (ddN xs xs.length).length) 0)⟩) := by
  refine v_slices_Compact_int64_int64 (by simp [i_slices_Compact_int64_int64]) ?_
  rw [fbody_eq]
  have hlt : blk < G.length := (List.getElem?_eq_some_iff.mp hb).1
  have hco : ∀ (ys : List Int) a b, kclean G [.slice (some ⟨blk, 0, none⟩) a b] (G.set blk ⟨1, ints ys⟩) = ([.slice (some ⟨blk, 0, none⟩) a b], G.set blk ⟨1, ints ys⟩) := fun ys a b => by
    have := cleanup_upd (L := []) ((Upd.rfl' G).set' (b := blk) (flatO_ints _ 1 ys)) (vs := [.slice (some ⟨blk, 0, none⟩) a b]) (by simp [hlt])
    rwa [List.append_nil] at this
  have hco0 : ∀ a b, kclean G [.slice (some ⟨blk, 0, none⟩) a b] G = ([.slice (some ⟨blk, 0, none⟩) a b], G) := fun a b => by
    have := hco xs a b
    rwa [hset_self hb] at this
  have full : (ddN xs xs.length).length = xs.length → ddN xs xs.length = xs := fun e => by
    rw [ddN_none (Nat.le_refl _) fun q h1 h2 e2 => ?_, List.take_length]
    have h3 := ddN_grow xs xs.length (q + 1) (by omega)
    have h4 := ddN_le xs q
    rw [ddN, if_pos ⟨by omega, e2⟩] at h3
    omega
  by_cases c : xs.length < 2
  · have e : xs.length = 1 := by omega
    have e1 : ddN xs xs.length = xs := by
      rw [ddN_none (Nat.le_refl _) fun q h1 h2 => by omega, List.take_length]
    rw [e1, Nat.sub_self, List.replicate_zero, List.append_nil, hset_self hb]
    have c' : (xs.length : Int) < 2 := by omega
    simp (disch := first | assumption | omega | (simp [*] <;> omega) | fail) [-getElem?_pos, List.getElem?_cons_zero, List.getElem?_cons_succ, i_slices_Compact_int64_int64, hb, c', hco0]
  · have c' : ¬ (xs.length : Int) < 2 := by omega
    have lp := l_cpt2 (nro := nro) (h0 := G) (G := G) (blk := blk) (xs := xs) ⟨hb, hnb, Upd.rfl' G, hlen⟩ 1 (Nat.le_refl _) (by omega) fun q h1 h2 => by omega
    simp only [Int.natCast_one] at lp
    by_cases e : (ddN xs xs.length).length = xs.length
    · have e1 := full e
      rw [if_pos e] at lp
      rw [e1, Nat.sub_self, List.replicate_zero, List.append_nil, hset_self hb]
      simp (disch := first | assumption | omega | (simp [*] <;> omega) | fail) [-getElem?_pos, List.getElem?_cons_zero, List.getElem?_cons_succ, i_slices_Compact_int64_int64, hb, c', lp, hco0]
    · rw [if_neg e] at lp
      simp (disch := first | assumption | omega | (simp [*] <;> omega) | fail) [-getElem?_pos, List.getElem?_cons_zero, List.getElem?_cons_succ, i_slices_Compact_int64_int64, hb, c', lp, hco]
end Go.Proofs.Ytbilmoahcnllmaa.Zv

/- Sorting short lists; what sorted lists are. -/
namespace Go.Proofs.Ytbilmoahcnllmaa.Zv
open Go
variable {nro : Nat}

/-! ### what sorting does -/
theorem swp_perm {xs : List Int} {i j : Nat} (hi : i < xs.length) (hj : j < xs.length) : List.Perm (swp xs i j) xs := by
  unfold swp
  rw [getD_at xs hi, getD_at xs hj]
  exact List.set_set_perm hi hj
theorem swp_get {xs : List Int} {i j : Nat} (hi : i < xs.length) (hj : j < xs.length) (p : Nat) : (swp xs i j).getD p 0 = if p = j then xs.getD i 0 else if p = i then xs.getD j 0 else xs.getD p 0 := by
  unfold swp
  rw [List.getD_eq_getElem?_getD, List.getElem?_set]
  by_cases h1 : p = j
  · rw [if_pos h1.symm, if_pos (by simpa [h1] using hj), if_pos h1]; rfl
  · rw [if_neg (fun e => h1 e.symm), if_neg h1, List.getElem?_set]
    by_cases h2 : p = i
    · rw [if_pos h2.symm, if_pos hi, if_pos h2]; rfl
    · rw [if_neg (fun e => h2 e.symm), if_neg h2, List.getD_eq_getElem?_getD]
theorem insD_perm (a : Nat) : ∀ (j : Nat) (xs : List Int), j < xs.length → List.Perm (insD a j xs) xs
  | 0, _, _ => List.Perm.refl _
  | j + 1, xs, h => by
    rw [insD]
    split
    · exact (insD_perm a j (swp xs (j + 1) j) (by simp; omega)).trans (swp_perm h (by omega))
    · exact List.Perm.refl _
/-- Sorted from a to before b. -/
def SrtB (a b : Nat) (xs : List Int) : Prop := ∀ p q, a ≤ p → p < q → q < b → xs.getD p 0 ≤ xs.getD q 0
theorem insD_sorted (a i : Nat) : ∀ (j : Nat) (xs : List Int), a ≤ j → j ≤ i → i < xs.length → (∀ p q, a ≤ p → p < q → q ≤ i → p ≠ j → q ≠ j → xs.getD p 0 ≤ xs.getD q 0) → (∀ q, j < q → q ≤ i → xs.getD j 0 ≤ xs.getD q 0) → SrtB a (i + 1) (insD a j xs)
  | 0, xs, ha, hj, hi, h1, h2 => by
    intro p q hp hpq hq
    show xs.getD p 0 ≤ xs.getD q 0
    by_cases e : p = 0
    · rw [e]; exact h2 q (by omega) (by omega)
    · exact h1 p q hp hpq (by omega) e (by omega)
  | j + 1, xs, ha, hj, hi, h1, h2 => by
    rw [insD]
    by_cases c : a < j + 1 ∧ xs.getD (j + 1) 0 < xs.getD j 0
    · rw [if_pos c]
      have g := swp_get (xs := xs) (i := j + 1) (j := j) (by omega) (by omega)
      refine insD_sorted a i j (swp xs (j + 1) j) (by omega) (by omega) (by simpa using hi) (fun p q hp hpq hq n1 n2 => ?_) (fun q h3 h4 => ?_)
      · rw [g, g, if_neg n1, if_neg n2]
        by_cases e1 : p = j + 1
        · rw [if_pos e1, if_neg (by omega)]
          exact h1 j q (by omega) (by omega) hq (by omega) (by omega)
        · rw [if_neg e1]
          by_cases e2 : q = j + 1
          · rw [if_pos e2]
            exact h1 p j hp (by omega) (by omega) e1 (by omega)
          · rw [if_neg e2]
            exact h1 p q hp hpq hq e1 e2
      · rw [g, g, if_pos rfl, if_neg (by omega)]
        by_cases e2 : q = j + 1
        · rw [if_pos e2]; omega
        · rw [if_neg e2]
          exact h2 q (by omega) h4
    · rw [if_neg c]
      intro p q hp hpq hq
      by_cases e1 : p = j + 1
      · rw [e1]; exact h2 q (by omega) (by omega)
      · by_cases e2 : q = j + 1
        · rw [e2]
          have h3 : xs.getD j 0 ≤ xs.getD (j + 1) 0 := by omega
          by_cases e3 : p = j
          · rw [e3]; exact h3
          · exact Int.le_trans (h1 p j hp (by omega) (by omega) e1 (by omega)) h3
        · exact h1 p q hp hpq (by omega) e1 e2
theorem insS_ok (a b : Nat) : ∀ (i : Nat) (xs : List Int), b ≤ xs.length → a < i → SrtB a i xs → List.Perm (upF (fun i xs => insD a i xs) b i xs) xs ∧ (i ≤ b → SrtB a b (upF (fun i xs => insD a i xs) b i xs)) := by
  intro i xs hb hi hs
  by_cases c : i < b
  · rw [upF_step c]
    have h1 : SrtB a (i + 1) (insD a i xs) := insD_sorted a i i xs (by omega) (Nat.le_refl _) (by omega) (fun p q hp hpq hq _ n2 => hs p q hp hpq (by omega)) (fun q h1 h2 => by omega)
    obtain ⟨h2, h3⟩ := insS_ok a b (i + 1) (insD a i xs) (by simpa using hb) (by omega) h1
    exact ⟨h2.trans (insD_perm a i xs (by omega)), fun _ => h3 (by omega)⟩
  · rw [upF_end c]
    exact ⟨List.Perm.refl _, fun h => by have : i = b := by omega
                                         rw [← this]; exact hs⟩
 termination_by i => b - i
theorem insS_perm {a b : Nat} {xs : List Int} (hb : b ≤ xs.length) : List.Perm (insS a b xs) xs := (insS_ok a b (a + 1) xs hb (by omega) (fun p q h1 h2 h3 => by omega)).1
theorem insS_sorted {a b : Nat} {xs : List Int} (hb : b ≤ xs.length) : SrtB a b (insS a b xs) := by
  by_cases h : a + 1 ≤ b
  · exact (insS_ok a b (a + 1) xs hb (by omega) (fun p q h1 h2 h3 => by omega)).2 h
  · intro p q h1 h2 h3; omega

end Go.Proofs.Ytbilmoahcnllmaa.Zv

/- Sorting, as the library does it: what is sorted, told once. -/
namespace Go.Proofs.Ytbilmoahcnllmaa.Zv
open Go Go.Sort

def getI (d : Array Nat) (x : Int) : Nat := d[x.toNat]!
def setI (d : Array Nat) (x : Int) (v : Nat) : Array Nat := d.setIfInBounds x.toNat v
@[simp] theorem setI_size (d : Array Nat) (x : Int) (v : Nat) : (setI d x v).size = d.size := by simp [setI]
def swI (d : Array Nat) (x y : Int) : Array Nat := setI (setI d x (getI d y)) y (getI d x)
@[simp] theorem swI_size (d : Array Nat) (x y : Int) : (swI d x y).size = d.size := by simp [swI]
theorem swI_swp (d : Array Nat) (x y : Int) (i j : Nat) (hx : x = i) (hy : y = j) : swI d x y = Go.Sort.swp d i j := by
  subst hx; subst hy; rfl
@[simp] theorem swp_size (d : Array Nat) (i j : Nat) : (Go.Sort.swp d i j).size = d.size := by simp [Go.Sort.swp]

/-- Elements are told by numbers: a slice S of N of them, a comparison C. -/
structure SE (nro : Nat) (ld : Bool) (sz : Nat) (S C : Value) (P : Int → Value) (ag : Nat → Value) (cm : Nat → Nat → Int) (N : Nat) (H : Array Nat → VH) : Prop where
  len : ∀ d d', (H d).length = (H d').length
  nr : ∀ d, nro ≤ (H d).length
  oS : ∀ n, (H #[]).length ≤ n → Old n S
  oC : ∀ n, (H #[]).length ≤ n → Old n C
  idx : ∀ (d : Array Nat) (x : Int), d.size = N → 0 ≤ x → x < N → vidx sz (H d) S (.int .i64 x) = some (P x, H d)
  load : ∀ (d : Array Nat) (x : Int), d.size = N → 0 ≤ x → x < N → vload ld sz (H d) (P x) = some (ag (getI d x))
  store : ∀ (d : Array Nat) (x : Int) (v : Nat), d.size = N → 0 ≤ x → x < N → vstore nro sz (H d) (P x) (ag v) = some (H (setI d x v))
  cmp : ∀ (d : Array Nat) (x y : Nat), vcallv (vcall F nro) (H d) C [ag x, ag y] = some (.int .i64 (cm x y), H d)
  upd : ∀ (d d' : Array Nat), Upd (H d) (H d')
  vln : ∀ d, d.size = N → vlen (H d) S = some (.int .i64 N, H d)
  hN : N ≤ 1000

section
variable {nro : Nat} {ld : Bool} {sz : Nat} {S C : Value} {P : Int → Value} {ag : Nat → Value} {cm : Nat → Nat → Int} {N : Nat} {H : Array Nat → VH}
theorem SE.clean (E : SE nro ld sz S C P ag cm N H) (d d' : Array Nat) (L : VH) (vs : List Value) (hv : ∀ v ∈ vs, Old (H #[]).length v) : kclean (H d) vs (H d' ++ L) = (vs, H d') :=
  cleanup_upd (E.upd d d') (by rw [E.len d #[]]; exact hv)
theorem SE.clean0 (E : SE nro ld sz S C P ag cm N H) (d d' : Array Nat) (vs : List Value) (hv : ∀ v ∈ vs, Old (H #[]).length v) : kclean (H d) vs (H d') = (vs, H d') := by
  have := E.clean d d' [] vs hv
  rwa [List.append_nil] at this
theorem SE.ln (E : SE nro ld sz S C P ag cm N H) (d : Array Nat) : (H d).length = (H #[]).length := E.len d #[]
end
theorem Upd.snoc {h h' : VH} (hu : Upd h h') (o o' : VO) (hf : flatO (h.length + 1) o') : Upd (h ++ [o]) (h' ++ [o']) := by
  refine ⟨by simp [hu.1], fun i p hp => ?_⟩
  have hl : (h ++ [o]).length = h.length + 1 := by simp
  by_cases hi : i < h'.length
  · rw [List.getElem?_append_left hi] at hp
    rcases hu.2 i p hp with h1 | h1
    · left
      have : i < h.length := (List.getElem?_eq_some_iff.mp h1).1
      rw [List.getElem?_append_left this]; exact h1
    · right
      intro r hr
      have := h1 r hr
      omega
  · rw [List.getElem?_append_right (by omega)] at hp
    by_cases hi2 : i - h'.length = 0
    · rw [hi2] at hp
      simp at hp
      subst hp
      right
      intro r hr
      have := hf r hr
      omega
    · have : i - h'.length = (i - h'.length - 1) + 1 := by omega
      rw [this] at hp
      simp at hp
/-- Less, by a comparison. -/
def ltC (cm : Nat → Nat → Int) (x y : Nat) : Bool := decide (cm x y < 0)
theorem getI_nat (d : Array Nat) (x : Int) (i : Nat) (h : x = i) : getI d x = d[i]! := by subst h; rfl
end Go.Proofs.Ytbilmoahcnllmaa.Zv

/- Sorting: insertion. -/
namespace Go.Proofs.Ytbilmoahcnllmaa.Zv
open Go Go.Sort
variable {nro : Nat} {S C : Value} {P : Int → Value} {ag : Nat → Value} {cm : Nat → Nat → Int} {N : Nat} {H : Array Nat → VH}

@[simp] theorem insInner_size (lt : Nat → Nat → Bool) (a : Nat) : ∀ (j : Nat) (d : Array Nat), (insInner lt a j d).size = d.size
  | 0, d => rfl
  | j + 1, d => by
    unfold insInner
    split
    · rw [insInner_size lt a j]; simp
    · rfl
end Go.Proofs.Ytbilmoahcnllmaa.Zv

/- Sorting: heaps. -/
namespace Go.Proofs.Ytbilmoahcnllmaa.Zv
open Go Go.Sort
variable {nro : Nat} {S C : Value} {P : Int → Value} {ag : Nat → Value} {cm : Nat → Nat → Int} {N : Nat} {H : Array Nat → VH}

theorem siftDown_size (lt : Nat → Nat → Bool) (hi first : Nat) (root : Nat) (d : Array Nat) : (siftDown lt hi first root d).size = d.size := by
  rw [siftDown]
  split
  · rfl
  · split
    · split
      · rfl
      · split
        · rw [siftDown_size lt hi first (2 * root + 2)]; simp
        · rfl
    · split
      · rfl
      · rw [siftDown_size lt hi first (2 * root + 1)]; simp
 termination_by hi - root
section
variable (E : SE nro true 3 S C P ag cm N H)
include E
omit E in
theorem heapBuild_size (lt : Nat → Nat → Bool) (hi first : Nat) : ∀ (k : Nat) (d : Array Nat), (heapBuild lt hi first k d).size = d.size
  | 0, d => rfl
  | k + 1, d => by rw [heapBuild, heapBuild_size lt hi first k, siftDown_size]
end
end Go.Proofs.Ytbilmoahcnllmaa.Zv

/- Sorting: reversing, breaking patterns, choosing a pivot. -/
namespace Go.Proofs.Ytbilmoahcnllmaa.Zv
open Go Go.Sort
variable {nro : Nat} {S C : Value} {P : Int → Value} {ag : Nat → Value} {cm : Nat → Nat → Int} {N : Nat} {H : Array Nat → VH}

/-! ### numbers that seem to be drawn -/
theorem c_xorshift (K : VH) (hn : nro ≤ K.length) (r : Int) : ∃ r' : Nat, r' < 18446744073709551616 ∧ vcall F nro k_slices_xorshift_Next [.pointer (some ⟨K.length, 0, some 1⟩)] (K ++ [⟨0, [.int .u64 r]⟩]) = some (.int .u64 r', K ++ [⟨0, [.int .u64 r']⟩]) := by
  obtain ⟨r1, h1⟩ : ∃ x, x = ixor .u64 r (ishl .u64 r 13) := ⟨_, rfl⟩
  obtain ⟨r2, h2⟩ : ∃ x, x = ixor .u64 r1 (ishr .u64 r1 7) := ⟨_, rfl⟩
  obtain ⟨r3, h3⟩ : ∃ x, x = ixor .u64 r2 (ishl .u64 r2 17) := ⟨_, rfl⟩
  have h4 : 0 ≤ r3 ∧ r3 < 18446744073709551616 := by
    rw [h3, ixor_eq]
    have := IntKind.wrap_u64 ((BitVec.ofInt IntKind.u64.bits r2 ^^^ BitVec.ofInt IntKind.u64.bits (ishl .u64 r2 17)).toNat : Int)
    rw [this]
    omega
  refine ⟨r3.toNat, by omega, ?_⟩
  rw [show ((r3.toNat : Nat) : Int) = r3 by omega]
  have hn' := fun k => Nat.le_trans hn (Nat.le_add_right K.length k)
  refine v_slices_xorshift_Next (by simp [i_slices_xorshift_Next]) ?_
  rw [fbody_eq]
  simp (disch := first | assumption | omega | (simp [*] <;> omega) | fail) [i_slices_xorshift_Next, h1.symm, h2.symm, h3.symm, hn, hn']

set_option maxRecDepth 20000 in
theorem c_bits_Len64x (x : Nat) (hx : x ≤ 255) (h : VH) : ∃ y : Nat, y ≤ 8 ∧ x < 2 ^ y ∧ 2 ^ y ≤ 2 * x + 1 ∧ vcall F nro k_math_bits_Len64 [.int .u64 x] h = some (.int .i64 y, h) := by
  have c1 : ¬ (4294967296 : Int) ≤ x := by omega
  have c2 : ¬ (65536 : Int) ≤ x := by omega
  have c3 : ¬ (256 : Int) ≤ x := by omega
  have w : IntKind.u8.wrap (x : Int) = x := wrapu8 (by omega) (by omega)
  obtain ⟨i, hi⟩ : ∃ i, i = i_math_bits_Len64 := ⟨_, rfl⟩
  have hr : ∃ y : Nat, y ≤ 8 ∧ x < 2 ^ y ∧ 2 ^ y ≤ 2 * x + 1 ∧ fbody (vcall F nro) nro i [.int .u64 x] h = some (.int .i64 y, h) := by
    unfold i_math_bits_Len64 at hi
    generalize hS : (ByteArray.mk _) = S at hi
    have hsz : S.size = 256 := by rw [← hS]; rfl
    have hT : ∀ x, x < 256 → (match S.data[x]? with | some b => decide (b.toNat ≤ 8) && decide (x < 2 ^ b.toNat) && decide (2 ^ b.toNat ≤ 2 * x + 1) | none => false) = true := by
      rw [← hS]; decide +kernel
    have hx2 : x < S.size := by omega
    obtain ⟨b, hb⟩ : ∃ b : UInt8, S[x]? = some b := ⟨S[x], by simp [getElem?_pos, hx2]⟩
    have hb3 : S.data[x]? = some b := by
      rw [← hb]
      rw [getElem?_pos S x hx2, getElem?_pos S.data x hx2]
      rfl
    have hTx := hT x (by omega)
    rw [hb3] at hTx
    simp only [Bool.and_eq_true, decide_eq_true_eq] at hTx
    obtain ⟨⟨t1, t2⟩, t3⟩ := hTx
    clear hS hT
    refine ⟨b.toNat, t1, t2, t3, ?_⟩
    rw [fbody_eq, hi]
    have hb2 : b.toNat < 256 := b.toNat_lt
    have w2 : IntKind.i64.wrap ((b.toNat : Nat) : Int) = b.toNat := wrap64 (by omega) (by omega)
    clear hi t1 t2 t3 hb3
    simp (disch := first | assumption | omega | (simp [*] <;> omega) | fail) [-getElem?_pos, vop, c1, c2, c3, w, hb, w2]
  obtain ⟨y, h1, h2, h3, hr⟩ := hr
  refine ⟨y, h1, h2, h3, v_math_bits_Len64 (by show 1 ≤ 25; omega) ?_⟩
  rw [← hi]
  exact hr
theorem c_pow2 (x : Nat) (hx : x ≤ 255) (h : VH) : ∃ y : Nat, y ≤ 8 ∧ x < 2 ^ y ∧ 2 ^ y ≤ 2 * x + 1 ∧ vcall F nro k_slices_nextPowerOfTwo [.int .i64 x] h = some (.int .u64 (2 ^ y : Nat), h) := by
  obtain ⟨y, h1, h2, h3, e⟩ := c_bits_Len64x (nro := nro) x hx h
  have e2 : vcall F nro k_math_bits_Len [.int .u64 x] h = some (.int .i64 y, h) := by
    refine v_math_bits_Len (by simp [i_math_bits_Len]) ?_
    rw [fbody_eq]
    simp (disch := first | assumption | omega | (simp [*] <;> omega) | fail) [i_math_bits_Len, e]
  refine ⟨y, h1, h2, h3, v_slices_nextPowerOfTwo (by simp [i_slices_nextPowerOfTwo]) ?_⟩
  rw [fbody_eq]
  have w1 : IntKind.u64.wrap (x : Int) = x := wrapu64 (by omega) (by omega)
  have hs : ishl .u64 1 (y : Int) = ((2 ^ y : Nat) : Int) := by
    rw [ishl_eq]
    have hm : min (y : Int).toNat IntKind.u64.bits = y := by
      rw [Int.toNat_natCast]
      show min y 64 = y
      omega
    rw [hm, Int.one_mul]
    have : (2 : Nat) ^ y ≤ 511 := by omega
    have e3 : ((2 : Int) ^ y) = ((2 ^ y : Nat) : Int) := by simp
    rw [e3]
    exact wrapu64 (by omega) (by omega)
  obtain ⟨z, hz⟩ : ∃ z, z = 2 ^ y := ⟨_, rfl⟩
  rw [← hz] at hs ⊢
  clear h2 h3 hz
  have hy0 : ¬ (y : Int) < 0 := by omega
  simp (disch := first | assumption | omega | (simp [*] <;> omega) | fail) [i_slices_nextPowerOfTwo, w1, e2, hs, hy0]
end Go.Proofs.Ytbilmoahcnllmaa.Zv

/- Sorting: patterns are broken. -/
namespace Go.Proofs.Ytbilmoahcnllmaa.Zv
open Go Go.Sort
variable {nro : Nat} {S C : Value} {P : Int → Value} {ag : Nat → Value} {cm : Nat → Nat → Int} {N : Nat} {H : Array Nat → VH}

theorem iand_u64 (a : Int) (m : Nat) (hm : m < 18446744073709551616) : 0 ≤ iand .u64 a m ∧ iand .u64 a m ≤ m := by
  rw [iand_eq]
  have h1 : (BitVec.ofInt IntKind.u64.bits a &&& BitVec.ofInt IntKind.u64.bits (m : Int)).toNat ≤ m := by
    rw [BitVec.toNat_and]
    refine Nat.le_trans Nat.and_le_right ?_
    show (BitVec.ofInt 64 (m : Int)).toNat ≤ m
    rw [BitVec.toNat_ofInt]
    omega
  obtain ⟨t, ht⟩ : ∃ t, t = (BitVec.ofInt IntKind.u64.bits a &&& BitVec.ofInt IntKind.u64.bits (m : Int)).toNat := ⟨_, rfl⟩
  rw [← ht] at h1 ⊢
  clear ht
  have h2 : IntKind.u64.wrap (t : Int) = t := wrapu64 (by omega) (by omega)
  rw [h2]
  omega
theorem swp_permI {d : Array Nat} {a b i j : Nat} (h1 : a ≤ i) (h2 : i < b) (h3 : a ≤ j) (h4 : j < b) (h5 : b ≤ d.size) : PermIn a b d (Go.Sort.swp d i j) := swp_permIn d a b i j h1 h2 h3 h4 h5

end Go.Proofs.Ytbilmoahcnllmaa.Zv

/- Sorting: partitions, whole. -/
namespace Go.Proofs.Ytbilmoahcnllmaa.Zv
open Go Go.Sort
variable {nro : Nat} {S C : Value} {P : Int → Value} {ag : Nat → Value} {cm : Nat → Nat → Int} {N : Nat} {H : Array Nat → VH}

theorem partLoop_size (lt : Nat → Nat → Bool) (a : Nat) : ∀ (n i j : Nat) (d : Array Nat), j + 1 - i ≤ n → (partLoop lt a i j d).2.size = d.size ∧ (partLoop lt a i j d).1 ≤ j
  | n, i, j, d, hn => by
    rw [partLoop_eq]
    have h1 := scanUp_ge (fun x => lt x d[a]!) d j i
    have h2 := scanDown_le (fun x => !lt x d[a]!) d (scanUp (fun x => lt x d[a]!) d j i) j
    by_cases c : scanUp (fun x => lt x d[a]!) d j i > scanDown (fun x => !lt x d[a]!) d (scanUp (fun x => lt x d[a]!) d j i) j
    · rw [if_pos c]; exact ⟨rfl, h2⟩
    · rw [if_neg c]
      have ih := partLoop_size lt a (n - 1) (scanUp (fun x => lt x d[a]!) d j i + 1) (scanDown (fun x => !lt x d[a]!) d (scanUp (fun x => lt x d[a]!) d j i) j - 1) (Go.Sort.swp d (scanUp (fun x => lt x d[a]!) d j i) (scanDown (fun x => !lt x d[a]!) d (scanUp (fun x => lt x d[a]!) d j i) j)) (by omega)
      exact ⟨by rw [ih.1]; simp, by omega⟩
 termination_by _ i j _ _ => j + 1 - i
 decreasing_by
  simp_wf
  omega

end Go.Proofs.Ytbilmoahcnllmaa.Zv

/- Sorting: partitions into equal and greater. -/
namespace Go.Proofs.Ytbilmoahcnllmaa.Zv
open Go Go.Sort
variable {nro : Nat} {S C : Value} {P : Int → Value} {ag : Nat → Value} {cm : Nat → Nat → Int} {N : Nat} {H : Array Nat → VH}

section
variable (E : SE nro true 3 S C P ag cm N H)
include E
/-! ### partialInsertionSort -/
omit E in
theorem shiftDown_size (lt : Nat → Nat → Bool) : ∀ (j : Nat) (d : Array Nat), (shiftDown lt j d).size = d.size
  | 0, d => rfl
  | j + 1, d => by
    unfold shiftDown
    split
    · rfl
    · rw [shiftDown_size lt j]; simp
omit E in
theorem shiftUp_size (lt : Nat → Nat → Bool) (b : Nat) (j : Nat) (d : Array Nat) : (shiftUp lt b j d).size = d.size := by
  rw [shiftUp]
  split
  · split
    · rfl
    · rw [shiftUp_size lt b (j + 1)]; simp
  · rfl
 termination_by b - j
end
end Go.Proofs.Ytbilmoahcnllmaa.Zv

/- Sorting: partial insertion. -/
namespace Go.Proofs.Ytbilmoahcnllmaa.Zv
open Go Go.Sort
variable {nro : Nat} {S C : Value} {P : Int → Value} {ag : Nat → Value} {cm : Nat → Nat → Int} {N : Nat} {H : Array Nat → VH}

theorem scanSorted_rng (lt : Nat → Nat → Bool) (d : Array Nat) (b : Nat) (i : Nat) : i ≤ scanSorted lt d b i ∧ (i ≤ b → scanSorted lt d b i ≤ b) := by
  by_cases c : (decide (i < b) && !lt d[i]! d[i - 1]!) = true
  · rw [scanSorted, if_pos c]
    have hlt : i < b := by simp at c; exact c.1
    have := scanSorted_rng lt d b (i + 1)
    omega
  · rw [scanSorted, if_neg c]
    omega
 termination_by b - i
 decreasing_by omega

end Go.Proofs.Ytbilmoahcnllmaa.Zv

/- Sorting: the whole. -/
namespace Go.Proofs.Ytbilmoahcnllmaa.Zv
open Go Go.Sort
variable {nro : Nat} {S C : Value} {P : Int → Value} {ag : Nat → Value} {cm : Nat → Nat → Int} {N : Nat} {H : Array Nat → VH}

def unblock : FC → FC
  | .block _ c => c
  | c => c
end Go.Proofs.Ytbilmoahcnllmaa.Zv

/- Sorting: the recursion. -/
namespace Go.Proofs.Ytbilmoahcnllmaa.Zv
open Go Go.Sort
variable {nro : Nat} {S C : Value} {P : Int → Value} {ag : Nat → Value} {cm : Nat → Nat → Int} {N : Nat} {H : Array Nat → VH}
theorem seq_step {call : VCall} (k : Nat) {c : FC} {e e' : FE} {h h' : VH} (hk : k + 1 ≤ nseq c) (h1 : fcode call nro (takeS k c) e h = some (.normal, e', h')) : fcode call nro c e h = fcode call nro (dropS (k + 1) c) e' h' := by
  rw [fcode_parts call nro k c e h hk, h1, kseq_normal]
theorem seq_ret {call : VCall} (k : Nat) {c : FC} {e e' : FE} {h h' : VH} {x : VX} (hk : k + 1 ≤ nseq c) (hx : x ≠ .normal) (h1 : fcode call nro (takeS k c) e h = some (x, e', h')) : fcode call nro c e h = some (x, e', h') := by
  rw [fcode_parts call nro k c e h hk, h1]
  cases x with
  | normal => exact absurd rfl hx
  | ret => rfl
  | exit i => rfl
end Go.Proofs.Ytbilmoahcnllmaa.Zv

/- Refining, in plain terms: how many colours after a round. -/
namespace Go.Proofs.Ytbilmoahcnllmaa.Zv
open Go Go.Sort
theorem inj_sum (m p : Nat) (f : Nat → Nat) (hf : ∀ x, x < m → f x < p) : (m : Int) = sumF (fun y => sumF (fun x => oneIf (f x = y)) m) p := by
  rw [← sumF_swap (fun x y => oneIf (f x = y)) p m]
  have : ∀ x, x < m → sumF (fun y => oneIf (f x = y)) p = 1 := fun x hx => by
    rw [sumF_one (k := f x) (hf x hx) (fun i _ hi => one_neg fun h => hi h.symm)]
    exact one_pos rfl
  rw [sumF_congr (g := fun _ => 1 * 1) this]
  clear this hf
  induction m with
  | zero => rfl
  | succ m ih => rw [sumF, ← ih]; omega
theorem sumF_const (c : Int) : ∀ n : Nat, sumF (fun _ => c) n = n * c
  | 0 => by simp [sumF]
  | n + 1 => by rw [sumF, sumF_const c n]; simp [Int.add_mul]
theorem inj_le (m p : Nat) (f : Nat → Nat) (hf : ∀ x, x < m → f x < p) (hi : ∀ x y, x < m → y < m → f x = f y → x = y) : m ≤ p := by
  have h1 := inj_sum m p f hf
  have h2 : sumF (fun y => sumF (fun x => oneIf (f x = y)) m) p ≤ sumF (fun _ => 1) p := sumF_le fun y _ => sumF_most fun i j hi' hj h3 h4 => hi i j hi' hj (h3.trans h4.symm)
  rw [sumF_const] at h2
  omega
end Go.Proofs.Ytbilmoahcnllmaa.Zv

/- Counting tuples: closed walks are counted by where they begin. -/
namespace Go.Proofs.Ytbilmoahcnllmaa.Zv
open Go
open Classical

/-- All lists of k numbers below n. -/
def tup (n : Nat) : Nat → List (List Nat)
  | 0 => [[]]
  | k + 1 => (List.range n).flatMap fun v => (tup n k).map (v :: ·)
/-! ### closed walks -/
theorem nodup_at {l : List Nat} (h : l.Nodup) {i j : Nat} (hi : i < l.length) (hj : j < l.length) (e : l[i] = l[j]) : i = j := by
  have key : ∀ i j (hi : i < l.length) (hj : j < l.length), i < j → l[i] ≠ l[j] := fun i j hi hj hij => List.pairwise_iff_getElem.mp h i j hi hj hij
  rcases Nat.lt_trichotomy i j with c | c | c
  · exact absurd e (key i j hi hj c)
  · exact c
  · exact absurd e.symm (key j i hj hi c)
end Go.Proofs.Ytbilmoahcnllmaa.Zv

/- Groups, in plain numbers: powers, orders, what is generated, and that its number divides. -/
namespace Go.Proofs.Ytbilmoahcnllmaa.Zv
open Go
section
variable {N : Nat} {m : Nat → Nat → Nat} (G : GL N m)
include G
theorem GL.lc {x y z : Nat} (hx : x < N) (hy : y < N) (hz : z < N) (h : m x y = m x z) : y = z := by
  obtain ⟨w, hw, _, h2⟩ := G.inv x hx
  rw [← G.zl y hy, ← G.zl z hz, ← h2, G.as3 w x y hw hx hy, G.as3 w x z hw hx hz, h]
theorem GL.rc {x y z : Nat} (hx : x < N) (hy : y < N) (hz : z < N) (h : m y x = m z x) : y = z := by
  obtain ⟨w, hw, h2, _⟩ := G.inv x hx
  rw [← G.zr y hy, ← G.zr z hz, ← h2, ← G.as3 y x w hy hx hw, ← G.as3 z x w hz hx hw, h]
end
/-- The inverse of x. -/
noncomputable def giv (N : Nat) (m : Nat → Nat → Nat) (x : Nat) : Nat := by
  classical exact if h : ∃ y, y < N ∧ m x y = 0 then Classical.choose h else 0
section
variable {N : Nat} {m : Nat → Nat → Nat} (G : GL N m)
include G
theorem GL.giv_ok {x : Nat} (hx : x < N) : giv N m x < N ∧ m x (giv N m x) = 0 ∧ m (giv N m x) x = 0 := by
  obtain ⟨y, hy, h1, h2⟩ := G.inv x hx
  have h : ∃ y, y < N ∧ m x y = 0 := ⟨y, hy, h1⟩
  have e : giv N m x = Classical.choose h := by unfold giv; rw [dif_pos h]
  have h3 := Classical.choose_spec h
  rw [← e] at h3
  have : giv N m x = y := G.lc hx h3.1 hy (by rw [h3.2, h1])
  exact ⟨h3.1, h3.2, by rw [this]; exact h2⟩
theorem GL.giv_uniq {x y : Nat} (hx : x < N) (hy : y < N) (h : m x y = 0) : y = giv N m x := by
  have h1 := G.giv_ok hx
  exact G.lc hx hy h1.1 (by rw [h, h1.2.1])
theorem GL.giv_giv {x : Nat} (hx : x < N) : giv N m (giv N m x) = x := by
  have h1 := G.giv_ok hx
  exact (G.giv_uniq h1.1 hx h1.2.2).symm
theorem GL.giv_zero {x : Nat} (hx : x < N) : giv N m x = 0 ↔ x = 0 := by
  have h1 := G.giv_ok hx
  constructor
  · intro h
    have := h1.2.1
    rw [h, G.zr x hx] at this; exact this
  · rintro rfl
    have := h1.2.1
    rw [G.zl _ h1.1] at this; exact this
end
/-- Powers. -/
def gpw (m : Nat → Nat → Nat) (x : Nat) : Nat → Nat
  | 0 => 0
  | i + 1 => m (gpw m x i) x
section
variable {N : Nat} {m : Nat → Nat → Nat} (G : GL N m)
include G
theorem GL.pw_lt {x : Nat} (hx : x < N) : ∀ i, gpw m x i < N
  | 0 => G.pos
  | i + 1 => G.lt _ _ (GL.pw_lt hx i) hx
theorem GL.pw_add {x : Nat} (hx : x < N) (a : Nat) : ∀ b, gpw m x (a + b) = m (gpw m x a) (gpw m x b)
  | 0 => (G.zr _ (G.pw_lt hx a)).symm
  | b + 1 => by
    show m (gpw m x (a + b)) x = m (gpw m x a) (m (gpw m x b) x)
    rw [GL.pw_add hx a b, G.as3 _ _ _ (G.pw_lt hx a) (G.pw_lt hx b) hx]
theorem GL.pw_one {x : Nat} (hx : x < N) : gpw m x 1 = x := G.zl x hx
theorem GL.pw_eq {x : Nat} (hx : x < N) {i d : Nat} (h : gpw m x (d + i) = gpw m x i) : gpw m x d = 0 := by
  rw [G.pw_add hx] at h
  exact G.rc (G.pw_lt hx i) (G.pw_lt hx d) G.pos (by rw [h, G.zl _ (G.pw_lt hx i)])
theorem GL.pw_some {x : Nat} (hx : x < N) : ∃ k, 0 < k ∧ k ≤ N ∧ gpw m x k = 0 := by
  apply Classical.byContradiction
  intro hno
  have := inj_le (N + 1) N (gpw m x) (fun i _ => G.pw_lt hx i) (fun i j hi hj h => by
    apply Classical.byContradiction
    intro hne
    rcases Nat.lt_or_ge i j with c | c
    · obtain ⟨d, rfl⟩ : ∃ d, j = d + i := ⟨j - i, by omega⟩
      exact hno ⟨d, by omega, by omega, G.pw_eq hx h.symm⟩
    · obtain ⟨d, rfl⟩ : ∃ d, i = d + j := ⟨i - j, by omega⟩
      exact hno ⟨d, by omega, by omega, G.pw_eq hx h⟩)
  omega
/-- The order of x. -/
theorem GL.ord_some {x : Nat} (hx : x < N) : ∃ k, 0 < k ∧ k ≤ N ∧ gpw m x k = 0 ∧ ∀ i, 0 < i → i < k → gpw m x i ≠ 0 := by
  obtain ⟨k, h1, h2, h3⟩ := G.pw_some hx
  revert h1 h2 h3
  induction k using Nat.strongRecOn with
  | _ k ih =>
    intro h1 h2 h3
    by_cases c : ∃ i, 0 < i ∧ i < k ∧ gpw m x i = 0
    · obtain ⟨i, i1, i2, i3⟩ := c
      exact ih i i2 i1 (by omega) i3
    · exact ⟨k, h1, h2, h3, fun i i1 i2 i3 => c ⟨i, i1, i2, i3⟩⟩
theorem GL.pw_inj {x k : Nat} (hx : x < N) (hk : ∀ i, 0 < i → i < k → gpw m x i ≠ 0) {i j : Nat} (hi : i < k) (hj : j < k) (h : gpw m x i = gpw m x j) : i = j := by
  apply Classical.byContradiction
  intro hne
  rcases Nat.lt_or_ge i j with c | c
  · obtain ⟨d, rfl⟩ : ∃ d, j = d + i := ⟨j - i, by omega⟩
    exact hk d (by omega) (by omega) (G.pw_eq hx h.symm)
  · obtain ⟨d, rfl⟩ : ∃ d, i = d + j := ⟨i - j, by omega⟩
    exact hk d (by omega) (by omega) (G.pw_eq hx h)
end

/-! ### lists of elements -/
theorem nodup_sub_len {l1 l2 : List Nat} (h1 : l1.Nodup) (hs : ∀ x ∈ l1, x ∈ l2) : l1.length ≤ l2.length := by
  have hx : ∀ i, i < l1.length → ∃ j, j < l2.length ∧ l2[j]? = l1[i]? := fun i hi => by
    obtain ⟨j, hj, e⟩ := List.mem_iff_getElem.mp (hs _ (List.getElem_mem hi))
    exact ⟨j, hj, by rw [List.getElem?_eq_getElem hj, e, List.getElem?_eq_getElem hi]⟩
  refine inj_le _ _ (fun i => if h : i < l1.length then Classical.choose (hx i h) else 0) (fun i hi => ?_) (fun i j hi hj h => ?_)
  · simp only [dif_pos hi]
    exact (Classical.choose_spec (hx i hi)).1
  · simp only [dif_pos hi, dif_pos hj] at h
    have e1 := (Classical.choose_spec (hx i hi)).2
    have e2 := (Classical.choose_spec (hx j hj)).2
    rw [h, e2, List.getElem?_eq_getElem hi, List.getElem?_eq_getElem hj] at e1
    exact nodup_at h1 hi hj (by simpa using e1.symm)
theorem nodup_sub_all {l1 l2 : List Nat} (h1 : l1.Nodup) (h2 : l2.Nodup) (hs : ∀ x ∈ l1, x ∈ l2) (hl : l2.length ≤ l1.length) {y : Nat} (hy : y ∈ l2) : y ∈ l1 := by
  apply Classical.byContradiction
  intro hno
  have := nodup_sub_len (l1 := y :: l1) (l2 := l2) (List.nodup_cons.mpr ⟨hno, h1⟩) (fun x hx => by
    rcases List.mem_cons.mp hx with rfl | hx
    · exact hy
    · exact hs x hx)
  simp at this; omega
theorem nodup_map_on {f : Nat → Nat} : ∀ {l : List Nat}, (∀ x ∈ l, ∀ y ∈ l, f x = f y → x = y) → l.Nodup → (l.map f).Nodup
  | [], _, _ => List.nodup_nil
  | a :: l, hf, h => by
    rw [List.nodup_cons] at h
    rw [List.map_cons, List.nodup_cons]
    refine ⟨fun hm => ?_, nodup_map_on (fun x hx y hy => hf x (List.mem_cons_of_mem _ hx) y (List.mem_cons_of_mem _ hy)) h.2⟩
    obtain ⟨b, hb, e⟩ := List.mem_map.mp hm
    have := hf b (List.mem_cons_of_mem _ hb) a List.mem_cons_self e
    rw [this] at hb
    exact h.1 hb
theorem nodup_same_len {l1 l2 : List Nat} (h1 : l1.Nodup) (h2 : l2.Nodup) (h : ∀ x, x ∈ l1 ↔ x ∈ l2) : l1.length = l2.length :=
  Nat.le_antisymm (nodup_sub_len h1 fun x hx => (h x).mp hx) (nodup_sub_len h2 fun x hx => (h x).mpr hx)

section
variable {N : Nat} {m : Nat → Nat → Nat} (G : GL N m)
include G
/-- The number of a closed part divides that of each set that it leaves as it is. -/
theorem GL.cosets {hs : List Nat} (h1 : hs.Nodup) (hlt : ∀ x ∈ hs, x < N) (hc : ∀ x ∈ hs, ∀ y ∈ hs, m x y ∈ hs) (h0 : 0 ∈ hs) :
    ∀ (n : Nat) (S : List Nat), S.length ≤ n → S.Nodup → (∀ x ∈ S, x < N) → (∀ x ∈ S, ∀ y ∈ hs, m x y ∈ S) → hs.length ∣ S.length := by
  intro n
  induction n with
  | zero => intro S hS _ _ _; rw [show S.length = 0 by omega]; exact Nat.dvd_zero _
  | succ n ih =>
    intro S hS hnd hSlt hcl
    cases S with
    | nil => exact Nat.dvd_zero _
    | cons x S0 =>
      obtain ⟨S, hSe⟩ : ∃ S, S = x :: S0 := ⟨_, rfl⟩
      rw [← hSe] at hS hnd hSlt hcl ⊢
      have hx : x ∈ S := by rw [hSe]; exact List.mem_cons_self
      have xl := hSlt x hx
      obtain ⟨C, hC⟩ : ∃ C, C = hs.map (m x) := ⟨_, rfl⟩
      have Cnd : C.Nodup := by
        rw [hC]
        exact nodup_map_on (fun a ha b hb e => G.lc xl (hlt a ha) (hlt b hb) e) h1
      have Csub : ∀ y ∈ C, y ∈ S := fun y hy => by
        rw [hC] at hy
        obtain ⟨t, ht, rfl⟩ := List.mem_map.mp hy
        exact hcl x hx t ht
      have Cl : C.length = hs.length := by rw [hC, List.length_map]
      have ap : S.length = (S.filter fun y => decide (y ∈ C)).length + (S.filter fun y => !decide (y ∈ C)).length := by
        rw [← List.countP_eq_length_filter, ← List.countP_eq_length_filter]
        have := List.length_eq_countP_add_countP (fun y => decide (y ∈ C)) (l := S)
        simpa using this
      have e1 : (S.filter fun y => decide (y ∈ C)).length = C.length := nodup_same_len (hnd.sublist List.filter_sublist) Cnd fun y => by
        simp only [List.mem_filter, decide_eq_true_eq]
        exact ⟨fun h => h.2, fun h => ⟨Csub y h, h⟩⟩
      have hpos : 0 < hs.length := List.length_pos_of_mem h0
      have hrest := ih (S.filter fun y => !decide (y ∈ C)) (by omega) (hnd.sublist List.filter_sublist) (fun y hy => hSlt y (List.mem_filter.mp hy).1) (fun y hy t ht => by
        obtain ⟨hy1, hy2⟩ := List.mem_filter.mp hy
        refine List.mem_filter.mpr ⟨hcl y hy1 t ht, ?_⟩
        simp only [Bool.not_eq_true', decide_eq_false_iff_not] at hy2 ⊢
        intro hm
        apply hy2
        rw [hC] at hm ⊢
        obtain ⟨t', ht', e⟩ := List.mem_map.mp hm
        have hsur : t' ∈ hs.map (fun a => m a t) := nodup_sub_all (l2 := hs) (nodup_map_on (fun a ha b hb e => G.rc (hlt t ht) (hlt a ha) (hlt b hb) e) h1) h1 (fun a ha => by
          obtain ⟨b, hb, rfl⟩ := List.mem_map.mp ha
          exact hc b hb t ht) (by rw [List.length_map]; exact Nat.le_refl _) ht'
        obtain ⟨s, hs', e2⟩ := List.mem_map.mp hsur
        refine List.mem_map.mpr ⟨s, hs', ?_⟩
        refine G.rc (hlt t ht) (G.lt _ _ xl (hlt s hs')) (hSlt y hy1) ?_
        rw [G.as3 _ _ _ xl (hlt s hs') (hlt t ht), e2, e])
      rw [ap, e1, Cl]
      exact Nat.dvd_add (Nat.dvd_refl _) hrest
theorem GL.divides {hs : List Nat} (h1 : hs.Nodup) (hlt : ∀ x ∈ hs, x < N) (hc : ∀ x ∈ hs, ∀ y ∈ hs, m x y ∈ hs) (h0 : 0 ∈ hs) : N % hs.length = 0 := by
  have := G.cosets h1 hlt hc h0 N (List.range N) (by simp) List.nodup_range (fun x hx => by simpa using hx) (fun x hx y hy => by
    simp only [List.mem_range] at hx ⊢
    exact G.lt _ _ hx (hlt y hy))
  rw [List.length_range] at this
  exact Nat.mod_eq_zero_of_dvd this
end
end Go.Proofs.Ytbilmoahcnllmaa.Zv

/- Groups: what tells them, their numbers of elements, their products. -/
namespace Go.Proofs.Ytbilmoahcnllmaa.Zv
open Go
variable {nro : Nat}
/-- A group's value. -/
abbrev gpv (K P : Int) : Value := .agg #[.int .i64 K, .int .i64 P]
def gpB (K P : Int) : Prop := (K = 0 ∧ 1 ≤ P ∧ P ≤ 62) ∨ (K = 1 ∧ 1 ≤ P ∧ P ≤ 31) ∨ (K = 2 ∧ (P = 2 ∨ P = 3 ∨ P = 5 ∨ P = 7))
instance (K P : Int) : Decidable (gpB K P) := by unfold gpB; infer_instance
theorem gpB.nat {K P : Int} (h : gpB K P) : ∃ k n : Nat, K = k ∧ P = n ∧ isGp k n := by
  refine ⟨K.toNat, P.toNat, ?_, ?_, ?_⟩
  · unfold gpB at h; omega
  · unfold gpB at h; omega
  · unfold gpB at h; unfold isGp; omega
theorem isGp.gpB {k n : Nat} (h : isGp k n) : gpB k n := by unfold isGp at h; unfold Zv.gpB; omega

theorem c_impl_isPrime (P : Int) (h : VH) : vcall F nro k_impl_isPrime [.int .i64 P] h = some (.bool (decide (P = 2 ∨ P = 3 ∨ P = 5 ∨ P = 7)), h) := by
  refine v_impl_isPrime (by simp [i_impl_isPrime]) ?_
  rw [fbody_eq]
  by_cases a : P = 2
  · simp (disch := first | assumption | omega | (simp [*] <;> omega) | fail) [i_impl_isPrime, a]
  by_cases b : P = 3
  · simp (disch := first | assumption | omega | (simp [*] <;> omega) | fail) [i_impl_isPrime, a, b]
  by_cases c : P = 5
  · simp (disch := first | assumption | omega | (simp [*] <;> omega) | fail) [i_impl_isPrime, a, b, c]
  by_cases d : P = 7
  · simp (disch := first | assumption | omega | (simp [*] <;> omega) | fail) [i_impl_isPrime, a, b, c, d]
  simp (disch := first | assumption | omega | (simp [*] <;> omega) | fail) [i_impl_isPrime, a, b, c, d]
theorem c_spec_l05Prime (P : Int) (h : VH) : vcall F nro k_spec_l05Prime [.int .i64 P] h = some (.bool (decide (P = 2 ∨ P = 3 ∨ P = 5 ∨ P = 7)), h) := by
  refine v_spec_l05Prime (by simp [i_spec_l05Prime]) ?_
  rw [fbody_eq]
  by_cases a : P = 2
  · simp (disch := first | assumption | omega | (simp [*] <;> omega) | fail) [i_spec_l05Prime, a]
  by_cases b : P = 3
  · simp (disch := first | assumption | omega | (simp [*] <;> omega) | fail) [i_spec_l05Prime, a, b]
  by_cases c : P = 5
  · simp (disch := first | assumption | omega | (simp [*] <;> omega) | fail) [i_spec_l05Prime, a, b, c]
  by_cases d : P = 7
  · simp (disch := first | assumption | omega | (simp [*] <;> omega) | fail) [i_spec_l05Prime, a, b, c, d]
  simp (disch := first | assumption | omega | (simp [*] <;> omega) | fail) [i_spec_l05Prime, a, b, c, d]
theorem c_impl_IsGroup (K P : Int) (h : VH) : vcall F nro k_impl_IsGroup [gpv K P] h = some (.bool (decide (gpB K P)), h) := by
  have hp := fun L => c_impl_isPrime (nro := nro) P (h ++ L)
  refine v_impl_IsGroup (by simp [i_impl_IsGroup]) ?_
  rw [fbody_eq]
  by_cases c0 : K = 0
  · subst c0
    by_cases a : 1 ≤ P
    · by_cases b : P ≤ 62 <;> simp (disch := first | assumption | omega | (simp [*] <;> omega) | fail) [i_impl_IsGroup, gpB, a, b]
    · simp (disch := first | assumption | omega | (simp [*] <;> omega) | fail) [i_impl_IsGroup, gpB, a]
  by_cases c1 : K = 1
  · subst c1
    by_cases a : 1 ≤ P
    · by_cases b : P ≤ 31 <;> simp (disch := first | assumption | omega | (simp [*] <;> omega) | fail) [i_impl_IsGroup, gpB, a, b]
    · simp (disch := first | assumption | omega | (simp [*] <;> omega) | fail) [i_impl_IsGroup, gpB, a]
  by_cases c2 : K = 2
  · subst c2; simp (disch := first | assumption | omega | (simp [*] <;> omega) | fail) [i_impl_IsGroup, gpB, hp]
  simp (disch := first | assumption | omega | (simp [*] <;> omega) | fail) [i_impl_IsGroup, gpB, c0, c1, c2]
theorem c_spec_l05Is (K P : Int) (h : VH) : vcall F nro k_spec_l05Is [gpv K P] h = some (.bool (decide (gpB K P)), h) := by
  have hp := fun L => c_spec_l05Prime (nro := nro) P (h ++ L)
  have hi := fun L => c_spec_l01In (nro := nro) P 1 62 (h ++ L)
  have hj := fun L => c_spec_l01In (nro := nro) P 1 31 (h ++ L)
  refine v_spec_l05Is (by simp [i_spec_l05Is]) ?_
  rw [fbody_eq]
  by_cases c0 : K = 0
  · subst c0; simp (disch := first | assumption | omega | (simp [*] <;> omega) | fail) [i_spec_l05Is, gpB, hi]
  by_cases c1 : K = 1
  · subst c1; simp (disch := first | assumption | omega | (simp [*] <;> omega) | fail) [i_spec_l05Is, gpB, hj]
  by_cases c2 : K = 2
  · subst c2; simp (disch := first | assumption | omega | (simp [*] <;> omega) | fail) [i_spec_l05Is, gpB, hp]
  simp (disch := first | assumption | omega | (simp [*] <;> omega) | fail) [i_spec_l05Is, gpB, c0, c1, c2]
theorem c_spec_IsGroup (K P : Int) (h : VH) : vcall F nro k_spec_IsGroup [gpv K P] h = some (.bool (decide (gpB K P)), h) := by
  have hp := fun L => c_spec_l05Is (nro := nro) K P (h ++ L)
  refine v_spec_IsGroup (by simp [i_spec_IsGroup]) ?_
  rw [fbody_eq]
  simp (disch := first | assumption | omega | (simp [*] <;> omega) | fail) [i_spec_IsGroup, hp]
theorem c_impl_Group_order {k n : Nat} (g : isGp k n) (h : VH) : vcall F nro k_impl_Group_order [gpv k n] h = some (.int .i64 (gord k n : Nat), h) := by
  refine v_impl_Group_order (by simp [i_impl_Group_order]) ?_
  rw [fbody_eq]
  rcases g with ⟨rfl, h1, h2⟩ | ⟨rfl, h1, h2⟩ | ⟨rfl, h1⟩
  · simp (disch := first | assumption | omega | (simp [*] <;> omega) | fail) [i_impl_Group_order, gord]
  · have w : IntKind.i64.wrap (2 * (n : Int)) = 2 * n := wrap64 (by omega) (by omega)
    simp (disch := first | assumption | omega | (simp [*] <;> omega) | fail) [i_impl_Group_order, gord, w]
  · rcases h1 with rfl | rfl | rfl | rfl <;> simp (disch := first | assumption | omega | (simp [*] <;> omega) | fail) [i_impl_Group_order, gord] <;> rfl
theorem c_spec_l05Order {k n : Nat} (g : isGp k n) (h : VH) : vcall F nro k_spec_l05Order [gpv k n] h = some (.int .i64 (gord k n : Nat), h) := by
  refine v_spec_l05Order (by simp [i_spec_l05Order]) ?_
  rw [fbody_eq]
  rcases g with ⟨rfl, h1, h2⟩ | ⟨rfl, h1, h2⟩ | ⟨rfl, h1⟩
  · simp (disch := first | assumption | omega | (simp [*] <;> omega) | fail) [i_spec_l05Order, gord]
  · have w : IntKind.i64.wrap (2 * (n : Int)) = 2 * n := wrap64 (by omega) (by omega)
    simp (disch := first | assumption | omega | (simp [*] <;> omega) | fail) [i_spec_l05Order, gord, w]
  · rcases h1 with rfl | rfl | rfl | rfl <;> simp (disch := first | assumption | omega | (simp [*] <;> omega) | fail) [i_spec_l05Order, gord] <;> rfl

theorem tmN (a b : Nat) : (a : Int).tmod b = ((a % b : Nat) : Int) := (Int.ofNat_tmod a b).symm
theorem tdN (a b : Nat) : (a : Int).tdiv b = ((a / b : Nat) : Int) := (Int.ofNat_tdiv a b).symm
theorem wrN {a : Int} {r : Nat} (h : a = r) (h2 : r ≤ 100000) : IntKind.i64.wrap a = r := by rw [h]; exact wrap64 (by omega) (by omega)
theorem gp_prod_zero {n x y : Nat} (h1 : 1 ≤ n) (h2 : n ≤ 62) (hx : x < n) (hy : y < n) (h : VH) : vcall F nro k_impl_Group_product [gpv (0 : Nat) n, .int .i64 x, .int .i64 y] h = some (.int .i64 (gmul 0 n x y : Nat), h) := by
  obtain ⟨s, hs⟩ : ∃ s : Nat, s = x + y := ⟨_, rfl⟩
  obtain ⟨r, hr⟩ : ∃ r : Nat, r = s % n := ⟨_, rfl⟩
  have hrn : r < n := by rw [hr]; exact Nat.mod_lt _ (by omega)
  have w1 : IntKind.i64.wrap ((x : Int) + y) = s := wrN (by omega) (by omega)
  have w2 : (s : Int).tmod n = r := by rw [tmN, hr]
  have w3 : IntKind.i64.wrap (r : Int) = r := wrN rfl (by omega)
  have hg : gmul 0 n x y = r := by rw [hr, hs]; simp [gmul]
  have n0 : ¬ (n : Int) = 0 := by omega
  rw [hg]
  clear hr hs hg
  refine v_impl_Group_product (by simp [i_impl_Group_product]) ?_
  rw [fbody_eq]
  simp (disch := first | assumption | omega | (simp [*] <;> omega) | fail) [i_impl_Group_product, w1, w2, w3, n0]
end Go.Proofs.Ytbilmoahcnllmaa.Zv

/- Groups: products, as the two programs reckon them. -/
namespace Go.Proofs.Ytbilmoahcnllmaa.Zv
open Go
variable {nro : Nat}
theorem mod_bd {a n : Nat} (h : 1 ≤ n) (h2 : n ≤ 62) : a % n ≤ 61 := by have := Nat.mod_lt a (show n > 0 by omega); omega
theorem gp_nz {n x y : Nat} (hn : n = 2 ∨ n = 3 ∨ n = 5 ∨ n = 7) (hx : x < n * (n - 1)) (hy : y < n * (n - 1)) : (x / n + 1) * (y / n + 1) % n ≠ 0 := by
  have nz : ∀ a, a < n → ∀ c, c < n → a ≠ 0 → c ≠ 0 → a * c % n ≠ 0 := by
    rcases hn with rfl | rfl | rfl | rfl <;> decide
  have h1 : x / n < n - 1 := Nat.div_lt_of_lt_mul hx
  have h2 : y / n < n - 1 := Nat.div_lt_of_lt_mul hy
  exact nz (x / n + 1) (by omega) (y / n + 1) (by omega) (Nat.succ_ne_zero _) (Nat.succ_ne_zero _)
theorem gp_prod_one_lo {n x y : Nat} (h1 : 1 ≤ n) (h2 : n ≤ 31) (hx : x < n) (hy : y < 2 * n) (h : VH) : vcall F nro k_impl_Group_product [gpv (1 : Nat) n, .int .i64 x, .int .i64 y] h = some (.int .i64 (gmul 1 n x y : Nat), h) := by
  have bx : x ≤ 62 := by omega
  have by' : y ≤ 62 := by omega
  obtain ⟨q1, hq1⟩ : ∃ R0 : Nat, R0 = x / n := ⟨_, rfl⟩
  have bq1 : q1 ≤ 62 := by have := Nat.div_le_self x n; omega
  have tq1 : (x : Int).tdiv n = q1 := by rw [hq1]; exact tdN x n
  have wq1 : IntKind.i64.wrap (q1 : Int) = q1 := wrN (r := q1) rfl (by omega)
  obtain ⟨q2, hq2⟩ : ∃ R0 : Nat, R0 = y / n := ⟨_, rfl⟩
  have bq2 : q2 ≤ 62 := by have := Nat.div_le_self y n; omega
  have tq2 : (y : Int).tdiv n = q2 := by rw [hq2]; exact tdN y n
  have wq2 : IntKind.i64.wrap (q2 : Int) = q2 := wrN (r := q2) rfl (by omega)
  obtain ⟨s, hs⟩ : ∃ R0 : Nat, R0 = q1 + q2 := ⟨_, rfl⟩
  have bs : s ≤ 124 := by omega
  have ws : IntKind.i64.wrap ((q1 : Int) + q2) = s := wrN (by omega) (by omega)
  obtain ⟨t, ht⟩ : ∃ R0 : Nat, R0 = s % 2 := ⟨_, rfl⟩
  have bt : t ≤ 1 := by omega
  have tt : (s : Int).tmod 2 = t := by rw [ht]; exact tmN s 2
  have wt : IntKind.i64.wrap (t : Int) = t := wrN (r := t) rfl (by omega)
  obtain ⟨u, hu⟩ : ∃ R0 : Nat, R0 = t * n := ⟨_, rfl⟩
  have bu : u ≤ 2000 := by have h3 : t * n ≤ 1 * n := Nat.mul_le_mul_right _ (by omega); omega
  have wu : IntKind.i64.wrap ((t : Int) * n) = u := wrN (by rw [hu]; simp) (by omega)
  obtain ⟨r, hr⟩ : ∃ R0 : Nat, R0 = y % n := ⟨_, rfl⟩
  have br : r ≤ 62 := by have := mod_bd (a := y) h1 (by omega); omega
  have tr : (y : Int).tmod n = r := by rw [hr]; exact tmN y n
  have wr : IntKind.i64.wrap (r : Int) = r := wrN (r := r) rfl (by omega)
  obtain ⟨v, hv⟩ : ∃ R0 : Nat, R0 = x + r := ⟨_, rfl⟩
  have bv : v ≤ 124 := by omega
  have wv : IntKind.i64.wrap ((x : Int) + r) = v := wrN (by omega) (by omega)
  obtain ⟨w, hw⟩ : ∃ R0 : Nat, R0 = v % n := ⟨_, rfl⟩
  have bw : w ≤ 62 := by have := mod_bd (a := v) h1 (by omega); omega
  have tw : (v : Int).tmod n = w := by rw [hw]; exact tmN v n
  have ww : IntKind.i64.wrap (w : Int) = w := wrN (r := w) rfl (by omega)
  obtain ⟨z, hz⟩ : ∃ R0 : Nat, R0 = u + w := ⟨_, rfl⟩
  have bz : z ≤ 2062 := by omega
  have wz : IntKind.i64.wrap ((u : Int) + w) = z := wrN (by omega) (by omega)
  have hg : gmul 1 n x y = z := by
    rw [gmul, if_neg (by decide), if_pos rfl, if_pos hx]; subst hz hw hv hr hu ht hs hq1 hq2; rfl
  have n0 : ¬ (n : Int) = 0 := by omega
  rw [hg]
  have c : (x : Int) < n := by omega
  clear hg hq1 hq2 hs ht hu hr hv hw hz
  refine v_impl_Group_product (by simp [i_impl_Group_product]) ?_
  rw [fbody_eq]
  simp (disch := first | assumption | omega | (simp [*] <;> omega) | fail) [i_impl_Group_product, c, tq1, wq1, tq2, wq2, ws, tt, wt, wu, tr, wr, wv, tw, ww, wz, n0]
theorem gp_prod_one_hi {n x y : Nat} (h1 : 1 ≤ n) (h2 : n ≤ 31) (hx : ¬ x < n) (hx2 : x < 2 * n) (hy : y < 2 * n) (h : VH) : vcall F nro k_impl_Group_product [gpv (1 : Nat) n, .int .i64 x, .int .i64 y] h = some (.int .i64 (gmul 1 n x y : Nat), h) := by
  have bx : x ≤ 62 := by omega
  have by' : y ≤ 62 := by omega
  obtain ⟨q1, hq1⟩ : ∃ R0 : Nat, R0 = x / n := ⟨_, rfl⟩
  have bq1 : q1 ≤ 62 := by have := Nat.div_le_self x n; omega
  have tq1 : (x : Int).tdiv n = q1 := by rw [hq1]; exact tdN x n
  have wq1 : IntKind.i64.wrap (q1 : Int) = q1 := wrN (r := q1) rfl (by omega)
  obtain ⟨q2, hq2⟩ : ∃ R0 : Nat, R0 = y / n := ⟨_, rfl⟩
  have bq2 : q2 ≤ 62 := by have := Nat.div_le_self y n; omega
  have tq2 : (y : Int).tdiv n = q2 := by rw [hq2]; exact tdN y n
  have wq2 : IntKind.i64.wrap (q2 : Int) = q2 := wrN (r := q2) rfl (by omega)
  obtain ⟨s, hs⟩ : ∃ R0 : Nat, R0 = q1 + q2 := ⟨_, rfl⟩
  have bs : s ≤ 124 := by omega
  have ws : IntKind.i64.wrap ((q1 : Int) + q2) = s := wrN (by omega) (by omega)
  obtain ⟨t, ht⟩ : ∃ R0 : Nat, R0 = s % 2 := ⟨_, rfl⟩
  have bt : t ≤ 1 := by omega
  have tt : (s : Int).tmod 2 = t := by rw [ht]; exact tmN s 2
  have wt : IntKind.i64.wrap (t : Int) = t := wrN (r := t) rfl (by omega)
  obtain ⟨u, hu⟩ : ∃ R0 : Nat, R0 = t * n := ⟨_, rfl⟩
  have bu : u ≤ 2000 := by have h3 : t * n ≤ 1 * n := Nat.mul_le_mul_right _ (by omega); omega
  have wu : IntKind.i64.wrap ((t : Int) * n) = u := wrN (by rw [hu]; simp) (by omega)
  obtain ⟨p, hp⟩ : ∃ R0 : Nat, R0 = x % n := ⟨_, rfl⟩
  have bp : p ≤ 62 := by have := mod_bd (a := x) h1 (by omega); omega
  have tp : (x : Int).tmod n = p := by rw [hp]; exact tmN x n
  have wp : IntKind.i64.wrap (p : Int) = p := wrN (r := p) rfl (by omega)
  obtain ⟨r, hr⟩ : ∃ R0 : Nat, R0 = y % n := ⟨_, rfl⟩
  have br : r ≤ 62 := by have := mod_bd (a := y) h1 (by omega); omega
  have tr : (y : Int).tmod n = r := by rw [hr]; exact tmN y n
  have wr : IntKind.i64.wrap (r : Int) = r := wrN (r := r) rfl (by omega)
  obtain ⟨i, hi⟩ : ∃ i : Int, i = (p : Int) - r := ⟨_, rfl⟩
  have wi : IntKind.i64.wrap ((p : Int) - r) = i := by rw [← hi]; exact wrap64 (by omega) (by omega)
  have rn : r < n := by rw [hr]; exact Nat.mod_lt _ (by omega)
  obtain ⟨v, hv⟩ : ∃ v : Nat, v = p + n - r := ⟨_, rfl⟩
  have wv : IntKind.i64.wrap (i + n) = v := wrN (by omega) (by omega)
  obtain ⟨w, hw⟩ : ∃ R0 : Nat, R0 = v % n := ⟨_, rfl⟩
  have bw : w ≤ 2000 := by have := mod_bd (a := v) h1 (by omega); omega
  have tw : (v : Int).tmod n = w := by rw [hw]; exact tmN v n
  have ww : IntKind.i64.wrap (w : Int) = w := wrN rfl (by omega)
  obtain ⟨z, hz⟩ : ∃ z : Nat, z = u + w := ⟨_, rfl⟩
  have wz : IntKind.i64.wrap ((u : Int) + w) = z := wrN (by omega) (by omega)
  have hg : gmul 1 n x y = z := by
    rw [gmul, if_neg (by decide), if_pos rfl, if_neg hx]; subst hz hw hv hr hp hu ht hs hq1 hq2; rfl
  have n0 : ¬ (n : Int) = 0 := by omega
  have c : ¬ (x : Int) < n := by omega
  rw [hg]
  clear hg hi hv hw hz hq1 hq2 hs ht hu hp hr
  refine v_impl_Group_product (by simp [i_impl_Group_product]) ?_
  rw [fbody_eq]
  simp (disch := first | assumption | omega | (simp [*] <;> omega) | fail) [i_impl_Group_product, c, tq1, wq1, tq2, wq2, ws, tt, wt, wu, tp, wp, tr, wr, wi, wv, tw, ww, wz, n0]
theorem sp_prod_one_lo {n x y : Nat} (h1 : 1 ≤ n) (h2 : n ≤ 31) (hx : x < n) (hy : y < 2 * n) (h : VH) : vcall F nro k_spec_l05Times [gpv (1 : Nat) n, .int .i64 x, .int .i64 y] h = some (.int .i64 (gmul 1 n x y : Nat), h) := by
  have bx : x ≤ 62 := by omega
  have by' : y ≤ 62 := by omega
  obtain ⟨q1, hq1⟩ : ∃ R0 : Nat, R0 = x / n := ⟨_, rfl⟩
  have bq1 : q1 ≤ 62 := by have := Nat.div_le_self x n; omega
  have tq1 : (x : Int).tdiv n = q1 := by rw [hq1]; exact tdN x n
  have wq1 : IntKind.i64.wrap (q1 : Int) = q1 := wrN (r := q1) rfl (by omega)
  obtain ⟨p, hp⟩ : ∃ R0 : Nat, R0 = x % n := ⟨_, rfl⟩
  have bp : p ≤ 62 := by have := mod_bd (a := x) h1 (by omega); omega
  have tp : (x : Int).tmod n = p := by rw [hp]; exact tmN x n
  have wp : IntKind.i64.wrap (p : Int) = p := wrN (r := p) rfl (by omega)
  obtain ⟨q2, hq2⟩ : ∃ R0 : Nat, R0 = y / n := ⟨_, rfl⟩
  have bq2 : q2 ≤ 62 := by have := Nat.div_le_self y n; omega
  have tq2 : (y : Int).tdiv n = q2 := by rw [hq2]; exact tdN y n
  have wq2 : IntKind.i64.wrap (q2 : Int) = q2 := wrN (r := q2) rfl (by omega)
  obtain ⟨r, hr⟩ : ∃ R0 : Nat, R0 = y % n := ⟨_, rfl⟩
  have br : r ≤ 62 := by have := mod_bd (a := y) h1 (by omega); omega
  have tr : (y : Int).tmod n = r := by rw [hr]; exact tmN y n
  have wr : IntKind.i64.wrap (r : Int) = r := wrN (r := r) rfl (by omega)
  obtain ⟨s, hs⟩ : ∃ R0 : Nat, R0 = q1 + q2 := ⟨_, rfl⟩
  have bs : s ≤ 124 := by omega
  have ws : IntKind.i64.wrap ((q1 : Int) + q2) = s := wrN (by omega) (by omega)
  obtain ⟨t, ht⟩ : ∃ R0 : Nat, R0 = s % 2 := ⟨_, rfl⟩
  have bt : t ≤ 1 := by omega
  have tt : (s : Int).tmod 2 = t := by rw [ht]; exact tmN s 2
  have wt : IntKind.i64.wrap (t : Int) = t := wrN (r := t) rfl (by omega)
  obtain ⟨u, hu⟩ : ∃ R0 : Nat, R0 = t * n := ⟨_, rfl⟩
  have bu : u ≤ 2000 := by have h3 : t * n ≤ 1 * n := Nat.mul_le_mul_right _ (by omega); omega
  have wu : IntKind.i64.wrap ((t : Int) * n) = u := wrN (by rw [hu]; simp) (by omega)
  obtain ⟨v, hv⟩ : ∃ R0 : Nat, R0 = p + r := ⟨_, rfl⟩
  have bv : v ≤ 124 := by omega
  have wv : IntKind.i64.wrap ((p : Int) + r) = v := wrN (by omega) (by omega)
  obtain ⟨w, hw⟩ : ∃ R0 : Nat, R0 = v % n := ⟨_, rfl⟩
  have bw : w ≤ 62 := by have := mod_bd (a := v) h1 (by omega); omega
  have tw : (v : Int).tmod n = w := by rw [hw]; exact tmN v n
  have ww : IntKind.i64.wrap (w : Int) = w := wrN (r := w) rfl (by omega)
  obtain ⟨z, hz⟩ : ∃ R0 : Nat, R0 = u + w := ⟨_, rfl⟩
  have bz : z ≤ 2062 := by omega
  have wz : IntKind.i64.wrap ((u : Int) + w) = z := wrN (by omega) (by omega)
  have hg : gmul 1 n x y = z := by
    rw [gmul, if_neg (by decide), if_pos rfl, if_pos hx]; subst hz hw hv hr hp hu ht hs hq1 hq2; rw [Nat.mod_eq_of_lt hx]
  have n0 : ¬ (n : Int) = 0 := by omega
  rw [hg]
  have c : ¬ (q1 : Int) = 1 := by rw [hq1, Nat.div_eq_of_lt hx]; decide
  clear hg hq1 hp hq2 hr hs ht hu hv hw hz
  refine v_spec_l05Times (by simp [i_spec_l05Times]) ?_
  rw [fbody_eq]
  simp (disch := first | assumption | omega | (simp [*] <;> omega) | fail) [i_spec_l05Times, c, tq1, wq1, tp, wp, tq2, wq2, tr, wr, ws, tt, wt, wu, wv, tw, ww, wz, n0]
theorem sp_prod_one_hi {n x y : Nat} (h1 : 1 ≤ n) (h2 : n ≤ 31) (hx : ¬ x < n) (hx2 : x < 2 * n) (hy : y < 2 * n) (h : VH) : vcall F nro k_spec_l05Times [gpv (1 : Nat) n, .int .i64 x, .int .i64 y] h = some (.int .i64 (gmul 1 n x y : Nat), h) := by
  have bx : x ≤ 62 := by omega
  have by' : y ≤ 62 := by omega
  obtain ⟨q1, hq1⟩ : ∃ R0 : Nat, R0 = x / n := ⟨_, rfl⟩
  have bq1 : q1 ≤ 62 := by have := Nat.div_le_self x n; omega
  have tq1 : (x : Int).tdiv n = q1 := by rw [hq1]; exact tdN x n
  have wq1 : IntKind.i64.wrap (q1 : Int) = q1 := wrN (r := q1) rfl (by omega)
  obtain ⟨p, hp⟩ : ∃ R0 : Nat, R0 = x % n := ⟨_, rfl⟩
  have bp : p ≤ 62 := by have := mod_bd (a := x) h1 (by omega); omega
  have tp : (x : Int).tmod n = p := by rw [hp]; exact tmN x n
  have wp : IntKind.i64.wrap (p : Int) = p := wrN (r := p) rfl (by omega)
  obtain ⟨q2, hq2⟩ : ∃ R0 : Nat, R0 = y / n := ⟨_, rfl⟩
  have bq2 : q2 ≤ 62 := by have := Nat.div_le_self y n; omega
  have tq2 : (y : Int).tdiv n = q2 := by rw [hq2]; exact tdN y n
  have wq2 : IntKind.i64.wrap (q2 : Int) = q2 := wrN (r := q2) rfl (by omega)
  obtain ⟨r, hr⟩ : ∃ R0 : Nat, R0 = y % n := ⟨_, rfl⟩
  have br : r ≤ 62 := by have := mod_bd (a := y) h1 (by omega); omega
  have tr : (y : Int).tmod n = r := by rw [hr]; exact tmN y n
  have wr : IntKind.i64.wrap (r : Int) = r := wrN (r := r) rfl (by omega)
  obtain ⟨s, hs⟩ : ∃ R0 : Nat, R0 = q1 + q2 := ⟨_, rfl⟩
  have bs : s ≤ 124 := by omega
  have ws : IntKind.i64.wrap ((q1 : Int) + q2) = s := wrN (by omega) (by omega)
  obtain ⟨t, ht⟩ : ∃ R0 : Nat, R0 = s % 2 := ⟨_, rfl⟩
  have bt : t ≤ 1 := by omega
  have tt : (s : Int).tmod 2 = t := by rw [ht]; exact tmN s 2
  have wt : IntKind.i64.wrap (t : Int) = t := wrN (r := t) rfl (by omega)
  obtain ⟨u, hu⟩ : ∃ R0 : Nat, R0 = t * n := ⟨_, rfl⟩
  have bu : u ≤ 2000 := by have h3 : t * n ≤ 1 * n := Nat.mul_le_mul_right _ (by omega); omega
  have wu : IntKind.i64.wrap ((t : Int) * n) = u := wrN (by rw [hu]; simp) (by omega)
  have rn : r < n := by rw [hr]; exact Nat.mod_lt _ (by omega)
  obtain ⟨d, hd⟩ : ∃ R0 : Nat, R0 = n - r := ⟨_, rfl⟩
  have bd : d ≤ 62 := by omega
  have wd : IntKind.i64.wrap ((n : Int) - r) = d := wrN (by omega) (by omega)
  obtain ⟨v, hv⟩ : ∃ R0 : Nat, R0 = p + d := ⟨_, rfl⟩
  have bv : v ≤ 124 := by omega
  have wv : IntKind.i64.wrap ((p : Int) + d) = v := wrN (by omega) (by omega)
  obtain ⟨w, hw⟩ : ∃ R0 : Nat, R0 = v % n := ⟨_, rfl⟩
  have bw : w ≤ 62 := by have := mod_bd (a := v) h1 (by omega); omega
  have tw : (v : Int).tmod n = w := by rw [hw]; exact tmN v n
  have ww : IntKind.i64.wrap (w : Int) = w := wrN (r := w) rfl (by omega)
  obtain ⟨z, hz⟩ : ∃ R0 : Nat, R0 = u + w := ⟨_, rfl⟩
  have bz : z ≤ 2062 := by omega
  have wz : IntKind.i64.wrap ((u : Int) + w) = z := wrN (by omega) (by omega)
  have hg : gmul 1 n x y = z := by
    rw [gmul, if_neg (by decide), if_pos rfl, if_neg hx]; subst hz hw hv; rw [show p + d = p + n - r by omega]; subst hd hr hp hu ht hs hq1 hq2; rfl
  have n0 : ¬ (n : Int) = 0 := by omega
  rw [hg]
  have c : ((q1 : Int) = 1) = True := eq_true (by
    rw [hq1, Nat.div_eq_sub_div (by omega) (by omega), Nat.div_eq_of_lt (by omega)]; rfl)
  clear hg hq1 hp hq2 hr hs ht hu hd hv hw hz
  refine v_spec_l05Times (by simp [i_spec_l05Times]) ?_
  rw [fbody_eq]
  simp (disch := first | assumption | omega | (simp [*] <;> omega) | fail) [i_spec_l05Times, c, tq1, wq1, tp, wp, tq2, wq2, tr, wr, ws, tt, wt, wu, wd, wv, tw, ww, wz, n0]
theorem sp_prod_zero {n x y : Nat} (h1 : 1 ≤ n) (h2 : n ≤ 62) (hx : x < n) (hy : y < n) (h : VH) : vcall F nro k_spec_l05Times [gpv (0 : Nat) n, .int .i64 x, .int .i64 y] h = some (.int .i64 (gmul 0 n x y : Nat), h) := by
  obtain ⟨s, hs⟩ : ∃ s : Nat, s = x + y := ⟨_, rfl⟩
  obtain ⟨r, hr⟩ : ∃ r : Nat, r = s % n := ⟨_, rfl⟩
  have hrn : r < n := by rw [hr]; exact Nat.mod_lt _ (by omega)
  have w1 : IntKind.i64.wrap ((x : Int) + y) = s := wrN (by omega) (by omega)
  have w2 : (s : Int).tmod n = r := by rw [tmN, hr]
  have w3 : IntKind.i64.wrap (r : Int) = r := wrN rfl (by omega)
  have hg : gmul 0 n x y = r := by rw [hr, hs]; simp [gmul]
  have n0 : ¬ (n : Int) = 0 := by omega
  rw [hg]
  clear hr hs hg
  refine v_spec_l05Times (by simp [i_spec_l05Times]) ?_
  rw [fbody_eq]
  simp (disch := first | assumption | omega | (simp [*] <;> omega) | fail) [i_spec_l05Times, w1, w2, w3, n0]
theorem gp_prod_two {n x y : Nat} (h1 : 1 ≤ n) (h2 : n ≤ 7) (hx : x < n * (n - 1)) (hy : y < n * (n - 1)) (hnz : (x / n + 1) * (y / n + 1) % n ≠ 0) (h : VH) : vcall F nro k_impl_Group_product [gpv (2 : Nat) n, .int .i64 x, .int .i64 y] h = some (.int .i64 (gmul 2 n x y : Nat), h) := by
  have bx : x ≤ 42 := by have := Nat.mul_le_mul h2 (show n - 1 ≤ 6 by omega); omega
  have by' : y ≤ 42 := by have := Nat.mul_le_mul h2 (show n - 1 ≤ 6 by omega); omega
  obtain ⟨q1, hq1⟩ : ∃ R0 : Nat, R0 = x / n := ⟨_, rfl⟩
  have bq1 : q1 ≤ 62 := by have := Nat.div_le_self x n; omega
  have tq1 : (x : Int).tdiv n = q1 := by rw [hq1]; exact tdN x n
  have wq1 : IntKind.i64.wrap (q1 : Int) = q1 := wrN (r := q1) rfl (by omega)
  obtain ⟨a, ha⟩ : ∃ R0 : Nat, R0 = q1 + 1 := ⟨_, rfl⟩
  have ba : a ≤ 63 := by omega
  have wa : IntKind.i64.wrap ((q1 : Int) + 1) = a := wrN (by omega) (by omega)
  obtain ⟨p, hp⟩ : ∃ R0 : Nat, R0 = x % n := ⟨_, rfl⟩
  have bp : p ≤ 62 := by have := mod_bd (a := x) h1 (by omega); omega
  have tp : (x : Int).tmod n = p := by rw [hp]; exact tmN x n
  have wp : IntKind.i64.wrap (p : Int) = p := wrN (r := p) rfl (by omega)
  obtain ⟨q2, hq2⟩ : ∃ R0 : Nat, R0 = y / n := ⟨_, rfl⟩
  have bq2 : q2 ≤ 62 := by have := Nat.div_le_self y n; omega
  have tq2 : (y : Int).tdiv n = q2 := by rw [hq2]; exact tdN y n
  have wq2 : IntKind.i64.wrap (q2 : Int) = q2 := wrN (r := q2) rfl (by omega)
  obtain ⟨c, hc⟩ : ∃ R0 : Nat, R0 = q2 + 1 := ⟨_, rfl⟩
  have bc : c ≤ 63 := by omega
  have wc : IntKind.i64.wrap ((q2 : Int) + 1) = c := wrN (by omega) (by omega)
  obtain ⟨r, hr⟩ : ∃ R0 : Nat, R0 = y % n := ⟨_, rfl⟩
  have br : r ≤ 62 := by have := mod_bd (a := y) h1 (by omega); omega
  have tr : (y : Int).tmod n = r := by rw [hr]; exact tmN y n
  have wr : IntKind.i64.wrap (r : Int) = r := wrN (r := r) rfl (by omega)
  have ea : a ≤ 7 := by
    have : q1 < n - 1 := by rw [hq1]; exact Nat.div_lt_of_lt_mul hx
    omega
  have ec : c ≤ 7 := by
    have : q2 < n - 1 := by rw [hq2]; exact Nat.div_lt_of_lt_mul hy
    omega
  obtain ⟨e, he⟩ : ∃ R0 : Nat, R0 = a * c := ⟨_, rfl⟩
  have be : e ≤ 2000 := by have := Nat.mul_le_mul ea ec; omega
  have we : IntKind.i64.wrap ((a : Int) * c) = e := wrN (by rw [he]; simp) (by omega)
  obtain ⟨f, hf⟩ : ∃ R0 : Nat, R0 = e % n := ⟨_, rfl⟩
  have bf : f ≤ 62 := by have := mod_bd (a := e) h1 (by omega); omega
  have tf : (e : Int).tmod n = f := by rw [hf]; exact tmN e n
  have wf : IntKind.i64.wrap (f : Int) = f := wrN (r := f) rfl (by omega)
  obtain ⟨g, hg'⟩ : ∃ R0 : Nat, R0 = f - 1 := ⟨_, rfl⟩
  have f0 : f ≠ 0 := by rw [hf, he, ha, hc, hq1, hq2]; exact hnz
  have bg : g ≤ 62 := by omega
  have wg : IntKind.i64.wrap ((f : Int) - 1) = g := wrN (by omega) (by omega)
  obtain ⟨j, hj⟩ : ∃ R0 : Nat, R0 = g * n := ⟨_, rfl⟩
  have bj : j ≤ 2000 := by have := Nat.mul_le_mul (show g ≤ 62 by omega) h2; omega
  have wj : IntKind.i64.wrap ((g : Int) * n) = j := wrN (by rw [hj]; simp) (by omega)
  obtain ⟨l, hl⟩ : ∃ R0 : Nat, R0 = a * r := ⟨_, rfl⟩
  have bl : l ≤ 2000 := by have := Nat.mul_le_mul ea (show r ≤ 62 by have := mod_bd (a := y) h1 (by omega); omega); omega
  have wl : IntKind.i64.wrap ((a : Int) * r) = l := wrN (by rw [hl]; simp) (by omega)
  obtain ⟨s, hs⟩ : ∃ R0 : Nat, R0 = l + p := ⟨_, rfl⟩
  have bs : s ≤ 2062 := by omega
  have ws : IntKind.i64.wrap ((l : Int) + p) = s := wrN (by omega) (by omega)
  obtain ⟨t, ht⟩ : ∃ R0 : Nat, R0 = s % n := ⟨_, rfl⟩
  have bt : t ≤ 62 := by have := mod_bd (a := s) h1 (by omega); omega
  have tt : (s : Int).tmod n = t := by rw [ht]; exact tmN s n
  have wt : IntKind.i64.wrap (t : Int) = t := wrN (r := t) rfl (by omega)
  obtain ⟨z, hz⟩ : ∃ R0 : Nat, R0 = j + t := ⟨_, rfl⟩
  have bz : z ≤ 2062 := by omega
  have wz : IntKind.i64.wrap ((j : Int) + t) = z := wrN (by omega) (by omega)
  have hg : gmul 2 n x y = z := by
    rw [gmul, if_neg (by decide), if_neg (by decide)]; subst hz ht hs hl hj hg' hf he hr hc hq2 hp ha hq1; rfl
  have n0 : ¬ (n : Int) = 0 := by omega
  rw [hg]
  clear hnz f0 hg hq1 ha hp hq2 hc hr he hf hg' hj hl hs ht hz
  refine v_impl_Group_product (by simp [i_impl_Group_product]) ?_
  rw [fbody_eq]
  simp (disch := first | assumption | omega | (simp [*] <;> omega) | fail) [i_impl_Group_product, tq1, wq1, wa, tp, wp, tq2, wq2, wc, tr, wr, we, tf, wf, wg, wj, wl, ws, tt, wt, wz, n0]
theorem sp_prod_two {n x y : Nat} (h1 : 1 ≤ n) (h2 : n ≤ 7) (hx : x < n * (n - 1)) (hy : y < n * (n - 1)) (hnz : (x / n + 1) * (y / n + 1) % n ≠ 0) (h : VH) : vcall F nro k_spec_l05Times [gpv (2 : Nat) n, .int .i64 x, .int .i64 y] h = some (.int .i64 (gmul 2 n x y : Nat), h) := by
  have bx : x ≤ 42 := by have := Nat.mul_le_mul h2 (show n - 1 ≤ 6 by omega); omega
  have by' : y ≤ 42 := by have := Nat.mul_le_mul h2 (show n - 1 ≤ 6 by omega); omega
  obtain ⟨q1, hq1⟩ : ∃ R0 : Nat, R0 = x / n := ⟨_, rfl⟩
  have bq1 : q1 ≤ 62 := by have := Nat.div_le_self x n; omega
  have tq1 : (x : Int).tdiv n = q1 := by rw [hq1]; exact tdN x n
  have wq1 : IntKind.i64.wrap (q1 : Int) = q1 := wrN (r := q1) rfl (by omega)
  obtain ⟨a, ha⟩ : ∃ R0 : Nat, R0 = q1 + 1 := ⟨_, rfl⟩
  have ba : a ≤ 63 := by omega
  have wa : IntKind.i64.wrap ((q1 : Int) + 1) = a := wrN (by omega) (by omega)
  obtain ⟨p, hp⟩ : ∃ R0 : Nat, R0 = x % n := ⟨_, rfl⟩
  have bp : p ≤ 62 := by have := mod_bd (a := x) h1 (by omega); omega
  have tp : (x : Int).tmod n = p := by rw [hp]; exact tmN x n
  have wp : IntKind.i64.wrap (p : Int) = p := wrN (r := p) rfl (by omega)
  obtain ⟨q2, hq2⟩ : ∃ R0 : Nat, R0 = y / n := ⟨_, rfl⟩
  have bq2 : q2 ≤ 62 := by have := Nat.div_le_self y n; omega
  have tq2 : (y : Int).tdiv n = q2 := by rw [hq2]; exact tdN y n
  have wq2 : IntKind.i64.wrap (q2 : Int) = q2 := wrN (r := q2) rfl (by omega)
  obtain ⟨c, hc⟩ : ∃ R0 : Nat, R0 = q2 + 1 := ⟨_, rfl⟩
  have bc : c ≤ 63 := by omega
  have wc : IntKind.i64.wrap ((q2 : Int) + 1) = c := wrN (by omega) (by omega)
  obtain ⟨r, hr⟩ : ∃ R0 : Nat, R0 = y % n := ⟨_, rfl⟩
  have br : r ≤ 62 := by have := mod_bd (a := y) h1 (by omega); omega
  have tr : (y : Int).tmod n = r := by rw [hr]; exact tmN y n
  have wr : IntKind.i64.wrap (r : Int) = r := wrN (r := r) rfl (by omega)
  have ea : a ≤ 7 := by
    have : q1 < n - 1 := by rw [hq1]; exact Nat.div_lt_of_lt_mul hx
    omega
  have ec : c ≤ 7 := by
    have : q2 < n - 1 := by rw [hq2]; exact Nat.div_lt_of_lt_mul hy
    omega
  obtain ⟨e, he⟩ : ∃ R0 : Nat, R0 = a * c := ⟨_, rfl⟩
  have be : e ≤ 2000 := by have := Nat.mul_le_mul ea ec; omega
  have we : IntKind.i64.wrap ((a : Int) * c) = e := wrN (by rw [he]; simp) (by omega)
  obtain ⟨f, hf⟩ : ∃ R0 : Nat, R0 = e % n := ⟨_, rfl⟩
  have bf : f ≤ 62 := by have := mod_bd (a := e) h1 (by omega); omega
  have tf : (e : Int).tmod n = f := by rw [hf]; exact tmN e n
  have wf : IntKind.i64.wrap (f : Int) = f := wrN (r := f) rfl (by omega)
  obtain ⟨g, hg'⟩ : ∃ R0 : Nat, R0 = f - 1 := ⟨_, rfl⟩
  have f0 : f ≠ 0 := by rw [hf, he, ha, hc, hq1, hq2]; exact hnz
  have bg : g ≤ 62 := by omega
  have wg : IntKind.i64.wrap ((f : Int) - 1) = g := wrN (by omega) (by omega)
  obtain ⟨j, hj⟩ : ∃ R0 : Nat, R0 = g * n := ⟨_, rfl⟩
  have bj : j ≤ 2000 := by have := Nat.mul_le_mul (show g ≤ 62 by omega) h2; omega
  have wj : IntKind.i64.wrap ((g : Int) * n) = j := wrN (by rw [hj]; simp) (by omega)
  obtain ⟨l, hl⟩ : ∃ R0 : Nat, R0 = a * r := ⟨_, rfl⟩
  have bl : l ≤ 2000 := by have := Nat.mul_le_mul ea (show r ≤ 62 by have := mod_bd (a := y) h1 (by omega); omega); omega
  have wl : IntKind.i64.wrap ((a : Int) * r) = l := wrN (by rw [hl]; simp) (by omega)
  obtain ⟨s, hs⟩ : ∃ R0 : Nat, R0 = l + p := ⟨_, rfl⟩
  have bs : s ≤ 2062 := by omega
  have ws : IntKind.i64.wrap ((l : Int) + p) = s := wrN (by omega) (by omega)
  obtain ⟨t, ht⟩ : ∃ R0 : Nat, R0 = s % n := ⟨_, rfl⟩
  have bt : t ≤ 62 := by have := mod_bd (a := s) h1 (by omega); omega
  have tt : (s : Int).tmod n = t := by rw [ht]; exact tmN s n
  have wt : IntKind.i64.wrap (t : Int) = t := wrN (r := t) rfl (by omega)
  obtain ⟨z, hz⟩ : ∃ R0 : Nat, R0 = j + t := ⟨_, rfl⟩
  have bz : z ≤ 2062 := by omega
  have wz : IntKind.i64.wrap ((j : Int) + t) = z := wrN (by omega) (by omega)
  have hg : gmul 2 n x y = z := by
    rw [gmul, if_neg (by decide), if_neg (by decide)]; subst hz ht hs hl hj hg' hf he hr hc hq2 hp ha hq1; rfl
  have n0 : ¬ (n : Int) = 0 := by omega
  rw [hg]
  clear hnz f0 hg hq1 ha hp hq2 hc hr he hf hg' hj hl hs ht hz
  refine v_spec_l05Times (by simp [i_spec_l05Times]) ?_
  rw [fbody_eq]
  simp (disch := first | assumption | omega | (simp [*] <;> omega) | fail) [i_spec_l05Times, tq1, wq1, wa, tp, wp, tq2, wq2, wc, tr, wr, we, tf, wf, wg, wj, wl, ws, tt, wt, wz, n0]

theorem isGp.prod {k n x y : Nat} (g : isGp k n) (hx : x < gord k n) (hy : y < gord k n) (h : VH) : vcall F nro k_impl_Group_product [gpv k n, .int .i64 x, .int .i64 y] h = some (.int .i64 (gmul k n x y : Nat), h) := by
  rcases g with ⟨rfl, h1, h2⟩ | ⟨rfl, h1, h2⟩ | ⟨rfl, h1⟩
  · exact gp_prod_zero h1 h2 (by simpa [gord] using hx) (by simpa [gord] using hy) h
  · have hx' : x < 2 * n := by simpa [gord] using hx
    have hy' : y < 2 * n := by simpa [gord] using hy
    by_cases c : x < n
    · exact gp_prod_one_lo h1 h2 c hy' h
    · exact gp_prod_one_hi h1 h2 c hx' hy' h
  · have hx' : x < n * (n - 1) := by simpa [gord] using hx
    have hy' : y < n * (n - 1) := by simpa [gord] using hy
    exact gp_prod_two (by omega) (by omega) hx' hy' (gp_nz h1 hx' hy') h
theorem isGp.times {k n x y : Nat} (g : isGp k n) (hx : x < gord k n) (hy : y < gord k n) (h : VH) : vcall F nro k_spec_l05Times [gpv k n, .int .i64 x, .int .i64 y] h = some (.int .i64 (gmul k n x y : Nat), h) := by
  rcases g with ⟨rfl, h1, h2⟩ | ⟨rfl, h1, h2⟩ | ⟨rfl, h1⟩
  · exact sp_prod_zero h1 h2 (by simpa [gord] using hx) (by simpa [gord] using hy) h
  · have hx' : x < 2 * n := by simpa [gord] using hx
    have hy' : y < 2 * n := by simpa [gord] using hy
    by_cases c : x < n
    · exact sp_prod_one_lo h1 h2 c hy' h
    · exact sp_prod_one_hi h1 h2 c hx' hy' h
  · have hx' : x < n * (n - 1) := by simpa [gord] using hx
    have hy' : y < n * (n - 1) := by simpa [gord] using hy
    exact sp_prod_two (by omega) (by omega) hx' hy' (gp_nz h1 hx' hy') h
end Go.Proofs.Ytbilmoahcnllmaa.Zv

/- Groups: inverses, codes, products, orders, as the two programs reckon them. -/
namespace Go.Proofs.Ytbilmoahcnllmaa.Zv
open Go
variable {nro : Nat}
def gin (K P x : Int) : Prop := 0 ≤ x ∧ x < (gord K.toNat P.toNat : Nat)
instance (K P x : Int) : Decidable (gin K P x) := by unfold gin; infer_instance
/-- The code of a group and elements. -/
def gpcd (K P : Int) (xs : List Int) : Int := if ¬ gpB K P then 1 else if ∀ x ∈ xs, gin K P x then 0 else 2
theorem gpcd_zero {K P : Int} {xs : List Int} (h : gpcd K P xs = 0) : gpB K P ∧ ∀ x ∈ xs, gin K P x := by
  unfold gpcd at h
  split at h
  · omega
  · rename_i g
    split at h
    · rename_i g2; exact ⟨Decidable.of_not_not g, g2⟩
    · omega
theorem isGp.ord_le {k n : Nat} (g : isGp k n) : 0 < gord k n ∧ gord k n ≤ 62 := ⟨g.gl.pos, g.gl.le⟩
noncomputable def gpiv (k n x : Nat) : Nat := giv (gord k n) (gmul k n) x
theorem isGp.giv {k n x : Nat} (g : isGp k n) (hx : x < gord k n) : gpiv k n x < gord k n ∧ gmul k n x (gpiv k n x) = 0 ∧ gmul k n (gpiv k n x) x = 0 := g.gl.giv_ok hx
theorem not_gin {K P : Int} {xs : List Int} : (∃ j, 0 ≤ j ∧ j < xs.length ∧ ¬ gin K P (xs.getD j 0)) ↔ ¬ ∀ x ∈ xs, gin K P x := by
  constructor
  · rintro ⟨j, _, hj, h⟩ ha
    apply h
    rw [getD_at xs hj]
    exact ha _ (List.getElem_mem hj)
  · intro h
    apply Classical.byContradiction
    intro hno
    apply h
    intro x hx
    obtain ⟨j, hj, rfl⟩ := List.mem_iff_getElem.mp hx
    apply Classical.byContradiction
    intro hg
    exact hno ⟨j, by omega, hj, by rw [getD_at xs hj]; exact hg⟩
open Classical in
theorem c_impl_groupCode (K P : Int) (s : Value) (xs : List Int) (h : VH) (hs : Sli h s xs) (hl : xs.length ≤ 9223372036854775806) :
    vcall F nro k_impl_groupCode [gpv K P, s] h = some (.int .i64 (gpcd K P xs), h) := by
  have hc := fun L => c_impl_IsGroup (nro := nro) K P (h ++ L)
  refine v_impl_groupCode (by simp [i_impl_groupCode]) ?_
  rw [fbody_eq]
  by_cases g : gpB K P
  · obtain ⟨k, n, rfl, rfl, g'⟩ := g.nat
    have ho := fun L => c_impl_Group_order (nro := nro) g' (h ++ L)
    have hso := hs.oldk (k := 1)
    have vl := hs.vlen' (L := [⟨0, [.int .i64 k, .int .i64 n]⟩])
    have lp := for_find (call := vcall F nro) (nro := nro) (live := [2, 10, 11, 12]) (c := i_impl_groupCode_B1) (h0 := bx h k (.int .i64 n)) (n := xs.length) (fun i => [bp h, s, .int .i64 xs.length, .int .i64 i]) (bx h k (.int .i64 n)) (fun i => ¬ gin k n (xs.getD i 0)) (some (.ret, fl [(4, .int .i64 2)], bx h k (.int .i64 n))) (some (.exit 0, fl [], bx h k (.int .i64 n))) (fun i hi hi2 => ?_) ?_ 0 (by omega)
    · simp only [Int.natCast_zero, not_gin] at lp
      by_cases e : ∀ x ∈ xs, gin k n x
      · have he : gpcd k n xs = 0 := by unfold gpcd; rw [if_neg (not_not_intro g), if_pos e]
        rw [if_neg (not_not_intro e)] at lp
        rw [he]
        clear hs e he
        simp (disch := first | assumption | omega | (simp [*] <;> omega) | fail) [i_impl_groupCode, hc, g, vl, lp, fresults, fresL, fres1]
      · have he : gpcd k n xs = 2 := by unfold gpcd; rw [if_neg (not_not_intro g), if_neg e]
        rw [if_pos e] at lp
        rw [he]
        clear hs e he
        simp (disch := first | assumption | omega | (simp [*] <;> omega) | fail) [i_impl_groupCode, hc, g, vl, lp, fresults, fresL, fres1]
    · have x1 := hs.vidx' (L := [⟨0, [.int .i64 k, .int .i64 n]⟩]) (k := .i64) (j := (i : Int)) (by omega) (by omega)
      have x2 := hs.vload' (L := [⟨0, [.int .i64 k, .int .i64 n]⟩]) hi
      have g1 : xs.getD i 0 = xs[i] := getD_at xs hi
      rw [g1]
      have w1 : IntKind.i64.wrap ((i : Int) + 1) = (i : Int) + 1 := wrap64 (by omega) (by omega)
      obtain ⟨a, ha⟩ : ∃ a, a = xs[i] := ⟨_, rfl⟩
      rw [← ha] at x2 ⊢
      rw [floop_at i_impl_groupCode_B1.eq_1]
      unfold gin
      simp only [Int.toNat_natCast]
      clear hs g1 ha hc vl
      constructor
      · intro hq
        by_cases q1 : a < 0
        · simp (disch := first | assumption | omega | (simp [*] <;> omega) | fail) [x1, x2, hi2, q1]
        · have q2 : ¬ a < (gord k n : Nat) := fun h => hq ⟨by omega, h⟩
          have q3 : (gord k n : Nat) ≤ a := by omega
          clear hq
          simp (disch := first | assumption | omega | (simp [*] <;> omega) | fail) [x1, x2, hi2, q1, q2, q3, ho]
      · intro hq
        have q1 : ¬ a < 0 := by intro h; exact hq (by omega)
        have q3 : ¬ (gord k n : Nat) ≤ a := by intro h; exact hq (by omega)
        clear hq
        simp (disch := first | assumption | omega | (simp [*] <;> omega) | fail) [x1, x2, hi2, q1, q3, ho, w1]
    · rw [floop_at i_impl_groupCode_B1.eq_1]
      simp (disch := first | assumption | omega | (simp [*] <;> omega) | fail) []
  · have he : gpcd K P xs = 1 := by unfold gpcd; rw [if_pos g]
    rw [he]
    clear hs he
    simp (disch := first | assumption | omega | (simp [*] <;> omega) | fail) [i_impl_groupCode, hc, g]
open Classical in
theorem c_spec_l05Elements (K P : Int) (s : Value) (xs : List Int) (h : VH) (hs : Sli h s xs) (hl : xs.length ≤ 9223372036854775806) :
    vcall F nro k_spec_l05Elements [gpv K P, s] h = some (.int .i64 (gpcd K P xs), h) := by
  have hc := fun L => c_spec_l05Is (nro := nro) K P (h ++ L)
  refine v_spec_l05Elements (by simp [i_spec_l05Elements]) ?_
  rw [fbody_eq]
  by_cases g : gpB K P
  · obtain ⟨k, n, rfl, rfl, g'⟩ := g.nat
    have ho := fun L => c_spec_l05Order (nro := nro) g' (h ++ L)
    have hi := fun a b c L => c_spec_l01In (nro := nro) a b c (h ++ L)
    have hso := hs.oldk (k := 1)
    have vl := hs.vlen' (L := [⟨0, [.int .i64 k, .int .i64 n]⟩])
    have hb := g'.ord_le
    have wo : IntKind.i64.wrap ((gord k n : Nat) - (1 : Int)) = (gord k n : Nat) - (1 : Int) := wrap64 (by omega) (by omega)
    have lp := for_find (call := vcall F nro) (nro := nro) (live := [1, 2, 5]) (c := i_spec_l05Elements_B1) (h0 := bx h k (.int .i64 n)) (n := xs.length) (fun i => [s, bp h, .int .i64 i]) (bx h k (.int .i64 n)) (fun i => ¬ gin k n (xs.getD i 0)) (some (.ret, fl [(4, .int .i64 2)], bx h k (.int .i64 n))) (some (.exit 0, fl [], bx h k (.int .i64 n))) (fun i hi hi2 => ?_) ?_ 0 (by omega)
    · simp only [Int.natCast_zero, not_gin] at lp
      by_cases e : ∀ x ∈ xs, gin k n x
      · have he : gpcd k n xs = 0 := by unfold gpcd; rw [if_neg (not_not_intro g), if_pos e]
        rw [if_neg (not_not_intro e)] at lp
        rw [he]
        clear hs e he hi ho
        simp (disch := first | assumption | omega | (simp [*] <;> omega) | fail) [i_spec_l05Elements, hc, g, lp, fresults, fresL, fres1]
      · have he : gpcd k n xs = 2 := by unfold gpcd; rw [if_neg (not_not_intro g), if_neg e]
        rw [if_pos e] at lp
        rw [he]
        clear hs e he hi ho
        simp (disch := first | assumption | omega | (simp [*] <;> omega) | fail) [i_spec_l05Elements, hc, g, lp, fresults, fresL, fres1]
    · rename_i hin
      have x1 := hs.vidx' (L := [⟨0, [.int .i64 k, .int .i64 n]⟩]) (k := .i64) (j := (i : Int)) (by omega) (by omega)
      have x2 := hs.vload' (L := [⟨0, [.int .i64 k, .int .i64 n]⟩]) hi
      have g1 : xs.getD i 0 = xs[i] := getD_at xs hi
      rw [g1]
      have w1 : IntKind.i64.wrap ((i : Int) + 1) = (i : Int) + 1 := wrap64 (by omega) (by omega)
      obtain ⟨a, ha⟩ : ∃ a, a = xs[i] := ⟨_, rfl⟩
      rw [← ha] at x2 ⊢
      rw [floop_at i_spec_l05Elements_B1.eq_1]
      unfold gin
      simp only [Int.toNat_natCast]
      clear hs g1 ha hc
      constructor
      · intro hq
        have q1 : ¬ (0 ≤ a ∧ a ≤ (gord k n : Nat) - (1 : Int)) := by omega
        clear hq
        simp (disch := first | assumption | omega | (simp [*] <;> omega) | fail) [vl, x1, x2, hi2, q1, ho, hin, wo]
      · intro hq
        have q1 : (0 ≤ a ∧ a ≤ (gord k n : Nat) - (1 : Int)) := by omega
        clear hq
        simp (disch := first | assumption | omega | (simp [*] <;> omega) | fail) [vl, x1, x2, hi2, q1, ho, hin, wo, w1]
    · rw [floop_at i_spec_l05Elements_B1.eq_1]
      simp (disch := first | assumption | omega | (simp [*] <;> omega) | fail) [vl]
  · have he : gpcd K P xs = 1 := by unfold gpcd; rw [if_pos g]
    rw [he]
    clear hs he
    simp (disch := first | assumption | omega | (simp [*] <;> omega) | fail) [i_spec_l05Elements, hc, g]

theorem inv_loop_impl {k n x : Nat} (g : isGp k n) (hx : x < gord k n) (h : VH) : ∀ d j, j + d = gpiv k n x →
    floop (vcall F nro) nro [1, 2, 5] i_impl_Group_inverse_B1 (bx h k (.int .i64 n)) [.int .i64 x, bp h, .int .i64 j] (bx h k (.int .i64 n)) = some (.exit 0, fl [(5, .int .i64 (gpiv k n x : Nat))], bx h k (.int .i64 n)) := by
  intro d
  have hv := g.giv hx
  have hb := g.ord_le
  induction d with
  | zero =>
    intro j hj
    have hj' : j = gpiv k n x := by omega
    subst hj'
    have hp := fun L => g.prod (nro := nro) hx hv.1 (h ++ L)
    rw [hv.2.1] at hp
    obtain ⟨y, hy⟩ : ∃ y, y = gpiv k n x := ⟨_, rfl⟩
    rw [← hy] at hp ⊢
    clear hv hy hj
    rw [floop_at i_impl_Group_inverse_B1.eq_1]
    simp only [Int.natCast_zero] at hp
    simp (disch := first | assumption | omega | (simp [*] <;> omega) | fail) [hp]
  | succ d ih =>
    intro j hj
    have hp := fun L => g.prod (nro := nro) hx (show j < gord k n by omega) (h ++ L)
    have hne : gmul k n x j ≠ 0 := fun e => by
      have := g.gl.giv_uniq hx (show j < gord k n by omega) e
      unfold gpiv at hj; omega
    have ih' := ih (j + 1) (by omega)
    rw [← ih']
    obtain ⟨y, hy⟩ : ∃ y, y = gmul k n x j := ⟨_, rfl⟩
    rw [← hy] at hp hne
    have w1 : IntKind.i64.wrap ((j : Int) + 1) = (j : Int) + 1 := wrap64 (by omega) (by omega)
    clear hv hy hj ih ih'
    rw [floop_at i_impl_Group_inverse_B1.eq_1]
    simp (disch := first | assumption | omega | (simp [*] <;> omega) | fail) [hp, hne, w1]
theorem c_impl_Group_inverse {k n x : Nat} (g : isGp k n) (hx : x < gord k n) (h : VH) : vcall F nro k_impl_Group_inverse [gpv k n, .int .i64 x] h = some (.int .i64 (gpiv k n x : Nat), h) := by
  have lp := inv_loop_impl (nro := nro) g hx h (gpiv k n x) 0 (by omega)
  simp only [Int.natCast_zero] at lp
  refine v_impl_Group_inverse (by simp [i_impl_Group_inverse]) ?_
  rw [fbody_eq]
  simp (disch := first | assumption | omega | (simp [*] <;> omega) | fail) [i_impl_Group_inverse, lp, fresults, fresL, fres1]

theorem inv_loop_spec {k n x : Nat} (g : isGp k n) (hx : x < gord k n) (h : VH) : ∀ d j, j + d = gpiv k n x →
    floop (vcall F nro) nro [1, 2, 5] i_spec_l05Inverse_B1 (bx h k (.int .i64 n)) [.int .i64 x, bp h, .int .i64 j] (bx h k (.int .i64 n)) = some (.exit 0, fl [(5, .int .i64 (gpiv k n x : Nat))], bx h k (.int .i64 n)) := by
  intro d
  have hv := g.giv hx
  have hb := g.ord_le
  induction d with
  | zero =>
    intro j hj
    have hj' : j = gpiv k n x := by omega
    subst hj'
    have hp := fun L => g.times (nro := nro) hx hv.1 (h ++ L)
    rw [hv.2.1] at hp
    obtain ⟨y, hy⟩ : ∃ y, y = gpiv k n x := ⟨_, rfl⟩
    rw [← hy] at hp ⊢
    clear hv hy hj
    rw [floop_at i_spec_l05Inverse_B1.eq_1]
    simp only [Int.natCast_zero] at hp
    simp (disch := first | assumption | omega | (simp [*] <;> omega) | fail) [hp]
  | succ d ih =>
    intro j hj
    have hp := fun L => g.times (nro := nro) hx (show j < gord k n by omega) (h ++ L)
    have hne : gmul k n x j ≠ 0 := fun e => by
      have := g.gl.giv_uniq hx (show j < gord k n by omega) e
      unfold gpiv at hj; omega
    have ih' := ih (j + 1) (by omega)
    rw [← ih']
    obtain ⟨y, hy⟩ : ∃ y, y = gmul k n x j := ⟨_, rfl⟩
    rw [← hy] at hp hne
    have w1 : IntKind.i64.wrap ((j : Int) + 1) = (j : Int) + 1 := wrap64 (by omega) (by omega)
    clear hv hy hj ih ih'
    rw [floop_at i_spec_l05Inverse_B1.eq_1]
    simp (disch := first | assumption | omega | (simp [*] <;> omega) | fail) [hp, hne, w1]
theorem c_spec_l05Inverse {k n x : Nat} (g : isGp k n) (hx : x < gord k n) (h : VH) : vcall F nro k_spec_l05Inverse [gpv k n, .int .i64 x] h = some (.int .i64 (gpiv k n x : Nat), h) := by
  have lp := inv_loop_spec (nro := nro) g hx h (gpiv k n x) 0 (by omega)
  simp only [Int.natCast_zero] at lp
  refine v_spec_l05Inverse (by simp [i_spec_l05Inverse]) ?_
  rw [fbody_eq]
  simp (disch := first | assumption | omega | (simp [*] <;> omega) | fail) [i_spec_l05Inverse, lp, fresults, fresL, fres1]
end Go.Proofs.Ytbilmoahcnllmaa.Zv

/- Groups: products, inverses, orders of elements and of groups, as the two programs answer. -/
namespace Go.Proofs.Ytbilmoahcnllmaa.Zv
open Go
variable {nro : Nat}
/-- The order of x. -/
noncomputable def gpor (k n x : Nat) : Nat := by
  classical exact if h : ∃ j, 0 < j ∧ j ≤ gord k n ∧ gpw (gmul k n) x j = 0 ∧ ∀ i, 0 < i → i < j → gpw (gmul k n) x i ≠ 0 then Classical.choose h else 0
theorem isGp.ordr {k n x : Nat} (g : isGp k n) (hx : x < gord k n) : 0 < gpor k n x ∧ gpor k n x ≤ gord k n ∧ gpw (gmul k n) x (gpor k n x) = 0 ∧ ∀ i, 0 < i → i < gpor k n x → gpw (gmul k n) x i ≠ 0 := by
  have h := g.gl.ord_some hx
  have e : gpor k n x = Classical.choose h := by unfold gpor; rw [dif_pos h]
  rw [e]
  exact Classical.choose_spec h
noncomputable def piA (K P x y : Int) : Int × Int := if gpcd K P [x, y] = 0 then ((gmul K.toNat P.toNat x.toNat y.toNat : Nat), 0) else (0, gpcd K P [x, y])
noncomputable def iiA (K P x : Int) : Int × Int := if gpcd K P [x] = 0 then ((gpiv K.toNat P.toNat x.toNat : Nat), 0) else (0, gpcd K P [x])
noncomputable def orA (K P x : Int) : Int × Int := if gpcd K P [x] = 0 then ((gpor K.toNat P.toNat x.toNat : Nat), 0) else (0, gpcd K P [x])
def ogA (K P : Int) : Int × Int := if gpB K P then ((gord K.toNat P.toNat : Nat), 0) else (0, 1)
/-- The code of a group and few elements. -/
def fwcd (K P : Int) (xs : List Int) : Int := if gpcd K P xs = 0 ∧ 62 < xs.length then 2 else gpcd K P xs
theorem gpcd_nat {k n : Nat} {x : Int} (h : gin k n x) : ∃ m : Nat, x = m ∧ m < gord k n := by
  unfold gin at h
  simp only [Int.toNat_natCast] at h
  exact ⟨x.toNat, by omega, by omega⟩

theorem c_impl_ProductIn (K P x y : Int) (h : VH) (hn : nro ≤ h.length) : vcall F nro k_impl_ProductIn [gpv K P, .int .i64 x, .int .i64 y] h = some (.tuple #[.int .i64 (piA K P x y).1, .int .i64 (piA K P x y).2], h) := by
  have hn' := fun k => Nat.le_trans hn (Nat.le_add_right h.length k)
  have hc := c_impl_groupCode (nro := nro) K P (.slice (some ⟨h.length + 1, 0, none⟩) 2 2) [x, y] (h ++ [⟨0, [.int .i64 K, .int .i64 P]⟩, ⟨1, ints [x, y]⟩]) (by simp [Sli, Sl, vsrc]) (by simp)
  simp only [ints, List.map_cons, List.map_nil] at hc
  refine v_impl_ProductIn (by simp [i_impl_ProductIn]) ?_
  rw [fbody_eq]
  by_cases c : gpcd K P [x, y] = 0
  · obtain ⟨g, hg⟩ := gpcd_zero c
    obtain ⟨k, n, rfl, rfl, g'⟩ := g.nat
    obtain ⟨x, rfl, hx⟩ := gpcd_nat (hg x (by simp))
    obtain ⟨y, rfl, hy⟩ := gpcd_nat (hg y (by simp))
    have hp := fun L => g'.prod (nro := nro) hx hy (h ++ L)
    have e : piA k n x y = (((gmul k n x y : Nat) : Int), 0) := by unfold piA; rw [if_pos c]; simp
    rw [e]
    rw [c] at hc
    clear hg g g' e
    simp (disch := first | assumption | omega | (simp [*] <;> omega) | fail) [i_impl_ProductIn, hc, hp, hn, hn']
  · have e : piA K P x y = (0, gpcd K P [x, y]) := by unfold piA; rw [if_neg c]
    rw [e]
    obtain ⟨q, hq⟩ : ∃ q, q = gpcd K P [x, y] := ⟨_, rfl⟩
    rw [← hq] at hc c ⊢
    clear e hq
    simp (disch := first | assumption | omega | (simp [*] <;> omega) | fail) [i_impl_ProductIn, hc, c, hn, hn']
theorem c_impl_InverseIn (K P x : Int) (h : VH) (hn : nro ≤ h.length) : vcall F nro k_impl_InverseIn [gpv K P, .int .i64 x] h = some (.tuple #[.int .i64 (iiA K P x).1, .int .i64 (iiA K P x).2], h) := by
  have hn' := fun k => Nat.le_trans hn (Nat.le_add_right h.length k)
  have hc := c_impl_groupCode (nro := nro) K P (.slice (some ⟨h.length + 1, 0, none⟩) 1 1) [x] (h ++ [⟨0, [.int .i64 K, .int .i64 P]⟩, ⟨1, ints [x]⟩]) (by simp [Sli, Sl, vsrc]) (by simp)
  simp only [ints, List.map_cons, List.map_nil] at hc
  refine v_impl_InverseIn (by simp [i_impl_InverseIn]) ?_
  rw [fbody_eq]
  by_cases c : gpcd K P [x] = 0
  · obtain ⟨g, hg⟩ := gpcd_zero c
    obtain ⟨k, n, rfl, rfl, g'⟩ := g.nat
    obtain ⟨x, rfl, hx⟩ := gpcd_nat (hg x (by simp))
    have hp := fun L => c_impl_Group_inverse (nro := nro) g' hx (h ++ L)
    have e : iiA k n x = (((gpiv k n x : Nat) : Int), 0) := by unfold iiA; rw [if_pos c]; simp
    rw [e]
    rw [c] at hc
    clear hg g g' e
    simp (disch := first | assumption | omega | (simp [*] <;> omega) | fail) [i_impl_InverseIn, hc, hp, hn, hn']
  · have e : iiA K P x = (0, gpcd K P [x]) := by unfold iiA; rw [if_neg c]
    rw [e]
    obtain ⟨q, hq⟩ : ∃ q, q = gpcd K P [x] := ⟨_, rfl⟩
    rw [← hq] at hc c ⊢
    clear e hq
    simp (disch := first | assumption | omega | (simp [*] <;> omega) | fail) [i_impl_InverseIn, hc, c, hn, hn']
theorem or_loop_impl {k n x : Nat} (g : isGp k n) (hx : x < gord k n) (h : VH) : ∀ d j, 1 ≤ j → j + d = gpor k n x →
    floop (vcall F nro) nro [1, 2, 7, 8] i_impl_OrderOf_B1 (h ++ [⟨0, [.int .i64 k, .int .i64 n]⟩, ⟨1, [.int .i64 x]⟩]) [.int .i64 x, bp h, .int .i64 j, .int .i64 (gpw (gmul k n) x j : Nat)] (h ++ [⟨0, [.int .i64 k, .int .i64 n]⟩, ⟨1, [.int .i64 x]⟩]) = some (.exit 0, fl [(7, .int .i64 (gpor k n x : Nat))], h ++ [⟨0, [.int .i64 k, .int .i64 n]⟩, ⟨1, [.int .i64 x]⟩]) := by
  intro d
  have hv := g.ordr hx
  have hb := g.ord_le
  induction d with
  | zero =>
    intro j h1 hj
    have hj' : j = gpor k n x := by omega
    subst hj'
    rw [hv.2.2.1]
    generalize gpor k n x = y
    rw [floop_at i_impl_OrderOf_B1.eq_1]
    simp (disch := first | assumption | omega | (simp [*] <;> omega) | fail) []
  | succ d ih =>
    intro j h1 hj
    have hp := fun L => g.prod (nro := nro) (g.gl.pw_lt hx j) hx (h ++ L)
    have hne := hv.2.2.2 j (by omega) (by omega)
    have ih' := ih (j + 1) (by omega) (by omega)
    rw [← ih']
    have e : gpw (gmul k n) x (j + 1) = gmul k n (gpw (gmul k n) x j) x := rfl
    rw [e]
    obtain ⟨z, hz⟩ : ∃ z, z = gpw (gmul k n) x j := ⟨_, rfl⟩
    rw [← hz] at hp hne ⊢
    obtain ⟨y, hy⟩ : ∃ y, y = gmul k n z x := ⟨_, rfl⟩
    rw [← hy] at hp ⊢
    have w1 : IntKind.i64.wrap ((j : Int) + 1) = (j : Int) + 1 := wrap64 (by omega) (by omega)
    clear hv hy hz hj ih ih' e
    rw [floop_at i_impl_OrderOf_B1.eq_1]
    simp (disch := first | assumption | omega | (simp [*] <;> omega) | fail) [hp, hne, w1]
theorem c_impl_OrderOf (K P x : Int) (h : VH) (hn : nro ≤ h.length) : vcall F nro k_impl_OrderOf [gpv K P, .int .i64 x] h = some (.tuple #[.int .i64 (orA K P x).1, .int .i64 (orA K P x).2], h) := by
  have hn' := fun k => Nat.le_trans hn (Nat.le_add_right h.length k)
  have hc := c_impl_groupCode (nro := nro) K P (.slice (some ⟨h.length + 1, 0, none⟩) 1 1) [x] (h ++ [⟨0, [.int .i64 K, .int .i64 P]⟩, ⟨1, ints [x]⟩]) (by simp [Sli, Sl, vsrc]) (by simp)
  simp only [ints, List.map_cons, List.map_nil] at hc
  refine v_impl_OrderOf (by simp [i_impl_OrderOf]) ?_
  rw [fbody_eq]
  by_cases c : gpcd K P [x] = 0
  · obtain ⟨g, hg⟩ := gpcd_zero c
    obtain ⟨k, n, rfl, rfl, g'⟩ := g.nat
    obtain ⟨x, rfl, hx⟩ := gpcd_nat (hg x (by simp))
    have lp := or_loop_impl (nro := nro) g' hx h (gpor k n x - 1) 1 (by omega) (by have := g'.ordr hx; omega)
    rw [g'.gl.pw_one hx] at lp
    have e : orA k n x = (((gpor k n x : Nat) : Int), 0) := by unfold orA; rw [if_pos c]; simp
    rw [e]
    rw [c] at hc
    simp only [Int.natCast_one] at lp
    clear hg g g' e
    simp (disch := first | assumption | omega | (simp [*] <;> omega) | fail) [i_impl_OrderOf, hc, lp, hn, hn', fresults, fresL, fres1]
  · have e : orA K P x = (0, gpcd K P [x]) := by unfold orA; rw [if_neg c]
    rw [e]
    obtain ⟨q, hq⟩ : ∃ q, q = gpcd K P [x] := ⟨_, rfl⟩
    rw [← hq] at hc c ⊢
    clear e hq
    simp (disch := first | assumption | omega | (simp [*] <;> omega) | fail) [i_impl_OrderOf, hc, c, hn, hn']
theorem c_impl_OrderOfGroup (K P : Int) (h : VH) : vcall F nro k_impl_OrderOfGroup [gpv K P] h = some (.tuple #[.int .i64 (ogA K P).1, .int .i64 (ogA K P).2], h) := by
  have hc := fun L => c_impl_IsGroup (nro := nro) K P (h ++ L)
  refine v_impl_OrderOfGroup (by simp [i_impl_OrderOfGroup]) ?_
  rw [fbody_eq]
  by_cases c : gpB K P
  · obtain ⟨k, n, rfl, rfl, g'⟩ := c.nat
    have hp := fun L => c_impl_Group_order (nro := nro) g' (h ++ L)
    have e : ogA k n = (((gord k n : Nat) : Int), 0) := by unfold ogA; rw [if_pos c]; simp
    rw [e]
    simp (disch := first | assumption | omega | (simp [*] <;> omega) | fail) [i_impl_OrderOfGroup, hc, hp, c]
  · have e : ogA K P = (0, 1) := by unfold ogA; rw [if_neg c]
    rw [e]
    simp (disch := first | assumption | omega | (simp [*] <;> omega) | fail) [i_impl_OrderOfGroup, hc, c]
theorem c_impl_fewCode (K P : Int) (s : Value) (xs : List Int) (h : VH) (hs : Sli h s xs) (hl : xs.length ≤ 9223372036854775806) :
    vcall F nro k_impl_fewCode [gpv K P, s] h = some (.int .i64 (fwcd K P xs), h) := by
  have hc := c_impl_groupCode (nro := nro) K P s xs (bx h K (.int .i64 P)) (hs.app _) hl
  have vl := hs.vlen' (L := [⟨0, [.int .i64 K, .int .i64 P]⟩])
  refine v_impl_fewCode (by simp [i_impl_fewCode]) ?_
  rw [fbody_eq]
  unfold fwcd
  obtain ⟨q, hq⟩ : ∃ q, q = gpcd K P xs := ⟨_, rfl⟩
  rw [← hq] at hc ⊢
  clear hq hs
  by_cases c : q = 0
  · by_cases d : 62 < xs.length
    · have d' : (62 : Int) < xs.length := by omega
      rw [if_pos ⟨c, d⟩]
      simp (disch := first | assumption | omega | (simp [*] <;> omega) | fail) [i_impl_fewCode, hc, c, vl, d']
    · have d' : ¬ (62 : Int) < xs.length := by omega
      rw [if_neg (fun h => d h.2)]
      simp (disch := first | assumption | omega | (simp [*] <;> omega) | fail) [i_impl_fewCode, hc, c, vl, d']
  · rw [if_neg (fun h => c h.1)]
    simp (disch := first | assumption | omega | (simp [*] <;> omega) | fail) [i_impl_fewCode, hc, c, vl]

theorem c_spec_ProductIn (K P x y : Int) (h : VH) (hn : nro ≤ h.length) : vcall F nro k_spec_ProductIn [gpv K P, .int .i64 x, .int .i64 y] h = some (.tuple #[.int .i64 (piA K P x y).1, .int .i64 (piA K P x y).2], h) := by
  have hn' := fun k => Nat.le_trans hn (Nat.le_add_right h.length k)
  have hc := c_spec_l05Elements (nro := nro) K P (.slice (some ⟨h.length + 1, 0, none⟩) 2 2) [x, y] (h ++ [⟨0, [.int .i64 K, .int .i64 P]⟩, ⟨1, ints [x, y]⟩]) (by simp [Sli, Sl, vsrc]) (by simp)
  simp only [ints, List.map_cons, List.map_nil] at hc
  refine v_spec_ProductIn (by simp [i_spec_ProductIn]) ?_
  rw [fbody_eq]
  by_cases c : gpcd K P [x, y] = 0
  · obtain ⟨g, hg⟩ := gpcd_zero c
    obtain ⟨k, n, rfl, rfl, g'⟩ := g.nat
    obtain ⟨x, rfl, hx⟩ := gpcd_nat (hg x (by simp))
    obtain ⟨y, rfl, hy⟩ := gpcd_nat (hg y (by simp))
    have hp := fun L => g'.times (nro := nro) hx hy (h ++ L)
    have e : piA k n x y = (((gmul k n x y : Nat) : Int), 0) := by unfold piA; rw [if_pos c]; simp
    rw [e]
    rw [c] at hc
    clear hg g g' e
    simp (disch := first | assumption | omega | (simp [*] <;> omega) | fail) [i_spec_ProductIn, hc, hp, hn, hn']
  · have e : piA K P x y = (0, gpcd K P [x, y]) := by unfold piA; rw [if_neg c]
    rw [e]
    obtain ⟨q, hq⟩ : ∃ q, q = gpcd K P [x, y] := ⟨_, rfl⟩
    rw [← hq] at hc c ⊢
    clear e hq
    simp (disch := first | assumption | omega | (simp [*] <;> omega) | fail) [i_spec_ProductIn, hc, c, hn, hn']
theorem c_spec_InverseIn (K P x : Int) (h : VH) (hn : nro ≤ h.length) : vcall F nro k_spec_InverseIn [gpv K P, .int .i64 x] h = some (.tuple #[.int .i64 (iiA K P x).1, .int .i64 (iiA K P x).2], h) := by
  have hn' := fun k => Nat.le_trans hn (Nat.le_add_right h.length k)
  have hc := c_spec_l05Elements (nro := nro) K P (.slice (some ⟨h.length + 1, 0, none⟩) 1 1) [x] (h ++ [⟨0, [.int .i64 K, .int .i64 P]⟩, ⟨1, ints [x]⟩]) (by simp [Sli, Sl, vsrc]) (by simp)
  simp only [ints, List.map_cons, List.map_nil] at hc
  refine v_spec_InverseIn (by simp [i_spec_InverseIn]) ?_
  rw [fbody_eq]
  by_cases c : gpcd K P [x] = 0
  · obtain ⟨g, hg⟩ := gpcd_zero c
    obtain ⟨k, n, rfl, rfl, g'⟩ := g.nat
    obtain ⟨x, rfl, hx⟩ := gpcd_nat (hg x (by simp))
    have hp := fun L => c_spec_l05Inverse (nro := nro) g' hx (h ++ L)
    have e : iiA k n x = (((gpiv k n x : Nat) : Int), 0) := by unfold iiA; rw [if_pos c]; simp
    rw [e]
    rw [c] at hc
    clear hg g g' e
    simp (disch := first | assumption | omega | (simp [*] <;> omega) | fail) [i_spec_InverseIn, hc, hp, hn, hn']
  · have e : iiA K P x = (0, gpcd K P [x]) := by unfold iiA; rw [if_neg c]
    rw [e]
    obtain ⟨q, hq⟩ : ∃ q, q = gpcd K P [x] := ⟨_, rfl⟩
    rw [← hq] at hc c ⊢
    clear e hq
    simp (disch := first | assumption | omega | (simp [*] <;> omega) | fail) [i_spec_InverseIn, hc, c, hn, hn']
theorem or_loop_spec {k n x : Nat} (g : isGp k n) (hx : x < gord k n) (h : VH) : ∀ d j, 1 ≤ j → j + d = gpor k n x →
    floop (vcall F nro) nro [1, 2, 7, 8] i_spec_OrderOf_B1 (h ++ [⟨0, [.int .i64 k, .int .i64 n]⟩, ⟨1, [.int .i64 x]⟩]) [.int .i64 x, bp h, .int .i64 j, .int .i64 (gpw (gmul k n) x j : Nat)] (h ++ [⟨0, [.int .i64 k, .int .i64 n]⟩, ⟨1, [.int .i64 x]⟩]) = some (.exit 0, fl [(7, .int .i64 (gpor k n x : Nat))], h ++ [⟨0, [.int .i64 k, .int .i64 n]⟩, ⟨1, [.int .i64 x]⟩]) := by
  intro d
  have hv := g.ordr hx
  have hb := g.ord_le
  induction d with
  | zero =>
    intro j h1 hj
    have hj' : j = gpor k n x := by omega
    subst hj'
    rw [hv.2.2.1]
    generalize gpor k n x = y
    rw [floop_at i_spec_OrderOf_B1.eq_1]
    simp (disch := first | assumption | omega | (simp [*] <;> omega) | fail) []
  | succ d ih =>
    intro j h1 hj
    have hp := fun L => g.times (nro := nro) (g.gl.pw_lt hx j) hx (h ++ L)
    have hne := hv.2.2.2 j (by omega) (by omega)
    have ih' := ih (j + 1) (by omega) (by omega)
    rw [← ih']
    have e : gpw (gmul k n) x (j + 1) = gmul k n (gpw (gmul k n) x j) x := rfl
    rw [e]
    obtain ⟨z, hz⟩ : ∃ z, z = gpw (gmul k n) x j := ⟨_, rfl⟩
    rw [← hz] at hp hne ⊢
    obtain ⟨y, hy⟩ : ∃ y, y = gmul k n z x := ⟨_, rfl⟩
    rw [← hy] at hp ⊢
    have w1 : IntKind.i64.wrap ((j : Int) + 1) = (j : Int) + 1 := wrap64 (by omega) (by omega)
    clear hv hy hz hj ih ih' e
    rw [floop_at i_spec_OrderOf_B1.eq_1]
    simp (disch := first | assumption | omega | (simp [*] <;> omega) | fail) [hp, hne, w1]
theorem c_spec_OrderOf (K P x : Int) (h : VH) (hn : nro ≤ h.length) : vcall F nro k_spec_OrderOf [gpv K P, .int .i64 x] h = some (.tuple #[.int .i64 (orA K P x).1, .int .i64 (orA K P x).2], h) := by
  have hn' := fun k => Nat.le_trans hn (Nat.le_add_right h.length k)
  have hc := c_spec_l05Elements (nro := nro) K P (.slice (some ⟨h.length + 1, 0, none⟩) 1 1) [x] (h ++ [⟨0, [.int .i64 K, .int .i64 P]⟩, ⟨1, ints [x]⟩]) (by simp [Sli, Sl, vsrc]) (by simp)
  simp only [ints, List.map_cons, List.map_nil] at hc
  refine v_spec_OrderOf (by simp [i_spec_OrderOf]) ?_
  rw [fbody_eq]
  by_cases c : gpcd K P [x] = 0
  · obtain ⟨g, hg⟩ := gpcd_zero c
    obtain ⟨k, n, rfl, rfl, g'⟩ := g.nat
    obtain ⟨x, rfl, hx⟩ := gpcd_nat (hg x (by simp))
    have lp := or_loop_spec (nro := nro) g' hx h (gpor k n x - 1) 1 (by omega) (by have := g'.ordr hx; omega)
    rw [g'.gl.pw_one hx] at lp
    have e : orA k n x = (((gpor k n x : Nat) : Int), 0) := by unfold orA; rw [if_pos c]; simp
    rw [e]
    rw [c] at hc
    simp only [Int.natCast_one] at lp
    clear hg g g' e
    simp (disch := first | assumption | omega | (simp [*] <;> omega) | fail) [i_spec_OrderOf, hc, lp, hn, hn', fresults, fresL, fres1]
  · have e : orA K P x = (0, gpcd K P [x]) := by unfold orA; rw [if_neg c]
    rw [e]
    obtain ⟨q, hq⟩ : ∃ q, q = gpcd K P [x] := ⟨_, rfl⟩
    rw [← hq] at hc c ⊢
    clear e hq
    simp (disch := first | assumption | omega | (simp [*] <;> omega) | fail) [i_spec_OrderOf, hc, c, hn, hn']
theorem c_spec_OrderOfGroup (K P : Int) (h : VH) : vcall F nro k_spec_OrderOfGroup [gpv K P] h = some (.tuple #[.int .i64 (ogA K P).1, .int .i64 (ogA K P).2], h) := by
  have hc := fun L => c_spec_l05Is (nro := nro) K P (h ++ L)
  refine v_spec_OrderOfGroup (by simp [i_spec_OrderOfGroup]) ?_
  rw [fbody_eq]
  by_cases c : gpB K P
  · obtain ⟨k, n, rfl, rfl, g'⟩ := c.nat
    have hp := fun L => c_spec_l05Order (nro := nro) g' (h ++ L)
    have e : ogA k n = (((gord k n : Nat) : Int), 0) := by unfold ogA; rw [if_pos c]; simp
    rw [e]
    simp (disch := first | assumption | omega | (simp [*] <;> omega) | fail) [i_spec_OrderOfGroup, hc, hp, c]
  · have e : ogA K P = (0, 1) := by unfold ogA; rw [if_neg c]
    rw [e]
    simp (disch := first | assumption | omega | (simp [*] <;> omega) | fail) [i_spec_OrderOfGroup, hc, c]
theorem c_spec_l05List (K P : Int) (s : Value) (xs : List Int) (h : VH) (hs : Sli h s xs) (hl : xs.length ≤ 9223372036854775806) :
    vcall F nro k_spec_l05List [gpv K P, s] h = some (.int .i64 (fwcd K P xs), h) := by
  have hc := c_spec_l05Elements (nro := nro) K P s xs (bx h K (.int .i64 P)) (hs.app _) hl
  have vl := hs.vlen' (L := [⟨0, [.int .i64 K, .int .i64 P]⟩])
  refine v_spec_l05List (by simp [i_spec_l05List]) ?_
  rw [fbody_eq]
  unfold fwcd
  obtain ⟨q, hq⟩ : ∃ q, q = gpcd K P xs := ⟨_, rfl⟩
  rw [← hq] at hc ⊢
  clear hq hs
  by_cases c : q = 0
  · by_cases d : 62 < xs.length
    · have d' : (62 : Int) < xs.length := by omega
      rw [if_pos ⟨c, d⟩]
      simp (disch := first | assumption | omega | (simp [*] <;> omega) | fail) [i_spec_l05List, hc, c, vl, d']
    · have d' : ¬ (62 : Int) < xs.length := by omega
      rw [if_neg (fun h => d h.2)]
      simp (disch := first | assumption | omega | (simp [*] <;> omega) | fail) [i_spec_l05List, hc, c, vl, d']
  · rw [if_neg (fun h => c h.1)]
    simp (disch := first | assumption | omega | (simp [*] <;> omega) | fail) [i_spec_l05List, hc, c, vl]
end Go.Proofs.Ytbilmoahcnllmaa.Zv

/- Sorting of numbers, as the library does it: what is sorted, told once. -/
namespace Go.Proofs.Ytbilmoahcnllmaa.Zv
open Go Go.Sort

/-- Numbers are told by numbers: a slice S of N of them. -/
structure SO (nro : Nat) (S : Value) (P : Int → Value) (ag : Nat → Value) (cm : Nat → Nat → Int) (N : Nat) (H : Array Nat → VH) : Prop where
  len : ∀ d d', (H d).length = (H d').length
  nr : ∀ d, nro ≤ (H d).length
  oS : ∀ n, (H #[]).length ≤ n → Old n S
  idx : ∀ (d : Array Nat) (x : Int), d.size = N → 0 ≤ x → x < N → vidx 1 (H d) S (.int .i64 x) = some (P x, H d)
  load : ∀ (d : Array Nat) (x : Int), d.size = N → 0 ≤ x → x < N → vload false 1 (H d) (P x) = some (ag (getI d x))
  store : ∀ (d : Array Nat) (x : Int) (v : Nat), d.size = N → 0 ≤ x → x < N → vstore nro 1 (H d) (P x) (ag v) = some (H (setI d x v))
  cmp : ∀ (d : Array Nat) (x y : Nat), vcall F nro k_cmp_Less_int64 [ag x, ag y] (H d) = some (.bool (decide (cm x y < 0)), H d)
  upd : ∀ (d d' : Array Nat), Upd (H d) (H d')
  vln : ∀ d, d.size = N → vlen (H d) S = some (.int .i64 N, H d)
  hN : N ≤ 1000

section
variable {nro : Nat} {S : Value} {P : Int → Value} {ag : Nat → Value} {cm : Nat → Nat → Int} {N : Nat} {H : Array Nat → VH}
theorem SO.clean (E : SO nro S P ag cm N H) (d d' : Array Nat) (L : VH) (vs : List Value) (hv : ∀ v ∈ vs, Old (H #[]).length v) : kclean (H d) vs (H d' ++ L) = (vs, H d') :=
  cleanup_upd (E.upd d d') (by rw [E.len d #[]]; exact hv)
theorem SO.clean0 (E : SO nro S P ag cm N H) (d d' : Array Nat) (vs : List Value) (hv : ∀ v ∈ vs, Old (H #[]).length v) : kclean (H d) vs (H d') = (vs, H d') := by
  have := E.clean d d' [] vs hv
  rwa [List.append_nil] at this
theorem SO.ln (E : SO nro S P ag cm N H) (d : Array Nat) : (H d).length = (H #[]).length := E.len d #[]
end
/-- With an object more. -/
structure SXO (nro : Nat) (S : Value) (P : Int → Value) (ag : Nat → Value) (cm : Nat → Nat → Int) (N : Nat) (H : Array Nat → VH) : Prop where
  base : SO nro S P ag cm N H
  ext : ∀ o, SO nro S P ag cm N (fun d => H d ++ [o])
section
variable {nro : Nat} {S : Value} {P : Int → Value} {ag : Nat → Value} {cm : Nat → Nat → Int} {N : Nat} {H : Array Nat → VH} (E : SXO nro S P ag cm N H)
include E
theorem SXO.clean (d d' : Array Nat) (o o' : VO) (hf : ∀ n, flatO n o') (L : VH) (vs : List Value) (hv : ∀ v ∈ vs, Old ((H #[]).length + 1) v) : kclean (H d ++ [o]) vs (H d' ++ o' :: L) = (vs, H d' ++ [o']) := by
  have := cleanup_upd (L := L) ((E.base.upd d d').snoc o o' (hf _)) (vs := vs) (by rw [List.length_append, List.length_singleton, E.base.len d #[]]; exact hv)
  rwa [List.append_assoc] at this
theorem SXO.idx (o : VO) (d : Array Nat) (x : Int) (h1 : d.size = N) (h2 : 0 ≤ x) (h3 : x < N) : vidx 1 (H d ++ [o]) S (.int .i64 x) = some (P x, H d ++ [o]) := (E.ext o).idx d x h1 h2 h3
theorem SXO.load (o : VO) (d : Array Nat) (x : Int) (h1 : d.size = N) (h2 : 0 ≤ x) (h3 : x < N) : vload false 1 (H d ++ [o]) (P x) = some (ag (getI d x)) := (E.ext o).load d x h1 h2 h3
theorem SXO.store (o : VO) (d : Array Nat) (x : Int) (v : Nat) (h1 : d.size = N) (h2 : 0 ≤ x) (h3 : x < N) : vstore nro 1 (H d ++ [o]) (P x) (ag v) = some (H (setI d x v) ++ [o]) := (E.ext o).store d x v h1 h2 h3
theorem SXO.cmp (o : VO) (d : Array Nat) (x y : Nat) : vcall F nro k_cmp_Less_int64 [ag x, ag y] (H d ++ [o]) = some (.bool (decide (cm x y < 0)), H d ++ [o]) := (E.ext o).cmp d x y
theorem SXO.nr (d : Array Nat) : nro ≤ (H #[]).length := E.base.nr #[]
end
end Go.Proofs.Ytbilmoahcnllmaa.Zv

/- Sorting: insertion. -/
namespace Go.Proofs.Ytbilmoahcnllmaa.Zv
open Go Go.Sort
variable {nro : Nat} {S : Value} {P : Int → Value} {ag : Nat → Value} {cm : Nat → Nat → Int} {N : Nat} {H : Array Nat → VH}

section
variable (E : SO nro S P ag cm N H)
include E
theorem l_ord_ins_1 (a b i : Nat) (d0 : Array Nat) : ∀ (j : Nat) (d : Array Nat), d.size = N → j < N →
    floop (vcall F nro) nro [0, 1, 2, 6, 7] i_slices_insertionSortOrdered_int64_B1 (H d0) [S, .int .i64 a, .int .i64 b, .int .i64 i, .int .i64 j] (H d) =
      some (.exit 2, fl [(0, S), (1, .int .i64 a), (2, .int .i64 b), (6, .int .i64 i)], H (insInner (ltC cm) a j d))
  | 0, d, hd, hj => by
    have hc := E.clean0 d0 d
    have hl := E.ln
    have oS := E.oS
    have h0 : ¬ (a : Int) < 0 := by omega
    rw [floop_at i_slices_insertionSortOrdered_int64_B1.eq_1]
    unfold insInner
    simp (disch := first | assumption | omega | (simp [*] <;> omega) | fail) [-getElem?_pos, List.getElem?_cons_zero, List.getElem?_cons_succ, hc, hl, oS, h0]
  | j + 1, d, hd, hj => by
    have hc := fun q => E.clean0 d0 q
    have hl := E.ln
    have oS := E.oS
    have hN := E.hN
    have hi := E.idx
    have hld := E.load
    have hst := E.store
    have hcm := E.cmp
    have w1 : IntKind.i64.wrap ((j : Int) + 1 - 1) = j := by rw [show (j : Int) + 1 - 1 = j by omega]; exact wrap64 (by omega) (by omega)
    have w2 : IntKind.i64.wrap (j : Int) = j := wrap64 (by omega) (by omega)
    have g1 := getI_nat d ((j : Int) + 1) (j + 1) (by omega)
    have g2 := getI_nat d (j : Int) j rfl
    have k1 : (0 : Int) ≤ (j : Int) + 1 := by omega
    have k2 : (j : Int) + 1 < N := by omega
    have k3 : (j : Int) < N := by omega
    rw [floop_at i_slices_insertionSortOrdered_int64_B1.eq_1]
    unfold insInner
    rw [← g1, ← g2]
    by_cases c1 : a < j + 1
    · have c1' : (a : Int) < (j : Int) + 1 := by omega
      by_cases c2 : cm (getI d ((j : Int) + 1)) (getI d (j : Int)) < 0
      · have e2 : ltC cm (getI d ((j : Int) + 1)) (getI d (j : Int)) = true := decide_eq_true c2
        have ih := l_ord_ins_1 a b i d0 j (Go.Sort.swp d (j + 1) j) (by simpa using hd) (by omega)
        have e3 : swI d ((j : Int) + 1) j = Go.Sort.swp d (j + 1) j := swI_swp _ _ _ _ _ (by omega) rfl
        unfold swI at e3
        rw [if_pos (by simp [e2, c1]), ← ih]
        clear ih g1 g2
        simp (disch := first | assumption | omega | (simp [*] <;> omega) | fail) [-getElem?_pos, List.getElem?_cons_zero, List.getElem?_cons_succ, hc, hl, oS, hi, hld, hst, hcm, hd, w1, w2, k1, k2, k3, c1', c2, e3]
      · have e2 : ltC cm (getI d ((j : Int) + 1)) (getI d (j : Int)) = false := decide_eq_false c2
        rw [if_neg (by simp [e2])]
        clear g1 g2
        simp (disch := first | assumption | omega | (simp [*] <;> omega) | fail) [-getElem?_pos, List.getElem?_cons_zero, List.getElem?_cons_succ, hc, hl, oS, hi, hld, hst, hcm, hd, w1, w2, k1, k2, k3, c1', c2]
    · have c1' : ¬ (a : Int) < (j : Int) + 1 := by omega
      rw [if_neg (by simp [c1])]
      simp (disch := first | assumption | omega | (simp [*] <;> omega) | fail) [-getElem?_pos, List.getElem?_cons_zero, List.getElem?_cons_succ, hc, hl, oS, c1']
theorem c_ord_ins (a b : Nat) (d : Array Nat) (hd : d.size = N) (hb : b ≤ N) (ha : a ≤ N) :
    vcall F nro k_slices_insertionSortOrdered_int64 [S, .int .i64 a, .int .i64 b] (H d) = some (.tuple #[], H (insertionSort (ltC cm) d a b)) := by
  have hl := E.ln
  have oS := E.oS
  have hN := E.hN
  have hc0 := fun q vs => E.clean0 d q vs
  have lp : ∀ (k i : Nat) (q : Array Nat), q.size = N → b ≤ i + k → i ≤ N + 1 →
      floop (vcall F nro) nro [0, 1, 2, 6] i_slices_insertionSortOrdered_int64_B2 (H d) [S, .int .i64 a, .int .i64 b, .int .i64 i] (H q) = some (.exit 0, fl [], H (insOuter (ltC cm) a b i q)) := by
    intro k
    induction k with
    | zero =>
      intro i q hq hk hi
      have h1 : ¬ i < b := by omega
      have h2 : ¬ (i : Int) < b := by omega
      rw [insOuter, if_neg h1, floop_at i_slices_insertionSortOrdered_int64_B2.eq_1]
      simp (disch := first | assumption | omega | (simp [*] <;> omega) | fail) [-getElem?_pos, List.getElem?_cons_zero, List.getElem?_cons_succ, hc0, hl, oS, h2, h1]
    | succ k ih =>
      intro i q hq hk hi
      by_cases h1 : i < b
      · have h2 : (i : Int) < b := by omega
        have l1 := l_ord_ins_1 E a b i q i q hq (by omega)
        have w1 : IntKind.i64.wrap ((i : Int) + 1) = (i : Int) + 1 := wrap64 (by omega) (by omega)
        have ih2 := ih (i + 1) (insInner (ltC cm) a i q) (by simpa using hq) (by omega) (by omega)
        rw [insOuter, if_pos h1, ← ih2]
        clear ih ih2
        rw [floop_at i_slices_insertionSortOrdered_int64_B2.eq_1]
        simp (disch := first | assumption | omega | (simp [*] <;> omega) | fail) [-getElem?_pos, List.getElem?_cons_zero, List.getElem?_cons_succ, hc0, hl, oS, h2, h1, l1, w1]
      · have h2 : ¬ (i : Int) < b := by omega
        rw [insOuter, if_neg h1, floop_at i_slices_insertionSortOrdered_int64_B2.eq_1]
        simp (disch := first | assumption | omega | (simp [*] <;> omega) | fail) [-getElem?_pos, List.getElem?_cons_zero, List.getElem?_cons_succ, hc0, hl, oS, h2, h1]
  have l1 := lp b (a + 1) d hd (by omega) (by omega)
  have w1 : IntKind.i64.wrap ((a : Int) + 1) = (a : Int) + 1 := wrap64 (by omega) (by omega)
  refine v_slices_insertionSortOrdered_int64 (by simp [i_slices_insertionSortOrdered_int64]) ?_
  rw [fbody_eq]
  unfold insertionSort
  simp only [Int.natCast_add, Int.natCast_one] at l1
  simp (disch := first | assumption | omega | (simp [*] <;> omega) | fail) [-getElem?_pos, List.getElem?_cons_zero, List.getElem?_cons_succ, i_slices_insertionSortOrdered_int64, w1, l1, hc0, fresults, fresL]
end
end Go.Proofs.Ytbilmoahcnllmaa.Zv

/- Sorting: heaps. -/
namespace Go.Proofs.Ytbilmoahcnllmaa.Zv
open Go Go.Sort
variable {nro : Nat} {S : Value} {P : Int → Value} {ag : Nat → Value} {cm : Nat → Nat → Int} {N : Nat} {H : Array Nat → VH}

section
variable (E : SO nro S P ag cm N H)
include E
set_option maxHeartbeats 2000000 in
theorem l_ord_sift (hi first : Nat) (hf : first + hi ≤ N) (d0 : Array Nat) (root : Nat) (d : Array Nat) (hd : d.size = N) (hr : root ≤ N) :
    ∃ x, (x = .exit 0 ∨ x = .ret) ∧ floop (vcall F nro) nro [0, 2, 3, 8] i_slices_siftDownOrdered_int64_B1 (H d0) [S, .int .i64 hi, .int .i64 first, .int .i64 root] (H d) =
      some (x, fl [], H (siftDown (ltC cm) hi first root d)) := by
  have hc := fun q => E.clean0 d0 q
  have hl := E.ln
  have oS := E.oS
  have hN := E.hN
  have hix := E.idx
  have hld := E.load
  have hst := E.store
  have hcm := E.cmp
  rw [siftDown]
  by_cases c0 : 2 * root + 1 ≥ hi
  · have c0' : (hi : Int) ≤ 2 * (root : Int) + 1 := by omega
    rw [dif_pos c0]
    refine ⟨.exit 0, .inl rfl, ?_⟩
    rw [floop_at i_slices_siftDownOrdered_int64_B1.eq_1]
    simp (disch := first | assumption | omega | (simp [*] <;> omega) | fail) [-getElem?_pos, List.getElem?_cons_zero, List.getElem?_cons_succ, hc, hl, oS, wrap64, c0']
  · have c0' : ¬ (hi : Int) ≤ 2 * (root : Int) + 1 := by omega
    rw [dif_neg c0]
    have g0 := getI_nat d ((first : Int) + root) (first + root) (by omega)
    have g1 := getI_nat d ((first : Int) + (2 * (root : Int) + 1)) (first + (2 * root + 1)) (by omega)
    have g2 := getI_nat d ((first : Int) + (2 * (root : Int) + 1) + 1) (first + (2 * root + 1) + 1) (by omega)
    have g3 := getI_nat d ((first : Int) + (2 * (root : Int) + 1 + 1)) (first + (2 * root + 2)) (by omega)
    have g4 : getI d ((first : Int) + (2 * (root : Int) + 1) + 1) = getI d ((first : Int) + (2 * (root : Int) + 1 + 1)) := by rw [Int.add_assoc]
    rw [← g0, ← g1, ← g2, ← g3]
    by_cases c1 : 2 * root + 1 + 1 < hi
    · have c1' : 2 * (root : Int) + 1 + 1 < hi := by omega
      by_cases c2 : cm (getI d ((first : Int) + (2 * (root : Int) + 1))) (getI d ((first : Int) + (2 * (root : Int) + 1) + 1)) < 0
      · have e2 : ltC cm (getI d ((first : Int) + (2 * (root : Int) + 1))) (getI d ((first : Int) + (2 * (root : Int) + 1) + 1)) = true := decide_eq_true c2
        rw [if_pos (by simp [e2, c1])]
        by_cases c3 : cm (getI d ((first : Int) + root)) (getI d ((first : Int) + (2 * (root : Int) + 1 + 1))) < 0
        · have e3 : ltC cm (getI d ((first : Int) + root)) (getI d ((first : Int) + (2 * (root : Int) + 1 + 1))) = true := decide_eq_true c3
          rw [if_neg (by simp [e3]), dif_pos (by omega)]
          obtain ⟨x, hx, ih⟩ := l_ord_sift hi first hf d0 (2 * root + 2) (Go.Sort.swp d (first + root) (first + (2 * root + 2))) (by simpa using hd) (by omega)
          refine ⟨x, hx, ?_⟩
          have e4 : swI d ((first : Int) + root) ((first : Int) + (2 * (root : Int) + 1 + 1)) = Go.Sort.swp d (first + root) (first + (2 * root + 2)) := swI_swp _ _ _ _ _ (by omega) (by omega)
          unfold swI at e4
          rw [← ih, show ((2 * root + 2 : Nat) : Int) = 2 * (root : Int) + 1 + 1 by omega]
          clear ih g0 g1 g2 g3 e2 e3
          rw [floop_at i_slices_siftDownOrdered_int64_B1.eq_1]
          simp (disch := first | assumption | omega | (simp [*] <;> omega) | fail) [-getElem?_pos, List.getElem?_cons_zero, List.getElem?_cons_succ, hc, hl, oS, hix, hld, hst, hcm, hd, wrap64, c0', c1', c2, c3, e4]
        · have e3 : ltC cm (getI d ((first : Int) + root)) (getI d ((first : Int) + (2 * (root : Int) + 1 + 1))) = false := decide_eq_false c3
          rw [if_pos (by simp [e3])]
          refine ⟨.ret, .inr rfl, ?_⟩
          clear g0 g1 g2 g3 e2 e3
          rw [floop_at i_slices_siftDownOrdered_int64_B1.eq_1]
          simp (disch := first | assumption | omega | (simp [*] <;> omega) | fail) [-getElem?_pos, List.getElem?_cons_zero, List.getElem?_cons_succ, hc, hl, oS, hix, hld, hst, hcm, hd, wrap64, c0', c1', c2, c3]
      · have e2 : ltC cm (getI d ((first : Int) + (2 * (root : Int) + 1))) (getI d ((first : Int) + (2 * (root : Int) + 1) + 1)) = false := decide_eq_false c2
        rw [if_neg (by simp [e2])]
        by_cases c3 : cm (getI d ((first : Int) + root)) (getI d ((first : Int) + (2 * (root : Int) + 1))) < 0
        · have e3 : ltC cm (getI d ((first : Int) + root)) (getI d ((first : Int) + (2 * (root : Int) + 1))) = true := decide_eq_true c3
          rw [if_neg (by simp [e3])]
          obtain ⟨x, hx, ih⟩ := l_ord_sift hi first hf d0 (2 * root + 1) (Go.Sort.swp d (first + root) (first + (2 * root + 1))) (by simpa using hd) (by omega)
          refine ⟨x, hx, ?_⟩
          have e4 : swI d ((first : Int) + root) ((first : Int) + (2 * (root : Int) + 1)) = Go.Sort.swp d (first + root) (first + (2 * root + 1)) := swI_swp _ _ _ _ _ (by omega) (by omega)
          unfold swI at e4
          rw [← ih, show ((2 * root + 1 : Nat) : Int) = 2 * (root : Int) + 1 by omega]
          clear ih g0 g1 g2 g3 e2 e3
          rw [floop_at i_slices_siftDownOrdered_int64_B1.eq_1]
          simp (disch := first | assumption | omega | (simp [*] <;> omega) | fail) [-getElem?_pos, List.getElem?_cons_zero, List.getElem?_cons_succ, hc, hl, oS, hix, hld, hst, hcm, hd, wrap64, c0', c1', c2, c3, e4]
        · have e3 : ltC cm (getI d ((first : Int) + root)) (getI d ((first : Int) + (2 * (root : Int) + 1))) = false := decide_eq_false c3
          rw [if_pos (by simp [e3])]
          refine ⟨.ret, .inr rfl, ?_⟩
          clear g0 g1 g2 g3 e2 e3
          rw [floop_at i_slices_siftDownOrdered_int64_B1.eq_1]
          simp (disch := first | assumption | omega | (simp [*] <;> omega) | fail) [-getElem?_pos, List.getElem?_cons_zero, List.getElem?_cons_succ, hc, hl, oS, hix, hld, hst, hcm, hd, wrap64, c0', c1', c2, c3]
    · have c1' : ¬ 2 * (root : Int) + 1 + 1 < hi := by omega
      rw [if_neg (by simp [c1])]
      by_cases c3 : cm (getI d ((first : Int) + root)) (getI d ((first : Int) + (2 * (root : Int) + 1))) < 0
      · have e3 : ltC cm (getI d ((first : Int) + root)) (getI d ((first : Int) + (2 * (root : Int) + 1))) = true := decide_eq_true c3
        rw [if_neg (by simp [e3])]
        obtain ⟨x, hx, ih⟩ := l_ord_sift hi first hf d0 (2 * root + 1) (Go.Sort.swp d (first + root) (first + (2 * root + 1))) (by simpa using hd) (by omega)
        refine ⟨x, hx, ?_⟩
        have e4 : swI d ((first : Int) + root) ((first : Int) + (2 * (root : Int) + 1)) = Go.Sort.swp d (first + root) (first + (2 * root + 1)) := swI_swp _ _ _ _ _ (by omega) (by omega)
        unfold swI at e4
        rw [← ih, show ((2 * root + 1 : Nat) : Int) = 2 * (root : Int) + 1 by omega]
        clear ih g0 g1 g2 g3 e3
        rw [floop_at i_slices_siftDownOrdered_int64_B1.eq_1]
        simp (disch := first | assumption | omega | (simp [*] <;> omega) | fail) [-getElem?_pos, List.getElem?_cons_zero, List.getElem?_cons_succ, hc, hl, oS, hix, hld, hst, hcm, hd, wrap64, c0', c1', c3, e4]
      · have e3 : ltC cm (getI d ((first : Int) + root)) (getI d ((first : Int) + (2 * (root : Int) + 1))) = false := decide_eq_false c3
        rw [if_pos (by simp [e3])]
        refine ⟨.ret, .inr rfl, ?_⟩
        clear g0 g1 g2 g3 e3
        rw [floop_at i_slices_siftDownOrdered_int64_B1.eq_1]
        simp (disch := first | assumption | omega | (simp [*] <;> omega) | fail) [-getElem?_pos, List.getElem?_cons_zero, List.getElem?_cons_succ, hc, hl, oS, hix, hld, hst, hcm, hd, wrap64, c0', c1', c3]
 termination_by hi - root

theorem c_ord_sift (hi first root : Nat) (hf : first + hi ≤ N) (d : Array Nat) (hd : d.size = N) (hr : root ≤ N) :
    vcall F nro k_slices_siftDownOrdered_int64 [S, .int .i64 root, .int .i64 hi, .int .i64 first] (H d) = some (.tuple #[], H (siftDown (ltC cm) hi first root d)) := by
  have hc0 := fun q vs => E.clean0 d q vs
  obtain ⟨x, hx, lp⟩ := l_ord_sift E hi first hf d root d hd hr
  refine v_slices_siftDownOrdered_int64 (by simp [i_slices_siftDownOrdered_int64]) ?_
  rw [fbody_eq]
  rcases hx with rfl | rfl
  · simp (disch := first | assumption | omega | (simp [*] <;> omega) | fail) [-getElem?_pos, List.getElem?_cons_zero, List.getElem?_cons_succ, i_slices_siftDownOrdered_int64, lp, hc0, fresults, fresL]
  · simp (disch := first | assumption | omega | (simp [*] <;> omega) | fail) [-getElem?_pos, List.getElem?_cons_zero, List.getElem?_cons_succ, i_slices_siftDownOrdered_int64, lp, hc0, fresults, fresL]

theorem c_ord_heap (a b : Nat) (d : Array Nat) (hd : d.size = N) (hab : a ≤ b) (hb : b ≤ N) :
    vcall F nro k_slices_heapSortOrdered_int64 [S, .int .i64 a, .int .i64 b] (H d) = some (.tuple #[], H (heapSort (ltC cm) d a b)) := by
  have hc0 := fun q vs => E.clean0 d q vs
  have hl := E.ln
  have oS := E.oS
  have hN := E.hN
  have hix := E.idx
  have hld := E.load
  have hst := E.store
  obtain ⟨hi, hhi⟩ : ∃ hi, hi = b - a := ⟨_, rfl⟩
  have lp1 : ∀ (k : Nat) (q : Array Nat), q.size = N → k ≤ N + 1 →
      floop (vcall F nro) nro [0, 6, 7, 8, 9] i_slices_heapSortOrdered_int64_B1 (H d) [S, .int .i64 a, .int .i64 0, .int .i64 hi, .int .i64 ((k : Int) - 1)] (H q) = some (.exit 0, fl [(0, S), (6, .int .i64 a), (7, .int .i64 0), (8, .int .i64 hi)], H (heapBuild (ltC cm) hi a k q)) := by
    intro k
    induction k with
    | zero =>
      intro q hq hk
      rw [floop_at i_slices_heapSortOrdered_int64_B1.eq_1]
      simp (disch := first | assumption | omega | (simp [*] <;> omega) | fail) [-getElem?_pos, List.getElem?_cons_zero, List.getElem?_cons_succ, heapBuild, hc0, hl, oS]
    | succ k ih =>
      intro q hq hk
      have hcall := c_ord_sift E hi a k (by omega) q hq (by omega)
      have ih2 := ih (siftDown (ltC cm) hi a k q) (by rw [siftDown_size]; exact hq) (by omega)
      rw [heapBuild, ← ih2]
      have e1 : ((k + 1 : Nat) : Int) - 1 = k := by omega
      rw [e1]
      clear ih ih2
      rw [floop_at i_slices_heapSortOrdered_int64_B1.eq_1]
      simp (disch := first | assumption | omega | (simp [*] <;> omega) | fail) [-getElem?_pos, List.getElem?_cons_zero, List.getElem?_cons_succ, hc0, hl, oS, hcall, wrap64]
  have hc1 := fun q' q vs => E.clean0 q' q vs
  have lp2 : ∀ (d1 : Array Nat) (k : Nat) (q : Array Nat), q.size = N → k ≤ hi →
      floop (vcall F nro) nro [0, 6, 7, 10] i_slices_heapSortOrdered_int64_B2 (H d1) [S, .int .i64 a, .int .i64 0, .int .i64 ((k : Int) - 1)] (H q) = some (.exit 2, fl [], H (heapPop (ltC cm) a k q)) := by
    intro d1 k
    induction k with
    | zero =>
      intro q hq hk
      rw [floop_at i_slices_heapSortOrdered_int64_B2.eq_1]
      simp (disch := first | assumption | omega | (simp [*] <;> omega) | fail) [-getElem?_pos, List.getElem?_cons_zero, List.getElem?_cons_succ, heapPop, hc1, hl, oS]
    | succ k ih =>
      intro q hq hk
      have e4 : swI q (a : Int) ((a : Int) + k) = Go.Sort.swp q a (a + k) := swI_swp _ _ _ _ _ rfl (by omega)
      unfold swI at e4
      have hcall := c_ord_sift E k a 0 (by omega) (Go.Sort.swp q a (a + k)) (by simpa using hq) (by omega)
      have ih2 := ih (siftDown (ltC cm) k a 0 (Go.Sort.swp q a (a + k))) (by rw [siftDown_size]; simpa using hq) (by omega)
      rw [heapPop, ← ih2]
      have e1 : ((k + 1 : Nat) : Int) - 1 = k := by omega
      rw [e1]
      simp only [Int.natCast_zero] at hcall
      clear ih ih2
      rw [floop_at i_slices_heapSortOrdered_int64_B2.eq_1]
      simp (disch := first | assumption | omega | (simp [*] <;> omega) | fail) [-getElem?_pos, List.getElem?_cons_zero, List.getElem?_cons_succ, hc1, hl, oS, hix, hld, hst, hq, e4, hcall, wrap64]
  have e1 : (((hi - 1) / 2 + 1 : Nat) : Int) - 1 = ((hi : Int) - 1).tdiv 2 := by
    by_cases c : hi = 0
    · subst c; rfl
    · rw [Int.tdiv_eq_ediv_of_nonneg (by omega)]; omega
  have l1 := lp1 ((hi - 1) / 2 + 1) d hd (by omega)
  rw [e1] at l1
  have l2 := lp2 (heapBuild (ltC cm) hi a ((hi - 1) / 2 + 1) d) hi (heapBuild (ltC cm) hi a ((hi - 1) / 2 + 1) d) (by rw [heapBuild_size]; exact hd) (Nat.le_refl _)
  have w1 : IntKind.i64.wrap ((b : Int) - a) = hi := by rw [show (b : Int) - a = hi by omega]; exact wrap64 (by omega) (by omega)
  have w2 : IntKind.i64.wrap ((hi : Int) - 1) = (hi : Int) - 1 := wrap64 (by omega) (by omega)
  have w3 : IntKind.i64.wrap (((hi : Int) - 1).tdiv 2) = ((hi : Int) - 1).tdiv 2 := by rw [← e1]; exact wrap64 (by omega) (by omega)
  refine v_slices_heapSortOrdered_int64 (by simp [i_slices_heapSortOrdered_int64]) ?_
  rw [fbody_eq]
  unfold heapSort
  rw [← hhi]
  clear lp1 lp2
  simp (disch := first | assumption | omega | (simp [*] <;> omega) | fail) [-getElem?_pos, List.getElem?_cons_zero, List.getElem?_cons_succ, i_slices_heapSortOrdered_int64, w1, w2, w3, l1, l2, hc0, fresults, fresL]
end
end Go.Proofs.Ytbilmoahcnllmaa.Zv

/- Sorting: reversing, breaking patterns, choosing a pivot. -/
namespace Go.Proofs.Ytbilmoahcnllmaa.Zv
open Go Go.Sort
variable {nro : Nat} {S : Value} {P : Int → Value} {ag : Nat → Value} {cm : Nat → Nat → Int} {N : Nat} {H : Array Nat → VH}

section
variable (E : SO nro S P ag cm N H)
include E
theorem l_ord_rev (d0 : Array Nat) (i : Nat) (j : Int) (hj0 : -1 ≤ j) (hjN : j < N) (hi : i ≤ N + 1) (d : Array Nat) (hd : d.size = N) :
    floop (vcall F nro) nro [0, 6, 7] i_slices_reverseRangeOrdered_int64_B1 (H d0) [S, .int .i64 i, .int .i64 j] (H d) = some (.exit 0, fl [], H (reverseLoop i j.toNat d)) := by
  have hc := fun q => E.clean0 d0 q
  have hl := E.ln
  have oS := E.oS
  have hN := E.hN
  have hix := E.idx
  have hld := E.load
  have hst := E.store
  rw [reverseLoop]
  by_cases c : (i : Int) < j
  · rw [if_pos (by omega)]
    have ih := l_ord_rev d0 (i + 1) (j - 1) (by omega) (by omega) (by omega) (Go.Sort.swp d i j.toNat) (by simpa using hd)
    have e1 : (j - 1).toNat = j.toNat - 1 := by omega
    rw [e1] at ih
    have e4 : swI d (i : Int) j = Go.Sort.swp d i j.toNat := swI_swp _ _ _ _ _ rfl (by omega)
    unfold swI at e4
    rw [← ih]
    clear ih
    rw [floop_at i_slices_reverseRangeOrdered_int64_B1.eq_1]
    simp (disch := first | assumption | omega | (simp [*] <;> omega) | fail) [-getElem?_pos, List.getElem?_cons_zero, List.getElem?_cons_succ, hc, hl, oS, hix, hld, hst, hd, wrap64, c, e4]
  · rw [if_neg (by omega)]
    rw [floop_at i_slices_reverseRangeOrdered_int64_B1.eq_1]
    simp (disch := first | assumption | omega | (simp [*] <;> omega) | fail) [-getElem?_pos, List.getElem?_cons_zero, List.getElem?_cons_succ, hc, hl, oS, c]
 termination_by (j - i).toNat
theorem c_ord_rev (a b : Nat) (d : Array Nat) (hd : d.size = N) (hab : a < b) (hb : b ≤ N) :
    vcall F nro k_slices_reverseRangeOrdered_int64 [S, .int .i64 a, .int .i64 b] (H d) = some (.tuple #[], H (reverseRange d a b)) := by
  have hc0 := fun q vs => E.clean0 d q vs
  have hN := E.hN
  have l1 := l_ord_rev E d a ((b : Int) - 1) (by omega) (by omega) (by omega) d hd
  rw [show ((b : Int) - 1).toNat = b - 1 by omega] at l1
  refine v_slices_reverseRangeOrdered_int64 (by simp [i_slices_reverseRangeOrdered_int64]) ?_
  rw [fbody_eq]
  unfold reverseRange
  simp (disch := first | assumption | omega | (simp [*] <;> omega) | fail) [-getElem?_pos, List.getElem?_cons_zero, List.getElem?_cons_succ, i_slices_reverseRangeOrdered_int64, wrap64, l1, hc0, fresults, fresL]
end

/-! ### numbers that seem to be drawn -/
end Go.Proofs.Ytbilmoahcnllmaa.Zv

/- Sorting: patterns are broken. -/
namespace Go.Proofs.Ytbilmoahcnllmaa.Zv
open Go Go.Sort
variable {nro : Nat} {S : Value} {P : Int → Value} {ag : Nat → Value} {cm : Nat → Nat → Int} {N : Nat} {H : Array Nat → VH}

theorem SXO.get (E : SXO nro S P ag cm N H) (d : Array Nat) (o : VO) : (H d ++ [o])[(H #[]).length]? = some o := by
  rw [← E.base.ln d]; simp
section
variable (E : SXO nro S P ag cm N H)
include E
theorem l_ord_break (a b m : Nat) (w : Nat) (hm : m = 2 * w) (h8 : 8 ≤ b - a) (hb : b ≤ N) (hN : N ≤ 255) (hm2 : b - a < m) (hm3 : m ≤ 2 * (b - a) + 1) (d0 : Array Nat) (r0 : Int) : ∀ (k i : Nat) (r : Int) (d : Array Nat), d.size = N → i + k = a + (b - a) / 4 * 2 + 2 → a + 1 ≤ i →
    ∃ d' r', d'.size = N ∧ PermIn a b d d' ∧ floop (vcall F nro) nro [0, 1, 6, 7, 8, 9] i_slices_breakPatternsOrdered_int64_B1 (H d0 ++ [⟨0, [.int .u64 r0]⟩]) [S, .int .i64 a, .int .i64 ((b - a : Nat) : Int), .pointer (some ⟨(H #[]).length, 0, some 1⟩), .int .u64 m, .int .i64 i] (H d ++ [⟨0, [.int .u64 r]⟩]) =
      some (.exit 0, fl [], H d' ++ [⟨0, [.int .u64 r']⟩])
  | 0, i, r, d, hd, hk, hi => by
    refine ⟨d, r, hd, permIn_refl d a b, ?_⟩
    have hcl := fun vs => E.clean d0 d ⟨0, [.int .u64 r0]⟩ ⟨0, [.int .u64 r]⟩ (fun n => by intro q hq; simp [orefs, trefs, vrefs, crefs, arefs] at hq) [] vs
    have hl := E.base.ln
    have oS := E.base.oS
    obtain ⟨len, hlen⟩ : ∃ len, len = b - a := ⟨_, rfl⟩
    rw [← hlen]
    obtain ⟨q, hq⟩ : ∃ q : Nat, q = len / 4 := ⟨_, rfl⟩
    have t1 : ((len : Nat) : Int).tdiv 4 = q := by rw [Int.tdiv_eq_ediv_of_nonneg (by omega)]; omega
    have hq2 : q ≤ 255 := by omega
    have w1 : IntKind.i64.wrap (q : Int) = q := wrap64 (by omega) (by omega)
    have w2 : IntKind.i64.wrap ((q : Int) * 2) = (q : Int) * 2 := wrap64 (by omega) (by omega)
    have w3 : IntKind.i64.wrap ((a : Int) + (q : Int) * 2) = (a : Int) + (q : Int) * 2 := wrap64 (by omega) (by omega)
    have w4 : IntKind.i64.wrap ((a : Int) + (q : Int) * 2 + 1) = (a : Int) + (q : Int) * 2 + 1 := wrap64 (by omega) (by omega)
    have c1 : ¬ (i : Int) ≤ (a : Int) + (q : Int) * 2 + 1 := by omega
    rw [floop_at i_slices_breakPatternsOrdered_int64_B1.eq_1]
    simp (disch := first | assumption | omega | (simp [*] <;> omega) | fail) [-getElem?_pos, List.getElem?_cons_zero, List.getElem?_cons_succ, hcl, hl, oS, t1, w1, w2, w3, w4, c1]
  | k + 1, i, r, d, hd, hk, hi => by
    have hcl := fun r' d' vs => E.clean d0 d' ⟨0, [.int .u64 r0]⟩ ⟨0, [.int .u64 r']⟩ (fun n => by intro q hq; simp [orefs, trefs, vrefs, crefs, arefs] at hq) [] vs
    have hl := E.base.ln
    have oS := E.base.oS
    have hnr := E.base.nr #[]
    have hix := E.idx
    have hld := E.load
    have hst := E.store
    obtain ⟨r', hr', ex⟩ := c_xorshift (nro := nro) (H d) (E.base.nr d) r
    rw [hl d] at ex
    obtain ⟨len, hlen⟩ : ∃ len, len = b - a := ⟨_, rfl⟩
    rw [← hlen]
    obtain ⟨q, hq⟩ : ∃ q : Nat, q = len / 4 := ⟨_, rfl⟩
    have t1 : ((len : Nat) : Int).tdiv 4 = q := by rw [Int.tdiv_eq_ediv_of_nonneg (by omega)]; omega
    have hq2 : q ≤ 255 := by omega
    have w1 : IntKind.i64.wrap (q : Int) = q := wrap64 (by omega) (by omega)
    have w2 : IntKind.i64.wrap ((q : Int) * 2) = (q : Int) * 2 := wrap64 (by omega) (by omega)
    have w3 : IntKind.i64.wrap ((a : Int) + (q : Int) * 2) = (a : Int) + (q : Int) * 2 := wrap64 (by omega) (by omega)
    have w4 : IntKind.i64.wrap ((a : Int) + (q : Int) * 2 + 1) = (a : Int) + (q : Int) * 2 + 1 := wrap64 (by omega) (by omega)
    have c1 : (i : Int) ≤ (a : Int) + (q : Int) * 2 + 1 := by omega
    have w5 : IntKind.u64.wrap ((m : Int) - 1) = ((m - 1 : Nat) : Int) := by rw [show (m : Int) - 1 = ((m - 1 : Nat) : Int) by omega]; exact wrapu64 (by omega) (by omega)
    obtain ⟨a1, a2⟩ := iand_u64 (r' : Int) (m - 1) (by omega)
    obtain ⟨x, hx⟩ : ∃ x, iand .u64 (r' : Int) ((m - 1 : Nat) : Int) = x := ⟨_, rfl⟩
    rw [hx] at a1 a2
    have w6 : IntKind.i64.wrap x = x := wrap64 (by omega) (by omega)
    have w9 : IntKind.i64.wrap ((i : Int) + 1) = (i : Int) + 1 := wrap64 (by omega) (by omega)
    have i0 : (0 : Int) ≤ i := by omega
    have i1 : (i : Int) < N := by omega
    by_cases c2 : (len : Int) ≤ x
    · have w7 : IntKind.i64.wrap (x - len) = x - len := wrap64 (by omega) (by omega)
      have w8 : IntKind.i64.wrap ((a : Int) + (x - len)) = (a : Int) + (x - len) := wrap64 (by omega) (by omega)
      have j0 : (0 : Int) ≤ (a : Int) + (x - len) := by omega
      have j1 : (a : Int) + (x - len) < N := by omega
      have e4 : swI d (i : Int) ((a : Int) + (x - len)) = Go.Sort.swp d i (a + (x.toNat - len)) := swI_swp _ _ _ _ _ rfl (by omega)
      unfold swI at e4
      have hp := swp_permI (d := d) (a := a) (b := b) (i := i) (j := a + (x.toNat - len)) (by omega) (by omega) (by omega) (by omega) (by omega)
      obtain ⟨d', r2, p1, p2, ih⟩ := l_ord_break a b m w hm (by omega) hb hN (by omega) (by omega) d0 r0 k (i + 1) r' (Go.Sort.swp d i (a + (x.toNat - len))) (by simpa using hd) (by omega) (by omega)
      refine ⟨d', r2, p1, permIn_trans _ _ _ a b hp p2, ?_⟩
      rw [← hlen] at ih
      rw [← ih]
      clear ih p1 p2 hp hk hm hm2 hm3
      rw [floop_at i_slices_breakPatternsOrdered_int64_B1.eq_1]
      simp (disch := first | assumption | omega | (simp [*] <;> omega) | fail) [-getElem?_pos, List.getElem?_cons_zero, List.getElem?_cons_succ, hcl, hl, oS, hix, hld, hst, hd, t1, w1, w2, w3, w4, c1, ex, w5, hx, w6, c2, w7, w8, w9, i0, i1, j0, j1, e4]
    · have w8 : IntKind.i64.wrap ((a : Int) + x) = (a : Int) + x := wrap64 (by omega) (by omega)
      have j0 : (0 : Int) ≤ (a : Int) + x := by omega
      have j1 : (a : Int) + x < N := by omega
      have e4 : swI d (i : Int) ((a : Int) + x) = Go.Sort.swp d i (a + x.toNat) := swI_swp _ _ _ _ _ rfl (by omega)
      unfold swI at e4
      have hp := swp_permI (d := d) (a := a) (b := b) (i := i) (j := a + x.toNat) (by omega) (by omega) (by omega) (by omega) (by omega)
      obtain ⟨d', r2, p1, p2, ih⟩ := l_ord_break a b m w hm (by omega) hb hN (by omega) (by omega) d0 r0 k (i + 1) r' (Go.Sort.swp d i (a + x.toNat)) (by simpa using hd) (by omega) (by omega)
      refine ⟨d', r2, p1, permIn_trans _ _ _ a b hp p2, ?_⟩
      rw [← hlen] at ih
      rw [← ih]
      clear ih p1 p2 hp hk hm hm2 hm3
      rw [floop_at i_slices_breakPatternsOrdered_int64_B1.eq_1]
      simp (disch := first | assumption | omega | (simp [*] <;> omega) | fail) [-getElem?_pos, List.getElem?_cons_zero, List.getElem?_cons_succ, hcl, hl, oS, hix, hld, hst, hd, t1, w1, w2, w3, w4, c1, ex, w5, hx, w6, c2, w8, w9, i0, i1, j0, j1, e4]
theorem c_ord_break (a b : Nat) (d : Array Nat) (hd : d.size = N) (hab : a ≤ b) (hb : b ≤ N) (hN : N ≤ 255) :
    ∃ d', d'.size = N ∧ PermIn a b d d' ∧ vcall F nro k_slices_breakPatternsOrdered_int64 [S, .int .i64 a, .int .i64 b] (H d) = some (.tuple #[], H d') := by
  have hc0 := fun q L vs => E.base.clean d q L vs
  have hc1 := fun q vs => E.base.clean0 d q vs
  have hl := E.base.ln
  have hnr := E.base.nr #[]
  have hgt := E.get
  obtain ⟨len, hlen⟩ : ∃ len, len = b - a := ⟨_, rfl⟩
  have w0 : IntKind.i64.wrap ((b : Int) - a) = len := by rw [show (b : Int) - a = len by omega]; exact wrap64 (by omega) (by omega)
  by_cases c : (8 : Int) ≤ len
  · obtain ⟨y, y1, y2, y3, ep⟩ := c_pow2 (nro := nro) len (by omega) (H d ++ [⟨0, [.int .u64 len]⟩])
    obtain ⟨w, hw⟩ : ∃ w, 2 ^ y = 2 * w := by
      cases y with
      | zero => simp at y2; omega
      | succ y => exact ⟨2 ^ y, by rw [Nat.pow_succ, Nat.mul_comm]⟩
    obtain ⟨q, hq⟩ : ∃ q : Nat, q = len / 4 := ⟨_, rfl⟩
    obtain ⟨d', r', p1, p2, lp⟩ := l_ord_break E a b (2 ^ y) w hw (by omega) hb hN (by omega) (by omega) d len 3 (a + q * 2 - 1) len d hd (by omega) (by omega)
    refine ⟨d', p1, p2, ?_⟩
    have t1 : ((len : Nat) : Int).tdiv 4 = q := by rw [Int.tdiv_eq_ediv_of_nonneg (by omega)]; omega
    have w1 : IntKind.i64.wrap (q : Int) = q := wrap64 (by omega) (by omega)
    have w2 : IntKind.i64.wrap ((q : Int) * 2) = (q : Int) * 2 := wrap64 (by omega) (by omega)
    have w3 : IntKind.i64.wrap ((a : Int) + (q : Int) * 2) = (a : Int) + (q : Int) * 2 := wrap64 (by omega) (by omega)
    have w4 : IntKind.i64.wrap ((a : Int) + (q : Int) * 2 - 1) = ((a + q * 2 - 1 : Nat) : Int) := by rw [show (a : Int) + (q : Int) * 2 - 1 = ((a + q * 2 - 1 : Nat) : Int) by omega]; exact wrap64 (by omega) (by omega)
    have w5 : IntKind.u64.wrap (len : Int) = len := wrapu64 (by omega) (by omega)
    rw [← hlen] at lp
    obtain ⟨z, hz⟩ : ∃ z, z = 2 ^ y := ⟨_, rfl⟩
    rw [← hz] at lp ep
    obtain ⟨i0, hi0⟩ : ∃ i0, i0 = a + q * 2 - 1 := ⟨_, rfl⟩
    rw [← hi0] at lp w4
    clear p1 p2 hw hq y1 y2 y3 hz hi0
    refine v_slices_breakPatternsOrdered_int64 (by simp [i_slices_breakPatternsOrdered_int64]) ?_
    rw [fbody_eq]
    simp (disch := first | assumption | omega | (simp [*] <;> omega) | fail) [-getElem?_pos, List.getElem?_cons_zero, List.getElem?_cons_succ, i_slices_breakPatternsOrdered_int64, w0, c, w5, hl, hnr, hgt, ep, t1, w1, w2, w3, w4, lp, hc0, fresults, fresL]
  · refine ⟨d, hd, permIn_refl d a b, ?_⟩
    refine v_slices_breakPatternsOrdered_int64 (by simp [i_slices_breakPatternsOrdered_int64]) ?_
    rw [fbody_eq]
    simp (disch := first | assumption | omega | (simp [*] <;> omega) | fail) [-getElem?_pos, List.getElem?_cons_zero, List.getElem?_cons_succ, i_slices_breakPatternsOrdered_int64, w0, c, hc1, fresults, fresL]
end
end Go.Proofs.Ytbilmoahcnllmaa.Zv

/- Sorting: a pivot is chosen. -/
namespace Go.Proofs.Ytbilmoahcnllmaa.Zv
open Go Go.Sort
variable {nro : Nat} {S : Value} {P : Int → Value} {ag : Nat → Value} {cm : Nat → Nat → Int} {N : Nat} {H : Array Nat → VH}

section
variable (E : SXO nro S P ag cm N H)
include E
theorem SXO.cl (d : Array Nat) (s s' : Int) (L : VH) (vs : List Value) (hv : ∀ v ∈ vs, Old ((H #[]).length + 1) v) : kclean (H d ++ [⟨0, [.int .i64 s]⟩]) vs (H d ++ ⟨0, [.int .i64 s']⟩ :: L) = (vs, H d ++ [⟨0, [.int .i64 s']⟩]) :=
  E.clean d d _ _ (fun n => by intro q hq; simp [orefs, trefs, vrefs, crefs, arefs] at hq) L vs hv
theorem c_ord_order2 (d : Array Nat) (hd : d.size = N) (a b : Nat) (ha : a < N) (hb : b < N) (s : Nat) (hs : s ≤ 100) :
    ∃ a' b' s' : Nat, s' ≤ s + 1 ∧ ((a' = a ∧ b' = b) ∨ (a' = b ∧ b' = a)) ∧ vcall F nro k_slices_order2Ordered_int64 [S, .int .i64 a, .int .i64 b, .pointer (some ⟨(H #[]).length, 0, some 1⟩)] (H d ++ [⟨0, [.int .i64 s]⟩]) = some (.tuple #[.int .i64 a', .int .i64 b'], H d ++ [⟨0, [.int .i64 s']⟩]) := by
  have hcl := fun s' vs => E.cl d s s' [] vs
  have hl := E.base.ln
  have hnr := E.base.nr #[]
  have hgt := E.get
  have hix := E.idx
  have hld := E.load
  have hcm := E.cmp
  have w1 : IntKind.i64.wrap ((s : Int) + 1) = (s : Int) + 1 := wrap64 (by omega) (by omega)
  have a0 : (0 : Int) ≤ a := by omega
  have b0 : (0 : Int) ≤ b := by omega
  have a1 : (a : Int) < N := by omega
  have b1 : (b : Int) < N := by omega
  by_cases c : cm (getI d (b : Int)) (getI d (a : Int)) < 0
  · refine ⟨b, a, s + 1, by omega, .inr ⟨rfl, rfl⟩, ?_⟩
    refine v_slices_order2Ordered_int64 (by simp [i_slices_order2Ordered_int64]) ?_
    rw [fbody_eq]
    simp (disch := first | assumption | omega | (simp [*] <;> omega) | fail) [-getElem?_pos, List.getElem?_cons_zero, List.getElem?_cons_succ, i_slices_order2Ordered_int64, hix, hld, hcm, hd, a0, b0, a1, b1, c, hl, hnr, hgt, w1, hcl, fresults, fresL, fres1]
  · refine ⟨a, b, s, by omega, .inl ⟨rfl, rfl⟩, ?_⟩
    refine v_slices_order2Ordered_int64 (by simp [i_slices_order2Ordered_int64]) ?_
    rw [fbody_eq]
    simp (disch := first | assumption | omega | (simp [*] <;> omega) | fail) [-getElem?_pos, List.getElem?_cons_zero, List.getElem?_cons_succ, i_slices_order2Ordered_int64, hix, hld, hcm, hd, a0, b0, a1, b1, c, hl, hnr, hgt, w1, hcl, fresults, fresL, fres1]
theorem c_ord_median (d : Array Nat) (hd : d.size = N) (a b c : Nat) (ha : a < N) (hb : b < N) (hc : c < N) (s : Nat) (hs : s ≤ 50) :
    ∃ m s' : Nat, s' ≤ s + 3 ∧ (m = a ∨ m = b ∨ m = c) ∧ vcall F nro k_slices_medianOrdered_int64 [S, .int .i64 a, .int .i64 b, .int .i64 c, .pointer (some ⟨(H #[]).length, 0, some 1⟩)] (H d ++ [⟨0, [.int .i64 s]⟩]) = some (.int .i64 m, H d ++ [⟨0, [.int .i64 s']⟩]) := by
  have hcl := fun s' vs => E.cl d s s' [] vs
  obtain ⟨a1, b1, s1, q1, p1, e1⟩ := c_ord_order2 E d hd a b ha hb s (by omega)
  obtain ⟨b2, c2, s2, q2, p2, e2⟩ := c_ord_order2 E d hd b1 c (by omega) hc s1 (by omega)
  obtain ⟨a3, b3, s3, q3, p3, e3⟩ := c_ord_order2 E d hd a1 b2 (by omega) (by omega) s2 (by omega)
  refine ⟨b3, s3, by omega, by omega, ?_⟩
  clear p1 p2 p3 q1 q2 q3
  refine v_slices_medianOrdered_int64 (by simp [i_slices_medianOrdered_int64]) ?_
  rw [fbody_eq]
  simp (disch := first | assumption | omega | (simp [*] <;> omega) | fail) [-getElem?_pos, List.getElem?_cons_zero, List.getElem?_cons_succ, i_slices_medianOrdered_int64, e1, e2, e3, hcl, fresults, fresL, fres1]
theorem c_ord_medianA (d : Array Nat) (hd : d.size = N) (a : Nat) (ha : a + 1 < N) (h1 : 1 ≤ a) (s : Nat) (hs : s ≤ 50) :
    ∃ m s' : Nat, s' ≤ s + 3 ∧ (m = a - 1 ∨ m = a ∨ m = a + 1) ∧ vcall F nro k_slices_medianAdjacentOrdered_int64 [S, .int .i64 a, .pointer (some ⟨(H #[]).length, 0, some 1⟩)] (H d ++ [⟨0, [.int .i64 s]⟩]) = some (.int .i64 m, H d ++ [⟨0, [.int .i64 s']⟩]) := by
  have hcl := fun s' vs => E.cl d s s' [] vs
  have hN := E.base.hN
  obtain ⟨m, s1, q1, p1, e1⟩ := c_ord_median E d hd (a - 1) a (a + 1) (by omega) (by omega) (by omega) s hs
  refine ⟨m, s1, q1, p1, ?_⟩
  have w1 : IntKind.i64.wrap ((a : Int) - 1) = ((a - 1 : Nat) : Int) := by rw [show (a : Int) - 1 = ((a - 1 : Nat) : Int) by omega]; exact wrap64 (by omega) (by omega)
  have w2 : IntKind.i64.wrap ((a : Int) + 1) = ((a + 1 : Nat) : Int) := by rw [show (a : Int) + 1 = ((a + 1 : Nat) : Int) by omega]; exact wrap64 (by omega) (by omega)
  obtain ⟨x, hx⟩ : ∃ x, x = a - 1 := ⟨_, rfl⟩
  obtain ⟨y, hy⟩ : ∃ y, y = a + 1 := ⟨_, rfl⟩
  rw [← hx, ← hy] at e1
  rw [← hx] at w1
  rw [← hy] at w2
  clear p1 q1 hx hy
  refine v_slices_medianAdjacentOrdered_int64 (by simp [i_slices_medianAdjacentOrdered_int64]) ?_
  rw [fbody_eq]
  simp (disch := first | assumption | omega | (simp [*] <;> omega) | fail) [-getElem?_pos, List.getElem?_cons_zero, List.getElem?_cons_succ, i_slices_medianAdjacentOrdered_int64, w1, w2, e1, hcl, fresults, fresL, fres1]

set_option maxHeartbeats 2000000 in
theorem c_ord_pivot (d : Array Nat) (hd : d.size = N) (a b : Nat) (hab : a < b) (hb : b ≤ N) :
    ∃ m t : Nat, (a ≤ m ∧ m < b) ∧ t ≤ 2 ∧ vcall F nro k_slices_choosePivotOrdered_int64 [S, .int .i64 a, .int .i64 b] (H d) = some (.tuple #[.int .i64 m, .int .i64 t], H d) := by
  have hc0 := fun L vs => E.base.clean d d L vs
  have hl := E.base.ln
  have hnr := E.base.nr #[]
  have hgt := E.get
  have hN := E.base.hN
  obtain ⟨len, hlen⟩ : ∃ len, len = b - a := ⟨_, rfl⟩
  have w0 : IntKind.i64.wrap ((b : Int) - a) = len := by rw [show (b : Int) - a = len by omega]; exact wrap64 (by omega) (by omega)
  obtain ⟨q, hq⟩ : ∃ q : Nat, q = len / 4 := ⟨_, rfl⟩
  have t1 : ((len : Nat) : Int).tdiv 4 = q := by rw [Int.tdiv_eq_ediv_of_nonneg (by omega)]; omega
  have hq2 : q ≤ 1000 := by omega
  have w1 : IntKind.i64.wrap (q : Int) = q := wrap64 (by omega) (by omega)
  obtain ⟨i, hi⟩ : ∃ i, i = a + q := ⟨_, rfl⟩
  obtain ⟨j, hj⟩ : ∃ j, j = a + q * 2 := ⟨_, rfl⟩
  obtain ⟨k, hk⟩ : ∃ k, k = a + q * 3 := ⟨_, rfl⟩
  have w2 : IntKind.i64.wrap ((q : Int) * 2) = (q : Int) * 2 := wrap64 (by omega) (by omega)
  have w3 : IntKind.i64.wrap ((q : Int) * 3) = (q : Int) * 3 := wrap64 (by omega) (by omega)
  have w4 : IntKind.i64.wrap ((a : Int) + q) = i := by rw [show (a : Int) + q = i by omega]; exact wrap64 (by omega) (by omega)
  have w5 : IntKind.i64.wrap ((a : Int) + (q : Int) * 2) = j := by rw [show (a : Int) + (q : Int) * 2 = j by omega]; exact wrap64 (by omega) (by omega)
  have w6 : IntKind.i64.wrap ((a : Int) + (q : Int) * 3) = k := by rw [show (a : Int) + (q : Int) * 3 = k by omega]; exact wrap64 (by omega) (by omega)
  by_cases c8 : (8 : Int) ≤ len
  · by_cases c50 : (50 : Int) ≤ len
    · obtain ⟨m1, s1, q1, p1, e1⟩ := c_ord_medianA E d hd i (by omega) (by omega) 0 (by omega)
      have r1 : a ≤ m1 ∧ m1 < b := by rcases p1 with h | h | h <;> omega
      clear p1
      obtain ⟨m2, s2, q2, p2, e2⟩ := c_ord_medianA E d hd j (by omega) (by omega) s1 (by omega)
      have r2 : a ≤ m2 ∧ m2 < b := by rcases p2 with h | h | h <;> omega
      clear p2
      obtain ⟨m3, s3, q3, p3, e3⟩ := c_ord_medianA E d hd k (by omega) (by omega) s2 (by omega)
      have r3 : a ≤ m3 ∧ m3 < b := by rcases p3 with h | h | h <;> omega
      clear p3
      obtain ⟨m4, s4, q4, p4, e4⟩ := c_ord_median E d hd m1 m2 m3 (by omega) (by omega) (by omega) s3 (by omega)
      have hr : a ≤ m4 ∧ m4 < b := by rcases p4 with h | h | h <;> rw [h] <;> assumption
      clear p4 r1 r2 r3 q1 q2 q3 q4 hi hj hk hq hlen
      simp only [Int.natCast_zero] at e1
      by_cases z0 : s4 = 0
      · refine ⟨m4, 1, hr, by omega, ?_⟩
        subst z0
        clear hr
        refine v_slices_choosePivotOrdered_int64 (by simp [i_slices_choosePivotOrdered_int64]) ?_
        rw [fbody_eq]
        simp (disch := first | assumption | omega | (simp [*] <;> omega) | fail) [-getElem?_pos, List.getElem?_cons_zero, List.getElem?_cons_succ, i_slices_choosePivotOrdered_int64, w0, t1, w1, w2, w3, w4, w5, w6, c8, c50, hl, hnr, hgt, e1, e2, e3, e4, hc0, fresults, fresL, fres1]
      · by_cases z1 : s4 = 12
        · refine ⟨m4, 2, hr, by omega, ?_⟩
          subst z1
          clear hr
          refine v_slices_choosePivotOrdered_int64 (by simp [i_slices_choosePivotOrdered_int64]) ?_
          rw [fbody_eq]
          simp (disch := first | assumption | omega | (simp [*] <;> omega) | fail) [-getElem?_pos, List.getElem?_cons_zero, List.getElem?_cons_succ, i_slices_choosePivotOrdered_int64, w0, t1, w1, w2, w3, w4, w5, w6, c8, c50, hl, hnr, hgt, e1, e2, e3, e4, hc0, fresults, fresL, fres1]
        · have z0' : ¬ (s4 : Int) = 0 := by omega
          have z1' : ¬ (s4 : Int) = 12 := by omega
          refine ⟨m4, 0, hr, by omega, ?_⟩
          clear hr
          refine v_slices_choosePivotOrdered_int64 (by simp [i_slices_choosePivotOrdered_int64]) ?_
          rw [fbody_eq]
          simp (disch := first | assumption | omega | (simp [*] <;> omega) | fail) [-getElem?_pos, List.getElem?_cons_zero, List.getElem?_cons_succ, i_slices_choosePivotOrdered_int64, w0, t1, w1, w2, w3, w4, w5, w6, c8, c50, hl, hnr, hgt, e1, e2, e3, e4, z0, z1, z0', z1', hc0, fresults, fresL, fres1]
    · obtain ⟨m4, s4, q4, p4, e4⟩ := c_ord_median E d hd i j k (by omega) (by omega) (by omega) 0 (by omega)
      have hr : a ≤ m4 ∧ m4 < b := by rcases p4 with h | h | h <;> omega
      have z1 : ¬ s4 = 12 := by omega
      have z1' : ¬ (s4 : Int) = 12 := by omega
      simp only [Int.natCast_zero] at e4
      by_cases z0 : s4 = 0
      · refine ⟨m4, 1, hr, by omega, ?_⟩
        subst z0
        clear p4 q4 hi hj hk hq hlen hr
        refine v_slices_choosePivotOrdered_int64 (by simp [i_slices_choosePivotOrdered_int64]) ?_
        rw [fbody_eq]
        simp (disch := first | assumption | omega | (simp [*] <;> omega) | fail) [-getElem?_pos, List.getElem?_cons_zero, List.getElem?_cons_succ, i_slices_choosePivotOrdered_int64, w0, t1, w1, w2, w3, w4, w5, w6, c8, c50, hl, hnr, hgt, e4, hc0, fresults, fresL, fres1]
      · have z0' : ¬ (s4 : Int) = 0 := by omega
        refine ⟨m4, 0, hr, by omega, ?_⟩
        clear p4 q4 hi hj hk hq hlen hr
        refine v_slices_choosePivotOrdered_int64 (by simp [i_slices_choosePivotOrdered_int64]) ?_
        rw [fbody_eq]
        simp (disch := first | assumption | omega | (simp [*] <;> omega) | fail) [-getElem?_pos, List.getElem?_cons_zero, List.getElem?_cons_succ, i_slices_choosePivotOrdered_int64, w0, t1, w1, w2, w3, w4, w5, w6, c8, c50, hl, hnr, hgt, e4, z0, z0', z1, z1', hc0, fresults, fresL, fres1]
  · refine ⟨j, 1, by omega, by omega, ?_⟩
    clear hi hj hk hq hlen
    refine v_slices_choosePivotOrdered_int64 (by simp [i_slices_choosePivotOrdered_int64]) ?_
    rw [fbody_eq]
    simp (disch := first | assumption | omega | (simp [*] <;> omega) | fail) [-getElem?_pos, List.getElem?_cons_zero, List.getElem?_cons_succ, i_slices_choosePivotOrdered_int64, w0, t1, w1, w2, w3, w4, w5, w6, c8, hl, hnr, hgt, hc0, fresults, fresL, fres1]
end
end Go.Proofs.Ytbilmoahcnllmaa.Zv

/- Sorting: partitions. -/
namespace Go.Proofs.Ytbilmoahcnllmaa.Zv
open Go Go.Sort
variable {nro : Nat} {S : Value} {P : Int → Value} {ag : Nat → Value} {cm : Nat → Nat → Int} {N : Nat} {H : Array Nat → VH}
section
variable (E : SO nro S P ag cm N H)
include E

theorem l_ord_up1 (a j : Nat) (haN : a < N) (hjN : j < N) (d0 d : Array Nat) (hd : d.size = N) (v : Nat) (hv : getI d (a : Int) = v) : ∀ (k i : Nat), j + 1 ≤ i + k → i ≤ N →
    floop (vcall F nro) nro [0, 1, 10, 11] i_slices_partitionOrdered_int64_B1 (H d0) [S, .int .i64 a, .int .i64 i, .int .i64 j] (H d) = some (.exit 0, fl [(0, S), (1, .int .i64 a), (10, .int .i64 ((scanUp (fun x => ltC cm x v) d j i : Nat))), (11, .int .i64 (j))], H d) := by
  have hc := fun q => E.clean0 d0 q
  have hl := E.ln
  have oS := E.oS
  have hN := E.hN
  have hix := E.idx
  have hld := E.load
  have hcm := E.cmp
  have a0 : (0 : Int) ≤ a := by omega
  have a1 : (a : Int) < N := by omega
  intro k
  induction k with
  | zero =>
    intro i hk hi
    have c1 : ¬ (i : Int) ≤ j := by omega
    have c2 : ¬ i ≤ j := by omega
    rw [scanUp, if_neg (by simp [c2]), floop_at i_slices_partitionOrdered_int64_B1.eq_1]
    simp (disch := first | assumption | omega | (simp [*] <;> omega) | fail) [-getElem?_pos, List.getElem?_cons_zero, List.getElem?_cons_succ, hc, hl, oS, c1, c2]
  | succ k ih =>
    intro i hk hi
    have gi := getI_nat d (i : Int) i rfl
    by_cases c1 : i ≤ j
    · have c1' : (i : Int) ≤ j := by omega
      have i0 : (0 : Int) ≤ i := by omega
      have i1 : (i : Int) < N := by omega
      have w1 : IntKind.i64.wrap ((i : Int) + 1) = (i : Int) + 1 := wrap64 (by omega) (by omega)
      rw [scanUp, ← gi, ← hv]
      by_cases c2 : cm (getI d (i : Int)) (getI d (a : Int)) < 0
      · have e2 : ltC cm (getI d (i : Int)) (getI d (a : Int)) = true := decide_eq_true c2
        rw [if_pos (by simp [c1, e2])]
        rw [hv]
        have ih2 := ih (i + 1) (by omega) (by omega)
        rw [← ih2]
        clear ih ih2 gi e2 hv
        rw [floop_at i_slices_partitionOrdered_int64_B1.eq_1]
        simp (disch := first | assumption | omega | (simp [*] <;> omega) | fail) [-getElem?_pos, List.getElem?_cons_zero, List.getElem?_cons_succ, hc, hl, oS, hix, hld, hcm, hd, c1', c1, c2, i0, i1, a0, a1, w1]
      · have e2 : ltC cm (getI d (i : Int)) (getI d (a : Int)) = false := decide_eq_false c2
        rw [if_neg (by simp [e2])]
        clear ih gi e2 hv
        rw [floop_at i_slices_partitionOrdered_int64_B1.eq_1]
        simp (disch := first | assumption | omega | (simp [*] <;> omega) | fail) [-getElem?_pos, List.getElem?_cons_zero, List.getElem?_cons_succ, hc, hl, oS, hix, hld, hcm, hd, c1', c1, c2, i0, i1, a0, a1, w1]
    · have c1' : ¬ (i : Int) ≤ j := by omega
      rw [scanUp, if_neg (by simp [c1]), floop_at i_slices_partitionOrdered_int64_B1.eq_1]
      simp (disch := first | assumption | omega | (simp [*] <;> omega) | fail) [-getElem?_pos, List.getElem?_cons_zero, List.getElem?_cons_succ, hc, hl, oS, c1', c1]

theorem l_ord_dn1 (a i : Nat) (haN : a < N) (hi1 : 1 ≤ i) (d0 d : Array Nat) (hd : d.size = N) (v : Nat) (hv : getI d (a : Int) = v) : ∀ (j : Nat), j < N →
    floop (vcall F nro) nro [0, 1, 10, 11] i_slices_partitionOrdered_int64_B2 (H d0) [S, .int .i64 a, .int .i64 i, .int .i64 j] (H d) = some (.exit 2, fl [(0, S), (1, .int .i64 a), (10, .int .i64 (i)), (11, .int .i64 ((scanDown (fun x => !ltC cm x v) d i j : Nat)))], H d) := by
  have hc := fun q => E.clean0 d0 q
  have hl := E.ln
  have oS := E.oS
  have hN := E.hN
  have hix := E.idx
  have hld := E.load
  have hcm := E.cmp
  have a0 : (0 : Int) ≤ a := by omega
  have a1 : (a : Int) < N := by omega
  intro j
  induction j with
  | zero =>
    intro hj
    have c1 : ¬ (i : Int) ≤ 0 := by omega
    have c2 : ¬ i = 0 := by omega
    rw [scanDown, floop_at i_slices_partitionOrdered_int64_B2.eq_1]
    simp (disch := first | assumption | omega | (simp [*] <;> omega) | fail) [-getElem?_pos, List.getElem?_cons_zero, List.getElem?_cons_succ, hc, hl, oS, c1, c2]
  | succ j ih =>
    intro hj
    have gi := getI_nat d ((j : Int) + 1) (j + 1) (by omega)
    by_cases c1 : i ≤ j + 1
    · have c1' : (i : Int) ≤ (j : Int) + 1 := by omega
      have i0 : (0 : Int) ≤ (j : Int) + 1 := by omega
      have i1 : (j : Int) + 1 < N := by omega
      have w1 : IntKind.i64.wrap (j : Int) = j := wrap64 (by omega) (by omega)
      rw [scanDown, ← gi, ← hv]
      by_cases c2 : cm (getI d ((j : Int) + 1)) (getI d (a : Int)) < 0
      · have e2 : ltC cm (getI d ((j : Int) + 1)) (getI d (a : Int)) = true := decide_eq_true c2
        rw [if_neg (by simp [e2])]
        clear ih gi e2 hv
        rw [floop_at i_slices_partitionOrdered_int64_B2.eq_1]
        simp (disch := first | assumption | omega | (simp [*] <;> omega) | fail) [-getElem?_pos, List.getElem?_cons_zero, List.getElem?_cons_succ, hc, hl, oS, hix, hld, hcm, hd, c1', c1, c2, i0, i1, a0, a1, w1]
      · have e2 : ltC cm (getI d ((j : Int) + 1)) (getI d (a : Int)) = false := decide_eq_false c2
        rw [if_pos (by simp [c1, e2])]
        rw [hv]
        have ih2 := ih (by omega)
        rw [← ih2]
        clear ih ih2 gi e2 hv
        rw [floop_at i_slices_partitionOrdered_int64_B2.eq_1]
        simp (disch := first | assumption | omega | (simp [*] <;> omega) | fail) [-getElem?_pos, List.getElem?_cons_zero, List.getElem?_cons_succ, hc, hl, oS, hix, hld, hcm, hd, c1', c1, c2, i0, i1, a0, a1, w1]
    · have c1' : ¬ (i : Int) ≤ (j : Int) + 1 := by omega
      rw [scanDown, if_neg (by simp [c1]), floop_at i_slices_partitionOrdered_int64_B2.eq_1]
      simp (disch := first | assumption | omega | (simp [*] <;> omega) | fail) [-getElem?_pos, List.getElem?_cons_zero, List.getElem?_cons_succ, hc, hl, oS, c1', c1]

theorem l_ord_up2 (a j : Nat) (haN : a < N) (hjN : j < N) (d0 d : Array Nat) (hd : d.size = N) (v : Nat) (hv : getI d (a : Int) = v) : ∀ (k i : Nat), j + 1 ≤ i + k → i ≤ N →
    floop (vcall F nro) nro [0, 1, 10, 11] i_slices_partitionOrdered_int64_B3 (H d0) [S, .int .i64 a, .int .i64 i, .int .i64 j] (H d) = some (.exit 6, fl [(0, S), (1, .int .i64 a), (10, .int .i64 ((scanUp (fun x => ltC cm x v) d j i : Nat))), (11, .int .i64 (j))], H d) := by
  have hc := fun q => E.clean0 d0 q
  have hl := E.ln
  have oS := E.oS
  have hN := E.hN
  have hix := E.idx
  have hld := E.load
  have hcm := E.cmp
  have a0 : (0 : Int) ≤ a := by omega
  have a1 : (a : Int) < N := by omega
  intro k
  induction k with
  | zero =>
    intro i hk hi
    have c1 : ¬ (i : Int) ≤ j := by omega
    have c2 : ¬ i ≤ j := by omega
    rw [scanUp, if_neg (by simp [c2]), floop_at i_slices_partitionOrdered_int64_B3.eq_1]
    simp (disch := first | assumption | omega | (simp [*] <;> omega) | fail) [-getElem?_pos, List.getElem?_cons_zero, List.getElem?_cons_succ, hc, hl, oS, c1, c2]
  | succ k ih =>
    intro i hk hi
    have gi := getI_nat d (i : Int) i rfl
    by_cases c1 : i ≤ j
    · have c1' : (i : Int) ≤ j := by omega
      have i0 : (0 : Int) ≤ i := by omega
      have i1 : (i : Int) < N := by omega
      have w1 : IntKind.i64.wrap ((i : Int) + 1) = (i : Int) + 1 := wrap64 (by omega) (by omega)
      rw [scanUp, ← gi, ← hv]
      by_cases c2 : cm (getI d (i : Int)) (getI d (a : Int)) < 0
      · have e2 : ltC cm (getI d (i : Int)) (getI d (a : Int)) = true := decide_eq_true c2
        rw [if_pos (by simp [c1, e2])]
        rw [hv]
        have ih2 := ih (i + 1) (by omega) (by omega)
        rw [← ih2]
        clear ih ih2 gi e2 hv
        rw [floop_at i_slices_partitionOrdered_int64_B3.eq_1]
        simp (disch := first | assumption | omega | (simp [*] <;> omega) | fail) [-getElem?_pos, List.getElem?_cons_zero, List.getElem?_cons_succ, hc, hl, oS, hix, hld, hcm, hd, c1', c1, c2, i0, i1, a0, a1, w1]
      · have e2 : ltC cm (getI d (i : Int)) (getI d (a : Int)) = false := decide_eq_false c2
        rw [if_neg (by simp [e2])]
        clear ih gi e2 hv
        rw [floop_at i_slices_partitionOrdered_int64_B3.eq_1]
        simp (disch := first | assumption | omega | (simp [*] <;> omega) | fail) [-getElem?_pos, List.getElem?_cons_zero, List.getElem?_cons_succ, hc, hl, oS, hix, hld, hcm, hd, c1', c1, c2, i0, i1, a0, a1, w1]
    · have c1' : ¬ (i : Int) ≤ j := by omega
      rw [scanUp, if_neg (by simp [c1]), floop_at i_slices_partitionOrdered_int64_B3.eq_1]
      simp (disch := first | assumption | omega | (simp [*] <;> omega) | fail) [-getElem?_pos, List.getElem?_cons_zero, List.getElem?_cons_succ, hc, hl, oS, c1', c1]

theorem l_ord_dn2 (a i : Nat) (haN : a < N) (hi1 : 1 ≤ i) (d0 d : Array Nat) (hd : d.size = N) (v : Nat) (hv : getI d (a : Int) = v) : ∀ (j : Nat), j < N →
    floop (vcall F nro) nro [0, 1, 10, 11] i_slices_partitionOrdered_int64_B4 (H d0) [S, .int .i64 a, .int .i64 i, .int .i64 j] (H d) = some (.exit 8, fl [(0, S), (1, .int .i64 a), (10, .int .i64 (i)), (11, .int .i64 ((scanDown (fun x => !ltC cm x v) d i j : Nat)))], H d) := by
  have hc := fun q => E.clean0 d0 q
  have hl := E.ln
  have oS := E.oS
  have hN := E.hN
  have hix := E.idx
  have hld := E.load
  have hcm := E.cmp
  have a0 : (0 : Int) ≤ a := by omega
  have a1 : (a : Int) < N := by omega
  intro j
  induction j with
  | zero =>
    intro hj
    have c1 : ¬ (i : Int) ≤ 0 := by omega
    have c2 : ¬ i = 0 := by omega
    rw [scanDown, floop_at i_slices_partitionOrdered_int64_B4.eq_1]
    simp (disch := first | assumption | omega | (simp [*] <;> omega) | fail) [-getElem?_pos, List.getElem?_cons_zero, List.getElem?_cons_succ, hc, hl, oS, c1, c2]
  | succ j ih =>
    intro hj
    have gi := getI_nat d ((j : Int) + 1) (j + 1) (by omega)
    by_cases c1 : i ≤ j + 1
    · have c1' : (i : Int) ≤ (j : Int) + 1 := by omega
      have i0 : (0 : Int) ≤ (j : Int) + 1 := by omega
      have i1 : (j : Int) + 1 < N := by omega
      have w1 : IntKind.i64.wrap (j : Int) = j := wrap64 (by omega) (by omega)
      rw [scanDown, ← gi, ← hv]
      by_cases c2 : cm (getI d ((j : Int) + 1)) (getI d (a : Int)) < 0
      · have e2 : ltC cm (getI d ((j : Int) + 1)) (getI d (a : Int)) = true := decide_eq_true c2
        rw [if_neg (by simp [e2])]
        clear ih gi e2 hv
        rw [floop_at i_slices_partitionOrdered_int64_B4.eq_1]
        simp (disch := first | assumption | omega | (simp [*] <;> omega) | fail) [-getElem?_pos, List.getElem?_cons_zero, List.getElem?_cons_succ, hc, hl, oS, hix, hld, hcm, hd, c1', c1, c2, i0, i1, a0, a1, w1]
      · have e2 : ltC cm (getI d ((j : Int) + 1)) (getI d (a : Int)) = false := decide_eq_false c2
        rw [if_pos (by simp [c1, e2])]
        rw [hv]
        have ih2 := ih (by omega)
        rw [← ih2]
        clear ih ih2 gi e2 hv
        rw [floop_at i_slices_partitionOrdered_int64_B4.eq_1]
        simp (disch := first | assumption | omega | (simp [*] <;> omega) | fail) [-getElem?_pos, List.getElem?_cons_zero, List.getElem?_cons_succ, hc, hl, oS, hix, hld, hcm, hd, c1', c1, c2, i0, i1, a0, a1, w1]
    · have c1' : ¬ (i : Int) ≤ (j : Int) + 1 := by omega
      rw [scanDown, if_neg (by simp [c1]), floop_at i_slices_partitionOrdered_int64_B4.eq_1]
      simp (disch := first | assumption | omega | (simp [*] <;> omega) | fail) [-getElem?_pos, List.getElem?_cons_zero, List.getElem?_cons_succ, hc, hl, oS, c1', c1]

theorem l_ord_up3 (a j : Nat) (haN : a < N) (hjN : j < N) (d0 d : Array Nat) (hd : d.size = N) (v : Nat) (hv : getI d (a : Int) = v) : ∀ (k i : Nat), j + 1 ≤ i + k → i ≤ N →
    floop (vcall F nro) nro [0, 1, 9, 10] i_slices_partitionEqualOrdered_int64_B1 (H d0) [S, .int .i64 a, .int .i64 i, .int .i64 j] (H d) = some (.exit 2, fl [(0, S), (1, .int .i64 a), (9, .int .i64 ((scanUp (fun x => !ltC cm v x) d j i : Nat))), (10, .int .i64 (j))], H d) := by
  have hc := fun q => E.clean0 d0 q
  have hl := E.ln
  have oS := E.oS
  have hN := E.hN
  have hix := E.idx
  have hld := E.load
  have hcm := E.cmp
  have a0 : (0 : Int) ≤ a := by omega
  have a1 : (a : Int) < N := by omega
  intro k
  induction k with
  | zero =>
    intro i hk hi
    have c1 : ¬ (i : Int) ≤ j := by omega
    have c2 : ¬ i ≤ j := by omega
    rw [scanUp, if_neg (by simp [c2]), floop_at i_slices_partitionEqualOrdered_int64_B1.eq_1]
    simp (disch := first | assumption | omega | (simp [*] <;> omega) | fail) [-getElem?_pos, List.getElem?_cons_zero, List.getElem?_cons_succ, hc, hl, oS, c1, c2]
  | succ k ih =>
    intro i hk hi
    have gi := getI_nat d (i : Int) i rfl
    by_cases c1 : i ≤ j
    · have c1' : (i : Int) ≤ j := by omega
      have i0 : (0 : Int) ≤ i := by omega
      have i1 : (i : Int) < N := by omega
      have w1 : IntKind.i64.wrap ((i : Int) + 1) = (i : Int) + 1 := wrap64 (by omega) (by omega)
      rw [scanUp, ← gi, ← hv]
      by_cases c2 : cm (getI d (a : Int)) (getI d (i : Int)) < 0
      · have e2 : ltC cm (getI d (a : Int)) (getI d (i : Int)) = true := decide_eq_true c2
        rw [if_neg (by simp [e2])]
        clear ih gi e2 hv
        rw [floop_at i_slices_partitionEqualOrdered_int64_B1.eq_1]
        simp (disch := first | assumption | omega | (simp [*] <;> omega) | fail) [-getElem?_pos, List.getElem?_cons_zero, List.getElem?_cons_succ, hc, hl, oS, hix, hld, hcm, hd, c1', c1, c2, i0, i1, a0, a1, w1]
      · have e2 : ltC cm (getI d (a : Int)) (getI d (i : Int)) = false := decide_eq_false c2
        rw [if_pos (by simp [c1, e2])]
        rw [hv]
        have ih2 := ih (i + 1) (by omega) (by omega)
        rw [← ih2]
        clear ih ih2 gi e2 hv
        rw [floop_at i_slices_partitionEqualOrdered_int64_B1.eq_1]
        simp (disch := first | assumption | omega | (simp [*] <;> omega) | fail) [-getElem?_pos, List.getElem?_cons_zero, List.getElem?_cons_succ, hc, hl, oS, hix, hld, hcm, hd, c1', c1, c2, i0, i1, a0, a1, w1]
    · have c1' : ¬ (i : Int) ≤ j := by omega
      rw [scanUp, if_neg (by simp [c1]), floop_at i_slices_partitionEqualOrdered_int64_B1.eq_1]
      simp (disch := first | assumption | omega | (simp [*] <;> omega) | fail) [-getElem?_pos, List.getElem?_cons_zero, List.getElem?_cons_succ, hc, hl, oS, c1', c1]

theorem l_ord_dn3 (a i : Nat) (haN : a < N) (hi1 : 1 ≤ i) (d0 d : Array Nat) (hd : d.size = N) (v : Nat) (hv : getI d (a : Int) = v) : ∀ (j : Nat), j < N →
    floop (vcall F nro) nro [0, 1, 9, 10] i_slices_partitionEqualOrdered_int64_B2 (H d0) [S, .int .i64 a, .int .i64 i, .int .i64 j] (H d) = some (.exit 4, fl [(0, S), (1, .int .i64 a), (9, .int .i64 (i)), (10, .int .i64 ((scanDown (fun x => ltC cm v x) d i j : Nat)))], H d) := by
  have hc := fun q => E.clean0 d0 q
  have hl := E.ln
  have oS := E.oS
  have hN := E.hN
  have hix := E.idx
  have hld := E.load
  have hcm := E.cmp
  have a0 : (0 : Int) ≤ a := by omega
  have a1 : (a : Int) < N := by omega
  intro j
  induction j with
  | zero =>
    intro hj
    have c1 : ¬ (i : Int) ≤ 0 := by omega
    have c2 : ¬ i = 0 := by omega
    rw [scanDown, floop_at i_slices_partitionEqualOrdered_int64_B2.eq_1]
    simp (disch := first | assumption | omega | (simp [*] <;> omega) | fail) [-getElem?_pos, List.getElem?_cons_zero, List.getElem?_cons_succ, hc, hl, oS, c1, c2]
  | succ j ih =>
    intro hj
    have gi := getI_nat d ((j : Int) + 1) (j + 1) (by omega)
    by_cases c1 : i ≤ j + 1
    · have c1' : (i : Int) ≤ (j : Int) + 1 := by omega
      have i0 : (0 : Int) ≤ (j : Int) + 1 := by omega
      have i1 : (j : Int) + 1 < N := by omega
      have w1 : IntKind.i64.wrap (j : Int) = j := wrap64 (by omega) (by omega)
      rw [scanDown, ← gi, ← hv]
      by_cases c2 : cm (getI d (a : Int)) (getI d ((j : Int) + 1)) < 0
      · have e2 : ltC cm (getI d (a : Int)) (getI d ((j : Int) + 1)) = true := decide_eq_true c2
        rw [if_pos (by simp [c1, e2])]
        rw [hv]
        have ih2 := ih (by omega)
        rw [← ih2]
        clear ih ih2 gi e2 hv
        rw [floop_at i_slices_partitionEqualOrdered_int64_B2.eq_1]
        simp (disch := first | assumption | omega | (simp [*] <;> omega) | fail) [-getElem?_pos, List.getElem?_cons_zero, List.getElem?_cons_succ, hc, hl, oS, hix, hld, hcm, hd, c1', c1, c2, i0, i1, a0, a1, w1]
      · have e2 : ltC cm (getI d (a : Int)) (getI d ((j : Int) + 1)) = false := decide_eq_false c2
        rw [if_neg (by simp [e2])]
        clear ih gi e2 hv
        rw [floop_at i_slices_partitionEqualOrdered_int64_B2.eq_1]
        simp (disch := first | assumption | omega | (simp [*] <;> omega) | fail) [-getElem?_pos, List.getElem?_cons_zero, List.getElem?_cons_succ, hc, hl, oS, hix, hld, hcm, hd, c1', c1, c2, i0, i1, a0, a1, w1]
    · have c1' : ¬ (i : Int) ≤ (j : Int) + 1 := by omega
      rw [scanDown, if_neg (by simp [c1]), floop_at i_slices_partitionEqualOrdered_int64_B2.eq_1]
      simp (disch := first | assumption | omega | (simp [*] <;> omega) | fail) [-getElem?_pos, List.getElem?_cons_zero, List.getElem?_cons_succ, hc, hl, oS, c1', c1]
end
end Go.Proofs.Ytbilmoahcnllmaa.Zv

