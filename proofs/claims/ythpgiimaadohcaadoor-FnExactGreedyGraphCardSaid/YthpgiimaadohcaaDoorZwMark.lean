/- Marks: what is written into a graph's rows, and what is held there. -/
import Derived.Test.YthpgiimaadohcaaDoorZwLaws
namespace Go.Proofs.YthpgiimaadohcaaDoor.Zv
open Go
variable {nro : Nat}

/-- k, k + 1, .. -/
def cnt (k : Int) (n : Nat) : List Int := (List.range n).map fun (i : Nat) => k + (i : Int)
@[simp] theorem cnt_length (k : Int) (n : Nat) : (cnt k n).length = n := by simp [cnt]
theorem cnt_get (k : Int) (n i : Nat) (h : i < n) : (cnt k n)[i]'(by simpa using h) = k + i := by simp [cnt]

@[simp] theorem take_cnt (k : Int) (n : Nat) : List.take n (ints (cnt k n)) = ints (cnt k n) := List.take_of_length_le (by simp)

@[simp] theorem cnt_zero (k : Int) : cnt k 0 = [] := rfl

theorem l_laws_markInt64S (b n : Nat) (xs : List Int) (k : Int) (h : VH) (hb : h[b]? = some ⟨1, ints xs⟩) (hl : n = xs.length) (hn : nro ≤ b) (hk : 0 ≤ k) (hk2 : k + n ≤ 9223372036854775806) (i : Int) (ys : List Int) (h0 : 0 ≤ i) (hi : i ≤ n) (hy : ys.length = n) (hp : ys.take i.toNat = cnt k i.toNat) :
    floop (vcall F nro) nro [0, 1, 5] i_laws_markInt64S_B1 h [.slice (some ⟨b, 0, none⟩) n n, .int .i64 (k + i), .int .i64 i] (h.set b ⟨1, ints ys⟩) =
      some (.exit 0, fl [(1, .int .i64 (k + n))], h.set b ⟨1, ints (cnt k n)⟩) := by
  have hbl := (List.getElem?_eq_some_iff.mp hb).1
  rw [floop_at i_laws_markInt64S_B1.eq_1]
  by_cases hlt : i < n
  · simp (disch := first | assumption | omega | (simp [*] <;> omega) | fail) [hget_set0 hb, hy, hlt, wrap64, splice_ints, hn, h0]
    have ih := l_laws_markInt64S b n xs k h hb hl hn hk hk2 (i + 1) (ys.set i.toNat (k + i)) (by omega) (by omega) (by simpa using hy) ?_
    · rw [show k + (i + 1) = k + i + 1 by omega] at ih
      exact ih
    · rw [show (i + 1).toNat = i.toNat + 1 by omega]
      apply List.ext_getElem?
      intro j
      have := congrArg (·[j]?) hp
      simp only [cnt, List.getElem?_take, List.getElem?_map, List.getElem?_range, List.getElem?_set] at this ⊢
      grind
  · have e : i = n := by omega
    subst e
    have : ys = cnt k n := by
      rw [Int.toNat_natCast] at hp
      rw [← hp, List.take_of_length_le (by omega)]
    simp (disch := first | assumption | omega | (simp [*] <;> omega) | fail) [hget_set0 hb, hy, this]
 termination_by (n - i).toNat

theorem c_laws_markInt64S (b n : Nat) (xs : List Int) (k : Int) (h : VH) (hb : h[b]? = some ⟨1, ints xs⟩) (hl : n = xs.length) (hn : nro ≤ b) (hk : 0 ≤ k) (hk2 : k + n ≤ 9223372036854775806) :
    vcall F nro k_laws_markInt64S [.slice (some ⟨b, 0, none⟩) n n, .int .i64 k] h = some (.int .i64 (k + n), h.set b ⟨1, ints (cnt k n)⟩) := by
  refine v_laws_markInt64S (by simp [i_laws_markInt64S]) ?_
  rw [fbody_eq]
  have hloop := l_laws_markInt64S b n xs k h hb hl hn hk hk2 0 xs (by omega) (by omega) hl.symm (by simp [cnt])
  rw [hset_self hb] at hloop
  simp only [Int.add_zero] at hloop
  simp (disch := first | assumption | omega | (simp [*] <;> omega) | fail) [i_laws_markInt64S, hloop]

theorem c_laws_markInt64S_nil (k : Int) (h : VH) : vcall F nro k_laws_markInt64S [.slice none 0 0, .int .i64 k] h = some (.int .i64 k, h) := by
  refine v_laws_markInt64S (by simp [i_laws_markInt64S]) ?_
  rw [fbody_eq]
  simp [i_laws_markInt64S]
  rw [floop_at i_laws_markInt64S_B1.eq_1]
  simp

theorem l_laws_heldInt64S (s : Value) (xs : List Int) (h : VH) (hs : Sli h s xs) (k : Int) (hk : 0 ≤ k) (hk2 : k + xs.length ≤ 9223372036854775806) (i : Int) (h0 : 0 ≤ i) (hi : i ≤ xs.length) :
    floop (vcall F nro) nro [0, 1, 5] i_laws_heldInt64S_B1 h [s, .int .i64 (k + i), .int .i64 i] h =
      if xs.drop i.toNat = (cnt k xs.length).drop i.toNat then some (.exit 0, fl [(1, .int .i64 (k + xs.length))], h) else some (.ret, fl [(4, .int .i64 (-1))], h) := by
  have hso := hs.old
  rw [floop_at i_laws_heldInt64S_B1.eq_1]
  by_cases hlt : i < xs.length
  · have ih := l_laws_heldInt64S s xs h hs k hk hk2 (i + 1) (by omega) (by omega)
    rw [show (i + 1).toNat = i.toNat + 1 by omega, show k + (i + 1) = k + i + 1 by omega] at ih
    have e : (xs.drop i.toNat = (cnt k xs.length).drop i.toNat) ↔ xs[i.toNat]'(by omega) = k + i ∧ xs.drop (i.toNat + 1) = (cnt k xs.length).drop (i.toNat + 1) := by
      rw [List.drop_eq_getElem_cons (by omega : i.toNat < xs.length), List.drop_eq_getElem_cons (by simp; omega : i.toNat < (cnt k xs.length).length), List.cons.injEq, cnt_get _ _ _ (by omega), Int.toNat_of_nonneg h0]
    by_cases hx : xs[i.toNat]'(by omega) = k + i
    · simp (disch := first | assumption | omega | (simp [*] <;> omega) | fail) [hs.vlen, hs.vidx, hs.vload, hlt, wrap64, hx, ih, e]
    · simp (disch := first | assumption | omega | (simp [*] <;> omega) | fail) [hs.vlen, hs.vidx, hs.vload, hlt, wrap64, hx, e]
  · have e1 : xs.drop i.toNat = [] := List.drop_eq_nil_of_le (by omega)
    have e2 : (cnt k xs.length).drop i.toNat = [] := List.drop_eq_nil_of_le (by simp; omega)
    have e3 : i = xs.length := by omega
    simp (disch := first | assumption | omega | (simp [*] <;> omega) | fail) [hs.vlen, hlt, e1, e2]
    rw [e3]
 termination_by (xs.length - i).toNat

theorem c_laws_heldInt64S (s : Value) (xs : List Int) (h : VH) (hs : Sli h s xs) (k : Int) (hk : 0 ≤ k) (hk2 : k + xs.length ≤ 9223372036854775806) :
    vcall F nro k_laws_heldInt64S [s, .int .i64 k] h = some (.int .i64 (if xs = cnt k xs.length then k + xs.length else -1), h) := by
  refine v_laws_heldInt64S (by simp [i_laws_heldInt64S]) ?_
  rw [fbody_eq]
  have hloop := l_laws_heldInt64S (nro := nro) s xs h hs k hk hk2 0 (by omega) (by omega)
  simp only [Int.add_zero, Int.toNat_zero, List.drop_zero] at hloop
  by_cases hx : xs = cnt k xs.length
  · rw [if_pos hx] at hloop
    rw [if_pos hx]
    clear hx
    simp (disch := first | assumption | omega | (simp [*] <;> omega) | fail) [i_laws_heldInt64S, hloop]
  · rw [if_neg hx] at hloop
    rw [if_neg hx]
    simp (disch := first | assumption | omega | (simp [*] <;> omega) | fail) [i_laws_heldInt64S, hloop]

/-- The object of a slice that is whole. -/
theorem isSli.whole {h : VH} {b N : Nat} (hs : isSli h (.slice (some ⟨b, 0, none⟩) N N)) : ∃ xs, h[b]? = some ⟨1, ints xs⟩ ∧ N = xs.length ∧ rd h (.slice (some ⟨b, 0, none⟩) N N) = xs := by
  have hr := hs.sli
  rw [isSli_ref] at hs
  split at hs
  · rename_i o ho
    obtain ⟨h1, h2, h3, h4⟩ := hs
    have e : List.take N (List.drop 0 o.cells) = o.cells := by simp [h2]
    rw [e] at h4
    have h5 := ints_unints h4
    obtain ⟨sz, cs⟩ := o
    simp only at h1 h2 h5
    subst h1
    refine ⟨unints cs, by rw [h5]; exact ho, by rw [h2]; simp [unints], ?_⟩
    rw [rd_ref]
    dsimp only at ho ⊢
    rw [ho]
    simp [h2]
  · exact hs.elim

theorem r_laws_markGraph (n : Int) (b N : Nat) (k : Int) (h : VH) (hs : isSli h (.slice (some ⟨b, 0, none⟩) N N)) (hn : nro ≤ b) (hk : 0 ≤ k) (hk2 : k + N ≤ 9223372036854775806) :
    vcall F nro k_laws_markGraph [gv n (.slice (some ⟨b, 0, none⟩) N N), .int .i64 k] h = some (.int .i64 (k + N), h.set b ⟨1, ints (cnt k N)⟩) := by
  obtain ⟨xs, hb, hl, _⟩ := hs.whole
  refine v_laws_markGraph (by simp [i_laws_markGraph]) ?_
  rw [fbody_eq]
  have hc := c_laws_markInt64S (nro := nro) b N xs k (h ++ [⟨0, [.int .i64 n, .slice (some ⟨b, 0, none⟩) N N]⟩]) (hget_old hb _) hl hn hk hk2
  rw [hset_old hb] at hc
  simp (disch := first | assumption | omega | (simp [*] <;> omega) | fail) [i_laws_markGraph, hc]

theorem r_laws_markGraph_nil (n k : Int) (h : VH) : vcall F nro k_laws_markGraph [gv n (.slice none 0 0), .int .i64 k] h = some (.int .i64 k, h) := by
  refine v_laws_markGraph (by simp [i_laws_markGraph]) ?_
  rw [fbody_eq]
  have hc := c_laws_markInt64S_nil (nro := nro) k (h ++ [⟨0, [.int .i64 n, .slice none 0 0]⟩])
  simp (disch := first | assumption | omega | (simp [*] <;> omega) | fail) [i_laws_markGraph, hc]

theorem r_laws_heldGraph (n : Int) (s : Value) (k : Int) (h : VH) (hs : isSli h s) (hk : 0 ≤ k) (hk2 : k + (rd h s).length ≤ 9223372036854775806) :
    vcall F nro k_laws_heldGraph [gv n s, .int .i64 k] h = some (.int .i64 (if rd h s = cnt k (rd h s).length then k + (rd h s).length else -1), h) := by
  refine v_laws_heldGraph (by simp [i_laws_heldGraph]) ?_
  rw [fbody_eq]
  have hc := c_laws_heldInt64S (nro := nro) s (rd h s) (h ++ [⟨0, [.int .i64 n, s]⟩]) (hs.sli.app _) k hk hk2
  by_cases e : rd h s = cnt k (rd h s).length
  · rw [if_pos e] at hc ⊢
    have h2 : ¬ k + (rd h s).length < 0 := by omega
    clear e
    simp (disch := first | assumption | omega | (simp [*] <;> omega) | fail) [i_laws_heldGraph, hc, h2]
  · rw [if_neg e] at hc ⊢
    simp (disch := first | assumption | omega | (simp [*] <;> omega) | fail) [i_laws_heldGraph, hc]
end Go.Proofs.YthpgiimaadohcaaDoor.Zv
