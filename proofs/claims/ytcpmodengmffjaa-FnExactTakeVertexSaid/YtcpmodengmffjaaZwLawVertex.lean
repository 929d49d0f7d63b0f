/- The law of TakeVertex. -/
import Derived.Test.YtcpmodengmffjaaZwLawPartOn
import Derived.Test.YtcpmodengmffjaaZwDesk
namespace Go.Proofs.Ytcpmodengmffjaa.Zv
open Go
variable {nro : Nat}

/-- The numbers 0 to n - 1. -/
def rng (n : Nat) : List Int := (List.range n).map fun (i : Nat) => (i : Int)
@[simp] theorem rng_length (n : Nat) : (rng n).length = n := by simp [rng]
@[simp] theorem rng_zero : rng 0 = [] := rfl
theorem rng_succ (n : Nat) : rng (n + 1) = rng n ++ [(n : Int)] := by simp [rng, List.range_succ]
theorem rng_mem {n : Nat} {x : Int} (h : x ∈ rng n) : 0 ≤ x ∧ x < n := by
  obtain ⟨i, hi, rfl⟩ := List.mem_map.mp h
  have := List.mem_range.mp hi
  omega

theorem l_impl_counting (N : Nat) (h : VH) (hn : nro ≤ h.length) (h1 : N ≤ 62) (y0 : List Int) (i : Nat) (hi : i ≤ N) :
    floop (vcall F nro) nro [3, 6, 7] i_impl_counting_B1 (h ++ [⟨1, ints y0⟩]) [.slice (some ⟨h.length, 0, none⟩) i i, .int .i64 N, .int .i64 i] (h ++ [⟨1, ints (rng i)⟩]) =
      some (.exit 0, fl [(3, .slice (some ⟨h.length, 0, none⟩) N N)], h ++ [⟨1, ints (rng N)⟩]) := by
  have hn' := fun k => Nat.le_trans hn (Nat.le_add_right h.length k)
  rw [floop_at i_impl_counting_B1.eq_1]
  by_cases hlt : i < N
  · have hlt' : (i : Int) < N := by omega
    have ih := l_impl_counting N h hn h1 y0 (i + 1) hlt
    rw [show ((i + 1 : Nat) : Int) = (i : Int) + 1 by omega, rng_succ] at ih
    have b1 : (i + 1) * 8 ≤ 1099511627776 := by omega
    have b2 : i < 1099511627776 := by omega
    simp (disch := first | assumption | omega | (simp [*] <;> omega) | fail) [wrap64, hlt', hn, hn', b1, b2, ints_snoc, ih]
  · have e : i = N := by omega
    subst e
    simp (disch := first | assumption | omega | (simp [*] <;> omega) | fail) []
 termination_by N - i

theorem c_impl_counting (N : Nat) (h : VH) (hn : nro ≤ h.length) (h1 : N ≤ 62) :
    vcall F nro k_impl_counting [.int .i64 N] h = some (.slice (some ⟨h.length, 0, none⟩) N N, h ++ [⟨1, ints (rng N)⟩]) := by
  refine v_impl_counting (by simp [i_impl_counting]) ?_
  rw [fbody_eq]
  have hl := l_impl_counting (nro := nro) N h hn h1 [] 0 (by omega)
  simp at hl
  simp (disch := first | assumption | omega | (simp [*] <;> omega) | fail) [i_impl_counting, hl, hn]

/-- All numbers but one. -/
def wo (v : Int) (n : Nat) : List Int := (rng n).filter fun x => decide (x ≠ v)
theorem wo_succ (v : Int) (n : Nat) : wo v (n + 1) = wo v n ++ (if (n : Int) ≠ v then [(n : Int)] else []) := by
  unfold wo
  rw [rng_succ, List.filter_append]
  congr 1
  by_cases e : (n : Int) = v <;> simp [e]
theorem wo_len (v : Int) (n : Nat) : (wo v n).length ≤ n := by
  have := List.length_filter_le (fun x => decide (x ≠ v)) (rng n)
  simpa [wo] using this

theorem l_spec_l09Without (N : Nat) (v : Int) (s : Value) (rows : List Int) (h : VH) (hs : Sli h s rows) (hn : nro ≤ h.length) (h1 : N ≤ 62) (y0 : List Int) (w : Nat) (hw : w ≤ N) :
    floop (vcall F nro) nro [1, 2, 4, 5, 6] i_spec_l09Without_B1 (pH h N s ++ [⟨1, ints y0⟩]) [.int .i64 v, bp h, cp h, .slice (some ⟨h.length + 2, 0, none⟩) (wo v w).length (wo v w).length, .int .i64 w] (pH h N s ++ [⟨1, ints (wo v w)⟩]) =
      some (.exit 0, fl [(2, bp h), (4, cp h), (5, .slice (some ⟨h.length + 2, 0, none⟩) (wo v N).length (wo v N).length)], pH h N s ++ [⟨1, ints (wo v N)⟩]) := by
  have hn' := fun k => Nat.le_trans hn (Nat.le_add_right h.length k)
  have hsc := fun k => hs.oldCk (k := k)
  rw [floop_at i_spec_l09Without_B1.eq_1]
  by_cases hlt : w < N
  · have hlt' : (w : Int) < N := by omega
    have hwl := wo_len v w
    have ih := l_spec_l09Without N v s rows h hs hn h1 y0 (w + 1) hlt
    rw [show ((w + 1 : Nat) : Int) = (w : Int) + 1 by omega, wo_succ] at ih
    by_cases hb : (w : Int) = v
    · rw [if_neg (fun h => h hb), List.append_nil] at ih
      subst hb
      obtain ⟨ys, hys⟩ : ∃ ys, ys = wo (w : Int) w := ⟨_, rfl⟩
      rw [← hys] at ih ⊢
      clear hys hwl
      simp at ih
      simp (disch := first | assumption | omega | (simp [*] <;> omega) | fail) [wrap64, hlt, hn', hsc, ih]
    · rw [if_pos hb] at ih
      obtain ⟨ys, hys⟩ : ∃ ys, ys = wo v w := ⟨_, rfl⟩
      rw [← hys] at ih hwl ⊢
      have b1 : (ys.length + 1) * 8 ≤ 1099511627776 := by omega
      have b2 : ys.length < 1099511627776 := by omega
      clear hys
      simp at ih
      simp (disch := first | assumption | omega | (simp [*] <;> omega) | fail) [wrap64, hlt, hb, hn', hsc, b1, b2, ints_snoc, ih]
  · have e : w = N := by omega
    subst e
    simp (disch := first | assumption | omega | (simp [*] <;> omega) | fail) []
 termination_by N - w

theorem wo_in (v : Int) (n : Nat) : ∀ j : Nat, j < (wo v n).length → 0 ≤ (wo v n).getD j 0 ∧ (wo v n).getD j 0 < n := by
  intro j hj
  rw [getD_at _ hj]
  have : (wo v n)[j] ∈ rng n := (List.mem_filter.mp (List.getElem_mem hj)).1
  exact rng_mem this

theorem c_spec_l09Without (N : Nat) (v : Int) (s : Value) (rows : List Int) (h : VH) (hs : Sli h s rows) (hn : nro ≤ h.length) (g : GV N rows) :
    vcall F nro k_spec_l09Without [gv N s, .int .i64 v] h = some (gv (wo v N).length (.slice (some ⟨h.length, 0, none⟩) (wo v N).length (wo v N).length), h ++ [⟨1, ints (onRows rows (wo v N))⟩]) := by
  have hn' := fun k => Nat.le_trans hn (Nat.le_add_right h.length k)
  have h1 := g.hi
  have hl := l_spec_l09Without (nro := nro) N v s rows h hs hn (by omega) [] 0 (by omega)
  have hwl := wo_len v N
  obtain ⟨ho, _⟩ := c_spec_l01On (nro := nro) N s (.slice (some ⟨h.length + 2, 0, none⟩) (wo v N).length (wo v N).length) rows (wo v N) (pH h N s ++ [⟨1, ints (wo v N)⟩]) ((hs.app _).app _) (sli_at (by simp)) (by simp; omega) g (wo_in v N) (by omega)
  have e0 : wo v 0 = [] := rfl
  rw [e0] at hl
  refine v_spec_l09Without (by simp [i_spec_l09Without]) ?_
  rw [fbody_eq]
  obtain ⟨ys, hys⟩ : ∃ ys, ys = wo v N := ⟨_, rfl⟩
  rw [← hys] at hl ho ⊢
  clear hys hwl
  simp at hl ho
  simp (disch := first | assumption | omega | (simp [*] <;> omega) | fail) [i_spec_l09Without, hl, ho, hn', fresults, fresL, fres1]

/-! ### DeleteFunc -/
/-- The cells while some are deleted: the first j have been looked at. -/
structure Del (xs : List Int) (p : Int → Prop) [DecidablePred p] (r : List Int) (j : Nat) : Prop where
  len : r.length = xs.length
  low : r.take ((xs.take j).filter fun x => !decide (p x)).length = (xs.take j).filter fun x => !decide (p x)
  high : r.drop j = xs.drop j
theorem del_le {xs : List Int} {p : Int → Prop} [DecidablePred p] (j : Nat) : ((xs.take j).filter fun x => !decide (p x)).length ≤ j := by
  refine Nat.le_trans (List.length_filter_le _ _) ?_
  simp; omega
theorem del_step {xs : List Int} {p : Int → Prop} [DecidablePred p] {j : Nat} (hj : j < xs.length) : ((xs.take (j + 1)).filter fun x => !decide (p x)) = ((xs.take j).filter fun x => !decide (p x)) ++ (if p xs[j] then [] else [xs[j]]) := by
  rw [List.take_succ_eq_append_getElem hj, List.filter_append]
  congr 1
  by_cases h : p xs[j] <;> simp [h]
theorem Del.at {xs : List Int} {p : Int → Prop} [DecidablePred p] {r : List Int} {j : Nat} (d : Del xs p r j) (hj : j < xs.length) : r[j]'(by rw [d.len]; exact hj) = xs[j] := by
  have h1 := d.len
  have := congrArg (·[0]?) d.high
  simpa [h1, hj] using this
theorem Del.skip {xs : List Int} {p : Int → Prop} [DecidablePred p] {r : List Int} {j : Nat} (d : Del xs p r j) (hj : j < xs.length) (hp : p xs[j]) : Del xs p r (j + 1) := by
  refine ⟨d.len, ?_, ?_⟩
  · rw [del_step hj, if_pos hp, List.append_nil]; exact d.low
  · have := congrArg (List.drop 1) d.high
    rw [List.drop_drop, List.drop_drop] at this
    exact this
theorem Del.keep {xs : List Int} {p : Int → Prop} [DecidablePred p] {r : List Int} {j : Nat} (d : Del xs p r j) (hj : j < xs.length) (hp : ¬ p xs[j]) : Del xs p (r.set ((xs.take j).filter fun x => !decide (p x)).length xs[j]) (j + 1) := by
  have hl := d.len
  have hle := del_le (xs := xs) (p := p) j
  have hlow := d.low
  refine ⟨by simp [hl], ?_, ?_⟩
  · rw [del_step hj, if_neg hp]
    generalize ((xs.take j).filter fun x => !decide (p x)) = ys at hle hlow
    rw [List.length_append, List.length_singleton, List.take_succ_eq_append_getElem (by simp; omega)]
    congr 1
    · rw [List.take_set_of_le (Nat.le_refl _)]; exact hlow
    · simp
  · rw [List.drop_set_of_lt (by omega)]
    have := congrArg (List.drop 1) d.high
    rw [List.drop_drop, List.drop_drop] at this
    exact this

theorem l_slices_DeleteFunc (b0 N : Nat) (fv : Value) (kf : Nat) (caps : List Value) (xs : List Int) (p : Int → Prop) [DecidablePred p] (h : VH) (q0 : List Int) (hb : h[b0]? = some ⟨1, ints q0⟩) (hN : xs.length = N) (hNl : N ≤ 1000) (hn : nro ≤ b0) (hfv : fv = .func (.func kf) #[] caps.toArray) (hfo : Old h.length fv)
    (hf : ∀ r x, vcall F nro kf (.int .i64 x :: caps) (h.set b0 ⟨1, ints r⟩) = some (.bool (decide (p x)), h.set b0 ⟨1, ints r⟩)) (j : Nat) (hj : j ≤ N) (r : List Int) (d : Del xs p r j) :
    ∃ r', floop (vcall F nro) nro [0, 1, 5, 6] i_slices_DeleteFunc_int64_int64_B1 h [.slice (some ⟨b0, 0, none⟩) N N, fv, .int .i64 ((xs.take j).filter fun x => !decide (p x)).length, .int .i64 j] (h.set b0 ⟨1, ints r⟩) =
      some (.exit 0, fl [(0, .slice (some ⟨b0, 0, none⟩) N N), (5, .int .i64 (xs.filter fun x => !decide (p x)).length)], h.set b0 ⟨1, ints r'⟩) ∧ Del xs p r' N := by
  have hbl := (List.getElem?_eq_some_iff.mp hb).1
  have ho : Old h.length (.slice (some ⟨b0, 0, none⟩) N N) := fun r hr => by simp [trefs, vrefs, crefs, arefs] at hr; omega
  have hrl : r.length = N := by rw [d.len, hN]
  rw [floop_at i_slices_DeleteFunc_int64_int64_B1.eq_1]
  by_cases hlt : j < N
  · have hlt' : (j : Int) < N := by omega
    have hjr : j < r.length := by omega
    obtain ⟨x, hx⟩ : ∃ x, x = xs[j]'(by omega) := ⟨_, rfl⟩
    have hat : r[j]'hjr = x := by rw [hx]; exact d.at (by omega)
    have hle := del_le (xs := xs) (p := p) j
    have hstep := del_step (xs := xs) (p := p) (j := j) (by omega)
    rw [← hx] at hstep
    have hfx := hf r x
    by_cases hp : p x
    · obtain ⟨r', ih1, ih2⟩ := l_slices_DeleteFunc b0 N fv kf caps xs p h q0 hb hN hNl hn hfv hfo hf (j + 1) hlt r (d.skip (by omega) (hx ▸ hp))
      rw [show ((j + 1 : Nat) : Int) = (j : Int) + 1 by omega, hstep, if_pos hp, List.append_nil] at ih1
      refine ⟨r', ?_, ih2⟩
      generalize ((xs.take j).filter fun x => !decide (p x)).length = m at hle ih1 ⊢
      clear hstep hf d hx ih2
      subst hfv
      simp (disch := first | assumption | omega | (simp [*] <;> omega) | fail) [hget_set0 hb, hrl, hlt', hlt, take1_ints, hat, hfx, hp, wrap64, ho, hfo, ih1]
    · obtain ⟨r', ih1, ih2⟩ := l_slices_DeleteFunc b0 N fv kf caps xs p h q0 hb hN hNl hn hfv hfo hf (j + 1) hlt _ (d.keep (by omega) (hx ▸ hp))
      rw [← hx] at ih1
      rw [show ((j + 1 : Nat) : Int) = (j : Int) + 1 by omega, hstep, if_neg hp, List.length_append, List.length_singleton] at ih1
      refine ⟨r', ?_, ih2⟩
      generalize ((xs.take j).filter fun x => !decide (p x)).length = m at hle ih1 ⊢
      rw [show ((m + 1 : Nat) : Int) = (m : Int) + 1 by omega] at ih1
      have hm : m < N := by omega
      have hm' : (m : Int) < N := by omega
      clear hstep hf d hx ih2
      subst hfv
      simp (disch := first | assumption | omega | (simp [*] <;> omega) | fail) [hget_set0 hb, hrl, hlt', hlt, hm, hm', take1_ints, splice_ints, hat, hfx, hp, hn, wrap64, ho, hfo, ih1]
  · have hlt' : ¬ (j : Int) < N := by omega
    have e : j = N := by omega
    subst e
    refine ⟨r, ?_, d⟩
    rw [List.take_of_length_le (by omega)]
    simp (disch := first | assumption | omega | (simp [*] <;> omega) | fail) [hget_set0 hb, hrl]
 termination_by N - j

theorem filter_first {xs : List Int} {p : Int → Prop} [DecidablePred p] {e : Nat} (he : e < xs.length) (h1 : p (xs.getD e 0)) (h2 : ∀ j : Nat, j < e → ¬ p (xs.getD j 0)) : ((xs.take (e + 1)).filter fun x => !decide (p x)).length = e ∧ Del xs p xs (e + 1) := by
  have h3 : (xs.take e).filter (fun x => !decide (p x)) = xs.take e := by
    rw [List.filter_eq_self]
    intro x hx
    obtain ⟨i, hi, rfl⟩ := List.getElem_of_mem hx
    have hi' : i < e := by simp at hi; omega
    have := h2 i hi'
    rw [getD_at _ (by omega)] at this
    simpa using this
  rw [getD_at _ he] at h1
  have h4 := del_step (xs := xs) (p := p) he
  rw [if_pos h1, List.append_nil, h3] at h4
  refine ⟨by rw [h4]; simp; omega, rfl, ?_, rfl⟩
  rw [h4]
  simp

theorem vclear_ints {h : VH} {b0 off n N : Nat} {xs : List Int} (hb : h[b0]? = some ⟨1, ints xs⟩) (hN : xs.length = N) (hn : nro ≤ b0) (h0 : n ≠ 0) (hle : off + n ≤ N) :
    vclear nro 1 [.int .i64 0] h (.slice (some ⟨b0, off, none⟩) n N) = some (.tuple #[], h.set b0 ⟨1, ints (xs.take off ++ List.replicate n 0 ++ xs.drop (off + n))⟩) := by
  have e : splice off (List.replicate n [Value.int .i64 0]).flatten (ints xs) = ints (xs.take off ++ List.replicate n 0 ++ xs.drop (off + n)) := by
    unfold splice
    rw [ints_rep', ints_length, List.length_replicate]
    unfold ints
    rw [List.map_append, List.map_append, List.map_take, List.map_drop]
  unfold vclear
  dsimp only
  rw [hb]
  dsimp only
  rw [if_pos ⟨rfl, by rw [ints_length, hN]⟩, if_neg h0, if_pos ⟨hn, by rw [Nat.mul_one]; exact hle, rfl, rfl⟩, e]

open Classical in
theorem c_slices_DeleteFunc (b0 N : Nat) (fv : Value) (kf : Nat) (caps : List Value) (xs : List Int) (p : Int → Prop) (h : VH) (hb : h[b0]? = some ⟨1, ints xs⟩) (hN : xs.length = N) (hNl : N ≤ 1000) (hn : nro ≤ b0) (hfv : fv = .func (.func kf) #[] caps.toArray) (hfo : Old h.length fv)
    (hf : ∀ r x, vcall F nro kf (.int .i64 x :: caps) (h.set b0 ⟨1, ints r⟩) = some (.bool (decide (p x)), h.set b0 ⟨1, ints r⟩)) :
    ∃ r', vcall F nro k_slices_DeleteFunc_int64_int64 [.slice (some ⟨b0, 0, none⟩) N N, fv] h = some (.slice (some ⟨b0, 0, none⟩) (xs.filter fun x => !decide (p x)).length N, h.set b0 ⟨1, ints r'⟩) ∧ r'.length = N ∧ r'.take (xs.filter fun x => !decide (p x)).length = xs.filter fun x => !decide (p x) := by
  have hbl := (List.getElem?_eq_some_iff.mp hb).1
  have ho : Old h.length (.slice (some ⟨b0, 0, none⟩) N N) := fun r hr => by simp [trefs, vrefs, crefs, arefs] at hr; omega
  have hsl : Sli h (.slice (some ⟨b0, 0, none⟩) N N) xs := by have := sli_at hb; rw [hN] at this; exact this
  have hf0 : ∀ x ∈ xs, vcall F nro kf (.int .i64 x :: caps) h = some (.bool (decide (p x)), h) := by
    intro x _
    have := hf xs x
    rw [hset_self hb] at this
    exact this
  obtain ⟨e, h1, h2⟩ := c_slices_IndexFunc (nro := nro) (.slice (some ⟨b0, 0, none⟩) N N) fv kf caps xs p h hsl (by omega) hfv hfo hf0
  rcases h2 with ⟨rfl, h2⟩ | ⟨g1, g2, g3, g4⟩
  · -- none
    have hall : xs.filter (fun x => !decide (p x)) = xs := by
      rw [List.filter_eq_self]
      intro x hx
      obtain ⟨i, hi, rfl⟩ := List.getElem_of_mem hx
      have := h2 i hi
      rw [getD_at _ hi] at this
      simpa using this
    refine ⟨xs, ?_, hN, by rw [hall]; simp⟩
    rw [hall, hset_self hb, hN]
    refine v_slices_DeleteFunc_int64_int64 (by simp [i_slices_DeleteFunc_int64_int64]) ?_
    rw [fbody_eq]
    clear hf hf0 h2 hfv
    simp (disch := first | assumption | omega | (simp [*] <;> omega) | fail) [i_slices_DeleteFunc_int64_int64, h1, ho]
  · obtain ⟨k, rfl⟩ : ∃ k : Nat, e = k := ⟨e.toNat, by omega⟩
    rw [Int.toNat_natCast] at g3
    obtain ⟨f1, f2⟩ := filter_first (xs := xs) (p := p) (by omega) g3 fun j hj => g4 j (by omega)
    obtain ⟨r', l1, l2⟩ := l_slices_DeleteFunc (nro := nro) b0 N fv kf caps xs p h xs hb hN hNl hn hfv hfo hf (k + 1) (by omega) xs f2
    rw [f1, hset_self hb, show ((k + 1 : Nat) : Int) = (k : Int) + 1 by omega] at l1
    have hlow := l2.low
    have hrl : r'.length = N := by rw [l2.len, hN]
    have hxN : xs.take N = xs := List.take_of_length_le (by omega)
    rw [hxN] at hlow
    have hM : (xs.filter fun x => !decide (p x)).length ≤ N := by rw [← hN]; exact List.length_filter_le _ _
    obtain ⟨ys, hys⟩ : ∃ ys, ys = xs.filter fun x => !decide (p x) := ⟨_, rfl⟩
    rw [← hys] at l1 hlow hM ⊢
    have hlt : ys.length < N := by
      rw [hys, ← hN]
      have hk : k < xs.length := by omega
      rw [getD_at _ hk] at g3
      apply List.length_filter_lt_length_iff_exists.mpr
      exact ⟨xs[k], List.getElem_mem hk, by simpa using g3⟩
    refine ⟨ys ++ List.replicate (N - ys.length) 0, ?_, by simp; omega, by simp⟩
    refine v_slices_DeleteFunc_int64_int64 (by simp [i_slices_DeleteFunc_int64_int64]) ?_
    rw [fbody_eq]
    have hcl := vclear_ints (nro := nro) (h := h.set b0 ⟨1, ints r'⟩) (b0 := b0) (off := ys.length) (n := N - ys.length) (N := N) (hget_set0 hb _) hrl hn (by omega) (by omega)
    rw [hlow, List.drop_eq_nil_of_le (by omega), List.append_nil, List.set_set] at hcl
    have hk1 : ¬ (k : Int) = -1 := by omega
    have hnk : ¬ N ≤ ys.length := by omega
    have hk3 : (k : Int) ≤ 1000 := by omega
    clear hf hf0 hfv hlow l2 f1 f2 g1 g2 g3 g4 hys hN hxN hsl
    simp (disch := first | assumption | omega | (simp [*] <;> omega) | fail) [i_slices_DeleteFunc_int64_int64, h1, hk1, wrap64, l1, hget_set0 hb, hrl, hcl, hnk, hn, ho, hM]

theorem sli_part {h : VH} {b N : Nat} {r ys : List Int} (hb : h[b]? = some ⟨1, ints r⟩) (hr : r.length = N) (hy : r.take ys.length = ys) (hle : ys.length ≤ N) : Sli h (.slice (some ⟨b, 0, none⟩) ys.length N) ys := by
  have e : List.take ys.length (ints r) = ints ys := by
    conv => rhs; rw [← hy]
    unfold ints
    rw [List.map_take]
  unfold Sli Sl
  rw [vsrc_ref]
  dsimp only
  rw [hb]
  dsimp only
  rw [if_pos ⟨rfl, by rw [ints_length, hr], by omega⟩, Nat.mul_one, List.drop_zero, e, ints_length]

theorem c_impl_Graph_without_1 (x v : Int) (b : Nat) (h : VH) (hb : h[b]? = some ⟨0, [.int .i64 v]⟩) : vcall F nro k_impl_Graph_without_1 [.int .i64 x, .pointer (some ⟨b, 0, some 1⟩)] h = some (.bool (decide (x = v)), h) := by
  refine v_impl_Graph_without_1 (by simp [i_impl_Graph_without_1]) ?_
  rw [fbody_eq]
  simp (disch := first | assumption | omega | (simp [*] <;> omega) | fail) [i_impl_Graph_without_1, hb]

theorem c_impl_Graph_without (N : Nat) (v : Int) (s : Value) (rows : List Int) (h : VH) (hs : Sli h s rows) (hn : nro ≤ h.length) (g : GV N rows) :
    vcall F nro k_impl_Graph_without [gv N s, .int .i64 v] h = some (gv (wo v N).length (.slice (some ⟨h.length, 0, none⟩) (wo v N).length (wo v N).length), h ++ [⟨1, ints (onRows rows (wo v N))⟩]) := by
  have hn' := fun k => Nat.le_trans hn (Nat.le_add_right h.length k)
  have h1 := g.hi
  have hwl := wo_len v N
  have hc := c_impl_counting (nro := nro) N (h ++ [⟨0, [.int .i64 N, s]⟩, ⟨0, [.int .i64 v]⟩, ⟨0, [.int .i64 0, .slice none 0 0]⟩]) (by simp; omega) (by omega)
  obtain ⟨r', d1, d2, d3⟩ := c_slices_DeleteFunc (nro := nro) (h.length + 3) N (.func (.func k_impl_Graph_without_1) #[] #[.pointer (some ⟨h.length + 1, 0, some 1⟩)]) k_impl_Graph_without_1 [.pointer (some ⟨h.length + 1, 0, some 1⟩)] (rng N) (fun x => x = v)
    (h ++ [⟨0, [.int .i64 N, s]⟩, ⟨0, [.int .i64 v]⟩, ⟨0, [.int .i64 0, .slice none 0 0]⟩, ⟨1, ints (rng N)⟩]) (by simp) (by simp) (by omega) (by omega) rfl (by intro r hr; simp [trefs, vrefs, crefs, arefs] at hr ⊢; omega) (fun r x => by
      rw [c_impl_Graph_without_1 x v (h.length + 1) _ (by simp)]
      by_cases e : x = v <;> simp [e])
  have hf : ∀ inst : DecidablePred (fun x : Int => x = v), ((rng N).filter fun x => !@decide (x = v) (inst x)) = wo v N := by
    intro inst
    unfold wo
    apply List.filter_congr
    intro x _
    by_cases e : x = v <;> simp [e]
  have hf' := hf (fun x => Classical.propDecidable (x = v))
  rw [hf'] at d1 d3
  have ho := c_impl_Graph_partOn (nro := nro) N s (.slice (some ⟨h.length + 3, 0, none⟩) (wo v N).length N) rows (wo v N) (h ++ [⟨0, [.int .i64 N, s]⟩, ⟨0, [.int .i64 v]⟩, ⟨0, [.int .i64 0, .slice none 0 0]⟩, ⟨1, ints r'⟩]) (hs.app _) (sli_part (by simp) d2 d3 hwl) (by simp; omega) g (wo_in v N) (by omega)
  refine v_impl_Graph_without (by simp [i_impl_Graph_without]) ?_
  rw [fbody_eq]
  obtain ⟨ys, hys⟩ : ∃ ys, ys = wo v N := ⟨_, rfl⟩
  rw [← hys] at d1 ho ⊢
  clear hys hwl d3 d2 hf hf'
  simp at hc d1 ho
  simp (disch := first | assumption | omega | (simp [*] <;> omega) | fail) [i_impl_Graph_without, hc, d1, ho, hn', isAtom, fresults, fresL, fres1]

/-! ### TakeVertex -/
open Classical in
noncomputable def takeVAns (n : Int) (rows : List Int) (v : Int) : GAns :=
  if vtxCode n rows [v] ≠ 0 then .inr (vtxCode n rows [v]) else if n = 1 then .inr 3 else .inl (((wo v n.toNat).length : Int), onRows rows (wo v n.toNat))

theorem c_spec_l09Told (n : Int) (h : VH) : vcall F nro k_spec_l09Told [.int .i64 n] h = some (.int .i64 (if 1 ≤ n ∧ n ≤ 62 then 0 else 3), h) := by
  refine v_spec_l09Told (by simp [i_spec_l09Told]) ?_
  rw [fbody_eq]
  have hc := c_spec_l01In (nro := nro) n 1 62 h
  by_cases g : 1 ≤ n ∧ n ≤ 62
  · rw [decide_eq_true g] at hc
    rw [if_pos g]
    simp (disch := first | assumption | omega | (simp [*] <;> omega) | fail) [i_spec_l09Told, hc]
  · rw [decide_eq_false g] at hc
    rw [if_neg g]
    simp (disch := first | assumption | omega | (simp [*] <;> omega) | fail) [i_spec_l09Told, hc]

theorem c_spec_TakeVertex (n v : Int) (s : Value) (rows : List Int) (h : VH) (hs : Sli h s rows) (hn : nro ≤ h.length) :
    vcall F nro k_spec_TakeVertex [gv n s, .int .i64 v] h = some (gres h (takeVAns n rows v)) := by
  have hn' := fun k => Nat.le_trans hn (Nat.le_add_right h.length k)
  have hc := c_spec_l01Vertices (nro := nro) n s (.slice (some ⟨h.length + 2, 0, none⟩) 1 1) rows [v] (h ++ [⟨0, [.int .i64 n, s]⟩, ⟨0, [.int .i64 0, .slice none 0 0]⟩, ⟨1, ints [v]⟩]) (hs.app _) (sli_at (xs := [v]) (by simp)) (by simp)
  simp only [ints_cons, ints_nil] at hc
  refine v_spec_TakeVertex (by simp [i_spec_TakeVertex]) ?_
  rw [fbody_eq]
  by_cases hz : vtxCode n rows [v] = 0
  · obtain ⟨g, hb⟩ := vtx_zero hz
    have g0 := g.lo
    have g1 := g.hi
    rw [hz] at hc
    by_cases h1 : n = 1
    · have e : takeVAns n rows v = .inr 3 := by unfold takeVAns; rw [if_neg (fun h => h hz), if_pos h1]
      have ht := fun L => c_spec_l09Told (nro := nro) 0 (h ++ L)
      rw [if_neg (by omega)] at ht
      subst h1
      simp (disch := first | assumption | omega | (simp [*] <;> omega) | fail) [i_spec_TakeVertex, hc, ht, e, wrap64, fresults, fresL, fres1, hn', hn]
    · have e : takeVAns n rows v = .inl (((wo v n.toNat).length : Int), onRows rows (wo v n.toNat)) := by unfold takeVAns; rw [if_neg (fun h => h hz), if_neg h1]
      obtain ⟨N, rfl⟩ : ∃ N : Nat, n = N := ⟨n.toNat, by omega⟩
      have ht := fun L => c_spec_l09Told (nro := nro) ((N : Int) - 1) (h ++ L)
      rw [if_pos (by omega)] at ht
      have ho := c_spec_l09Without (nro := nro) N v s rows (h ++ [⟨0, [.int .i64 N, s]⟩, ⟨0, [.int .i64 0, .slice none 0 0]⟩, ⟨1, ints [v]⟩]) (hs.app _) (by simp; omega) g
      have hal : (onRows rows (wo v N)).length = (wo v N).length := (c_spec_l01On (nro := 0) N s (.slice (some ⟨h.length, 0, none⟩) (wo v N).length (wo v N).length) rows (wo v N) (h ++ [⟨1, ints (wo v N)⟩]) (hs.app _) (sli_at (by simp)) (by omega) g (wo_in v N) (by have := wo_len v N; omega)).2.1
      rw [Int.toNat_natCast] at e
      obtain ⟨ys, hys⟩ : ∃ ys, ys = wo v N := ⟨_, rfl⟩
      rw [← hys] at e ho hal
      clear hys
      simp at ho
      simp (disch := first | assumption | omega | (simp [*] <;> omega) | fail) [i_spec_TakeVertex, hc, ht, ho, e, hal, wrap64, fresults, fresL, fres1, hn', hn]
  · have e : takeVAns n rows v = .inr (vtxCode n rows [v]) := by unfold takeVAns; rw [if_pos hz]
    simp (disch := first | assumption | omega | (simp [*] <;> omega) | fail) [i_spec_TakeVertex, hc, hz, e, fresults, fresL, fres1, hn', hn]

theorem c_impl_TakeVertex (n v : Int) (s : Value) (rows : List Int) (h : VH) (hs : Sli h s rows) (hn : nro ≤ h.length) :
    vcall F nro k_impl_TakeVertex [gv n s, .int .i64 v] h = some (gres h (takeVAns n rows v)) := by
  have hn' := fun k => Nat.le_trans hn (Nat.le_add_right h.length k)
  have hc := c_impl_graphCode (nro := nro) n s (.slice (some ⟨h.length + 2, 0, none⟩) 1 1) rows [v] (h ++ [⟨0, [.int .i64 n, s]⟩, ⟨0, [.int .i64 0, .slice none 0 0]⟩, ⟨1, ints [v]⟩]) (hs.app _) (sli_at (xs := [v]) (by simp)) (by simp)
  simp only [ints_cons, ints_nil] at hc
  refine v_impl_TakeVertex (by simp [i_impl_TakeVertex]) ?_
  rw [fbody_eq]
  by_cases hz : vtxCode n rows [v] = 0
  · obtain ⟨g, hb⟩ := vtx_zero hz
    have g0 := g.lo
    have g1 := g.hi
    rw [hz] at hc
    by_cases h1 : n = 1
    · have e : takeVAns n rows v = .inr 3 := by unfold takeVAns; rw [if_neg (fun h => h hz), if_pos h1]
      subst h1
      simp (disch := first | assumption | omega | (simp [*] <;> omega) | fail) [i_impl_TakeVertex, hc, e, wrap64, fresults, fresL, fres1, hn', hn]
    · have e : takeVAns n rows v = .inl (((wo v n.toNat).length : Int), onRows rows (wo v n.toNat)) := by unfold takeVAns; rw [if_neg (fun h => h hz), if_neg h1]
      obtain ⟨N, rfl⟩ : ∃ N : Nat, n = N := ⟨n.toNat, by omega⟩
      have ho := c_impl_Graph_without (nro := nro) N v s rows (h ++ [⟨0, [.int .i64 N, s]⟩, ⟨0, [.int .i64 0, .slice none 0 0]⟩, ⟨1, ints [v]⟩]) (hs.app _) (by simp; omega) g
      have hal : (onRows rows (wo v N)).length = (wo v N).length := (c_spec_l01On (nro := 0) N s (.slice (some ⟨h.length, 0, none⟩) (wo v N).length (wo v N).length) rows (wo v N) (h ++ [⟨1, ints (wo v N)⟩]) (hs.app _) (sli_at (by simp)) (by omega) g (wo_in v N) (by have := wo_len v N; omega)).2.1
      rw [Int.toNat_natCast] at e
      have h1' : ¬ N = 1 := by omega
      obtain ⟨ys, hys⟩ : ∃ ys, ys = wo v N := ⟨_, rfl⟩
      rw [← hys] at e ho hal
      clear hys
      simp at ho
      simp (disch := first | assumption | omega | (simp [*] <;> omega) | fail) [i_impl_TakeVertex, hc, h1, h1', ho, e, hal, wrap64, fresults, fresL, fres1, hn', hn]
  · have e : takeVAns n rows v = .inr (vtxCode n rows [v]) := by unfold takeVAns; rw [if_pos hz]
    simp (disch := first | assumption | omega | (simp [*] <;> omega) | fail) [i_impl_TakeVertex, hc, hz, e, fresults, fresL, fres1, hn', hn]

theorem takeVAns_len {n : Int} {rows : List Int} {v m : Int} {r : List Int} (e : takeVAns n rows v = .inl (m, r)) : r.length ≤ 62 := by
  unfold takeVAns at e
  split at e
  · cases e
  · rename_i hz
    obtain ⟨g, _⟩ := vtx_zero (Classical.not_not.mp hz)
    have g1 := g.hi
    split at e
    · cases e
    · cases e
      have hl := wo_len v n.toNat
      have : IsAdj (wo v n.toNat).length (onRows rows (wo v n.toNat)) (fun x y => onAdj rows (wo v n.toNat) x y ∧ x ≠ y) := adjRows_is (by
        rintro v w hv ⟨⟨_, h3, _⟩, _⟩
        omega)
      rw [this.1]
      omega

theorem r_spec_TakeVertex (n v : Int) (s : Value) (h : VH) (hs : isSli h s) (hn : nro ≤ h.length) : vcall F nro k_spec_TakeVertex [gv n s, .int .i64 v] h = some (gres h (takeVAns n (rd h s) v)) := c_spec_TakeVertex n v s _ h hs.sli hn
theorem r_impl_TakeVertex (n v : Int) (s : Value) (h : VH) (hs : isSli h s) (hn : nro ≤ h.length) : vcall F nro k_impl_TakeVertex [gv n s, .int .i64 v] h = some (gres h (takeVAns n (rd h s) v)) := c_impl_TakeVertex n v s _ h hs.sli hn

theorem law_TakeVertex (n : Int) (s : Value) (rows : List Int) (a : Int) (h : VH) (hs : Sli h s rows) (h3 : rows.length ≤ 9223372036854775807) (_ : -9223372036854775808 ≤ a) (_ : a ≤ 9223372036854775807) (hn : nro ≤ h.length) :
    vcall F nro k_laws_FnExactTakeVertex [gv n s, .int .i64 a] h = some (.bool true, h) := by
  refine v_laws_FnExactTakeVertex (by simp [i_laws_FnExactTakeVertex]) ?_
  rw [fbody_eq]
  have hc1 := c_laws_szGraph (nro := nro) n s rows 1048576 (bx h n s) (hs.app _) (by omega) (by omega) h3
  by_cases hr : 1048576 < (rows.length : Int)
  · rw [if_pos hr] at hc1
    simp (disch := first | assumption | omega | (simp [*] <;> omega) | fail) [i_laws_FnExactTakeVertex, hc1]
  · rw [if_neg hr] at hc1
    have hr2 : ¬ (1048576 - (rows.length : Int) < 0) := by omega
    have h5 : rows.length ≤ 1048576 := by omega
    have p1 : ∀ k : Nat, (0 : Int) ≤ 1 + k := fun k => by omega
    have p2 : ∀ k : Nat, ¬ (1 + k : Int) < 0 := fun k => by omega
    have hn' := fun k => Nat.le_trans hn (Nat.le_add_right h.length k)
    have hsi := fun L => hs.is' (L := L)
    have hsr := fun L => hs.rd' (L := L)
    clear hs
    cases hp : takeVAns n rows a with
    | inl q =>
      obtain ⟨m, r⟩ := q
      have hl := takeVAns_len hp
      simp (disch := first | assumption | omega | (simp [*] <;> omega) | fail) [i_laws_FnExactTakeVertex, hc1, hr2, r_laws_toGraph, r_spec_TakeVertex, r_impl_TakeVertex, r_laws_eqGraph, r_laws_markGraph, r_laws_heldGraph, hp, hsi, hsr, hn', hn, h5, hl, p1, p2]
    | inr c =>
      simp (disch := first | assumption | omega | (simp [*] <;> omega) | fail) [i_laws_FnExactTakeVertex, hc1, hr2, r_laws_toGraph, r_spec_TakeVertex, r_impl_TakeVertex, r_laws_eqGraph, r_laws_markGraph, r_laws_markGraph_nil, r_laws_heldGraph, hp, hsi, hsr, hn', hn, h5, p1, p2]
end Go.Proofs.Ytcpmodengmffjaa.Zv
