/- Part F of the proof: ZwFirst2, ZwLawFirst, ZwDraw, ZwDraw2, ZwDraw3, ZwGiven, ZwReg, ZwLawFn7. Conditions: none. -/
import Derived.Test.YthpgiimaadohcaaDoorZpD
import Derived.Test.YthpgiimaadohcaaDoorZpE
set_option linter.unusedSimpArgs false
set_option linter.unusedVariables false
/- The first cage graph: the program. -/
namespace Go.Proofs.YthpgiimaadohcaaDoor.Zv
open Go
variable {nro : Nat}

attribute [simp] isAtom
@[simp] theorem vcells_func (f : Fn) (a b : Array Value) : vcells (.func f a b) = [.func f a b] := rfl
@[simp] theorem vcells_nilFunc : vcells .nilFunc = [.nilFunc] := rfl

set_option maxHeartbeats 4000000 in
theorem c_impl_firstRegular (n : Nat) (k c : Int) (h : VH) (hk : kcB k c = true) (h1 : 1 ≤ n) (h2 : n ≤ 10) (hn : nro ≤ h.length) :
    vcall F nro k_impl_firstRegular [.int .i64 n, .int .i64 k, .int .i64 c] h = some (if prI n k c then (.tuple #[gv 0 (.slice none 0 0), .bool false], h) else (.tuple #[gv n (.slice (some ⟨h.length, 0, none⟩) n n), .bool (fR n k c).isSome], h ++ [⟨1, ints (lefto (List.replicate n 0) (fR n k c))⟩])) := by
  have hkc : (1 ≤ k ∧ k ≤ 6) ∧ 3 ≤ c ∧ c ≤ 12 := by simpa [kcB] using hk
  have hn' := fun k => Nat.le_trans hn (Nat.le_add_right h.length k)
  refine v_impl_firstRegular (by simp [i_impl_firstRegular]) ?_
  rw [fbody_eq]
  have b1 : 0 ≤ (n : Int) * k := Int.mul_nonneg (by omega) (by omega)
  have b2 : (n : Int) * k ≤ 10 * 6 := Int.mul_le_mul (by omega) (by omega) (by omega) (by omega)
  obtain ⟨m, hm⟩ : ∃ m, m = (n : Int) * k := ⟨_, rfl⟩
  have w1 : IntKind.i64.wrap ((n : Int) * k) = m := by rw [wrap64 (by omega) (by omega), hm]
  have t1 : m.tmod 2 = m % 2 := Int.tmod_eq_emod_of_nonneg (by omega)
  have w2 : IntKind.i64.wrap (m % 2) = m % 2 := wrap64 (by omega) (by omega)
  have hB := fun L => c_impl_girthBound (nro := nro) k c.toNat (h ++ L) (by omega) (by omega) (by omega) (by omega)
  rw [show ((c.toNat : Nat) : Int) = c by omega] at hB
  rw [fR_impl hk h1 h2]
  by_cases hp : prI n k c
  · rw [if_pos hp]
    unfold prI at hp
    obtain ⟨G, hG⟩ : ∃ G, G = gB k c.toNat := ⟨_, rfl⟩
    rw [← hG] at hB hp
    rw [← hm] at hp
    clear hm hG b1 b2
    by_cases hq : m % 2 = 0
    · by_cases hr : (n : Int) ≤ k
      · clear hp
        simp (disch := first | assumption | omega | (simp [*] <;> omega) | fail) [i_impl_firstRegular, w1, w2, t1, hr, hq, hB, fresults, fresL, fres1, hn', hn]
      · obtain ⟨hp1, hp2⟩ : 2 ≤ k ∧ n < G := by
          rcases hp with h | h | h
          · exact absurd hq h
          · exact absurd h hr
          · exact h
        simp (disch := first | assumption | omega | (simp [*] <;> omega) | fail) [i_impl_firstRegular, w1, w2, t1, hp1, hp2, hr, hq, hB, fresults, fresL, fres1, hn', hn]
    · clear hp
      simp (disch := first | assumption | omega | (simp [*] <;> omega) | fail) [i_impl_firstRegular, w1, w2, t1, hq, fresults, fresL, fres1, hn', hn]
  · rw [if_neg hp, if_neg hp]
    have hq : (n : Int) * k % 2 = 0 := Classical.byContradiction fun e => hp (.inl e)
    have hr : ¬ (n : Int) ≤ k := fun e => hp (.inr (.inl e))
    have hs : 2 ≤ k → ¬ (n : Int) < gB k c.toNat := fun e1 e2 => hp (.inr (.inr ⟨e1, e2⟩))
    obtain ⟨G, hG⟩ : ∃ G, G = gB k c.toNat := ⟨_, rfl⟩
    rw [← hG] at hB hs
    have he := c_impl_empty (nro := nro) n (h ++ [⟨0, [.int .i64 n]⟩, ⟨0, [.int .i64 k]⟩, ⟨0, [.int .i64 c]⟩, ⟨0, [.int .i64 0, .slice none 0 0]⟩]) (by omega) (by omega) (by simp; omega)
    rw [Int.toNat_natCast] at he
    have hsr := c_impl_firstRegular_1 (nro := nro) n k c (h.length + 4) h.length (h.length + 5) (h.length + 1) (h.length + 6) (h.length + 2) h2 (by omega) (List.replicate n 0) 0 1 (h ++ [⟨0, [.int .i64 n]⟩, ⟨0, [.int .i64 k]⟩, ⟨0, [.int .i64 c]⟩, ⟨0, [.int .i64 0, .slice none 0 0]⟩, ⟨1, ints (List.replicate n 0)⟩, ⟨0, [.int .i64 n, .slice (some ⟨h.length + 4, 0, none⟩) n n]⟩, ⟨0, [fvS h.length (h.length + 5) (h.length + 1) (h.length + 6) (h.length + 2)]⟩])
      ⟨by simp, by simp, by simp, by simp, by simp⟩ (GV.zero h1 (by omega)) (by omega) (by omega) (by omega) (by simp)
    have hln : (lefto (List.replicate n 0) (srch n k c (List.replicate n 0) 0 1)).length = n := by
      cases ho : srch n k c (List.replicate n 0) 0 1 with
      | none => simp
      | some r => exact (srch_ok n k c _ 0 1 (GV.zero h1 (by omega)) (by omega) (by omega) (by omega) (fits_zero h1 (by omega) (by omega)) (fun u hu => by omega) r ho).1.rok.len
    obtain ⟨o, ho⟩ : ∃ o, o = srch n k c (List.replicate n 0) 0 1 := ⟨_, rfl⟩
    rw [← ho] at hsr hln ⊢
    rw [← hm] at hq
    clear b1 b2
    obtain ⟨q, hq2⟩ : ∃ q, q = lefto (List.replicate n 0) o := ⟨_, rfl⟩
    rw [← hq2] at hsr hln ⊢
    clear hm ho hp hq2 hG
    unfold fvS at hsr
    simp [-List.reduceReplicate] at hsr he
    by_cases hk1 : 2 ≤ k
    · have hs' := hs hk1
      simp (disch := first | assumption | omega | (simp [*] <;> omega) | fail) [i_impl_firstRegular, he, w1, w2, t1, hq, hr, hk1, hs', hB, hsr, hln, fresults, fresL, fres1, hn', hn]
    · clear hs
      simp (disch := first | assumption | omega | (simp [*] <;> omega) | fail) [i_impl_firstRegular, he, w1, w2, t1, hq, hr, hk1, hB, hsr, hln, fresults, fresL, fres1, hn', hn]
end Go.Proofs.YthpgiimaadohcaaDoor.Zv

/- The laws of FirstRegular and LeastVertices. -/
namespace Go.Proofs.YthpgiimaadohcaaDoor.Zv
open Go
variable {nro : Nat}

/-- What the function answers. -/
noncomputable def firstAns (n k c : Int) : GAns := if (1 ≤ n ∧ n ≤ 10) ∧ kcB k c = true then (match fR n.toNat k c with
  | some r => .inl (n, r)
  | none => .inr 4) else .inr 2

theorem c_spec_FirstRegular (n k c : Int) (h : VH) (hn : nro ≤ h.length) : vcall F nro k_spec_FirstRegular [.int .i64 n, .int .i64 k, .int .i64 c] h = some (gres h (firstAns n k c)) := by
  have hn' := fun k => Nat.le_trans hn (Nat.le_add_right h.length k)
  refine v_spec_FirstRegular (by simp [i_spec_FirstRegular]) ?_
  rw [fbody_eq]
  have h1 := fun L => c_spec_l01In (nro := nro) n 1 10 (h ++ L)
  have h2 := fun L => c_spec_l07Numbers (nro := nro) k c (h ++ L)
  unfold firstAns
  by_cases g : 1 ≤ n ∧ n ≤ 10
  · rw [decide_eq_true g] at h1
    by_cases g2 : kcB k c = true
    · rw [if_pos ⟨g, g2⟩]
      obtain ⟨N, rfl⟩ : ∃ N : Nat, n = N := ⟨n.toNat, by omega⟩
      have h3 := c_spec_l07First (nro := nro) N k c (h ++ [⟨0, [.int .i64 0, .slice none 0 0]⟩]) g2 (by omega) (by omega) (by simp; omega)
      rw [g2] at h2
      rw [Int.toNat_natCast]
      cases hf : fR N k c with
      | some r =>
        have hl := (fR_len g2 (by omega) (by omega) hf).1.rok.len
        rw [hf] at h3
        simp [-List.reduceReplicate] at h3
        simp (disch := first | assumption | omega | (simp [*] <;> omega) | fail) [i_spec_FirstRegular, h1, h2, h3, hl, fresults, fresL, fres1, hn', hn]
      | none =>
        rw [hf] at h3
        simp [-List.reduceReplicate] at h3
        simp (disch := first | assumption | omega | (simp [*] <;> omega) | fail) [i_spec_FirstRegular, h1, h2, h3, fresults, fresL, fres1, hn', hn]
    · rw [if_neg (fun h => g2 h.2)]
      have g3 : kcB k c = false := by simpa using g2
      rw [g3] at h2
      simp (disch := first | assumption | omega | (simp [*] <;> omega) | fail) [i_spec_FirstRegular, h1, h2, fresults, fresL, fres1, hn', hn]
  · rw [decide_eq_false g] at h1
    rw [if_neg (fun h => g h.1)]
    simp (disch := first | assumption | omega | (simp [*] <;> omega) | fail) [i_spec_FirstRegular, h1, fresults, fresL, fres1, hn', hn]

theorem c_impl_FirstRegular (n k c : Int) (h : VH) (hn : nro ≤ h.length) : vcall F nro k_impl_FirstRegular [.int .i64 n, .int .i64 k, .int .i64 c] h = some (gres h (firstAns n k c)) := by
  have hn' := fun k => Nat.le_trans hn (Nat.le_add_right h.length k)
  refine v_impl_FirstRegular (by simp [i_impl_FirstRegular]) ?_
  rw [fbody_eq]
  have h2 := fun L => c_impl_isBoth (nro := nro) k c (h ++ L)
  unfold firstAns
  by_cases g : 1 ≤ n ∧ n ≤ 10
  · have ga : ¬ n < 1 := by omega
    have gb : ¬ 10 < n := by omega
    by_cases g2 : kcB k c = true
    · rw [if_pos ⟨g, g2⟩]
      obtain ⟨N, rfl⟩ : ∃ N : Nat, n = N := ⟨n.toNat, by omega⟩
      have h3 := c_impl_firstRegular (nro := nro) N k c (h ++ [⟨0, [.int .i64 0, .slice none 0 0]⟩]) g2 (by omega) (by omega) (by simp; omega)
      have e := fR_impl g2 (n := N) (by omega) (by omega)
      rw [g2] at h2
      rw [Int.toNat_natCast]
      by_cases hp : prI N k c
      · rw [if_pos hp] at h3 e
        rw [e]
        simp (disch := first | assumption | omega | (simp [*] <;> omega) | fail) [i_impl_FirstRegular, ga, gb, h2, h3, fresults, fresL, fres1, hn', hn]
      · rw [if_neg hp] at h3
        cases hf : fR N k c with
        | some r =>
          have hl := (fR_len g2 (by omega) (by omega) hf).1.rok.len
          rw [hf] at h3
          simp [-List.reduceReplicate] at h3
          simp (disch := first | assumption | omega | (simp [*] <;> omega) | fail) [i_impl_FirstRegular, ga, gb, h2, h3, hl, fresults, fresL, fres1, hn', hn]
        | none =>
          rw [hf] at h3
          simp [-List.reduceReplicate] at h3
          simp (disch := first | assumption | omega | (simp [*] <;> omega) | fail) [i_impl_FirstRegular, ga, gb, h2, h3, fresults, fresL, fres1, hn', hn]
    · rw [if_neg (fun h => g2 h.2)]
      have g3 : kcB k c = false := by simpa using g2
      rw [g3] at h2
      simp (disch := first | assumption | omega | (simp [*] <;> omega) | fail) [i_impl_FirstRegular, ga, gb, h2, fresults, fresL, fres1, hn', hn]
  · rw [if_neg (fun h => g h.1)]
    by_cases ga : n < 1
    · simp (disch := first | assumption | omega | (simp [*] <;> omega) | fail) [i_impl_FirstRegular, ga, fresults, fresL, fres1, hn', hn]
    · have gb : 10 < n := by omega
      simp (disch := first | assumption | omega | (simp [*] <;> omega) | fail) [i_impl_FirstRegular, ga, gb, fresults, fresL, fres1, hn', hn]

/-! ### LeastVertices -/
noncomputable def leastF (k c : Int) (i : Nat) (_ : Unit) : Unit ⊕ (Nat × List Int) := match fR i k c with
  | some r => .inr (i, r)
  | none => .inl ()
noncomputable def leastR (k c : Int) : Unit ⊕ (Nat × List Int) := upE (leastF k c) 11 1 ()
def leastV : Unit ⊕ (Nat × List Int) → Int × Int
  | .inl _ => (0, 4)
  | .inr p => (p.1, 0)
noncomputable def leastAns (k c : Int) : Int × Int := if kcB k c = true then leastV (leastR k c) else (0, 2)
def leastX (h : VH) : Unit ⊕ (Nat × List Int) → Option (VX × FE × VH)
  | .inl _ => some (.exit 0, fl [], h)
  | .inr p => some (.ret, fl [(4, .int .i64 p.1), (5, .int .i64 0)], h ++ [⟨1, ints p.2⟩, ⟨0, [.int .i64 p.1, .slice (some ⟨h.length, 0, none⟩) p.1 p.1]⟩])
@[simp] theorem leastV_inl (x : Unit) : leastV (.inl x) = (0, 4) := rfl
@[simp] theorem leastV_inr (i : Nat) (r : List Int) : leastV (.inr (i, r)) = ((i : Int), 0) := rfl
@[simp] theorem leastX_inl (h : VH) (x : Unit) : leastX h (.inl x) = some (.exit 0, fl [], h) := rfl
@[simp] theorem leastX_inr (h : VH) (i : Nat) (r : List Int) : leastX h (.inr (i, r)) = some (.ret, fl [(4, .int .i64 i), (5, .int .i64 0)], h ++ [⟨1, ints r⟩, ⟨0, [.int .i64 i, .slice (some ⟨h.length, 0, none⟩) i i]⟩]) := rfl

theorem c_spec_LeastVertices (k c : Int) (h : VH) (hn : nro ≤ h.length) : vcall F nro k_spec_LeastVertices [.int .i64 k, .int .i64 c] h = some (.tuple #[.int .i64 (leastAns k c).1, .int .i64 (leastAns k c).2], h) := by
  have hn' := fun k => Nat.le_trans hn (Nat.le_add_right h.length k)
  refine v_spec_LeastVertices (by simp [i_spec_LeastVertices]) ?_
  rw [fbody_eq]
  have h2 := c_spec_l07Numbers (nro := nro) k c h
  unfold leastAns
  by_cases g2 : kcB k c = true
  · rw [if_pos g2]
    have lp : floop (vcall F nro) nro [0, 1, 6] i_spec_LeastVertices_B1 h [.int .i64 k, .int .i64 c, .int .i64 1] h = leastX h (leastR k c) := by
      refine (for_upE (call := vcall F nro) (nro := nro) (live := [0, 1, 6]) (c := i_spec_LeastVertices_B1) (h0 := h) (n := 11) (fun i (_ : Unit) => [.int .i64 k, .int .i64 c, .int .i64 i]) (fun _ _ => h) (leastF k c) (fun i _ => 1 ≤ i) (leastX h) ?_ ?_ 1 () (by omega) (by omega)).1
      · intro i _ hi _ hi1
        have hi10 : (i : Int) ≤ 10 := by omega
        have w1 : IntKind.i64.wrap ((i : Int) + 1) = (i : Int) + 1 := wrap64 (by omega) (by omega)
        have h3 := c_spec_l07First (nro := nro) i k c h g2 hi1 (by omega) hn
        unfold leastF
        cases hf : fR i k c with
        | none =>
          rw [hf] at h3
          simp [-List.reduceReplicate] at h3
          refine .inl ⟨(), by simp, by omega, ?_⟩
          rw [floop_at i_spec_LeastVertices_B1.eq_1]
          simp (disch := first | assumption | omega | (simp [*] <;> omega) | fail) [hi10, h3, w1, hn', hn]
        | some r =>
          rw [hf] at h3
          simp [-List.reduceReplicate] at h3
          refine .inr ⟨(i, r), by simp, ?_⟩
          rw [floop_at i_spec_LeastVertices_B1.eq_1]
          simp (disch := first | assumption | omega | (simp [*] <;> omega) | fail) [hi10, h3, hn', hn]
      · intro _ _
        rw [floop_at i_spec_LeastVertices_B1.eq_1]
        simp (disch := first | assumption | omega | (simp [*] <;> omega) | fail) [hn', hn]
    rw [g2] at h2
    cases hr : leastR k c with
    | inl x =>
      rw [hr] at lp
      simp (disch := first | assumption | omega | (simp [*] <;> omega) | fail) [i_spec_LeastVertices, h2, lp, fresults, fresL, fres1, hn', hn]
    | inr q =>
      obtain ⟨i, r⟩ := q
      rw [hr] at lp
      simp (disch := first | assumption | omega | (simp [*] <;> omega) | fail) [i_spec_LeastVertices, h2, lp, fresults, fresL, fres1, hn', hn]
  · rw [if_neg g2]
    have g3 : kcB k c = false := by simpa using g2
    rw [g3] at h2
    simp (disch := first | assumption | omega | (simp [*] <;> omega) | fail) [i_spec_LeastVertices, h2, fresults, fresL, fres1, hn', hn]

theorem c_impl_LeastVertices (k c : Int) (h : VH) (hn : nro ≤ h.length) : vcall F nro k_impl_LeastVertices [.int .i64 k, .int .i64 c] h = some (.tuple #[.int .i64 (leastAns k c).1, .int .i64 (leastAns k c).2], h) := by
  have hn' := fun k => Nat.le_trans hn (Nat.le_add_right h.length k)
  refine v_impl_LeastVertices (by simp [i_impl_LeastVertices]) ?_
  rw [fbody_eq]
  have h2 := c_impl_isBoth (nro := nro) k c h
  unfold leastAns
  by_cases g2 : kcB k c = true
  · rw [if_pos g2]
    have lp : floop (vcall F nro) nro [0, 1, 6] i_impl_LeastVertices_B1 h [.int .i64 k, .int .i64 c, .int .i64 1] h = leastX h (leastR k c) := by
      refine (for_upE (call := vcall F nro) (nro := nro) (live := [0, 1, 6]) (c := i_impl_LeastVertices_B1) (h0 := h) (n := 11) (fun i (_ : Unit) => [.int .i64 k, .int .i64 c, .int .i64 i]) (fun _ _ => h) (leastF k c) (fun i _ => 1 ≤ i) (leastX h) ?_ ?_ 1 () (by omega) (by omega)).1
      · intro i _ hi _ hi1
        have hi10 : (i : Int) ≤ 10 := by omega
        have w1 : IntKind.i64.wrap ((i : Int) + 1) = (i : Int) + 1 := wrap64 (by omega) (by omega)
        have h3 := c_impl_firstRegular (nro := nro) i k c h g2 hi1 (by omega) hn
        have e := fR_impl g2 (n := i) (by omega) (by omega)
        unfold leastF
        by_cases hp : prI i k c
        · rw [if_pos hp] at h3 e
          rw [e]
          refine .inl ⟨(), by simp, by omega, ?_⟩
          rw [floop_at i_impl_LeastVertices_B1.eq_1]
          simp (disch := first | assumption | omega | (simp [*] <;> omega) | fail) [hi10, h3, w1, hn', hn]
        · rw [if_neg hp] at h3
          clear e
          cases hf : fR i k c with
          | none =>
            rw [hf] at h3
            simp [-List.reduceReplicate] at h3
            refine .inl ⟨(), by simp, by omega, ?_⟩
            rw [floop_at i_impl_LeastVertices_B1.eq_1]
            simp (disch := first | assumption | omega | (simp [*] <;> omega) | fail) [hi10, h3, w1, hn', hn]
          | some r =>
            rw [hf] at h3
            simp [-List.reduceReplicate] at h3
            refine .inr ⟨(i, r), by simp, ?_⟩
            rw [floop_at i_impl_LeastVertices_B1.eq_1]
            simp (disch := first | assumption | omega | (simp [*] <;> omega) | fail) [hi10, h3, hn', hn]
      · intro _ _
        rw [floop_at i_impl_LeastVertices_B1.eq_1]
        simp (disch := first | assumption | omega | (simp [*] <;> omega) | fail) [hn', hn]
    rw [g2] at h2
    cases hr : leastR k c with
    | inl x =>
      rw [hr] at lp
      simp (disch := first | assumption | omega | (simp [*] <;> omega) | fail) [i_impl_LeastVertices, h2, lp, fresults, fresL, fres1, hn', hn]
    | inr q =>
      obtain ⟨i, r⟩ := q
      rw [hr] at lp
      simp (disch := first | assumption | omega | (simp [*] <;> omega) | fail) [i_impl_LeastVertices, h2, lp, fresults, fresL, fres1, hn', hn]
  · rw [if_neg g2]
    have g3 : kcB k c = false := by simpa using g2
    rw [g3] at h2
    simp (disch := first | assumption | omega | (simp [*] <;> omega) | fail) [i_impl_LeastVertices, h2, fresults, fresL, fres1, hn', hn]

end Go.Proofs.YthpgiimaadohcaaDoor.Zv

/- Draws: the source of a code, picks, the numbers of a cage. -/
namespace Go.Proofs.YthpgiimaadohcaaDoor.Zv
open Go
variable {nro : Nat}

theorem Sl.cells {h : VH} {cd : Value} {cs : List Value} (hs : Sl h cd cs) : vcells cd = [cd] := by
  rcases hs.inv with ⟨rfl, _⟩ | ⟨rfl, _⟩ | ⟨a, n, t, o, rfl, _⟩ <;> rfl
theorem Sl.junk {h : VH} {cd : Value} {cs : List Value} (hs : Sl h cd cs) : isJunk cd = false := by
  rcases hs.inv with ⟨rfl, _⟩ | ⟨rfl, _⟩ | ⟨a, n, t, o, rfl, _⟩ <;> rfl
theorem l_spec_l01From (h : VH) (cd : Value) (xs : List Int) (hs : Sl h cd (bys xs)) (hx : Code' xs) (hn : nro ≤ h.length) (g0 : Int) :
    ∃ g1, floop (vcall F nro) nro [0, 3, 4] i_spec_l01From_B1 (h ++ [⟨0, [cd, .int .i64 0, .int .u64 g0]⟩]) [cd, .pointer (some ⟨h.length, 0, some 3⟩), .int .i64 0] (h ++ [⟨0, [cd, .int .i64 0, .int .u64 g0]⟩]) =
      some (.exit 0, fl [(3, .pointer (some ⟨h.length, 0, some 3⟩))], h ++ [⟨0, [cd, .int .i64 0, .int .u64 g1]⟩]) := by
  have hn' := fun k => Nat.le_trans hn (Nat.le_add_right h.length k)
  have hl := hx.len
  have hco : ∀ k, OldC (h.length + k) cd := fun k r hr => Nat.lt_of_lt_of_le (hs.old r (crefs_sub hr)) (Nat.le_add_right _ _)
  have hol : ∀ k, Old (h.length + k) cd := fun k => hs.old.le (Nat.le_add_right _ _)
  have e1 := fun L => hs.vlen' (L := L)
  simp only [bys_length] at e1
  refine Exists.elim (for_upR (call := vcall F nro) (nro := nro) (live := [0, 3, 4]) (c := i_spec_l01From_B1) (h0 := h ++ [⟨0, [cd, .int .i64 0, .int .u64 g0]⟩]) (n := min xs.length 4096) (fun i (_ : Int) => [cd, .pointer (some ⟨h.length, 0, some 3⟩), .int .i64 i]) (fun _ g => h ++ [⟨0, [cd, .int .i64 0, .int .u64 g]⟩])
    (fun _ _ => True) (fun g => some (.exit 0, fl [(3, .pointer (some ⟨h.length, 0, some 3⟩))], h ++ [⟨0, [cd, .int .i64 0, .int .u64 g]⟩])) ?_ ?_ 0 g0 (Nat.zero_le _) trivial) ?_
  · intro i g hi hi2 _
    have hi3 : (i : Int) < xs.length := by omega
    have hi4 : (i : Int) < 4096 := by omega
    have e2 := fun L => hs.vidx' (L := L) (k := .i64) (j := (i : Int)) (by omega) (by rw [bys_length]; omega)
    have e3 := fun L => hs.vload' (L := L) (j := i) (by rw [bys_length]; omega)
    simp only [bys_get] at e3
    obtain ⟨y, hy⟩ : ∃ y, y = xs.getD i 0 := ⟨_, rfl⟩
    rw [← hy] at e3
    have w1 : IntKind.i64.wrap ((i : Int) + 1) = (i : Int) + 1 := wrap64 (by omega) (by omega)
    refine ⟨IntKind.u64.wrap (IntKind.u64.wrap (IntKind.u64.wrap (g * 1099511628211) + IntKind.u64.wrap y) + 157), trivial, ?_⟩
    rw [floop_at i_spec_l01From_B1.eq_1]
    simp (disch := first | assumption | omega | (simp [*] <;> omega) | fail) [hi3, hi4, e1, e2, e3, w1, hn', hn, hco, hol]
  · intro g _
    rw [floop_at i_spec_l01From_B1.eq_1]
    by_cases hc : xs.length < 4096
    · have hm : min xs.length 4096 = xs.length := by omega
      rw [hm]
      simp (disch := first | assumption | omega | (simp [*] <;> omega) | fail) [e1, hn', hn, hco, hol]
    · have hm : min xs.length 4096 = 4096 := by omega
      rw [hm]
      simp (disch := first | assumption | omega | (simp [*] <;> omega) | fail) [e1, hn', hn, hco, hol]
  · rintro g1 ⟨_, hg⟩
    exact ⟨g1, hg⟩

/-- The source of a code. -/
theorem c_spec_l01From (h : VH) (cd : Value) (xs : List Int) (hs : Sl h cd (bys xs)) (hx : Code' xs) (hn : nro ≤ h.length) :
    ∃ s, SOK xs s ∧ vcall F nro k_spec_l01From [cd] h = some (.pointer (some ⟨h.length, 0, some 3⟩), h ++ [srcO cd s]) := by
  have hn' := fun k => Nat.le_trans hn (Nat.le_add_right h.length k)
  have hl := hx.len
  have e0 := hs.vlen
  simp only [bys_length] at e0
  obtain ⟨g1, lp⟩ := l_spec_l01From (nro := nro) h cd xs hs hx hn (IntKind.u64.wrap (13311 + IntKind.u64.wrap xs.length))
  refine ⟨⟨0, g1⟩, Nat.zero_le _, ?_⟩
  refine v_spec_l01From (by simp [i_spec_l01From]) ?_
  rw [fbody_eq]
  have hol : Old h.length cd := hs.old
  have hco : OldC h.length cd := fun r hr => hs.old r (crefs_sub hr)
  have hvc := hs.cells
  have hj := hs.junk
  unfold isJunk at hj
  have hcl : kclean h [.pointer (some ⟨h.length, 0, some 3⟩)] (h ++ [⟨0, [cd, .int .i64 0, .int .u64 g1]⟩]) = ([.pointer (some ⟨h.length, 0, some 3⟩)], h ++ [⟨0, [cd, .int .i64 0, .int .u64 g1]⟩]) := by
    rw [cleanup_one (k := 0) (o := srcO cd ⟨0, g1⟩) (by simp [trefs, vrefs, crefs, arefs]) (by simp [srcO]) (flatO_src hs.old _)]
    simp [tren, vren, cren, aren, renOf_one0, srcO]
  unfold srcO
  simp (disch := first | assumption | omega | (simp [*] <;> omega) | fail) [i_spec_l01From, hcl, hvc, hj, splice, e0, lp, hn', hn, hol, hco]
end Go.Proofs.YthpgiimaadohcaaDoor.Zv

/- Draws: picks in a heap, the numbers of a cage. -/
namespace Go.Proofs.YthpgiimaadohcaaDoor.Zv
open Go
variable {nro : Nat}
section
variable {H : VH} {b : Nat} {cd : Value} {xs : List Int} {s : SS} (S : Srce nro H b cd xs s)
include S
theorem Srce.pickA {s' : SS} (h : SOK xs s') (L : VH) (k m : Nat) (ys : List Int) (hk : L[k]? = some ⟨1, ints ys⟩) (hm : ys.length = m) (h0 : 1 ≤ m) (h1 : m ≤ 100) :
    vcall F nro k_spec_l01Pick [.pointer (some ⟨b, 0, some 3⟩), .slice (some ⟨H.length + k, 0, none⟩) m m] (H.set b (srcO cd s') ++ L) = some (.int .i64 (ys.getD (srcN xs s' m).toNat 0), H.set b (srcO cd (srcS xs s' m)) ++ L) := by
  have hlt := S.lt
  have hq : ∀ o, Sli ((H.set b (srcO cd s') ++ L).set b o) (.slice (some ⟨H.length + k, 0, none⟩) m m) ys := fun o => by
    have e : ((H.set b (srcO cd s') ++ L).set b o)[H.length + k]? = some ⟨1, ints ys⟩ := by
      rw [List.set_append_left _ _ (by simpa using hlt), List.getElem?_append_right (by simp)]
      simpa using hk
    have := sli_at e
    rwa [hm] at this
  have := (S.set h L).pick _ ys hq (by omega) (by omega)
  rw [hm] at this
  rw [this, List.set_append_left _ _ (by simpa using hlt), List.set_set]
theorem Srce.pickZ {s' : SS} (h : SOK xs s') (L : VH) (m : Nat) (ys : List Int) (hm : ys.length = m) (h0 : 1 ≤ m) (h1 : m ≤ 100) :
    vcall F nro k_spec_l01Pick [.pointer (some ⟨b, 0, some 3⟩), .slice (some ⟨H.length, 0, none⟩) m m] (H.set b (srcO cd s') ++ ⟨1, ints ys⟩ :: L) = some (.int .i64 (ys.getD (srcN xs s' m).toNat 0), H.set b (srcO cd (srcS xs s' m)) ++ ⟨1, ints ys⟩ :: L) :=
  S.pickA h (⟨1, ints ys⟩ :: L) 0 m ys rfl hm h0 h1

theorem c_spec_l07DrawNumbers : ∃ k c s', SOK xs s' ∧ vcall F nro k_spec_l07DrawNumbers [.pointer (some ⟨b, 0, some 3⟩)] H = some (.tuple #[.int .i64 k, .int .i64 c], H.set b (srcO cd s')) := by
  have hlt := S.lt
  have hnb := S.nr
  have hn : nro ≤ H.length := by omega
  have hn' := fun k => Nat.le_trans hn (Nat.le_add_right H.length k)
  have k1 := srcS_ok S.ok 6
  have e1 := S.next 6 (by omega)
  obtain ⟨a1, a2, _⟩ := srcN_ok S.code s 6
  have a3 := a2 (by omega)
  obtain ⟨x1, hx1⟩ : ∃ x, x = srcN xs s 6 := ⟨_, rfl⟩
  rw [← hx1] at e1 a1 a3
  have k2 := srcS_ok k1 ((9 : Nat) : Int)
  have e2 := S.pickZ k1 [] 9 [3, 3, 4, 5, 5, 6, 7, 8, 12] rfl (by omega) (by omega)
  obtain ⟨x2, hx2⟩ : ∃ x, x = [3, 3, 4, 5, 5, 6, 7, 8, 12].getD (srcN xs (srcS xs s 6) ((9 : Nat) : Int)).toNat (0 : Int) := ⟨_, rfl⟩
  rw [← hx2] at e2
  have k3 := srcS_ok k2 24
  have e3 := S.nextA k2 [⟨1, ints [3, 3, 4, 5, 5, 6, 7, 8, 12]⟩] 24 (by omega)
  obtain ⟨x3, hx3⟩ : ∃ x, x = srcN xs (srcS xs (srcS xs s 6) ((9 : Nat) : Int)) 24 := ⟨_, rfl⟩
  rw [← hx3] at e3
  obtain ⟨s1, hs1⟩ : ∃ q, q = srcS xs s 6 := ⟨_, rfl⟩
  rw [← hs1] at e1 e2 e3 k1 k2 k3
  obtain ⟨s2, hs2⟩ : ∃ q, q = srcS xs s1 ((9 : Nat) : Int) := ⟨_, rfl⟩
  rw [← hs2] at e2 e3 k2 k3
  obtain ⟨s3, hs3⟩ : ∃ q, q = srcS xs s2 24 := ⟨_, rfl⟩
  rw [← hs3] at e3 k3
  have k4 := srcS_ok k3 ((2 : Nat) : Int)
  have hc := fun {s' : SS} (L : VH) (vs : List Value) => S.clean (s' := s') (vs := vs) L
  have w1 : IntKind.i64.wrap (1 + x1) = 1 + x1 := wrap64 (by omega) (by omega)
  clear hx1 hx2 hs1 hs2 hs3
  by_cases c1 : x3 = 0
  · have e4 := S.pickA k3 [⟨1, ints [3, 3, 4, 5, 5, 6, 7, 8, 12]⟩, ⟨1, ints [0, 7]⟩] 1 2 [0, 7] rfl rfl (by omega) (by omega)
    obtain ⟨x4, hx4⟩ : ∃ x, x = [0, 7].getD (srcN xs s3 ((2 : Nat) : Int)).toNat (0 : Int) := ⟨_, rfl⟩
    rw [← hx4] at e4
    obtain ⟨s4, hs4⟩ : ∃ q, q = srcS xs s3 ((2 : Nat) : Int) := ⟨_, rfl⟩
    rw [← hs4] at e4 k4
    clear hx4 hs4
    refine ⟨x4, x2, s4, k4, ?_⟩
    refine v_spec_l07DrawNumbers (by simp [i_spec_l07DrawNumbers]) ?_
    rw [fbody_eq]
    simp [ints] at e2 e3 e4
    simp (disch := first | assumption | omega | (simp [*] <;> omega) | fail) [-getElem?_pos, List.getElem?_cons_zero, List.getElem?_cons_succ, i_spec_l07DrawNumbers, e1, e2, e3, e4, w1, c1, hc, hn, hn']
  · by_cases c2 : x3 = 1
    · have e4 := S.pickA k3 [⟨1, ints [3, 3, 4, 5, 5, 6, 7, 8, 12]⟩, ⟨1, ints [2, 13]⟩] 1 2 [2, 13] rfl rfl (by omega) (by omega)
      obtain ⟨x4, hx4⟩ : ∃ x, x = [2, 13].getD (srcN xs s3 ((2 : Nat) : Int)).toNat (0 : Int) := ⟨_, rfl⟩
      rw [← hx4] at e4
      obtain ⟨s4, hs4⟩ : ∃ q, q = srcS xs s3 ((2 : Nat) : Int) := ⟨_, rfl⟩
      rw [← hs4] at e4 k4
      clear hx4 hs4
      refine ⟨1 + x1, x4, s4, k4, ?_⟩
      refine v_spec_l07DrawNumbers (by simp [i_spec_l07DrawNumbers]) ?_
      rw [fbody_eq]
      simp [ints] at e2 e3 e4
      simp (disch := first | assumption | omega | (simp [*] <;> omega) | fail) [-getElem?_pos, List.getElem?_cons_zero, List.getElem?_cons_succ, i_spec_l07DrawNumbers, e1, e2, e3, e4, w1, c2, hc, hn, hn']
    · refine ⟨1 + x1, x2, s3, k3, ?_⟩
      refine v_spec_l07DrawNumbers (by simp [i_spec_l07DrawNumbers]) ?_
      rw [fbody_eq]
      simp [ints] at e2 e3
      simp (disch := first | assumption | omega | (simp [*] <;> omega) | fail) [-getElem?_pos, List.getElem?_cons_zero, List.getElem?_cons_succ, i_spec_l07DrawNumbers, e1, e2, e3, w1, c1, c2, hc, hn, hn']
end
end Go.Proofs.YthpgiimaadohcaaDoor.Zv

/- Draws of FirstRegular and LeastVertices. -/
namespace Go.Proofs.YthpgiimaadohcaaDoor.Zv
open Go
variable {nro : Nat}
@[simp] theorem old_tup3i (n : Nat) (k1 k2 k3 : IntKind) (a b c : Int) : Old n (.tuple #[.int k1 a, .int k2 b, .int k3 c]) := fun r hr => by simp [trefs, vrefs, crefs, arefs] at hr
section
variable {h : VH} {cd : Value} {xs : List Int} (hs : Sl h cd (bys xs)) (hx : Code' xs) (hn : nro ≤ h.length)
include hs hx hn
theorem srce_new {s : SS} (ho : SOK xs s) : Srce nro (h ++ [srcO cd s]) h.length cd xs s :=
  ⟨by simp, hn, hx, ho, fun o => by
    have : (h ++ [srcO cd s]).set h.length o = h ++ [o] := by simp
    rw [this]; exact hs.app _⟩

theorem c_spec_DrawLeastVertices : ∃ k c, vcall F nro k_spec_DrawLeastVertices [cd] h = some (.tuple #[.int .i64 k, .int .i64 c], h) := by
  have hn' := fun k => Nat.le_trans hn (Nat.le_add_right h.length k)
  obtain ⟨s, ho, e1⟩ := c_spec_l01From h cd xs hs hx hn
  obtain ⟨k, c, s', _, e2⟩ := c_spec_l07DrawNumbers (srce_new hs hx hn ho)
  refine ⟨k, c, ?_⟩
  refine v_spec_DrawLeastVertices (by simp [i_spec_DrawLeastVertices]) ?_
  rw [fbody_eq]
  simp at e2
  simp (disch := first | assumption | omega | (simp [*] <;> omega) | fail) [i_spec_DrawLeastVertices, e1, e2, hn, hn']

theorem c_spec_DrawFirstRegular : ∃ n k c, vcall F nro k_spec_DrawFirstRegular [cd] h = some (.tuple #[.int .i64 n, .int .i64 k, .int .i64 c], h) := by
  have hn' := fun k => Nat.le_trans hn (Nat.le_add_right h.length k)
  obtain ⟨s, ho, e1⟩ := c_spec_l01From h cd xs hs hx hn
  have S := srce_new hs hx hn ho
  obtain ⟨k, c, s1, o1, e2⟩ := c_spec_l07DrawNumbers S
  have e3 := S.next0 o1 10 (by omega)
  obtain ⟨a1, a2, _⟩ := srcN_ok hx s1 10
  have a3 := a2 (by omega)
  obtain ⟨x1, hx1⟩ : ∃ x, x = srcN xs s1 10 := ⟨_, rfl⟩
  rw [← hx1] at e3 a1 a3
  have o2 := srcS_ok o1 10
  obtain ⟨s2, hs2⟩ : ∃ q, q = srcS xs s1 10 := ⟨_, rfl⟩
  rw [← hs2] at e3 o2
  have w1 : IntKind.i64.wrap (1 + x1) = 1 + x1 := wrap64 (by omega) (by omega)
  obtain ⟨y, hy⟩ : ∃ y, y = 1 + x1 := ⟨_, rfl⟩
  rw [← hy] at w1
  have e4 := S.pickZ o2 [] 7 [y, y, y, y, y, 0, 11] rfl (by omega) (by omega)
  obtain ⟨x4, hx4⟩ : ∃ x, x = [y, y, y, y, y, 0, 11].getD (srcN xs s2 ((7 : Nat) : Int)).toNat (0 : Int) := ⟨_, rfl⟩
  rw [← hx4] at e4
  obtain ⟨s3, hs3⟩ : ∃ q, q = srcS xs s2 ((7 : Nat) : Int) := ⟨_, rfl⟩
  rw [← hs3] at e4
  have w2 : IntKind.i64.wrap (1 + x1) = y := by rw [hy]; exact wrap64 (by omega) (by omega)
  clear hx1 hs2 hx4 hs3 hy w1
  refine ⟨x4, k, c, ?_⟩
  refine v_spec_DrawFirstRegular (by simp [i_spec_DrawFirstRegular]) ?_
  rw [fbody_eq]
  simp at e2 e3
  simp [ints] at e4
  simp (disch := first | assumption | omega | (simp [*] <;> omega) | fail) [i_spec_DrawFirstRegular, e1, e2, e3, e4, w2, hn, hn']
end
end Go.Proofs.YthpgiimaadohcaaDoor.Zv

/- The code of a graph that has to fit k and c. -/
namespace Go.Proofs.YthpgiimaadohcaaDoor.Zv
open Go
variable {nro : Nat}

open Classical in
theorem c_impl_bothCode (n k c : Int) (s : Value) (rows : List Int) (h : VH) (hs : Sli h s rows) :
    vcall F nro k_impl_bothCode [gv n s, .int .i64 k, .int .i64 c] h = some (.int .i64 (if GV n rows then if kcB k c = true then 0 else 2 else 1), h) := by
  refine v_impl_bothCode (by simp [i_impl_bothCode]) ?_
  rw [fbody_eq]
  have h1 := c_impl_IsGraph (nro := nro) n s rows (bx h n s) (hs.app _)
  have h2 := c_impl_isBoth (nro := nro) k c (bx h n s)
  by_cases g : GV n rows
  · rw [if_pos g]
    simp only [g, decide_true] at h1
    by_cases g2 : kcB k c = true
    · rw [if_pos g2]
      rw [g2] at h2
      simp (disch := first | assumption | omega | (simp [*] <;> omega) | fail) [i_impl_bothCode, h1, h2]
    · rw [if_neg g2]
      have g2' : kcB k c = false := by simpa using g2
      rw [g2'] at h2
      simp (disch := first | assumption | omega | (simp [*] <;> omega) | fail) [i_impl_bothCode, h1, h2]
  · rw [if_neg g]
    simp only [g, decide_false] at h1
    simp (disch := first | assumption | omega | (simp [*] <;> omega) | fail) [i_impl_bothCode, h1]

end Go.Proofs.YthpgiimaadohcaaDoor.Zv

/- Regular graphs: degrees' least and greatest; lists alike; a cage graph fits. -/
namespace Go.Proofs.YthpgiimaadohcaaDoor.Zv
open Go
variable {nro : Nat}

def mnL (m : Int) : List Int → Int
  | [] => m
  | x :: l => mnL (if x < m then x else m) l
theorem l_slices_Min (h : VH) (s : Value) (xs : List Int) (hs : Sli h s xs) (hl : xs.length ≤ 1000) (k j : Nat) (hk : k = xs.length - j) (hj : j ≤ xs.length) (m : Int) :
    floop (vcall F nro) nro [0, 3, 4] i_slices_Min_int64_int64_B1 h [s, .int .i64 m, .int .i64 j] h = some (.exit 0, fl [(3, .int .i64 (mnL m (xs.drop j)))], h) := by
  have hso := hs.old
  rw [floop_at i_slices_Min_int64_int64_B1.eq_1]
  by_cases hlt : j < xs.length
  · have hlt' : (j : Int) < xs.length := by omega
    have vl := hs.vlen
    have vx := hs.vidx (k := .i64) (j := (j : Int)) (by omega) hlt'
    have vd := hs.vload hlt
    have ih := l_slices_Min h s xs hs hl (k - 1) (j + 1) (by omega) hlt (if xs[j] < m then xs[j] else m)
    rw [show ((j + 1 : Nat) : Int) = (j : Int) + 1 by omega] at ih
    rw [List.drop_eq_getElem_cons hlt, mnL]
    obtain ⟨x, hx⟩ : ∃ x, x = xs[j] := ⟨_, rfl⟩
    rw [← hx] at vd ih ⊢
    by_cases c1 : x < m
    · rw [if_pos c1] at ih ⊢
      simp (disch := first | assumption | omega | (simp [*] <;> omega) | fail) [wrap64, hlt', vl, vx, vd, ih, c1, vminmax, vminmaxL, vminmax2]
    · rw [if_neg c1] at ih ⊢
      simp (disch := first | assumption | omega | (simp [*] <;> omega) | fail) [wrap64, hlt', vl, vx, vd, ih, c1, vminmax, vminmaxL, vminmax2]
  · have hlt' : ¬ (j : Int) < xs.length := by omega
    have vl := hs.vlen
    rw [List.drop_eq_nil_of_le (by omega), mnL]
    simp (disch := first | assumption | omega | (simp [*] <;> omega) | fail) [hlt', vl]
 termination_by k
 decreasing_by omega

theorem c_slices_Min (s : Value) (x : Int) (xs : List Int) (h : VH) (hs : Sli h s (x :: xs)) (hl : xs.length ≤ 999) :
    vcall F nro k_slices_Min_int64_int64 [s] h = some (.int .i64 (mnL x xs), h) := by
  refine v_slices_Min_int64_int64 (by simp [i_slices_Min_int64_int64]) ?_
  rw [fbody_eq]
  have vl := hs.vlen
  have vx := hs.vidx (k := .i64) (j := 0) (by omega) (by simp)
  have vd := hs.vload (j := 0) (by simp)
  have lp := l_slices_Min (nro := nro) h s (x :: xs) hs (by simp; omega) xs.length 1 (by simp) (by simp) x
  rw [List.drop_succ_cons, List.drop_zero] at lp
  simp only [Int.natCast_one] at lp
  simp at vl vd
  have e : ¬ ((xs.length : Int) + 1 < 1) := by omega
  obtain ⟨q, hq⟩ : ∃ q, q = mnL x xs := ⟨_, rfl⟩
  rw [← hq] at lp ⊢
  clear hq
  simp (disch := first | assumption | omega | (simp [*] <;> omega) | fail) [i_slices_Min_int64_int64, vl, vx, vd, lp, e]

theorem l_laws_likeInts (s t : Value) (xs ys : List Int) (h : VH) (hs : Sli h s xs) (ht : Sli h t ys) (h3 : xs.length ≤ 9223372036854775806) (hl : xs.length = ys.length) :
    floop (vcall F nro) nro [0, 1, 5] i_laws_likeInts_B1 h [s, t, .int .i64 0] h = if xs = ys then some (.exit 0, fl [], h) else some (.ret, fl [(4, .bool false)], h) := by
  have key := search (fun i => floop (vcall F nro) nro [0, 1, 5] i_laws_likeInts_B1 h [s, t, .int .i64 i] h) (fun i => xs.getD i.toNat 0 ≠ ys.getD i.toNat 0) (some (.ret, fl [(4, .bool false)], h)) (some (.exit 0, fl [], h)) xs.length 0 ?_ ?_ 0 (by omega)
  · rw [key]
    by_cases e : xs = ys
    · rw [if_pos e, if_neg]
      rintro ⟨j, _, _, hj⟩
      exact hj (by rw [e])
    · rw [if_neg e, if_pos]
      apply Classical.byContradiction
      intro hno
      apply e
      apply List.ext_getElem hl
      intro k h1 h2
      apply Classical.byContradiction
      intro hne
      exact hno ⟨k, by omega, by omega, by simpa [h1, h2] using hne⟩
  · intro i h0 hi
    have hso := hs.old
    have hto := ht.old
    have e1 : xs.getD i.toNat 0 = xs[i.toNat]'(by omega) := getD_at _ (by omega)
    have e2 : ys.getD i.toNat 0 = ys[i.toNat]'(by omega) := getD_at _ (by omega)
    rw [e1, e2, floop_at i_laws_likeInts_B1.eq_1]
    constructor <;> intro hb <;> simp (disch := first | assumption | omega | (simp [*] <;> omega) | fail) [hs.vlen, hs.vidx, hs.vload, ht.vlen, ht.vidx, ht.vload, wrap64, hi, hb]
  · intro i h0 hi
    rw [floop_at i_laws_likeInts_B1.eq_1]
    simp (disch := first | assumption | omega | (simp [*] <;> omega) | fail) [hs.vlen, hi]

theorem c_laws_likeInts (s t : Value) (xs ys : List Int) (h : VH) (hs : Sli h s xs) (ht : Sli h t ys) (h3 : xs.length ≤ 9223372036854775806) :
    vcall F nro k_laws_likeInts [s, t] h = some (.bool (decide (xs = ys)), h) := by
  refine v_laws_likeInts (by simp [i_laws_likeInts]) ?_
  rw [fbody_eq]
  by_cases hl : xs.length = ys.length
  · simp (disch := first | assumption | omega | (simp [*] <;> omega) | fail) [i_laws_likeInts, hs.vlen, ht.vlen, hl, l_laws_likeInts s t xs ys h hs ht h3 hl]
    by_cases e : xs = ys <;> simp [e]
  · have hl' : ¬ (xs.length : Int) = ys.length := by omega
    have : xs ≠ ys := fun e => hl (by rw [e])
    simp (disch := first | assumption | omega | (simp [*] <;> omega) | fail) [i_laws_likeInts, hs.vlen, ht.vlen, hl', this]


theorem c_laws_graphs5 (n m : Int) (s t : Value) (xs ys : List Int) (h : VH) (hs : Sli h s xs) (ht : Sli h t ys) (h3 : xs.length ≤ 9223372036854775806) :
    vcall F nro k_laws_graphs5 [gv n s, gv m t] h = some (.bool (decide (n = m ∧ xs = ys)), h) := by
  refine v_laws_graphs5 (by simp [i_laws_graphs5]) ?_
  rw [fbody_eq]
  have hc := c_laws_likeInts (nro := nro) s t xs ys (h ++ [⟨0, [.int .i64 n, s]⟩, ⟨0, [.int .i64 m, t]⟩]) (hs.app _) (ht.app _) h3
  by_cases e1 : n = m
  · subst e1
    simp (disch := first | assumption | omega | (simp [*] <;> omega) | fail) [i_laws_graphs5, hc]
  · simp (disch := first | assumption | omega | (simp [*] <;> omega) | fail) [i_laws_graphs5, hc, e1]
theorem r_laws_graphs5 (n m : Int) (s t : Value) (h : VH) (hs : isSli h s) (ht : isSli h t) (h3 : (rd h s).length ≤ 9223372036854775806) :
    vcall F nro k_laws_graphs5 [gv n s, gv m t] h = some (.bool (decide (n = m ∧ rd h s = rd h t)), h) := c_laws_graphs5 n m s t _ _ h hs.sli ht.sli h3

/-- The common degree, -1 without one. -/
def regF (rows : List Int) (n : Nat) : Int := if mnL (deg rows 0) (degF rows n 1) = mxL (deg rows 0) (degF rows n 1) then deg rows 0 else -1
theorem c_impl_Graph_regular (n : Nat) (s : Value) (rows : List Int) (h : VH) (hs : Sli h s rows) (R : Rok n rows) (h1 : 1 ≤ n) (hn : nro ≤ h.length) :
    vcall F nro k_impl_Graph_regular [gv n s] h = some (.int .i64 (regF rows n), h) := by
  have hn' := fun k => Nat.le_trans hn (Nat.le_add_right h.length k)
  have hle := R.le
  refine v_impl_Graph_regular (by simp [i_impl_Graph_regular]) ?_
  rw [fbody_eq]
  have hd := c_impl_Graph_degrees (nro := nro) n s rows (bx h n s) (hs.app _) R (by simp [bx]; omega)
  have e : degF rows n 0 = (deg rows 0 : Int) :: degF rows n 1 := degF_step (by omega)
  have hl : (degF rows n 1).length = n - 1 := degF_len ..
  rw [e] at hd
  unfold regF
  obtain ⟨l, hll⟩ : ∃ l, l = degF rows n 1 := ⟨_, rfl⟩
  obtain ⟨x, hx⟩ : ∃ x, x = (deg rows 0 : Int) := ⟨_, rfl⟩
  rw [← hll] at hd hl ⊢
  rw [← hx] at hd ⊢
  clear hll hx e
  unfold bx at hd
  simp only [List.length_append, List.length_singleton, List.append_assoc, List.cons_append, List.nil_append] at hd
  have hS : Sli (h ++ [⟨0, [.int .i64 n, s]⟩, ⟨1, ints (x :: l)⟩]) (.slice (some ⟨h.length + 1, 0, none⟩) n n) (x :: l) := by
    have := sli_at (h := h ++ [⟨0, [.int .i64 n, s]⟩, ⟨1, ints (x :: l)⟩]) (b := h.length + 1) (xs := x :: l) (by simp)
    rwa [show (x :: l).length = n by simp; omega] at this
  have hM := c_slices_Max (nro := nro) _ x l _ hS (by omega)
  have hm := c_slices_Min (nro := nro) _ x l _ hS (by omega)
  have hi := hS.vidx (k := .i64) (j := 0) (by omega) (by simp)
  have hv := hS.vload (j := 0) (by simp)
  obtain ⟨A, hA⟩ : ∃ A, A = mxL x l := ⟨_, rfl⟩
  obtain ⟨B, hB⟩ : ∃ B, B = mnL x l := ⟨_, rfl⟩
  rw [← hA] at hM ⊢
  rw [← hB] at hm ⊢
  clear hA hB
  have h0n : 0 < n := by omega
  obtain ⟨H, hH⟩ : ∃ H, H = (h ++ [⟨0, [.int .i64 n, s]⟩, ⟨1, ints (x :: l)⟩] : VH) := ⟨_, rfl⟩
  have hcl : ∀ y : Int, kclean h [.int .i64 y] H = ([.int .i64 y], h) := fun y => by rw [hH]; simp
  rw [← hH] at hd hM hm hi hv
  clear hS hH
  simp at hi hv
  by_cases c : B = A
  · rw [if_pos c]
    simp (disch := first | assumption | omega | (simp [*] <;> omega) | fail) [i_impl_Graph_regular, hd, hM, hm, hi, hv, c, hcl, hn', hn]
  · rw [if_neg c]
    simp (disch := first | assumption | omega | (simp [*] <;> omega) | fail) [i_impl_Graph_regular, hd, hM, hm, hi, hv, c, hcl, hn', hn]
end Go.Proofs.YthpgiimaadohcaaDoor.Zv

/- The law FnFirstRegular. -/
namespace Go.Proofs.YthpgiimaadohcaaDoor.Zv
open Go
variable {nro : Nat}

theorem mnL_same {x : Int} : ∀ {l : List Int}, (∀ y ∈ l, y = x) → mnL x l = x
  | [], _ => rfl
  | y :: l, h => by
    have hy := h y (List.mem_cons_self ..)
    rw [mnL, if_neg (by omega)]
    exact mnL_same fun z hz => h z (List.mem_cons_of_mem _ hz)
theorem mxL_same {x : Int} : ∀ {l : List Int}, (∀ y ∈ l, y = x) → mxL x l = x
  | [], _ => rfl
  | y :: l, h => by
    have hy := h y (List.mem_cons_self ..)
    rw [mxL, if_neg (by omega)]
    exact mxL_same fun z hz => h z (List.mem_cons_of_mem _ hz)
theorem degF_same {rows : List Int} {n : Nat} {k : Int} (h : ∀ u, u < n → (deg rows u : Int) = k) (v : Nat) : ∀ x ∈ degF rows n v, x = k := by
  by_cases hv : v < n
  · intro x hx
    rw [degF_step hv] at hx
    rcases List.mem_cons.mp hx with rfl | hx
    · exact h v hv
    · exact degF_same h (v + 1) x hx
  · intro x hx
    rw [degF_end hv] at hx
    cases hx
 termination_by n - v
theorem regF_same {rows : List Int} {n : Nat} {k : Int} (h1 : 1 ≤ n) (h : ∀ u, u < n → (deg rows u : Int) = k) : regF rows n = k := by
  have h0 := h 0 (by omega)
  have hd := degF_same h 1
  unfold regF
  rw [h0, mnL_same hd, mxL_same hd, if_pos rfl]

open Classical in
theorem r_impl_RegularDegree (n : Nat) (s : Value) (h : VH) (hs : isSli h s) (g : GV n (rd h s)) (hr : 0 ≤ regF (rd h s) n) (hn : nro ≤ h.length) :
    vcall F nro k_impl_RegularDegree [gv n s] h = some (.tuple #[.int .i64 (regF (rd h s) n), .int .i64 0], h) := by
  have hn' := fun k => Nat.le_trans hn (Nat.le_add_right h.length k)
  have hso := fun k => hs.sli.oldCk (k := k)
  have hlo := g.lo
  refine v_impl_RegularDegree (by simp [i_impl_RegularDegree]) ?_
  rw [fbody_eq]
  have e1 := c_impl_IsGraph (nro := nro) n s _ (bx h n s) (hs.sli.app _)
  rw [decide_eq_true g] at e1
  have e2 := c_impl_Graph_regular (nro := nro) n s _ (bx h n s) (hs.sli.app _) g.rok (by omega) (by simp [bx]; omega)
  unfold bx at e1 e2
  obtain ⟨q, hq⟩ : ∃ q, q = regF (rd h s) n := ⟨_, rfl⟩
  rw [← hq] at e2 hr ⊢
  have hr' : ¬ q < 0 := by omega
  clear hq g
  simp (disch := first | assumption | omega | (simp [*] <;> omega) | fail) [i_impl_RegularDegree, e1, e2, hr', hn', hn, hso]
open Classical in
theorem r_impl_FitsBoth (n : Nat) (k c : Int) (s : Value) (h : VH) (hs : isSli h s) (g : GV n (rd h s)) (hk : kcB k c = true) (hf : FitsP (rd h s) n k c) (hn : nro ≤ h.length) :
    vcall F nro k_impl_FitsBoth [gv n s, .int .i64 k, .int .i64 c] h = some (.tuple #[.bool true, .int .i64 0], h) := by
  have hkc : (1 ≤ k ∧ k ≤ 6) ∧ 3 ≤ c ∧ c ≤ 12 := by simpa [kcB] using hk
  have hn' := fun k => Nat.le_trans hn (Nat.le_add_right h.length k)
  have hso := fun k => hs.sli.oldCk (k := k)
  refine v_impl_FitsBoth (by simp [i_impl_FitsBoth]) ?_
  rw [fbody_eq]
  have e1 := c_impl_bothCode (nro := nro) n k c s _ (bx h n s) (hs.sli.app _)
  rw [if_pos g, if_pos hk] at e1
  have e2 := c_impl_Graph_fits (nro := nro) n k c s _ (bx h n s) (hs.sli.app _) g (by omega) (by simp [bx]; omega)
  rw [decide_eq_true hf] at e2
  unfold bx at e1 e2
  clear g hf hk
  simp (disch := first | assumption | omega | (simp [*] <;> omega) | fail) [i_impl_FitsBoth, e1, e2, hn', hn, hso]

theorem least_ok {k c : Int} (n i : Nat) {j : Nat} {r : List Int} (h : upE (leastF k c) n i () = .inr (j, r)) : i ≤ j ∧ j < n ∧ fR j k c = some r ∧ ∀ u, i ≤ u → u < j → fR u k c = none := by
  by_cases hi : i < n
  · cases hf : fR i k c with
    | some r' =>
      have e : leastF k c i () = .inr (i, r') := by unfold leastF; rw [hf]
      rw [upE_inr hi e] at h
      cases h
      exact ⟨Nat.le_refl _, hi, hf, fun u h1 h2 => by omega⟩
    | none =>
      have e : leastF k c i () = .inl () := by unfold leastF; rw [hf]
      rw [upE_inl hi e] at h
      obtain ⟨h1, h2, h3, h4⟩ := least_ok n (i + 1) h
      refine ⟨by omega, h2, h3, fun u h5 h6 => ?_⟩
      by_cases e2 : u = i
      · rw [e2]; exact hf
      · exact h4 u (by omega) h6
  · rw [upE_end hi] at h
    cases h
 termination_by n - i

/-- What the second half of the law finds. -/
theorem fn7_second (cd : Value) (xs : List Int) (h : VH) (hs : Sl h cd (bys xs)) (hx : Code' xs) (hn : nro ≤ h.length) (L : VH) :
    ∃ a b, vcall F nro k_spec_DrawLeastVertices [cd] (h ++ L) = some (.tuple #[.int .i64 a, .int .i64 b], h ++ L) ∧
    ∃ w e, (∀ L, vcall F nro k_impl_LeastVertices [.int .i64 a, .int .i64 b] (h ++ L) = some (.tuple #[.int .i64 w, .int .i64 e], h ++ L)) ∧
    (∀ L, vcall F nro k_spec_LeastVertices [.int .i64 a, .int .i64 b] (h ++ L) = some (.tuple #[.int .i64 w, .int .i64 e], h ++ L)) ∧
    (¬ e = 0 ∨ (e = 0 ∧ ∃ i : Nat, w = i ∧ a < i ∧ 1 ≤ i ∧ i ≤ 10 ∧ (∃ r, firstAns i a b = .inl ((i : Int), r)) ∧ (1 < i → firstAns ((i : Int) - 1) a b = .inr 4))) := by
  obtain ⟨a, b, hd⟩ := c_spec_DrawLeastVertices (nro := nro) (hs.app L) hx (by simp; omega)
  refine ⟨a, b, hd, (leastAns a b).1, (leastAns a b).2, fun L => c_impl_LeastVertices a b (h ++ L) (by simp; omega), fun L => c_spec_LeastVertices a b (h ++ L) (by simp; omega), ?_⟩
  unfold leastAns
  by_cases hk : kcB a b = true
  · rw [if_pos hk]
    cases hr : leastR a b with
    | inl x => exact .inl (by simp)
    | inr q =>
      obtain ⟨i, r⟩ := q
      obtain ⟨h1, h2, h3, h4⟩ := least_ok 11 1 hr
      refine .inr ⟨rfl, i, rfl, ?_, h1, by omega, ⟨r, ?_⟩, fun hi => ?_⟩
      · unfold fR at h3
        split at h3
        · cases h3
        · rename_i hp
          have : ¬ (i : Int) ≤ a := fun e => hp (.inr (.inl e))
          omega
      · unfold firstAns
        rw [if_pos ⟨by omega, hk⟩, Int.toNat_natCast, h3]
      · unfold firstAns
        rw [if_pos ⟨by omega, hk⟩, show ((i : Int) - 1).toNat = i - 1 by omega, h4 (i - 1) (by omega) (by omega)]
  · rw [if_neg hk]
    exact .inl (by simp)

set_option maxHeartbeats 4000000 in
theorem law_FnFirstRegular (cd : Value) (xs : List Int) (h : VH) (hs : Sl h cd (bys xs)) (hx : Code' xs) (hn : nro ≤ h.length) :
    vcall F nro k_laws_FnFirstRegular [cd] h = some (.bool true, h) := by
  have hn' := fun k => Nat.le_trans hn (Nat.le_add_right h.length k)
  have hl := hx.len
  have hb : vcall F nro k_laws_big [cd] h = some (.bool (decide (4096 < xs.length)), h) := by
    refine v_laws_big (by simp [i_laws_big]) ?_
    rw [fbody_eq]
    have e0 := hs.vlen
    simp only [bys_length] at e0
    simp (disch := first | assumption | omega | (simp [*] <;> omega) | fail) [i_laws_big, e0]
    omega
  by_cases hbig : 4096 < xs.length
  · refine v_laws_FnFirstRegular (by simp [i_laws_FnFirstRegular]) ?_
    rw [fbody_eq]
    rw [decide_eq_true hbig] at hb
    simp (disch := first | assumption | omega | (simp [*] <;> omega) | fail) [i_laws_FnFirstRegular, hb, hn, hn']
  · rw [decide_eq_false hbig] at hb
    obtain ⟨n, k, c, hd⟩ := c_spec_DrawFirstRegular (nro := nro) hs hx hn
    have hc1 := fun L => c_spec_FirstRegular (nro := nro) n k c (h ++ L) (by simp; omega)
    have hc2 := fun L => c_impl_FirstRegular (nro := nro) n k c (h ++ L) (by simp; omega)
    have hc10 := c_spec_FirstRegular (nro := nro) n k c h hn
    have hc20 := c_impl_FirstRegular (nro := nro) n k c h hn
    have second := fun L => fn7_second (nro := nro) cd xs h hs hx hn L
    cases hp : firstAns n k c with
    | inl q =>
      obtain ⟨x, r⟩ := q
      have hq : ∃ N : Nat, n = N ∧ x = N ∧ GV N r ∧ FitsP r N k c ∧ (∀ u, u < N → (deg r u : Int) = k) ∧ kcB k c = true := by
        unfold firstAns at hp
        split at hp
        · rename_i g
          split at hp
          · rename_i r' hf
            cases hp
            obtain ⟨f1, f2, f3⟩ := fR_len g.2 (by omega) (by omega) hf
            exact ⟨n.toNat, by omega, by omega, f1, f2, f3, g.2⟩
          · cases hp
        · cases hp
      obtain ⟨N, rfl, rfl, g, hf, hk, hkc⟩ := hq
      have hN := g.lo
      have hl2 := g.rok.len
      have hle := g.rok.le
      have hreg := regF_same (by omega) hk
      rw [hp] at hc1 hc2 hc10 hc20
      obtain ⟨a, b, hd2, hrest⟩ := second [⟨1, ints r⟩, ⟨0, [.int .i64 N, .slice (some ⟨h.length, 0, none⟩) r.length r.length]⟩, ⟨1, ints r⟩, ⟨0, [.int .i64 N, .slice (some ⟨h.length + 2, 0, none⟩) r.length r.length]⟩]
      have hk0 : 0 ≤ k := by
        have : (1 ≤ k ∧ k ≤ 6) ∧ 3 ≤ c ∧ c ≤ 12 := by simpa [kcB] using hkc
        omega
      refine v_laws_FnFirstRegular (by simp [i_laws_FnFirstRegular]) ?_
      rw [fbody_eq]
      have hl3 : (r.length : Int) ≤ 9223372036854775806 := by omega
      have hl4 : r.length ≤ 9223372036854775806 := by omega
      clear hl2 hl3 hN hle hk
      rcases hrest with ⟨w, e, q1, q2, q3 | ⟨rfl, i, rfl, j1, j2, j3, ⟨r', j4⟩, j5⟩⟩
      · simp (disch := first | assumption | omega | (simp [*] <;> omega) | fail) [i_laws_FnFirstRegular, hb, hd, hc1, hc2, hc10, hc20, hd2, q1, q2, q3, r_laws_graphs5, r_impl_RegularDegree, r_impl_FitsBoth, g, hf, hkc, hreg, hk0, hl4, hn', hn]
      · have hc3 := fun L => c_impl_FirstRegular (nro := nro) i a b (h ++ L) (by simp; omega)
        rw [j4] at hc3
        have m1 : ¬ (i : Int) ≤ a := by omega
        by_cases hi : (1 : Int) < i
        · have hc4 := fun L => c_impl_FirstRegular (nro := nro) ((i : Int) - 1) a b (h ++ L) (by simp; omega)
          rw [j5 (by omega)] at hc4
          have w1 : IntKind.i64.wrap ((i : Int) - 1) = (i : Int) - 1 := wrap64 (by omega) (by omega)
          simp (disch := first | assumption | omega | (simp [*] <;> omega) | fail) [i_laws_FnFirstRegular, hb, hd, hc1, hc2, hc10, hc20, hd2, q1, q2, hc3, hc4, m1, w1, hi, r_laws_graphs5, r_impl_RegularDegree, r_impl_FitsBoth, g, hf, hkc, hreg, hk0, hl4, hn', hn]
        · simp (disch := first | assumption | omega | (simp [*] <;> omega) | fail) [i_laws_FnFirstRegular, hb, hd, hc1, hc2, hc10, hc20, hd2, q1, q2, hc3, m1, hi, r_laws_graphs5, r_impl_RegularDegree, r_impl_FitsBoth, g, hf, hkc, hreg, hk0, hl4, hn', hn]
    | inr x =>
      rw [hp] at hc1 hc2 hc10 hc20
      obtain ⟨a, b, hd2, hrest⟩ := second [⟨0, [.int .i64 0, .slice none 0 0]⟩, ⟨0, [.int .i64 0, .slice none 0 0]⟩]
      refine v_laws_FnFirstRegular (by simp [i_laws_FnFirstRegular]) ?_
      rw [fbody_eq]
      have hx0 : ¬ x = 0 := by
        unfold firstAns at hp
        split at hp
        · split at hp
          · cases hp
          · cases hp; omega
        · cases hp; omega
      rcases hrest with ⟨w, e, q1, q2, q3 | ⟨rfl, i, rfl, j1, j2, j3, ⟨r', j4⟩, j5⟩⟩
      · simp (disch := first | assumption | omega | (simp [*] <;> omega) | fail) [i_laws_FnFirstRegular, hb, hd, hc1, hc2, hc10, hc20, hd2, q1, q2, q3, r_laws_graphs5, hx0, hn', hn]
      · have hc3 := fun L => c_impl_FirstRegular (nro := nro) i a b (h ++ L) (by simp; omega)
        rw [j4] at hc3
        have m1 : ¬ (i : Int) ≤ a := by omega
        by_cases hi : (1 : Int) < i
        · have hc4 := fun L => c_impl_FirstRegular (nro := nro) ((i : Int) - 1) a b (h ++ L) (by simp; omega)
          rw [j5 (by omega)] at hc4
          have w1 : IntKind.i64.wrap ((i : Int) - 1) = (i : Int) - 1 := wrap64 (by omega) (by omega)
          simp (disch := first | assumption | omega | (simp [*] <;> omega) | fail) [i_laws_FnFirstRegular, hb, hd, hc1, hc2, hc10, hc20, hd2, q1, q2, hc3, hc4, m1, w1, hi, r_laws_graphs5, hx0, hn', hn]
        · simp (disch := first | assumption | omega | (simp [*] <;> omega) | fail) [i_laws_FnFirstRegular, hb, hd, hc1, hc2, hc10, hc20, hd2, q1, q2, hc3, m1, hi, r_laws_graphs5, hx0, hn', hn]
end Go.Proofs.YthpgiimaadohcaaDoor.Zv

