/- Part F of the proof: ZwOrd8, ZwOrd9, ZwOrd10, ZwOrd11, ZwOrd12, ZwOrd13, ZwGp7, ZwRefF, ZwRefK, ZwGp8, ZwGp9, ZwGpA, ZwGpB, ZwGpC, ZwDraw, ZwDraw2, ZwSearch, ZwFirst, ZwDraw4, ZwNamed, ZwDraw8, ZwDraw3, ZwDraw11. Conditions: none. -/
import Derived.Sort.AssemblyPlain
import Derived.Sort.LotA
import Derived.Test.YtbilmoahcnllmaaZpD
import Derived.Test.YtbilmoahcnllmaaZpE
set_option linter.unusedSimpArgs false
set_option linter.unusedVariables false
/- Sorting: partitions, whole. -/
namespace Go.Proofs.Ytbilmoahcnllmaa.Zv
open Go Go.Sort
variable {nro : Nat} {S : Value} {P : Int → Value} {ag : Nat → Value} {cm : Nat → Nat → Int} {N : Nat} {H : Array Nat → VH}

section
variable (E : SO nro S P ag cm N H)
include E
set_option maxHeartbeats 1000000 in
theorem l_ord_part (a : Nat) (haN : a < N) (d0 : Array Nat) : ∀ (n i j : Nat) (d : Array Nat), d.size = N → j + 1 - i ≤ n → 1 ≤ i → i ≤ N → j < N →
    floop (vcall F nro) nro [0, 1, 10, 11] i_slices_partitionOrdered_int64_B5 (H d0) [S, .int .i64 a, .int .i64 i, .int .i64 j] (H d) = some (.exit 4, fl [(0, S), (1, .int .i64 a), (11, .int .i64 ((partLoop (ltC cm) a i j d).1 : Nat))], H (partLoop (ltC cm) a i j d).2) := by
  intro n
  induction n with
  | zero =>
    intro i j d hd hn hi hiN hj
    have hc := fun q => E.clean0 d0 q
    have hl := E.ln
    have oS := E.oS
    have u := l_ord_up2 E a j haN hj d d hd d[a]! (getI_nat d a a rfl) (j + 1) i (by omega) hiN
    have h1 := scanUp_ge (fun x => ltC cm x d[a]!) d j i
    have dn := l_ord_dn2 E a (scanUp (fun x => ltC cm x d[a]!) d j i) haN (by omega) d d hd d[a]! (getI_nat d a a rfl) j hj
    have h2 := scanDown_le (fun x => !ltC cm x d[a]!) d (scanUp (fun x => ltC cm x d[a]!) d j i) j
    rw [partLoop_eq]
    obtain ⟨x, hx⟩ : ∃ x, x = scanUp (fun x => ltC cm x d[a]!) d j i := ⟨_, rfl⟩
    rw [← hx] at u dn h1 h2 ⊢
    obtain ⟨y, hy⟩ : ∃ y, y = scanDown (fun x => !ltC cm x d[a]!) d x j := ⟨_, rfl⟩
    rw [← hy] at dn h2 ⊢
    have c : x > y := by omega
    have c' : (y : Int) < x := by omega
    rw [if_pos c]
    clear hx hy
    rw [floop_at i_slices_partitionOrdered_int64_B5.eq_1]
    simp (disch := first | assumption | omega | (simp [*] <;> omega) | fail) [-getElem?_pos, List.getElem?_cons_zero, List.getElem?_cons_succ, hc, hl, oS, u, dn, c']
  | succ n ih =>
    intro i j d hd hn hi hiN hj
    have hc := fun q => E.clean0 d0 q
    have hl := E.ln
    have oS := E.oS
    have hN := E.hN
    have hix := E.idx
    have hld := E.load
    have hst := E.store
    have u := l_ord_up2 E a j haN hj d d hd d[a]! (getI_nat d a a rfl) (j + 1) i (by omega) hiN
    have h1 := scanUp_ge (fun x => ltC cm x d[a]!) d j i
    have dn := l_ord_dn2 E a (scanUp (fun x => ltC cm x d[a]!) d j i) haN (by omega) d d hd d[a]! (getI_nat d a a rfl) j hj
    have h2 := scanDown_le (fun x => !ltC cm x d[a]!) d (scanUp (fun x => ltC cm x d[a]!) d j i) j
    rw [partLoop_eq]
    obtain ⟨x, hx⟩ : ∃ x, x = scanUp (fun x => ltC cm x d[a]!) d j i := ⟨_, rfl⟩
    rw [← hx] at u dn h1 h2 ⊢
    obtain ⟨y, hy⟩ : ∃ y, y = scanDown (fun x => !ltC cm x d[a]!) d x j := ⟨_, rfl⟩
    rw [← hy] at dn h2 ⊢
    by_cases c : x > y
    · have c' : (y : Int) < x := by omega
      rw [if_pos c]
      clear hx hy ih
      rw [floop_at i_slices_partitionOrdered_int64_B5.eq_1]
      simp (disch := first | assumption | omega | (simp [*] <;> omega) | fail) [-getElem?_pos, List.getElem?_cons_zero, List.getElem?_cons_succ, hc, hl, oS, u, dn, c']
    · have c' : ¬ (y : Int) < x := by omega
      rw [if_neg c]
      have ih2 := ih (x + 1) (y - 1) (Go.Sort.swp d x y) (by simpa using hd) (by omega) (by omega) (by omega) (by omega)
      rw [← ih2]
      have e4 : swI d (x : Int) (y : Int) = Go.Sort.swp d x y := swI_swp _ _ _ _ _ rfl rfl
      unfold swI at e4
      have w1 : IntKind.i64.wrap ((x : Int) + 1) = (x : Int) + 1 := wrap64 (by omega) (by omega)
      have w2 : IntKind.i64.wrap ((y : Int) - 1) = ((y - 1 : Nat) : Int) := by rw [show (y : Int) - 1 = ((y - 1 : Nat) : Int) by omega]; exact wrap64 (by omega) (by omega)
      have x0 : (0 : Int) ≤ x := by omega
      have y0 : (0 : Int) ≤ y := by omega
      have x1 : (x : Int) < N := by omega
      have y1 : (y : Int) < N := by omega
      obtain ⟨z, hz⟩ : ∃ z, z = y - 1 := ⟨_, rfl⟩
      rw [← hz] at w2 ⊢
      clear hx hy ih ih2 hz
      rw [floop_at i_slices_partitionOrdered_int64_B5.eq_1]
      simp (disch := first | assumption | omega | (simp [*] <;> omega) | fail) [-getElem?_pos, List.getElem?_cons_zero, List.getElem?_cons_succ, hc, hl, oS, u, dn, c', hix, hld, hst, hd, e4, w1, w2, x0, y0, x1, y1]

set_option maxHeartbeats 1000000 in
theorem c_ord_part (d : Array Nat) (hd : d.size = N) (a b p : Nat) (hap : a ≤ p) (hpb : p < b) (hb : b ≤ N) :
    vcall F nro k_slices_partitionOrdered_int64 [S, .int .i64 a, .int .i64 b, .int .i64 p] (H d) = some (.tuple #[.int .i64 ((partition (ltC cm) d a b p).1 : Nat), .bool (partition (ltC cm) d a b p).2.1], H (partition (ltC cm) d a b p).2.2) := by
  have hc0 := fun q vs => E.clean0 d q vs
  have hl := E.ln
  have hN := E.hN
  have hix := E.idx
  have hld := E.load
  have hst := E.store
  obtain ⟨d1, hd1⟩ : ∃ d1, d1 = Go.Sort.swp d a p := ⟨_, rfl⟩
  have hs1 : d1.size = N := by rw [hd1]; simpa using hd
  have e0 : swI d (a : Int) (p : Int) = d1 := by rw [hd1]; exact swI_swp _ _ _ _ _ rfl rfl
  unfold swI at e0
  have u := l_ord_up1 E a (b - 1) (by omega) (by omega) d1 d1 hs1 d1[a]! (getI_nat d1 a a rfl) b (a + 1) (by omega) (by omega)
  have h1 := scanUp_ge (fun x => ltC cm x d1[a]!) d1 (b - 1) (a + 1)
  have dn := l_ord_dn1 E a (scanUp (fun x => ltC cm x d1[a]!) d1 (b - 1) (a + 1)) (by omega) (by omega) d1 d1 hs1 d1[a]! (getI_nat d1 a a rfl) (b - 1) (by omega)
  have h2 := scanDown_le (fun x => !ltC cm x d1[a]!) d1 (scanUp (fun x => ltC cm x d1[a]!) d1 (b - 1) (a + 1)) (b - 1)
  have hdef : partition (ltC cm) d a b p = if scanUp (fun x => ltC cm x d1[a]!) d1 (b - 1) (a + 1) > scanDown (fun x => !ltC cm x d1[a]!) d1 (scanUp (fun x => ltC cm x d1[a]!) d1 (b - 1) (a + 1)) (b - 1) then (scanDown (fun x => !ltC cm x d1[a]!) d1 (scanUp (fun x => ltC cm x d1[a]!) d1 (b - 1) (a + 1)) (b - 1), true, Go.Sort.swp d1 (scanDown (fun x => !ltC cm x d1[a]!) d1 (scanUp (fun x => ltC cm x d1[a]!) d1 (b - 1) (a + 1)) (b - 1)) a) else ((partLoop (ltC cm) a (scanUp (fun x => ltC cm x d1[a]!) d1 (b - 1) (a + 1) + 1) (scanDown (fun x => !ltC cm x d1[a]!) d1 (scanUp (fun x => ltC cm x d1[a]!) d1 (b - 1) (a + 1)) (b - 1) - 1) (Go.Sort.swp d1 (scanUp (fun x => ltC cm x d1[a]!) d1 (b - 1) (a + 1)) (scanDown (fun x => !ltC cm x d1[a]!) d1 (scanUp (fun x => ltC cm x d1[a]!) d1 (b - 1) (a + 1)) (b - 1)))).1, false, Go.Sort.swp (partLoop (ltC cm) a (scanUp (fun x => ltC cm x d1[a]!) d1 (b - 1) (a + 1) + 1) (scanDown (fun x => !ltC cm x d1[a]!) d1 (scanUp (fun x => ltC cm x d1[a]!) d1 (b - 1) (a + 1)) (b - 1) - 1) (Go.Sort.swp d1 (scanUp (fun x => ltC cm x d1[a]!) d1 (b - 1) (a + 1)) (scanDown (fun x => !ltC cm x d1[a]!) d1 (scanUp (fun x => ltC cm x d1[a]!) d1 (b - 1) (a + 1)) (b - 1)))).2 (partLoop (ltC cm) a (scanUp (fun x => ltC cm x d1[a]!) d1 (b - 1) (a + 1) + 1) (scanDown (fun x => !ltC cm x d1[a]!) d1 (scanUp (fun x => ltC cm x d1[a]!) d1 (b - 1) (a + 1)) (b - 1) - 1) (Go.Sort.swp d1 (scanUp (fun x => ltC cm x d1[a]!) d1 (b - 1) (a + 1)) (scanDown (fun x => !ltC cm x d1[a]!) d1 (scanUp (fun x => ltC cm x d1[a]!) d1 (b - 1) (a + 1)) (b - 1)))).1 a) := by
    rw [hd1]; rfl
  rw [hdef]
  obtain ⟨x, hx⟩ : ∃ x, x = scanUp (fun x => ltC cm x d1[a]!) d1 (b - 1) (a + 1) := ⟨_, rfl⟩
  rw [← hx] at u dn h1 h2 ⊢
  obtain ⟨y, hy⟩ : ∃ y, y = scanDown (fun x => !ltC cm x d1[a]!) d1 x (b - 1) := ⟨_, rfl⟩
  rw [← hy] at dn h2 ⊢
  have w1 : IntKind.i64.wrap ((a : Int) + 1) = ((a + 1 : Nat) : Int) := by rw [show (a : Int) + 1 = ((a + 1 : Nat) : Int) by omega]; exact wrap64 (by omega) (by omega)
  have w2 : IntKind.i64.wrap ((b : Int) - 1) = ((b - 1 : Nat) : Int) := by rw [show (b : Int) - 1 = ((b - 1 : Nat) : Int) by omega]; exact wrap64 (by omega) (by omega)
  have a0 : (0 : Int) ≤ a := by omega
  have a1 : (a : Int) < N := by omega
  have p0 : (0 : Int) ≤ p := by omega
  have p1 : (p : Int) < N := by omega
  have y0 : (0 : Int) ≤ y := by omega
  have y1 : (y : Int) < N := by omega
  obtain ⟨i1, hi1⟩ : ∃ i1, i1 = a + 1 := ⟨_, rfl⟩
  obtain ⟨j1, hj1⟩ : ∃ j1, j1 = b - 1 := ⟨_, rfl⟩
  rw [← hi1] at w1 u
  rw [← hj1] at w2 u dn
  by_cases c : x > y
  · have c' : (y : Int) < x := by omega
    rw [if_pos c]
    have e1 : swI d1 (y : Int) (a : Int) = Go.Sort.swp d1 y a := swI_swp _ _ _ _ _ rfl rfl
    unfold swI at e1
    clear hx hy hdef hd1 hi1 hj1
    refine v_slices_partitionOrdered_int64 (by simp [i_slices_partitionOrdered_int64]) ?_
    rw [fbody_eq]
    simp (disch := first | assumption | omega | (simp [*] <;> omega) | fail) [-getElem?_pos, List.getElem?_cons_zero, List.getElem?_cons_succ, i_slices_partitionOrdered_int64, hc0, hl, hix, hld, hst, hd, hs1, e0, u, dn, c', e1, w1, w2, a0, a1, p0, p1, y0, y1, fresults, fresL, fres1]
  · have c' : ¬ (y : Int) < x := by omega
    rw [if_neg c]
    obtain ⟨d2, hd2⟩ : ∃ d2, d2 = Go.Sort.swp d1 x y := ⟨_, rfl⟩
    have hs2 : d2.size = N := by rw [hd2]; simpa using hs1
    have e2 : swI d1 (x : Int) (y : Int) = d2 := by rw [hd2]; exact swI_swp _ _ _ _ _ rfl rfl
    unfold swI at e2
    rw [← hd2]
    have lp := l_ord_part E a (by omega) d2 (y - 1 + 1 - (x + 1)) (x + 1) (y - 1) d2 hs2 (Nat.le_refl _) (by omega) (by omega) (by omega)
    obtain ⟨z1, z2⟩ := partLoop_size (ltC cm) a _ (x + 1) (y - 1) d2 (Nat.le_refl _)
    obtain ⟨r, hr⟩ : ∃ r, r = partLoop (ltC cm) a (x + 1) (y - 1) d2 := ⟨_, rfl⟩
    rw [← hr] at lp z1 z2 ⊢
    obtain ⟨r1, d3⟩ := r
    simp only at lp z1 z2 ⊢
    have hs3 : d3.size = N := by rw [z1]; exact hs2
    have e3 : swI d3 (r1 : Int) (a : Int) = Go.Sort.swp d3 r1 a := swI_swp _ _ _ _ _ rfl rfl
    unfold swI at e3
    have x0 : (0 : Int) ≤ x := by omega
    have x1 : (x : Int) < N := by omega
    have r0 : (0 : Int) ≤ r1 := by omega
    have r2 : (r1 : Int) < N := by omega
    have w3 : IntKind.i64.wrap ((x : Int) + 1) = ((x + 1 : Nat) : Int) := by rw [show (x : Int) + 1 = ((x + 1 : Nat) : Int) by omega]; exact wrap64 (by omega) (by omega)
    have w4 : IntKind.i64.wrap ((y : Int) - 1) = ((y - 1 : Nat) : Int) := by rw [show (y : Int) - 1 = ((y - 1 : Nat) : Int) by omega]; exact wrap64 (by omega) (by omega)
    obtain ⟨i2, hi2⟩ : ∃ i2, i2 = x + 1 := ⟨_, rfl⟩
    obtain ⟨j2, hj2⟩ : ∃ j2, j2 = y - 1 := ⟨_, rfl⟩
    rw [← hi2] at w3 lp
    rw [← hj2] at w4 lp
    clear hx hy hdef hd1 hi1 hj1 hi2 hj2 hr z1 z2 hd2
    refine v_slices_partitionOrdered_int64 (by simp [i_slices_partitionOrdered_int64]) ?_
    rw [fbody_eq]
    simp (disch := first | assumption | omega | (simp [*] <;> omega) | fail) [-getElem?_pos, List.getElem?_cons_zero, List.getElem?_cons_succ, i_slices_partitionOrdered_int64, hc0, hl, hix, hld, hst, hd, hs1, hs2, hs3, e0, u, dn, c', e2, e3, lp, w1, w2, w3, w4, a0, a1, p0, p1, x0, x1, y0, y1, r0, r2, fresults, fresL, fres1]
end
end Go.Proofs.Ytbilmoahcnllmaa.Zv

/- Sorting: partitions into equal and greater. -/
namespace Go.Proofs.Ytbilmoahcnllmaa.Zv
open Go Go.Sort
variable {nro : Nat} {S : Value} {P : Int → Value} {ag : Nat → Value} {cm : Nat → Nat → Int} {N : Nat} {H : Array Nat → VH}

section
variable (E : SO nro S P ag cm N H)
include E
set_option maxHeartbeats 1000000 in
theorem l_ord_partE (a : Nat) (haN : a < N) (d0 : Array Nat) : ∀ (n i j : Nat) (d : Array Nat), d.size = N → j + 1 - i ≤ n → 1 ≤ i → i ≤ N → j < N →
    floop (vcall F nro) nro [0, 1, 9, 10] i_slices_partitionEqualOrdered_int64_B3 (H d0) [S, .int .i64 a, .int .i64 i, .int .i64 j] (H d) = some (.exit 0, fl [(9, .int .i64 ((partEqLoop (ltC cm) a i j d).1 : Nat))], H (partEqLoop (ltC cm) a i j d).2) := by
  intro n
  induction n with
  | zero =>
    intro i j d hd hn hi hiN hj
    have hc := fun q => E.clean0 d0 q
    have hl := E.ln
    have oS := E.oS
    have u := l_ord_up3 E a j haN hj d d hd d[a]! (getI_nat d a a rfl) (j + 1) i (by omega) hiN
    have h1 := scanUp_ge (fun x => !ltC cm d[a]! x) d j i
    have dn := l_ord_dn3 E a (scanUp (fun x => !ltC cm d[a]! x) d j i) haN (by omega) d d hd d[a]! (getI_nat d a a rfl) j hj
    have h2 := scanDown_le (fun x => ltC cm d[a]! x) d (scanUp (fun x => !ltC cm d[a]! x) d j i) j
    rw [partEqLoop_eq]
    obtain ⟨x, hx⟩ : ∃ x, x = scanUp (fun x => !ltC cm d[a]! x) d j i := ⟨_, rfl⟩
    rw [← hx] at u dn h1 h2 ⊢
    obtain ⟨y, hy⟩ : ∃ y, y = scanDown (fun x => ltC cm d[a]! x) d x j := ⟨_, rfl⟩
    rw [← hy] at dn h2 ⊢
    have c : x > y := by omega
    have c' : (y : Int) < x := by omega
    rw [if_pos c]
    clear hx hy
    rw [floop_at i_slices_partitionEqualOrdered_int64_B3.eq_1]
    simp (disch := first | assumption | omega | (simp [*] <;> omega) | fail) [-getElem?_pos, List.getElem?_cons_zero, List.getElem?_cons_succ, hc, hl, oS, u, dn, c']
  | succ n ih =>
    intro i j d hd hn hi hiN hj
    have hc := fun q => E.clean0 d0 q
    have hl := E.ln
    have oS := E.oS
    have hN := E.hN
    have hix := E.idx
    have hld := E.load
    have hst := E.store
    have u := l_ord_up3 E a j haN hj d d hd d[a]! (getI_nat d a a rfl) (j + 1) i (by omega) hiN
    have h1 := scanUp_ge (fun x => !ltC cm d[a]! x) d j i
    have dn := l_ord_dn3 E a (scanUp (fun x => !ltC cm d[a]! x) d j i) haN (by omega) d d hd d[a]! (getI_nat d a a rfl) j hj
    have h2 := scanDown_le (fun x => ltC cm d[a]! x) d (scanUp (fun x => !ltC cm d[a]! x) d j i) j
    rw [partEqLoop_eq]
    obtain ⟨x, hx⟩ : ∃ x, x = scanUp (fun x => !ltC cm d[a]! x) d j i := ⟨_, rfl⟩
    rw [← hx] at u dn h1 h2 ⊢
    obtain ⟨y, hy⟩ : ∃ y, y = scanDown (fun x => ltC cm d[a]! x) d x j := ⟨_, rfl⟩
    rw [← hy] at dn h2 ⊢
    by_cases c : x > y
    · have c' : (y : Int) < x := by omega
      rw [if_pos c]
      clear hx hy ih
      rw [floop_at i_slices_partitionEqualOrdered_int64_B3.eq_1]
      simp (disch := first | assumption | omega | (simp [*] <;> omega) | fail) [-getElem?_pos, List.getElem?_cons_zero, List.getElem?_cons_succ, hc, hl, oS, u, dn, c']
    · have c' : ¬ (y : Int) < x := by omega
      rw [if_neg c]
      have ih2 := ih (x + 1) (y - 1) (Go.Sort.swp d x y) (by simpa using hd) (by omega) (by omega) (by omega) (by omega)
      rw [← ih2]
      have e4 : swI d (x : Int) (y : Int) = Go.Sort.swp d x y := swI_swp _ _ _ _ _ rfl rfl
      unfold swI at e4
      have w1 : IntKind.i64.wrap ((x : Int) + 1) = (x : Int) + 1 := wrap64 (by omega) (by omega)
      have w2 : IntKind.i64.wrap ((y : Int) - 1) = ((y - 1 : Nat) : Int) := by rw [show (y : Int) - 1 = ((y - 1 : Nat) : Int) by omega]; exact wrap64 (by omega) (by omega)
      have x0 : (0 : Int) ≤ x := by omega
      have y0 : (0 : Int) ≤ y := by omega
      have x1 : (x : Int) < N := by omega
      have y1 : (y : Int) < N := by omega
      obtain ⟨z, hz⟩ : ∃ z, z = y - 1 := ⟨_, rfl⟩
      rw [← hz] at w2 ⊢
      clear hx hy ih ih2 hz
      rw [floop_at i_slices_partitionEqualOrdered_int64_B3.eq_1]
      simp (disch := first | assumption | omega | (simp [*] <;> omega) | fail) [-getElem?_pos, List.getElem?_cons_zero, List.getElem?_cons_succ, hc, hl, oS, u, dn, c', hix, hld, hst, hd, e4, w1, w2, x0, y0, x1, y1]

theorem c_ord_partE (d : Array Nat) (hd : d.size = N) (a b p : Nat) (hap : a ≤ p) (hpb : p < b) (hb : b ≤ N) :
    vcall F nro k_slices_partitionEqualOrdered_int64 [S, .int .i64 a, .int .i64 b, .int .i64 p] (H d) = some (.int .i64 ((partitionEqual (ltC cm) d a b p).1 : Nat), H (partitionEqual (ltC cm) d a b p).2) := by
  have hc0 := fun q vs => E.clean0 d q vs
  have hl := E.ln
  have hN := E.hN
  have hix := E.idx
  have hld := E.load
  have hst := E.store
  unfold partitionEqual
  obtain ⟨d1, hd1⟩ : ∃ d1, d1 = Go.Sort.swp d a p := ⟨_, rfl⟩
  have hs1 : d1.size = N := by rw [hd1]; simpa using hd
  have e0 : swI d (a : Int) (p : Int) = d1 := by rw [hd1]; exact swI_swp _ _ _ _ _ rfl rfl
  unfold swI at e0
  rw [← hd1]
  have lp := l_ord_partE E a (by omega) d1 (b - 1 + 1 - (a + 1)) (a + 1) (b - 1) d1 hs1 (Nat.le_refl _) (by omega) (by omega) (by omega)
  obtain ⟨r, hr⟩ : ∃ r, r = partEqLoop (ltC cm) a (a + 1) (b - 1) d1 := ⟨_, rfl⟩
  rw [← hr] at lp ⊢
  have w1 : IntKind.i64.wrap ((a : Int) + 1) = ((a + 1 : Nat) : Int) := by rw [show (a : Int) + 1 = ((a + 1 : Nat) : Int) by omega]; exact wrap64 (by omega) (by omega)
  have w2 : IntKind.i64.wrap ((b : Int) - 1) = ((b - 1 : Nat) : Int) := by rw [show (b : Int) - 1 = ((b - 1 : Nat) : Int) by omega]; exact wrap64 (by omega) (by omega)
  have a0 : (0 : Int) ≤ a := by omega
  have a1 : (a : Int) < N := by omega
  have p0 : (0 : Int) ≤ p := by omega
  have p1 : (p : Int) < N := by omega
  obtain ⟨i1, hi1⟩ : ∃ i1, i1 = a + 1 := ⟨_, rfl⟩
  obtain ⟨j1, hj1⟩ : ∃ j1, j1 = b - 1 := ⟨_, rfl⟩
  rw [← hi1] at w1 lp
  rw [← hj1] at w2 lp
  clear hr hi1 hj1 hd1
  refine v_slices_partitionEqualOrdered_int64 (by simp [i_slices_partitionEqualOrdered_int64]) ?_
  rw [fbody_eq]
  simp (disch := first | assumption | omega | (simp [*] <;> omega) | fail) [-getElem?_pos, List.getElem?_cons_zero, List.getElem?_cons_succ, i_slices_partitionEqualOrdered_int64, hc0, hl, hix, hld, hst, hd, hs1, e0, lp, w1, w2, a0, a1, p0, p1, fresults, fresL, fres1]

/-! ### partialInsertionSort -/
theorem l_ord_sorted (a b s : Nat) (hb : b ≤ N) (d0 d : Array Nat) (hd : d.size = N) : ∀ (k i : Nat), b ≤ i + k → 1 ≤ i → i ≤ N →
    floop (vcall F nro) nro [0, 1, 2, 7, 8] i_slices_partialInsertionSortOrdered_int64_B1 (H d0) [S, .int .i64 a, .int .i64 b, .int .i64 i, .int .i64 s] (H d) = some (.exit 2, fl [(0, S), (1, .int .i64 a), (2, .int .i64 b), (7, .int .i64 ((scanSorted (ltC cm) d b i : Nat) : Int)), (8, .int .i64 s)], H d) := by
  have hc := fun q => E.clean0 d0 q
  have hl := E.ln
  have oS := E.oS
  have hN := E.hN
  have hix := E.idx
  have hld := E.load
  have hcm := E.cmp
  intro k
  induction k with
  | zero =>
    intro i hk hi hiN
    have c1 : ¬ (i : Int) < b := by omega
    have c2 : ¬ i < b := by omega
    rw [scanSorted, if_neg (by simp [c2]), floop_at i_slices_partialInsertionSortOrdered_int64_B1.eq_1]
    simp (disch := first | assumption | omega | (simp [*] <;> omega) | fail) [-getElem?_pos, List.getElem?_cons_zero, List.getElem?_cons_succ, hc, hl, oS, c1, c2]
  | succ k ih =>
    intro i hk hi hiN
    by_cases c1 : i < b
    · have c1' : (i : Int) < b := by omega
      have gi := getI_nat d (i : Int) i rfl
      have gj := getI_nat d ((i : Int) - 1) (i - 1) (by omega)
      have i0 : (0 : Int) ≤ i := by omega
      have i1 : (i : Int) < N := by omega
      have j0 : (0 : Int) ≤ (i : Int) - 1 := by omega
      have j1 : (i : Int) - 1 < N := by omega
      have w1 : IntKind.i64.wrap ((i : Int) + 1) = (i : Int) + 1 := wrap64 (by omega) (by omega)
      have w2 : IntKind.i64.wrap ((i : Int) - 1) = (i : Int) - 1 := wrap64 (by omega) (by omega)
      rw [scanSorted, ← gi, ← gj]
      by_cases c2 : cm (getI d (i : Int)) (getI d ((i : Int) - 1)) < 0
      · have e2 : ltC cm (getI d (i : Int)) (getI d ((i : Int) - 1)) = true := decide_eq_true c2
        rw [if_neg (by simp [e2])]
        clear ih gi gj e2
        rw [floop_at i_slices_partialInsertionSortOrdered_int64_B1.eq_1]
        simp (disch := first | assumption | omega | (simp [*] <;> omega) | fail) [-getElem?_pos, List.getElem?_cons_zero, List.getElem?_cons_succ, hc, hl, oS, hix, hld, hcm, hd, c1', c1, c2, i0, i1, j0, j1, w1, w2]
      · have e2 : ltC cm (getI d (i : Int)) (getI d ((i : Int) - 1)) = false := decide_eq_false c2
        rw [if_pos (by simp [c1, e2])]
        have ih2 := ih (i + 1) (by omega) (by omega) (by omega)
        rw [← ih2]
        clear ih ih2 gi gj e2
        rw [floop_at i_slices_partialInsertionSortOrdered_int64_B1.eq_1]
        simp (disch := first | assumption | omega | (simp [*] <;> omega) | fail) [-getElem?_pos, List.getElem?_cons_zero, List.getElem?_cons_succ, hc, hl, oS, hix, hld, hcm, hd, c1', c1, c2, i0, i1, j0, j1, w1, w2]
    · have c1' : ¬ (i : Int) < b := by omega
      rw [scanSorted, if_neg (by simp [c1]), floop_at i_slices_partialInsertionSortOrdered_int64_B1.eq_1]
      simp (disch := first | assumption | omega | (simp [*] <;> omega) | fail) [-getElem?_pos, List.getElem?_cons_zero, List.getElem?_cons_succ, hc, hl, oS, c1', c1]
theorem l_ord_shd (a b i s : Nat) (d0 : Array Nat) : ∀ (j : Nat) (d : Array Nat), d.size = N → j < N →
    floop (vcall F nro) nro [0, 1, 2, 7, 8, 9] i_slices_partialInsertionSortOrdered_int64_B2 (H d0) [S, .int .i64 a, .int .i64 b, .int .i64 i, .int .i64 s, .int .i64 j] (H d) = some (.exit 4, fl [(0, S), (1, .int .i64 a), (2, .int .i64 b), (7, .int .i64 i), (8, .int .i64 s)], H (shiftDown (ltC cm) j d))
  | 0, d, hd, hj => by
    have hc := E.clean0 d0 d
    have hl := E.ln
    have oS := E.oS
    rw [floop_at i_slices_partialInsertionSortOrdered_int64_B2.eq_1]
    unfold shiftDown
    simp (disch := first | assumption | omega | (simp [*] <;> omega) | fail) [-getElem?_pos, List.getElem?_cons_zero, List.getElem?_cons_succ, hc, hl, oS]
  | j + 1, d, hd, hj => by
    have hc := fun q => E.clean0 d0 q
    have hl := E.ln
    have oS := E.oS
    have hN := E.hN
    have hi := E.idx
    have hld := E.load
    have hst := E.store
    have hcm := E.cmp
    have w2 : IntKind.i64.wrap (j : Int) = j := wrap64 (by omega) (by omega)
    have g1 := getI_nat d ((j : Int) + 1) (j + 1) (by omega)
    have g2 := getI_nat d (j : Int) j rfl
    have k1 : (0 : Int) ≤ (j : Int) + 1 := by omega
    have k2 : (j : Int) + 1 < N := by omega
    have k3 : (j : Int) < N := by omega
    have k4 : (1 : Int) ≤ (j : Int) + 1 := by omega
    unfold shiftDown
    rw [← g1, ← g2]
    by_cases c2 : cm (getI d ((j : Int) + 1)) (getI d (j : Int)) < 0
    · have e2 : ltC cm (getI d ((j : Int) + 1)) (getI d (j : Int)) = true := decide_eq_true c2
      have ih := l_ord_shd a b i s d0 j (Go.Sort.swp d (j + 1) j) (by simpa using hd) (by omega)
      have e3 : swI d ((j : Int) + 1) j = Go.Sort.swp d (j + 1) j := swI_swp _ _ _ _ _ (by omega) rfl
      unfold swI at e3
      rw [if_neg (by simp [e2]), ← ih]
      clear ih g1 g2
      rw [floop_at i_slices_partialInsertionSortOrdered_int64_B2.eq_1]
      simp (disch := first | assumption | omega | (simp [*] <;> omega) | fail) [-getElem?_pos, List.getElem?_cons_zero, List.getElem?_cons_succ, hc, hl, oS, hi, hld, hst, hcm, hd, w2, k1, k2, k3, k4, c2, e3]
    · have e2 : ltC cm (getI d ((j : Int) + 1)) (getI d (j : Int)) = false := decide_eq_false c2
      rw [if_pos (by simp [e2])]
      clear g1 g2
      rw [floop_at i_slices_partialInsertionSortOrdered_int64_B2.eq_1]
      simp (disch := first | assumption | omega | (simp [*] <;> omega) | fail) [-getElem?_pos, List.getElem?_cons_zero, List.getElem?_cons_succ, hc, hl, oS, hi, hld, hst, hcm, hd, w2, k1, k2, k3, k4, c2]
theorem l_ord_shu (a b i s : Nat) (hb : b ≤ N) (d0 : Array Nat) : ∀ (k j : Nat) (d : Array Nat), d.size = N → b ≤ j + k → 1 ≤ j → j ≤ N + 1 →
    floop (vcall F nro) nro [0, 1, 2, 7, 8, 10] i_slices_partialInsertionSortOrdered_int64_B3 (H d0) [S, .int .i64 a, .int .i64 b, .int .i64 i, .int .i64 s, .int .i64 j] (H d) = some (.exit 6, fl [(0, S), (1, .int .i64 a), (2, .int .i64 b), (7, .int .i64 i), (8, .int .i64 s)], H (shiftUp (ltC cm) b j d)) := by
  have hc := fun q => E.clean0 d0 q
  have hl := E.ln
  have oS := E.oS
  have hN := E.hN
  have hi := E.idx
  have hld := E.load
  have hst := E.store
  have hcm := E.cmp
  intro k
  induction k with
  | zero =>
    intro j d hd hk hj hjN
    have c1 : ¬ (j : Int) < b := by omega
    rw [shiftUp, if_neg (by omega), floop_at i_slices_partialInsertionSortOrdered_int64_B3.eq_1]
    simp (disch := first | assumption | omega | (simp [*] <;> omega) | fail) [-getElem?_pos, List.getElem?_cons_zero, List.getElem?_cons_succ, hc, hl, oS, c1]
  | succ k ih =>
    intro j d hd hk hj hjN
    by_cases c1 : j < b
    · have c1' : (j : Int) < b := by omega
      have g1 := getI_nat d (j : Int) j rfl
      have g2 := getI_nat d ((j : Int) - 1) (j - 1) (by omega)
      have k1 : (0 : Int) ≤ j := by omega
      have k2 : (j : Int) < N := by omega
      have k3 : (0 : Int) ≤ (j : Int) - 1 := by omega
      have k4 : (j : Int) - 1 < N := by omega
      have w1 : IntKind.i64.wrap ((j : Int) - 1) = (j : Int) - 1 := wrap64 (by omega) (by omega)
      have w2 : IntKind.i64.wrap ((j : Int) + 1) = (j : Int) + 1 := wrap64 (by omega) (by omega)
      rw [shiftUp, if_pos c1, ← g1, ← g2]
      by_cases c2 : cm (getI d (j : Int)) (getI d ((j : Int) - 1)) < 0
      · have e2 : ltC cm (getI d (j : Int)) (getI d ((j : Int) - 1)) = true := decide_eq_true c2
        have ih2 := ih (j + 1) (Go.Sort.swp d j (j - 1)) (by simpa using hd) (by omega) (by omega) (by omega)
        have e3 : swI d (j : Int) ((j : Int) - 1) = Go.Sort.swp d j (j - 1) := swI_swp _ _ _ _ _ rfl (by omega)
        unfold swI at e3
        rw [if_neg (by simp [e2]), ← ih2]
        clear ih ih2 g1 g2
        rw [floop_at i_slices_partialInsertionSortOrdered_int64_B3.eq_1]
        simp (disch := first | assumption | omega | (simp [*] <;> omega) | fail) [-getElem?_pos, List.getElem?_cons_zero, List.getElem?_cons_succ, hc, hl, oS, hi, hld, hst, hcm, hd, w1, w2, k1, k2, k3, k4, c1', c2, e3]
      · have e2 : ltC cm (getI d (j : Int)) (getI d ((j : Int) - 1)) = false := decide_eq_false c2
        rw [if_pos (by simp [e2])]
        clear ih g1 g2
        rw [floop_at i_slices_partialInsertionSortOrdered_int64_B3.eq_1]
        simp (disch := first | assumption | omega | (simp [*] <;> omega) | fail) [-getElem?_pos, List.getElem?_cons_zero, List.getElem?_cons_succ, hc, hl, oS, hi, hld, hst, hcm, hd, w1, w2, k1, k2, k3, k4, c1', c2]
    · have c1' : ¬ (j : Int) < b := by omega
      rw [shiftUp, if_neg c1, floop_at i_slices_partialInsertionSortOrdered_int64_B3.eq_1]
      simp (disch := first | assumption | omega | (simp [*] <;> omega) | fail) [-getElem?_pos, List.getElem?_cons_zero, List.getElem?_cons_succ, hc, hl, oS, c1']
end
end Go.Proofs.Ytbilmoahcnllmaa.Zv

/- Sorting: partial insertion. -/
namespace Go.Proofs.Ytbilmoahcnllmaa.Zv
open Go Go.Sort
variable {nro : Nat} {S : Value} {P : Int → Value} {ag : Nat → Value} {cm : Nat → Nat → Int} {N : Nat} {H : Array Nat → VH}

section
variable (E : SO nro S P ag cm N H)
include E
set_option maxHeartbeats 2000000 in
theorem l_ord_pis (a b : Nat) (hab : a < b) (hb : b ≤ N) (d0 : Array Nat) : ∀ (s j i : Nat) (d : Array Nat), j + s = 5 → d.size = N → a + 1 ≤ i → i ≤ b →
    ∃ x e, ((x = .ret ∧ e = fl [(6, .bool (partialIns (ltC cm) a b s i d).2)]) ∨ (x = .exit 0 ∧ e = fl [] ∧ (partialIns (ltC cm) a b s i d).2 = false)) ∧ floop (vcall F nro) nro [0, 1, 2, 7, 8] i_slices_partialInsertionSortOrdered_int64_B4 (H d0) [S, .int .i64 a, .int .i64 b, .int .i64 i, .int .i64 j] (H d) = some (x, e, H (partialIns (ltC cm) a b s i d).1) ∧ (partialIns (ltC cm) a b s i d).1.size = N := by
  intro s
  induction s with
  | zero =>
    intro j i d hj hd hi hib
    have hc := fun q => E.clean0 d0 q
    have hl := E.ln
    have oS := E.oS
    refine ⟨.exit 0, fl [], .inr ⟨rfl, rfl, rfl⟩, ?_, hd⟩
    have c : ¬ (j : Int) < 5 := by omega
    rw [floop_at i_slices_partialInsertionSortOrdered_int64_B4.eq_1]
    unfold partialIns
    simp (disch := first | assumption | omega | (simp [*] <;> omega) | fail) [-getElem?_pos, List.getElem?_cons_zero, List.getElem?_cons_succ, hc, hl, oS, c]
  | succ s ih =>
    intro j i d hj hd hi hib
    have hc := fun q => E.clean0 d0 q
    have hl := E.ln
    have oS := E.oS
    have hN := E.hN
    have hix := E.idx
    have hld := E.load
    have hst := E.store
    have c5 : (j : Int) < 5 := by omega
    have lp := l_ord_sorted E a b j hb d d hd b i (by omega) (by omega) (by omega)
    have hr := scanSorted_rng (ltC cm) d b i
    rw [partialIns_succ]
    obtain ⟨x, hx⟩ : ∃ x, x = scanSorted (ltC cm) d b i := ⟨_, rfl⟩
    rw [← hx] at lp hr ⊢
    obtain ⟨r1, r2⟩ := hr
    have r3 := r2 hib
    clear r2 hx
    by_cases c1 : x = b
    · rw [if_pos c1]
      refine ⟨.ret, fl [(6, .bool true)], .inl ⟨rfl, rfl⟩, ?_, hd⟩
      have c1' : (x : Int) = b := by omega
      clear ih
      rw [floop_at i_slices_partialInsertionSortOrdered_int64_B4.eq_1]
      simp (disch := first | assumption | omega | (simp [*] <;> omega) | fail) [-getElem?_pos, List.getElem?_cons_zero, List.getElem?_cons_succ, hc, hl, oS, c5, lp, c1', c1]
    · have c1' : ¬ (x : Int) = b := by omega
      rw [if_neg c1]
      obtain ⟨len, hlen⟩ : ∃ len, len = b - a := ⟨_, rfl⟩
      have w0 : IntKind.i64.wrap ((b : Int) - a) = len := by rw [show (b : Int) - a = len by omega]; exact wrap64 (by omega) (by omega)
      rw [← hlen]
      by_cases c2 : len < 50
      · rw [if_pos c2]
        refine ⟨.ret, fl [(6, .bool false)], .inl ⟨rfl, rfl⟩, ?_, hd⟩
        have c2' : (len : Int) < 50 := by omega
        clear ih
        rw [floop_at i_slices_partialInsertionSortOrdered_int64_B4.eq_1]
        simp (disch := first | assumption | omega | (simp [*] <;> omega) | fail) [-getElem?_pos, List.getElem?_cons_zero, List.getElem?_cons_succ, hc, hl, oS, c5, lp, c1', c1, w0, c2']
      · rw [if_neg c2]
        have c2' : ¬ (len : Int) < 50 := by omega
        obtain ⟨d1, hd1⟩ : ∃ d1, d1 = Go.Sort.swp d x (x - 1) := ⟨_, rfl⟩
        have hs1 : d1.size = N := by rw [hd1]; simpa using hd
        have e1 : swI d (x : Int) ((x : Int) - 1) = d1 := by rw [hd1]; exact swI_swp _ _ _ _ _ rfl (by omega)
        unfold swI at e1
        have w1 : IntKind.i64.wrap ((x : Int) - 1) = (x : Int) - 1 := wrap64 (by omega) (by omega)
        have w2 : IntKind.i64.wrap ((x : Int) - a) = (x : Int) - a := wrap64 (by omega) (by omega)
        have w3 : IntKind.i64.wrap ((b : Int) - x) = (b : Int) - x := wrap64 (by omega) (by omega)
        have w4 : IntKind.i64.wrap ((x : Int) + 1) = (x : Int) + 1 := wrap64 (by omega) (by omega)
        have w5 : IntKind.i64.wrap ((j : Int) + 1) = (j : Int) + 1 := wrap64 (by omega) (by omega)
        have x0 : (0 : Int) ≤ x := by omega
        have x1 : (x : Int) < N := by omega
        have y0 : (0 : Int) ≤ (x : Int) - 1 := by omega
        have y1 : (x : Int) - 1 < N := by omega
        rw [← hd1]
        have sd := l_ord_shd E a b x j d1 (x - 1) d1 hs1 (by omega)
        rw [show ((x - 1 : Nat) : Int) = (x : Int) - 1 by omega] at sd
        unfold fixUp fixDown
        by_cases c3 : x - a ≥ 2
        · have c3' : (2 : Int) ≤ (x : Int) - a := by omega
          rw [if_pos c3]
          obtain ⟨d2, hd2⟩ : ∃ d2, d2 = shiftDown (ltC cm) (x - 1) d1 := ⟨_, rfl⟩
          have hs2 : d2.size = N := by rw [hd2, shiftDown_size]; exact hs1
          rw [← hd2] at sd ⊢
          by_cases c4 : b - x ≥ 2
          · have c4' : (2 : Int) ≤ (b : Int) - x := by omega
            rw [if_pos c4]
            have su := l_ord_shu E a b x j hb d2 b (x + 1) d2 hs2 (by omega) (by omega) (by omega)
            rw [show ((x + 1 : Nat) : Int) = (x : Int) + 1 by omega] at su
            obtain ⟨d3, hd3⟩ : ∃ d3, d3 = shiftUp (ltC cm) b (x + 1) d2 := ⟨_, rfl⟩
            have hs3 : d3.size = N := by rw [hd3, shiftUp_size]; exact hs2
            rw [← hd3] at su ⊢
            obtain ⟨X, e, q1, q2, q3⟩ := ih (j + 1) x d3 (by omega) hs3 (by omega) (by omega)
            refine ⟨X, e, q1, ?_, q3⟩
            rw [← q2]
            clear ih q1 q2 q3 hd1 hd2 hd3
            rw [floop_at i_slices_partialInsertionSortOrdered_int64_B4.eq_1]
            simp (disch := first | assumption | omega | (simp [*] <;> omega) | fail) [-getElem?_pos, List.getElem?_cons_zero, List.getElem?_cons_succ, hc, hl, oS, hix, hld, hst, hd, hs1, c5, lp, c1', c1, w0, c2', e1, w1, w2, w3, w4, w5, x0, x1, y0, y1, c3', sd, c4', su]
          · have c4' : ¬ (2 : Int) ≤ (b : Int) - x := by omega
            rw [if_neg c4]
            obtain ⟨X, e, q1, q2, q3⟩ := ih (j + 1) x d2 (by omega) hs2 (by omega) (by omega)
            refine ⟨X, e, q1, ?_, q3⟩
            rw [← q2]
            clear ih q1 q2 q3 hd1 hd2
            rw [floop_at i_slices_partialInsertionSortOrdered_int64_B4.eq_1]
            simp (disch := first | assumption | omega | (simp [*] <;> omega) | fail) [-getElem?_pos, List.getElem?_cons_zero, List.getElem?_cons_succ, hc, hl, oS, hix, hld, hst, hd, hs1, c5, lp, c1', c1, w0, c2', e1, w1, w2, w3, w4, w5, x0, x1, y0, y1, c3', sd, c4']
        · have c3' : ¬ (2 : Int) ≤ (x : Int) - a := by omega
          rw [if_neg c3]
          by_cases c4 : b - x ≥ 2
          · have c4' : (2 : Int) ≤ (b : Int) - x := by omega
            rw [if_pos c4]
            have su := l_ord_shu E a b x j hb d1 b (x + 1) d1 hs1 (by omega) (by omega) (by omega)
            rw [show ((x + 1 : Nat) : Int) = (x : Int) + 1 by omega] at su
            obtain ⟨d3, hd3⟩ : ∃ d3, d3 = shiftUp (ltC cm) b (x + 1) d1 := ⟨_, rfl⟩
            have hs3 : d3.size = N := by rw [hd3, shiftUp_size]; exact hs1
            rw [← hd3] at su ⊢
            obtain ⟨X, e, q1, q2, q3⟩ := ih (j + 1) x d3 (by omega) hs3 (by omega) (by omega)
            refine ⟨X, e, q1, ?_, q3⟩
            rw [← q2]
            clear ih q1 q2 q3 hd1 hd3 sd
            rw [floop_at i_slices_partialInsertionSortOrdered_int64_B4.eq_1]
            simp (disch := first | assumption | omega | (simp [*] <;> omega) | fail) [-getElem?_pos, List.getElem?_cons_zero, List.getElem?_cons_succ, hc, hl, oS, hix, hld, hst, hd, hs1, c5, lp, c1', c1, w0, c2', e1, w1, w2, w3, w4, w5, x0, x1, y0, y1, c3', c4', su]
          · exfalso; omega

theorem c_ord_pis (a b : Nat) (hab : a < b) (hb : b ≤ N) (d : Array Nat) (hd : d.size = N) :
    vcall F nro k_slices_partialInsertionSortOrdered_int64 [S, .int .i64 a, .int .i64 b] (H d) = some (.bool (partialInsertionSort (ltC cm) d a b).2, H (partialInsertionSort (ltC cm) d a b).1) ∧ (partialInsertionSort (ltC cm) d a b).1.size = N := by
  have hc0 := fun q vs => E.clean0 d q vs
  have hN := E.hN
  obtain ⟨x, e, q1, lp, q3⟩ := l_ord_pis E a b hab hb d 5 0 (a + 1) d rfl hd (Nat.le_refl _) (by omega)
  refine ⟨?_, q3⟩
  unfold partialInsertionSort
  obtain ⟨r, hr⟩ : ∃ r, r = partialIns (ltC cm) a b 5 (a + 1) d := ⟨_, rfl⟩
  rw [← hr] at lp q1 ⊢
  obtain ⟨r1, r2⟩ := r
  simp only [Int.natCast_add, Int.natCast_one, Int.natCast_zero] at lp q1 ⊢
  have w1 : IntKind.i64.wrap ((a : Int) + 1) = (a : Int) + 1 := wrap64 (by omega) (by omega)
  clear hr q3
  refine v_slices_partialInsertionSortOrdered_int64 (by simp [i_slices_partialInsertionSortOrdered_int64]) ?_
  rw [fbody_eq]
  rcases q1 with ⟨rfl, rfl⟩ | ⟨rfl, rfl, rfl⟩
  · simp (disch := first | assumption | omega | (simp [*] <;> omega) | fail) [-getElem?_pos, List.getElem?_cons_zero, List.getElem?_cons_succ, i_slices_partialInsertionSortOrdered_int64, w1, lp, hc0, fresults, fresL, fres1]
  · simp (disch := first | assumption | omega | (simp [*] <;> omega) | fail) [-getElem?_pos, List.getElem?_cons_zero, List.getElem?_cons_succ, i_slices_partialInsertionSortOrdered_int64, w1, lp, hc0, fresults, fresL, fres1]
end
end Go.Proofs.Ytbilmoahcnllmaa.Zv

/- Sorting: the whole. -/
namespace Go.Proofs.Ytbilmoahcnllmaa.Zv
open Go Go.Sort
variable {nro : Nat} {S : Value} {P : Int → Value} {ag : Nat → Value} {cm : Nat → Nat → Int} {N : Nat} {H : Array Nat → VH}

/-- The sort's loop. -/
abbrev pdBO : FC := unblock i_slices_pdqsortOrdered_int64_B1
/-- What its places hold. -/
structure PO (S : Value) (e : FE) (a b : Nat) (lim : Int) (wb wp : Bool) : Prop where
  e0 : e 0 = S
  e1 : e 1 = .int .i64 a
  e2 : e 2 = .int .i64 b
  e3 : e 3 = .int .i64 lim
  e8 : e 8 = .bool wb
  e9 : e 9 = .bool wp

section
variable (E : SXO nro S P ag cm N H) (hS : SWO (ltC cm)) (hN255 : N ≤ 255)
include E hS
theorem pdqO_A (a b : Nat) (hab : a ≤ b) (hb : b ≤ N) (d : Array Nat) (hd : d.size = N) (lim : Int) (wb wp : Bool) (e : FE) (p : PO S e a b lim wb wp) :
    (∃ d', d'.size = N ∧ PermIn a b d d' ∧ SortedIn (ltC cm) a b d' ∧ fcode (vcall F nro) nro (takeS 2 pdBO) e (H d) = some (.ret, fl [], H d')) ∨
    (12 < b - a ∧ lim ≠ 0 ∧ ∃ e', fcode (vcall F nro) nro (takeS 2 pdBO) e (H d) = some (.normal, e', H d) ∧ PO S e' a b lim wb wp ∧ e' 10 = .int .i64 ((b - a : Nat) : Int)) := by
  have hN := E.base.hN
  have w0 : IntKind.i64.wrap ((b : Int) - a) = ((b - a : Nat) : Int) := by rw [show (b : Int) - a = ((b - a : Nat) : Int) by omega]; exact wrap64 (by omega) (by omega)
  have p0 := p.e0
  have p1 := p.e1
  have p2 := p.e2
  have p3 := p.e3
  by_cases c1 : b - a ≤ 12
  · left
    have hc := c_ord_ins E.base a b d hd hb (by omega)
    obtain ⟨q1, q2⟩ := insertionSort_holds (lt := ltC cm) hS d a b hab (by omega)
    refine ⟨_, by rw [q1.1]; exact hd, q1, q2, ?_⟩
    have c1' : ((b - a : Nat) : Int) ≤ 12 := by omega
    obtain ⟨r, hr⟩ : ∃ r, r = insertionSort (ltC cm) d a b := ⟨_, rfl⟩
    rw [← hr] at hc ⊢
    clear hr q1 q2
    simp (disch := first | assumption | omega | (simp [*] <;> omega) | fail) [-getElem?_pos, List.getElem?_cons_zero, List.getElem?_cons_succ, pdBO, unblock, i_slices_pdqsortOrdered_int64_B1, takeS, p0, p1, p2, p3, w0, c1', hc]
  · have c1' : ¬ ((b - a : Nat) : Int) ≤ 12 := by omega
    by_cases c2 : lim = 0
    · left
      have hc := c_ord_heap E.base a b d hd hab hb
      obtain ⟨q1, q2⟩ := heapSort_holds (lt := ltC cm) hS d a b hab (by omega)
      refine ⟨_, by rw [q1.1]; exact hd, q1, q2, ?_⟩
      obtain ⟨r, hr⟩ : ∃ r, r = heapSort (ltC cm) d a b := ⟨_, rfl⟩
      rw [← hr] at hc ⊢
      clear hr q1 q2
      simp (disch := first | assumption | omega | (simp [*] <;> omega) | fail) [-getElem?_pos, List.getElem?_cons_zero, List.getElem?_cons_succ, pdBO, unblock, i_slices_pdqsortOrdered_int64_B1, takeS, p0, p1, p2, p3, w0, c1', c2, hc]
    · right
      refine ⟨by omega, c2, ?_⟩
      have p10 := p.e8
      have p11 := p.e9
      have hgoal : ∃ e', fcode (vcall F nro) nro (takeS 2 pdBO) e (H d) = some (.normal, e', H d) ∧ ((e' 0 = S ∧ e' 1 = .int .i64 a ∧ e' 2 = .int .i64 b ∧ e' 3 = .int .i64 lim ∧ e' 8 = .bool wb ∧ e' 9 = .bool wp) ∧ e' 10 = .int .i64 ((b - a : Nat) : Int)) := by
        simp (disch := first | assumption | omega | (simp [*] <;> omega) | fail) [-getElem?_pos, List.getElem?_cons_zero, List.getElem?_cons_succ, pdBO, unblock, i_slices_pdqsortOrdered_int64_B1, takeS, p0, p1, p2, p3, p10, p11, w0, c1', c2]
      obtain ⟨e', h1, ⟨q0, q1, q2, q3, q4, q5⟩, h2⟩ := hgoal
      exact ⟨e', h1, ⟨q0, q1, q2, q3, q4, q5⟩, h2⟩
omit hS in
theorem pdqO_B (hN255 : N ≤ 255) (a b : Nat) (hab : a ≤ b) (hb : b ≤ N) (d : Array Nat) (hd : d.size = N) (lim : Int) (hl0 : 1 ≤ lim) (hl1 : lim ≤ 255) (wb wp : Bool) (e : FE) (x : Value) (p : PO S e a b lim wb wp) (p12 : e 10 = x) :
    ∃ e' d1 lim', fcode (vcall F nro) nro (takeS 0 (dropS 3 pdBO)) e (H d) = some (.normal, e', H d1) ∧ d1.size = N ∧ PermIn a b d d1 ∧ (0 ≤ lim' ∧ lim' ≤ 255) ∧ PO S e' a b lim' wb wp ∧ e' 10 = x := by
  have p0 := p.e0
  have p1 := p.e1
  have p2 := p.e2
  have p3 := p.e3
  have p10 := p.e8
  have p11 := p.e9
  cases wb with
  | true =>
    have hgoal : ∃ e', fcode (vcall F nro) nro (takeS 0 (dropS 3 pdBO)) e (H d) = some (.normal, e', H d) ∧ ((e' 0 = S ∧ e' 1 = .int .i64 a ∧ e' 2 = .int .i64 b ∧ e' 3 = .int .i64 lim ∧ e' 8 = .bool true ∧ e' 9 = .bool wp) ∧ e' 10 = x) := by
      simp (disch := first | assumption | omega | (simp [*] <;> omega) | fail) [-getElem?_pos, List.getElem?_cons_zero, List.getElem?_cons_succ, pdBO, unblock, i_slices_pdqsortOrdered_int64_B1, takeS, dropS, p0, p1, p2, p3, p10, p11, p12]
    obtain ⟨e', h1, ⟨r0, r1, r2, r3, r4, r5⟩, h2⟩ := hgoal
    exact ⟨e', d, lim, h1, hd, permIn_refl d a b, by omega, ⟨r0, r1, r2, r3, r4, r5⟩, h2⟩
  | false =>
    obtain ⟨d1, q1, q2, q3⟩ := c_ord_break E a b d hd hab hb hN255
    have w1 : IntKind.i64.wrap (lim - 1) = lim - 1 := wrap64 (by omega) (by omega)
    have hgoal : ∃ e', fcode (vcall F nro) nro (takeS 0 (dropS 3 pdBO)) e (H d) = some (.normal, e', H d1) ∧ ((e' 0 = S ∧ e' 1 = .int .i64 a ∧ e' 2 = .int .i64 b ∧ e' 3 = .int .i64 (lim - 1) ∧ e' 8 = .bool false ∧ e' 9 = .bool wp) ∧ e' 10 = x) := by
      simp (disch := first | assumption | omega | (simp [*] <;> omega) | fail) [-getElem?_pos, List.getElem?_cons_zero, List.getElem?_cons_succ, pdBO, unblock, i_slices_pdqsortOrdered_int64_B1, takeS, dropS, p0, p1, p2, p3, p10, p11, p12, q3, w1]
    obtain ⟨e', h1, ⟨r0, r1, r2, r3, r4, r5⟩, h2⟩ := hgoal
    exact ⟨e', d1, lim - 1, h1, q1, q2, by omega, ⟨r0, r1, r2, r3, r4, r5⟩, h2⟩
omit hS in
theorem pdqO_C (a b : Nat) (hab : a < b) (hb : b ≤ N) (d : Array Nat) (hd : d.size = N) (lim : Int) (wb wp : Bool) (e : FE) (x : Value) (p : PO S e a b lim wb wp) (p12 : e 10 = x) :
    ∃ e' d1 m t, fcode (vcall F nro) nro (takeS 1 (dropS 4 pdBO)) e (H d) = some (.normal, e', H d1) ∧ d1.size = N ∧ PermIn a b d d1 ∧ (a ≤ m ∧ m < b) ∧ PO S e' a b lim wb wp ∧ e' 10 = x ∧ e' 11 = .int .i64 ((m : Nat) : Int) ∧ e' 12 = .int .i64 t := by
  have hN := E.base.hN
  have p0 := p.e0
  have p1 := p.e1
  have p2 := p.e2
  have p3 := p.e3
  have p10 := p.e8
  have p11 := p.e9
  obtain ⟨m, t, hm, ht, hc⟩ := c_ord_pivot E d hd a b hab hb
  by_cases c : t = 2
  · have hr := c_ord_rev E.base a b d hd hab hb
    have hp := reverseRange_holds (α := Nat) d a b (by omega) (by omega)
    subst c
    obtain ⟨m', hm'⟩ : ∃ m' : Nat, m' = b - 1 - (m - a) := ⟨_, rfl⟩
    have w1 : IntKind.i64.wrap ((b : Int) - 1) = (b : Int) - 1 := wrap64 (by omega) (by omega)
    have w2 : IntKind.i64.wrap ((m : Int) - a) = (m : Int) - a := wrap64 (by omega) (by omega)
    have w3 : IntKind.i64.wrap ((b : Int) - 1 - ((m : Int) - a)) = m' := by rw [show (b : Int) - 1 - ((m : Int) - a) = m' by omega]; exact wrap64 (by omega) (by omega)
    have hgoal : ∃ e', fcode (vcall F nro) nro (takeS 1 (dropS 4 pdBO)) e (H d) = some (.normal, e', H (reverseRange d a b)) ∧ ((e' 0 = S ∧ e' 1 = .int .i64 a ∧ e' 2 = .int .i64 b ∧ e' 3 = .int .i64 lim ∧ e' 8 = .bool wb ∧ e' 9 = .bool wp) ∧ e' 10 = x ∧ e' 11 = .int .i64 ((m' : Nat) : Int) ∧ e' 12 = .int .i64 1) := by
      obtain ⟨r, hr2⟩ : ∃ r, r = reverseRange d a b := ⟨_, rfl⟩
      rw [← hr2] at hr ⊢
      clear hp hm hr2 hm'
      simp (disch := first | assumption | omega | (simp [*] <;> omega) | fail) [-getElem?_pos, List.getElem?_cons_zero, List.getElem?_cons_succ, pdBO, unblock, i_slices_pdqsortOrdered_int64_B1, takeS, dropS, p0, p1, p2, p3, p10, p11, p12, hc, hr, w1, w2, w3]
    obtain ⟨e', h1, ⟨r0, r1, r2, r3, r4, r5⟩, h2, h3, h4⟩ := hgoal
    exact ⟨e', _, m', 1, h1, by rw [hp.1]; exact hd, hp, by omega, ⟨r0, r1, r2, r3, r4, r5⟩, h2, h3, h4⟩
  · have c' : ¬ (t : Int) = 2 := by omega
    have hgoal : ∃ e', fcode (vcall F nro) nro (takeS 1 (dropS 4 pdBO)) e (H d) = some (.normal, e', H d) ∧ ((e' 0 = S ∧ e' 1 = .int .i64 a ∧ e' 2 = .int .i64 b ∧ e' 3 = .int .i64 lim ∧ e' 8 = .bool wb ∧ e' 9 = .bool wp) ∧ e' 10 = x ∧ e' 11 = .int .i64 ((m : Nat) : Int) ∧ e' 12 = .int .i64 t) := by
      clear hm ht
      simp (disch := first | assumption | omega | (simp [*] <;> omega) | fail) [-getElem?_pos, List.getElem?_cons_zero, List.getElem?_cons_succ, pdBO, unblock, i_slices_pdqsortOrdered_int64_B1, takeS, dropS, p0, p1, p2, p3, p10, p11, p12, hc, c', c]
    obtain ⟨e', h1, ⟨r0, r1, r2, r3, r4, r5⟩, h2, h3, h4⟩ := hgoal
    exact ⟨e', d, m, t, h1, hd, permIn_refl d a b, hm, ⟨r0, r1, r2, r3, r4, r5⟩, h2, h3, h4⟩
theorem pdqO_D (a b : Nat) (hab : a < b) (hb : b ≤ N) (d : Array Nat) (hd : d.size = N) (hB : Below (ltC cm) a b d) (lim : Int) (wb wp : Bool) (e : FE) (x y : Value) (t : Int) (p : PO S e a b lim wb wp) (p12 : e 10 = x) (p13 : e 11 = y) (p14 : e 12 = .int .i64 t) :
    (∃ d', d'.size = N ∧ PermIn a b d d' ∧ SortedIn (ltC cm) a b d' ∧ fcode (vcall F nro) nro (takeS 0 (dropS 6 pdBO)) e (H d) = some (.ret, fl [], H d')) ∨
    ∃ e' d1, fcode (vcall F nro) nro (takeS 0 (dropS 6 pdBO)) e (H d) = some (.normal, e', H d1) ∧ d1.size = N ∧ PermIn a b d d1 ∧ PO S e' a b lim wb wp ∧ e' 10 = x ∧ e' 11 = y := by
  have p0 := p.e0
  have p1 := p.e1
  have p2 := p.e2
  have p3 := p.e3
  have p10 := p.e8
  have p11 := p.e9
  by_cases c : wb = true ∧ wp = true ∧ t = 1
  · obtain ⟨rfl, rfl, rfl⟩ := c
    obtain ⟨hc, hs⟩ := c_ord_pis E.base a b hab hb d hd
    obtain ⟨q1, q2⟩ := partialInsertionSort_holds (lt := ltC cm) hS d a b hab (by omega) hB
    obtain ⟨r, hr⟩ : ∃ r, r = partialInsertionSort (ltC cm) d a b := ⟨_, rfl⟩
    rw [← hr] at hc hs q1 q2
    obtain ⟨r1, r2⟩ := r
    simp only at hc hs q1 q2
    cases r2 with
    | true =>
      left
      refine ⟨r1, hs, q1, q2 rfl, ?_⟩
      clear q1 q2 hr
      simp (disch := first | assumption | omega | (simp [*] <;> omega) | fail) [-getElem?_pos, List.getElem?_cons_zero, List.getElem?_cons_succ, pdBO, unblock, i_slices_pdqsortOrdered_int64_B1, takeS, dropS, p0, p1, p2, p3, p10, p11, p12, p13, p14, hc]
    | false =>
      right
      have hgoal : ∃ e', fcode (vcall F nro) nro (takeS 0 (dropS 6 pdBO)) e (H d) = some (.normal, e', H r1) ∧ ((e' 0 = S ∧ e' 1 = .int .i64 a ∧ e' 2 = .int .i64 b ∧ e' 3 = .int .i64 lim ∧ e' 8 = .bool true ∧ e' 9 = .bool true) ∧ e' 10 = x ∧ e' 11 = y) := by
        clear q1 q2 hr
        simp (disch := first | assumption | omega | (simp [*] <;> omega) | fail) [-getElem?_pos, List.getElem?_cons_zero, List.getElem?_cons_succ, pdBO, unblock, i_slices_pdqsortOrdered_int64_B1, takeS, dropS, p0, p1, p2, p3, p10, p11, p12, p13, p14, hc]
      obtain ⟨e', h1, ⟨s0, s1, s2, s3, s4, s5⟩, h2, h3⟩ := hgoal
      exact ⟨e', r1, h1, hs, q1, ⟨s0, s1, s2, s3, s4, s5⟩, h2, h3⟩
  · right
    have hgoal : ∃ e', fcode (vcall F nro) nro (takeS 0 (dropS 6 pdBO)) e (H d) = some (.normal, e', H d) ∧ ((e' 0 = S ∧ e' 1 = .int .i64 a ∧ e' 2 = .int .i64 b ∧ e' 3 = .int .i64 lim ∧ e' 8 = .bool wb ∧ e' 9 = .bool wp) ∧ e' 10 = x ∧ e' 11 = y) := by
      cases wb with
      | false => simp (disch := first | assumption | omega | (simp [*] <;> omega) | fail) [-getElem?_pos, List.getElem?_cons_zero, List.getElem?_cons_succ, pdBO, unblock, i_slices_pdqsortOrdered_int64_B1, takeS, dropS, p0, p1, p2, p3, p10, p11, p12, p13, p14]
      | true =>
        cases wp with
        | false => simp (disch := first | assumption | omega | (simp [*] <;> omega) | fail) [-getElem?_pos, List.getElem?_cons_zero, List.getElem?_cons_succ, pdBO, unblock, i_slices_pdqsortOrdered_int64_B1, takeS, dropS, p0, p1, p2, p3, p10, p11, p12, p13, p14]
        | true =>
          have c2 : ¬ t = 1 := fun h => c ⟨rfl, rfl, h⟩
          simp (disch := first | assumption | omega | (simp [*] <;> omega) | fail) [-getElem?_pos, List.getElem?_cons_zero, List.getElem?_cons_succ, pdBO, unblock, i_slices_pdqsortOrdered_int64_B1, takeS, dropS, p0, p1, p2, p3, p10, p11, p12, p13, p14, c2]
    obtain ⟨e', h1, ⟨s0, s1, s2, s3, s4, s5⟩, h2, h3⟩ := hgoal
    exact ⟨e', d, h1, hd, permIn_refl d a b, ⟨s0, s1, s2, s3, s4, s5⟩, h2, h3⟩
end
end Go.Proofs.Ytbilmoahcnllmaa.Zv

/- Sorting: the recursion. -/
namespace Go.Proofs.Ytbilmoahcnllmaa.Zv
open Go Go.Sort
variable {nro : Nat} {S : Value} {P : Int → Value} {ag : Nat → Value} {cm : Nat → Nat → Int} {N : Nat} {H : Array Nat → VH}
section
variable (E : SXO nro S P ag cm N H)
include E
theorem pdqO_E (a b m : Nat) (ham : a ≤ m) (hmb : m < b) (hb : b ≤ N) (d : Array Nat) (hd : d.size = N) (lim : Int) (wb wp : Bool) (e : FE) (x : Value) (p : PO S e a b lim wb wp) (p12 : e 10 = x) (p13 : e 11 = .int .i64 ((m : Nat) : Int)) :
    (0 < a ∧ ltC cm d[a - 1]! d[m]! = false ∧ ∃ e', fcode (vcall F nro) nro (takeS 0 (dropS 7 pdBO)) e (H d) = some (.exit 1, e', H (partitionEqual (ltC cm) d a b m).2) ∧ PO S e' (partitionEqual (ltC cm) d a b m).1 b lim wb wp) ∨
    ∃ e', fcode (vcall F nro) nro (takeS 0 (dropS 7 pdBO)) e (H d) = some (.normal, e', H d) ∧ PO S e' a b lim wb wp ∧ e' 10 = x ∧ e' 11 = .int .i64 ((m : Nat) : Int) := by
  have hN := E.base.hN
  have p0 := p.e0
  have p1 := p.e1
  have p2 := p.e2
  have p3 := p.e3
  have p10 := p.e8
  have p11 := p.e9
  have hix := E.base.idx
  have hld := E.base.load
  have hcm := E.base.cmp
  by_cases c0 : 0 < a
  · have c0' : (0 : Int) < a := by omega
    have w1 : IntKind.i64.wrap ((a : Int) - 1) = (a : Int) - 1 := wrap64 (by omega) (by omega)
    have g1 := getI_nat d ((a : Int) - 1) (a - 1) (by omega)
    have g2 := getI_nat d (m : Int) m rfl
    have k1 : (0 : Int) ≤ (a : Int) - 1 := by omega
    have k2 : (a : Int) - 1 < N := by omega
    have k3 : (0 : Int) ≤ m := by omega
    have k4 : (m : Int) < N := by omega
    rw [← g1, ← g2]
    by_cases c1 : cm (getI d ((a : Int) - 1)) (getI d (m : Int)) < 0
    · right
      have hgoal : ∃ e', fcode (vcall F nro) nro (takeS 0 (dropS 7 pdBO)) e (H d) = some (.normal, e', H d) ∧ ((e' 0 = S ∧ e' 1 = .int .i64 a ∧ e' 2 = .int .i64 b ∧ e' 3 = .int .i64 lim ∧ e' 8 = .bool wb ∧ e' 9 = .bool wp) ∧ e' 10 = x ∧ e' 11 = .int .i64 ((m : Nat) : Int)) := by
        clear g1 g2
        simp (disch := first | assumption | omega | (simp [*] <;> omega) | fail) [-getElem?_pos, List.getElem?_cons_zero, List.getElem?_cons_succ, pdBO, unblock, i_slices_pdqsortOrdered_int64_B1, takeS, dropS, p0, p1, p2, p3, p10, p11, p12, p13, c0', c0, w1, hix, hld, hcm, hd, k1, k2, k3, k4, c1]
      obtain ⟨e', h1, ⟨s0, s1, s2, s3, s4, s5⟩, h2, h3⟩ := hgoal
      exact ⟨e', h1, ⟨s0, s1, s2, s3, s4, s5⟩, h2, h3⟩
    · left
      refine ⟨c0, decide_eq_false c1, ?_⟩
      have hc := c_ord_partE E.base d hd a b m ham hmb hb
      obtain ⟨r, hr⟩ : ∃ r, r = partitionEqual (ltC cm) d a b m := ⟨_, rfl⟩
      rw [← hr] at hc ⊢
      have hgoal : ∃ e', fcode (vcall F nro) nro (takeS 0 (dropS 7 pdBO)) e (H d) = some (.exit 1, e', H r.2) ∧ (e' 0 = S ∧ e' 1 = .int .i64 ((r.1 : Nat) : Int) ∧ e' 2 = .int .i64 b ∧ e' 3 = .int .i64 lim ∧ e' 8 = .bool wb ∧ e' 9 = .bool wp) := by
        clear g1 g2 hr
        simp (disch := first | assumption | omega | (simp [*] <;> omega) | fail) [-getElem?_pos, List.getElem?_cons_zero, List.getElem?_cons_succ, pdBO, unblock, i_slices_pdqsortOrdered_int64_B1, takeS, dropS, p0, p1, p2, p3, p10, p11, p12, p13, c0', c0, w1, hix, hld, hcm, hd, k1, k2, k3, k4, c1, hc]
      obtain ⟨e', h1, s0, s1, s2, s3, s4, s5⟩ := hgoal
      exact ⟨e', h1, ⟨s0, s1, s2, s3, s4, s5⟩⟩
  · right
    have c0' : ¬ (0 : Int) < a := by omega
    have hgoal : ∃ e', fcode (vcall F nro) nro (takeS 0 (dropS 7 pdBO)) e (H d) = some (.normal, e', H d) ∧ ((e' 0 = S ∧ e' 1 = .int .i64 a ∧ e' 2 = .int .i64 b ∧ e' 3 = .int .i64 lim ∧ e' 8 = .bool wb ∧ e' 9 = .bool wp) ∧ e' 10 = x ∧ e' 11 = .int .i64 ((m : Nat) : Int)) := by
      simp (disch := first | assumption | omega | (simp [*] <;> omega) | fail) [-getElem?_pos, List.getElem?_cons_zero, List.getElem?_cons_succ, pdBO, unblock, i_slices_pdqsortOrdered_int64_B1, takeS, dropS, p0, p1, p2, p3, p10, p11, p12, p13, c0', c0]
    obtain ⟨e', h1, ⟨s0, s1, s2, s3, s4, s5⟩, h2, h3⟩ := hgoal
    exact ⟨e', h1, ⟨s0, s1, s2, s3, s4, s5⟩, h2, h3⟩

theorem pdqO_F (a b m mid : Nat) (ap : Bool) (d d4 L : Array Nat) (lim : Int) (wb wp : Bool) (e : FE) (len : Nat) (hlen : len ≤ 1000) (hmid : a ≤ mid ∧ mid < b ∧ b ≤ N) (p : PO S e a b lim wb wp) (p12 : e 10 = .int .i64 ((len : Nat) : Int)) (p13 : e 11 = .int .i64 ((m : Nat) : Int))
    (hc : vcall F nro k_slices_partitionOrdered_int64 [S, .int .i64 a, .int .i64 b, .int .i64 m] (H d) = some (.tuple #[.int .i64 ((mid : Nat) : Int), .bool ap], H d4))
    (hcall : if mid - a < b - mid then vcall F nro k_slices_pdqsortOrdered_int64 [S, .int .i64 a, .int .i64 mid, .int .i64 lim] (H d4) = some (.tuple #[], H L) else vcall F nro k_slices_pdqsortOrdered_int64 [S, .int .i64 ((mid + 1 : Nat) : Int), .int .i64 b, .int .i64 lim] (H d4) = some (.tuple #[], H L)) :
    ∃ e' wb', fcode (vcall F nro) nro (dropS 8 pdBO) e (H d) = some (.normal, e', H L) ∧ (if mid - a < b - mid then PO S e' (mid + 1) b lim wb' ap else PO S e' a mid lim wb' ap) := by
  have hN := E.base.hN
  have p0 := p.e0
  have p1 := p.e1
  have p2 := p.e2
  have p3 := p.e3
  have p10 := p.e8
  have p11 := p.e9
  obtain ⟨q, hq⟩ : ∃ q : Nat, q = len / 8 := ⟨_, rfl⟩
  have t1 : ((len : Nat) : Int).tdiv 8 = q := by rw [Int.tdiv_eq_ediv_of_nonneg (by omega)]; omega
  have w1 : IntKind.i64.wrap ((mid : Int) - a) = (mid : Int) - a := wrap64 (by omega) (by omega)
  have w2 : IntKind.i64.wrap ((b : Int) - mid) = (b : Int) - mid := wrap64 (by omega) (by omega)
  have w3 : IntKind.i64.wrap (q : Int) = q := wrap64 (by omega) (by omega)
  have w4 : IntKind.i64.wrap ((mid : Int) + 1) = (mid : Int) + 1 := wrap64 (by omega) (by omega)
  by_cases c : mid - a < b - mid
  · have c' : (mid : Int) - a < (b : Int) - mid := by omega
    rw [if_pos c] at hcall
    have hgoal : ∃ e', fcode (vcall F nro) nro (dropS 8 pdBO) e (H d) = some (.normal, e', H L) ∧ (e' 0 = S ∧ e' 1 = .int .i64 ((mid : Int) + 1) ∧ e' 2 = .int .i64 b ∧ e' 3 = .int .i64 lim ∧ e' 8 = .bool (decide ((q : Int) ≤ (mid : Int) - a)) ∧ e' 9 = .bool ap) := by
      clear hq hmid hlen
      simp (disch := first | assumption | omega | (simp [*] <;> omega) | fail) [-getElem?_pos, List.getElem?_cons_zero, List.getElem?_cons_succ, pdBO, unblock, i_slices_pdqsortOrdered_int64_B1, dropS, p0, p1, p2, p3, p10, p11, p12, p13, hc, t1, w1, w2, w3, w4, c', hcall]
    obtain ⟨e', h1, s0, s1, s2, s3, s4, s5⟩ := hgoal
    refine ⟨e', decide ((q : Int) ≤ (mid : Int) - a), h1, ?_⟩
    rw [if_pos c]
    exact ⟨s0, s1, s2, s3, s4, s5⟩
  · have c' : ¬ (mid : Int) - a < (b : Int) - mid := by omega
    rw [if_neg c] at hcall
    rw [show ((mid + 1 : Nat) : Int) = (mid : Int) + 1 by omega] at hcall
    have hgoal : ∃ e', fcode (vcall F nro) nro (dropS 8 pdBO) e (H d) = some (.normal, e', H L) ∧ (e' 0 = S ∧ e' 1 = .int .i64 a ∧ e' 2 = .int .i64 mid ∧ e' 3 = .int .i64 lim ∧ e' 8 = .bool (decide ((q : Int) ≤ (b : Int) - mid)) ∧ e' 9 = .bool ap) := by
      clear hq hmid hlen
      simp (disch := first | assumption | omega | (simp [*] <;> omega) | fail) [-getElem?_pos, List.getElem?_cons_zero, List.getElem?_cons_succ, pdBO, unblock, i_slices_pdqsortOrdered_int64_B1, dropS, p0, p1, p2, p3, p10, p11, p12, p13, hc, t1, w1, w2, w3, w4, c', hcall]
    obtain ⟨e', h1, s0, s1, s2, s3, s4, s5⟩ := hgoal
    refine ⟨e', decide ((q : Int) ≤ (b : Int) - mid), h1, ?_⟩
    rw [if_neg c]
    exact ⟨s0, s1, s2, s3, s4, s5⟩
end

theorem pdBO_eq : i_slices_pdqsortOrdered_int64_B1 = .block 1 pdBO := rfl
theorem floop_po (e : FE) (a b : Nat) (lim : Int) (wb wp : Bool) (p : PO S e a b lim wb wp) : [0, 1, 2, 3, 8, 9].map e = [S, .int .i64 a, .int .i64 b, .int .i64 lim, .bool wb, .bool wp] := by
  simp [p.e0, p.e1, p.e2, p.e3, p.e8, p.e9]

/-- The sort sorts: its loop, and its call. -/
def PdqLO (nro : Nat) (S : Value) (cm : Nat → Nat → Int) (N : Nat) (H : Array Nat → VH) (a b : Nat) : Prop :=
  ∀ (d : Array Nat), d.size = N → Below (ltC cm) a b d → ∀ (lim : Int), 0 ≤ lim → lim ≤ 255 → ∀ (wb wp : Bool) (d0 : Array Nat), ∃ d', d'.size = N ∧ PermIn a b d d' ∧ SortedIn (ltC cm) a b d' ∧ floop (vcall F nro) nro [0, 1, 2, 3, 8, 9] i_slices_pdqsortOrdered_int64_B1 (H d0) [S, .int .i64 a, .int .i64 b, .int .i64 lim, .bool wb, .bool wp] (H d) = some (.ret, fl [], H d')
theorem PdqLO.call (E : SXO nro S P ag cm N H) {a b : Nat} (h : PdqLO nro S cm N H a b) (d : Array Nat) (hd : d.size = N) (hB : Below (ltC cm) a b d) (lim : Int) (hl : 0 ≤ lim) (hl2 : lim ≤ 255) :
    ∃ d', d'.size = N ∧ PermIn a b d d' ∧ SortedIn (ltC cm) a b d' ∧ vcall F nro k_slices_pdqsortOrdered_int64 [S, .int .i64 a, .int .i64 b, .int .i64 lim] (H d) = some (.tuple #[], H d') := by
  obtain ⟨d', h1, h2, h3, lp⟩ := h d hd hB lim hl hl2 true true d
  refine ⟨d', h1, h2, h3, ?_⟩
  have hc0 := fun q vs => E.base.clean0 d q vs
  clear h2 h3
  refine v_slices_pdqsortOrdered_int64 (by simp [i_slices_pdqsortOrdered_int64]) ?_
  rw [fbody_eq]
  simp (disch := first | assumption | omega | (simp [*] <;> omega) | fail) [-getElem?_pos, List.getElem?_cons_zero, List.getElem?_cons_succ, i_slices_pdqsortOrdered_int64, lp, hc0, fresults, fresL]

set_option maxHeartbeats 1000000 in
theorem pdqO_all (E : SXO nro S P ag cm N H) (hS : SWO (ltC cm)) (hN255 : N ≤ 255) : ∀ (n a b : Nat), b - a ≤ n → a ≤ b → b ≤ N → PdqLO nro S cm N H a b := by
  intro n
  induction n with
  | zero =>
    intro a b hn hab hb d hd hB lim hl hl2 wb wp d0
    have pe : PO S (fl ([0, 1, 2, 3, 8, 9].zip [S, .int .i64 a, .int .i64 b, .int .i64 lim, .bool wb, .bool wp])) a b lim wb wp := ⟨rfl, rfl, rfl, rfl, rfl, rfl⟩
    rcases pdqO_A E hS a b hab hb d hd lim wb wp _ pe with ⟨d', h1, h2, h3, h4⟩ | ⟨h1, _⟩
    · refine ⟨d', h1, h2, h3, ?_⟩
      rw [floop_at pdBO_eq, fcode_block, fcode_parts (vcall F nro) nro 2 pdBO _ _ (by decide), h4]
      rfl
    · omega
  | succ n ih =>
    intro a b hn hab hb d hd hB lim hl hl2 wb wp d0
    have pe : PO S (fl ([0, 1, 2, 3, 8, 9].zip [S, .int .i64 a, .int .i64 b, .int .i64 lim, .bool wb, .bool wp])) a b lim wb wp := ⟨rfl, rfl, rfl, rfl, rfl, rfl⟩
    obtain ⟨env, henv⟩ : ∃ env, env = fl ([0, 1, 2, 3, 8, 9].zip [S, .int .i64 a, .int .i64 b, .int .i64 lim, .bool wb, .bool wp]) := ⟨_, rfl⟩
    rw [floop_at pdBO_eq, fcode_block, ← henv]
    rw [← henv] at pe
    rw [fcode_parts (vcall F nro) nro 2 pdBO _ _ (by decide)]
    rcases pdqO_A E hS a b hab hb d hd lim wb wp _ pe with ⟨d', h1, h2, h3, h4⟩ | ⟨h12, hl3, eA, fA, peA, pA12⟩
    · refine ⟨d', h1, h2, h3, ?_⟩
      rw [h4]
      rfl
    rw [← fcode_parts (vcall F nro) nro 2 pdBO _ _ (by decide), seq_step 2 (by decide) fA]
    obtain ⟨eB, d1, limB, fB, s1, q1, hlB, peB, pB12⟩ := pdqO_B E hN255 a b hab hb d hd lim (by omega) hl2 wb wp eA _ peA pA12
    rw [seq_step 0 (by decide) fB]
    have B1 := hB.perm (by omega) q1
    obtain ⟨eC, d2, m, t, fC, s2, q2, hm, peC, pC12, pC13, pC14⟩ := pdqO_C E a b (by omega) hb d1 s1 limB wb wp eB _ peB pB12
    have t1 : dropS (0 + 1) (dropS (2 + 1) pdBO) = dropS 4 pdBO := rfl
    rw [t1, seq_step 1 (by decide) fC]
    have B2 := B1.perm (by omega) q2
    have t2 : dropS (1 + 1) (dropS 4 pdBO) = dropS 6 pdBO := rfl
    rw [t2]
    have Q2 := permIn_trans _ _ _ a b q1 q2
    rcases pdqO_D E hS a b (by omega) hb d2 s2 B2 limB wb wp eC _ _ t peC pC12 pC13 pC14 with ⟨d', h1, h2, h3, h4⟩ | ⟨eD, d3, fD, s3, q3, peD, pD12, pD13⟩
    · refine ⟨d', h1, permIn_trans _ _ _ a b Q2 h2, h3, ?_⟩
      rw [seq_ret 0 (by decide) (by simp) h4]
      rfl
    rw [seq_step 0 (by decide) fD]
    have t3 : dropS (0 + 1) (dropS 6 pdBO) = dropS 7 pdBO := rfl
    rw [t3]
    have B3 := B2.perm (by omega) q3
    have Q3 := permIn_trans _ _ _ a b Q2 q3
    rcases pdqO_E E a b m hm.1 hm.2 hb d3 s3 limB wb wp eD _ peD pD12 pD13 with ⟨ha0, hlt, eE, fE, peE⟩ | ⟨eE, fE, peE, pE12, pE13⟩
    · -- equal elements to the left
      obtain ⟨g1, g2, g3, g4, g5⟩ := round_eq hS (partitionEqual_holds (ltC cm)) (d3 := d3) (d4 := (partitionEqual (ltC cm) d3 a b m).2) (mid := (partitionEqual (ltC cm) d3 a b m).1) ha0 hm.1 hm.2 (by omega) B3 hlt rfl
      obtain ⟨r, hr⟩ : ∃ r, r = partitionEqual (ltC cm) d3 a b m := ⟨_, rfl⟩
      rw [← hr] at g1 g2 g3 g4 g5 fE peE
      rw [seq_ret 0 (by decide) (by simp) fE]
      obtain ⟨d', i1, i2, i3, i4⟩ := ih r.1 b (by omega) g2 hb r.2 (by omega) g4 limB hlB.1 hlB.2 wb wp d0
      obtain ⟨z1, z2⟩ := g5 d' i2 i3
      refine ⟨d', i1, permIn_trans _ _ _ a b Q3 z1, z2, ?_⟩
      rw [← i4]
      show kloop (vcall F nro) nro [0, 1, 2, 3, 8, 9] i_slices_pdqsortOrdered_int64_B1 (H d0) (kclean (H d0) ([0, 1, 2, 3, 8, 9].map eE) (H r.2)) = _
      rw [floop_po eE r.1 b limB wb wp peE]
      have hc := E.base.clean0 d0 r.2
      have oS := E.base.oS
      clear g1 g2 g3 g4 g5 i1 i2 i3 i4 z1 z2 hr
      simp (disch := first | assumption | omega | (simp [*] <;> omega) | fail) [-getElem?_pos, List.getElem?_cons_zero, List.getElem?_cons_succ, hc, oS]
    · rw [seq_step 0 (by decide) fE]
      have t4 : dropS (0 + 1) (dropS 7 pdBO) = dropS 8 pdBO := rfl
      rw [t4]
      have hpt := c_ord_part E.base d3 s3 a b m hm.1 hm.2 hb
      obtain ⟨r, hr⟩ : ∃ r, r = partition (ltC cm) d3 a b m := ⟨_, rfl⟩
      rw [← hr] at hpt
      obtain ⟨mid, ap, d4⟩ := r
      simp only at hpt
      obtain ⟨g1, g2, g3, g4, g5, g6, g7⟩ := round_part hS (partition_holds (ltC cm)) hm.1 hm.2 (show b ≤ d3.size by omega) B3 hr.symm
      by_cases c : mid - a < b - mid
      · obtain ⟨L, l1, l2, l3, l4⟩ := (ih a mid (by omega) g1 (by omega)).call E d4 (by omega) g4 limB hlB.1 hlB.2
        obtain ⟨g8, g9⟩ := g6 L l2 l3
        obtain ⟨eF, wbF, fF, peF⟩ := pdqO_F E a b m mid ap d3 d4 L limB wb wp eE (b - a) (by have := E.base.hN; omega) ⟨g1, g2, hb⟩ peE pE12 pE13 hpt (by rw [if_pos c]; exact l4)
        rw [if_pos c] at peF
        rw [fF]
        obtain ⟨d', i1, i2, i3, i4⟩ := ih (mid + 1) b (by omega) (by omega) hb L l1 g8 limB hlB.1 hlB.2 wbF ap d0
        obtain ⟨z1, z2⟩ := g9 d' i2 i3
        refine ⟨d', i1, permIn_trans _ _ _ a b Q3 z1, z2, ?_⟩
        rw [← i4]
        show kloop (vcall F nro) nro [0, 1, 2, 3, 8, 9] i_slices_pdqsortOrdered_int64_B1 (H d0) (kclean (H d0) ([0, 1, 2, 3, 8, 9].map eF) (H L)) = _
        rw [floop_po eF (mid + 1) b limB wbF ap peF]
        have hc := E.base.clean0 d0 L
        have oS := E.base.oS
        clear g1 g2 g3 g4 g5 g6 g7 g8 g9 i1 i2 i3 i4 z1 z2 hr
        simp (disch := first | assumption | omega | (simp [*] <;> omega) | fail) [-getElem?_pos, List.getElem?_cons_zero, List.getElem?_cons_succ, hc, oS]
      · obtain ⟨L, l1, l2, l3, l4⟩ := (ih (mid + 1) b (by omega) (by omega) hb).call E d4 (by omega) g5 limB hlB.1 hlB.2
        obtain ⟨g8, g9⟩ := g7 L l2 l3
        obtain ⟨eF, wbF, fF, peF⟩ := pdqO_F E a b m mid ap d3 d4 L limB wb wp eE (b - a) (by have := E.base.hN; omega) ⟨g1, g2, hb⟩ peE pE12 pE13 hpt (by rw [if_neg c]; exact l4)
        rw [if_neg c] at peF
        rw [fF]
        obtain ⟨d', i1, i2, i3, i4⟩ := ih a mid (by omega) g1 (by omega) L l1 g8 limB hlB.1 hlB.2 wbF ap d0
        obtain ⟨z1, z2⟩ := g9 d' i2 i3
        refine ⟨d', i1, permIn_trans _ _ _ a b Q3 z1, z2, ?_⟩
        rw [← i4]
        show kloop (vcall F nro) nro [0, 1, 2, 3, 8, 9] i_slices_pdqsortOrdered_int64_B1 (H d0) (kclean (H d0) ([0, 1, 2, 3, 8, 9].map eF) (H L)) = _
        rw [floop_po eF a mid limB wbF ap peF]
        have hc := E.base.clean0 d0 L
        have oS := E.base.oS
        clear g1 g2 g3 g4 g5 g6 g7 g8 g9 i1 i2 i3 i4 z1 z2 hr
        simp (disch := first | assumption | omega | (simp [*] <;> omega) | fail) [-getElem?_pos, List.getElem?_cons_zero, List.getElem?_cons_succ, hc, oS]
end Go.Proofs.Ytbilmoahcnllmaa.Zv

/- slices.Sort of numbers, up to 255 of them. -/
namespace Go.Proofs.Ytbilmoahcnllmaa.Zv
open Go Go.Sort
section
variable {nro : Nat} {S : Value} {P : Int → Value} {ag : Nat → Value} {cm : Nat → Nat → Int} {N : Nat} {H : Array Nat → VH}
theorem c_ord_Sort (E : SXO nro S P ag cm N H) (hS : SWO (ltC cm)) (hN255 : N ≤ 255) (d : Array Nat) (hd : d.size = N) :
    ∃ d', d'.size = N ∧ PermIn 0 N d d' ∧ SortedIn (ltC cm) 0 N d' ∧ vcall F nro k_slices_Sort_int64_int64 [S] (H d) = some (.tuple #[], H d') := by
  obtain ⟨y, y1, _, _, e1⟩ := c_bits_Len64x (nro := nro) N hN255 (H d)
  have e2 : vcall F nro k_math_bits_Len [.int .u64 N] (H d) = some (.int .i64 y, H d) := by
    refine v_math_bits_Len (by simp [i_math_bits_Len]) ?_
    rw [fbody_eq]
    simp (disch := first | assumption | omega | (simp [*] <;> omega) | fail) [i_math_bits_Len, e1]
  obtain ⟨d', h1, h2, h3, h4⟩ := (pdqO_all E hS hN255 N 0 N (by omega) (by omega) (Nat.le_refl _)).call E d hd (.inl rfl) y (by omega) (by omega)
  refine ⟨d', h1, h2, h3, ?_⟩
  have vl := E.base.vln d hd
  have hc0 := fun q vs => E.base.clean0 d q vs
  have w1 : IntKind.u64.wrap (N : Int) = N := wrapu64 (by omega) (by omega)
  simp only [Int.natCast_zero] at h4
  clear h2 h3
  refine v_slices_Sort_int64_int64 (by simp [i_slices_Sort_int64_int64]) ?_
  rw [fbody_eq]
  simp (disch := first | assumption | omega | (simp [*] <;> omega) | fail) [-getElem?_pos, List.getElem?_cons_zero, List.getElem?_cons_succ, i_slices_Sort_int64_int64, vl, w1, e2, h4, hc0, fresults, fresL]
end
section
variable {nro : Nat}
def hpI (G : VH) (blk : Nat) (f : Nat → Int) (d : Array Nat) : VH := G.set blk ⟨1, ints (d.toList.map f)⟩
theorem se_ints {G : VH} {blk : Nat} (hb : blk < G.length) (hnb : nro ≤ blk) (f : Nat → Int) {N : Nat} (hN : N ≤ 1000) :
    SO nro (.slice (some ⟨blk, 0, none⟩) N N) (fun x => .pointer (some ⟨blk, x.toNat, some N⟩)) (fun j => .int .i64 (f j)) (fun x y => f x - f y) N (hpI G blk f) := by
  have hlen : ∀ d, (hpI G blk f d).length = G.length := fun d => by simp [hpI]
  have hat : ∀ d, (hpI G blk f d)[blk]? = some ⟨1, ints (d.toList.map f)⟩ := fun d => by unfold hpI; rw [List.getElem?_set, if_pos rfl, if_pos hb]
  refine ⟨fun d d' => by rw [hlen, hlen], fun d => by rw [hlen]; omega, ?_, ?_, ?_, ?_, ?_, ?_, ?_, hN⟩
  · intro n hln
    rw [hlen] at hln
    intro r hr
    simp [trefs, vrefs, crefs, arefs] at hr
    omega
  · intro d x hd h1 h2
    unfold vidx
    simp only [hat]
    simp [ints, hd, h1, h2]
  · intro d x hd h1 h2
    have hx : x.toNat < d.toList.length := by rw [Array.length_toList (xs := d)]; omega
    have hx' : x.toNat < d.size := by omega
    unfold vload vget
    simp only [hat]
    rw [if_pos ⟨by simp [ints, hd], by simp [ints]; omega⟩]
    have : (List.take 1 (List.drop x.toNat (ints (d.toList.map f)))) = [.int .i64 (f (getI d x))] := by
      rw [List.drop_eq_getElem_cons (by simp [ints]; omega)]
      simp [ints, getI, hx']
    simp only [this]
    rfl
  · intro d x v hd h1 h2
    have hx' : x.toNat < d.size := by omega
    unfold vstore
    simp only [hat]
    rw [if_pos ⟨hnb, by simp [ints, hd], by simp [ints]; omega, rfl, rfl⟩]
    congr 1
    unfold hpI setI
    rw [Array.toList_setIfInBounds, List.set_set]
    congr 2
    unfold splice
    simp only [vcells_int, List.length_singleton]
    rw [List.map_set, ints, ints, List.map_set, List.set_eq_take_append_cons_drop, if_pos (by simp; omega)]
    simp
  · intro d x y
    rw [c_cmp_Less]
    congr 4
    simp only [eq_iff_iff]
    omega
  · intro d d'
    refine ⟨by rw [hlen, hlen], fun i p hp => ?_⟩
    by_cases hi : i = blk
    · subst hi
      rw [hat] at hp
      cases hp
      right
      exact flatO_ints _ 1 _
    · left
      rw [← hp]
      unfold hpI
      rw [List.getElem?_set, if_neg (Ne.symm hi), List.getElem?_set, if_neg (Ne.symm hi)]
  · intro d hd
    unfold vlen
    simp only [hat]
    simp [ints, hd]
theorem swo_sub (f : Nat → Int) : SWO (ltC fun x y => f x - f y) := by
  refine ⟨fun x => ?_, fun x y z h1 h2 => ?_, fun x y z h1 h2 => ?_⟩
  · simp [ltC]
  · simp only [ltC, decide_eq_true_eq] at h1 h2 ⊢; omega
  · simp only [ltC, decide_eq_false_iff_not] at h1 h2 ⊢; omega
/-- Sorted lists with the same numbers are alike. -/
theorem perm_sorted_eq : ∀ (xs ys : List Int), xs.Perm ys → xs.Pairwise (· ≤ ·) → ys.Pairwise (· ≤ ·) → xs = ys := fun xs ys h h1 h2 => h.eq_of_pairwise (fun a b _ _ h3 h4 => by omega) h1 h2
theorem srtB_pw {xs : List Int} : SrtB 0 xs.length xs ↔ xs.Pairwise (· ≤ ·) := by
  rw [List.pairwise_iff_getElem]
  constructor
  · intro h i j hi hj hij
    have := h i j (by omega) hij hj
    rwa [getD_at xs hi, getD_at xs hj] at this
  · intro h p q _ hpq hq
    rw [getD_at xs hq, getD_at xs (show p < xs.length by omega)]
    exact h p q _ _ hpq
theorem c_Sort {G : VH} {blk : Nat} {xs : List Int} (hb : G[blk]? = some ⟨1, ints xs⟩) (hnb : nro ≤ blk) (h255 : xs.length ≤ 255) :
    vcall F nro k_slices_Sort_int64_int64 [.slice (some ⟨blk, 0, none⟩) xs.length xs.length] G = some (.tuple #[], G.set blk ⟨1, ints (insS 0 xs.length xs)⟩) := by
  have hlt := (List.getElem?_eq_some_iff.mp hb).1
  obtain ⟨f, hf⟩ : ∃ f : Nat → Int, f = fun i => xs.getD i 0 := ⟨_, rfl⟩
  have X : SXO nro _ _ _ _ xs.length (hpI G blk f) := ⟨se_ints hlt hnb f (by omega), fun o => by
    have : (fun d => hpI G blk f d ++ [o]) = hpI (G ++ [o]) blk f := by
      funext d
      unfold hpI
      rw [List.set_append_left _ _ hlt]
    rw [this]
    exact se_ints (by simp; omega) hnb f (by omega)⟩
  obtain ⟨d', s1, s2, s3, s4⟩ := c_ord_Sort X (swo_sub f) h255 (Array.range xs.length) (by simp)
  have hx : (List.range xs.length).map f = xs := by
    rw [hf]
    apply List.ext_getElem (by simp)
    intro i p1 p2
    simp [List.getD_eq_getElem?_getD, p2]
  have h0 : hpI G blk f (Array.range xs.length) = G := by
    unfold hpI
    rw [Array.toList_range, hx]
    apply List.ext_getElem? fun i => ?_
    rw [List.getElem?_set]
    by_cases e : blk = i
    · subst e; rw [if_pos rfl, if_pos hlt, hb]
    · rw [if_neg e]
  have hperm : d'.toList.Perm (List.range xs.length) := by
    have := s2.2.2
    rw [Array.extract_eq_self_of_le (by omega), Array.extract_eq_self_of_le (by simp)] at this
    simpa using this
  have hp := hperm.map f
  rw [hx] at hp
  have hs : (d'.toList.map f).Pairwise (· ≤ ·) := by
    rw [List.pairwise_map, List.pairwise_iff_getElem]
    intro i j hi hj hij
    have hs := s3 i j (by omega) hij (by rw [← s1]; simpa using hj)
    have hi' : i < d'.size := by simpa using hi
    have hj' : j < d'.size := by simpa using hj
    have gi : d'[i]! = d'.toList[i] := by simp [hi']
    have gj : d'[j]! = d'.toList[j] := by simp [hj']
    rw [gi, gj] at hs
    unfold ltC at hs
    simp at hs
    simp only [Array.getElem_toList]
    omega
  have e : d'.toList.map f = insS 0 xs.length xs := by
    have q := insS_perm (a := 0) (b := xs.length) (xs := xs) (Nat.le_refl _)
    have q2 := insS_sorted (a := 0) (b := xs.length) (xs := xs) (Nat.le_refl _)
    refine perm_sorted_eq _ _ (hp.trans q.symm) hs ?_
    rw [← q.length_eq] at q2
    rw [q.length_eq] at q2
    exact srtB_pw.mp (by rw [q.length_eq]; exact q2)
  rw [h0] at s4
  unfold hpI at s4
  rw [e] at s4
  exact s4
end
end Go.Proofs.Ytbilmoahcnllmaa.Zv

/- What is generated: plain. -/
namespace Go.Proofs.Ytbilmoahcnllmaa.Zv
open Go
/-- What a list of elements generates. -/
inductive Gen (m : Nat → Nat → Nat) (ss : List Nat) : Nat → Prop
  | zero : Gen m ss 0
  | step (x s : Nat) : Gen m ss x → s ∈ ss → Gen m ss (m x s)
/-- The state of the search: all found, those before i seen through. -/
structure GenJ (N : Nat) (m : Nat → Nat → Nat) (ss : List Nat) (i : Nat) (out : List Nat) : Prop where
  nd : out.Nodup
  lt : ∀ x ∈ out, x < N
  z : 0 ∈ out
  gen : ∀ x ∈ out, Gen m ss x
  cl : ∀ p (hp : p < out.length), p < i → ∀ s ∈ ss, m out[p] s ∈ out
/-- One product. -/
def gn1 (m : Nat → Nat → Nat) (i s : Nat) (out : List Nat) : List Nat := if m (out.getD i 0) s ∈ out then out else out ++ [m (out.getD i 0) s]
/-- The products of one element with all. -/
def gnR (m : Nat → Nat → Nat) (i : Nat) (ss : List Nat) (n k : Nat) (out : List Nat) : List Nat := upF (fun k out => gn1 m i (ss.getD k 0) out) n k out
section
variable {N : Nat} {m : Nat → Nat → Nat} {ss : List Nat} (hm : ∀ x y, x < N → y < N → m x y < N) (hss : ∀ s ∈ ss, s < N)
theorem gn1_ext (i s : Nat) (out : List Nat) : ∃ L, gn1 m i s out = out ++ L := by
  unfold gn1
  split
  · exact ⟨[], by simp⟩
  · exact ⟨_, rfl⟩
theorem gn1_mem (i s : Nat) (out : List Nat) : m (out.getD i 0) s ∈ gn1 m i s out := by
  unfold gn1
  split
  · assumption
  · simp
theorem GenJ.len {i : Nat} {out : List Nat} (J : GenJ N m ss i out) : out.length ≤ N := by
  have := nodup_sub_len (l2 := List.range N) J.nd (fun x hx => by simpa using J.lt x hx)
  simpa using this
include hm hss
theorem GenJ.one {i s : Nat} {out : List Nat} (J : GenJ N m ss i out) (hi : i < out.length) (hs : s ∈ ss) : GenJ N m ss i (gn1 m i s out) := by
  have hg : out.getD i 0 = out[i] := by simp [List.getD_eq_getElem?_getD, hi]
  have hmem : out[i] ∈ out := List.getElem_mem hi
  unfold gn1
  rw [hg]
  split
  · exact J
  · rename_i hno
    refine ⟨?_, ?_, by simp [J.z], ?_, ?_⟩
    · rw [List.nodup_append]
      refine ⟨J.nd, by simp, ?_⟩
      intro a ha b hb e
      simp only [List.mem_singleton] at hb
      rw [e, hb] at ha
      exact hno ha
    · intro x hx
      rcases List.mem_append.mp hx with hx | hx
      · exact J.lt x hx
      · simp only [List.mem_singleton] at hx
        rw [hx]
        exact hm _ _ (J.lt _ hmem) (hss s hs)
    · intro x hx
      rcases List.mem_append.mp hx with hx | hx
      · exact J.gen x hx
      · simp only [List.mem_singleton] at hx
        rw [hx]
        exact .step _ _ (J.gen _ hmem) hs
    · intro p hp hpi t ht
      have hp' : p < out.length := by omega
      rw [List.getElem_append_left hp']
      exact List.mem_append_left _ (J.cl p hp' hpi t ht)
/-- All products of one element. -/
theorem GenJ.row {i : Nat} {out : List Nat} (J : GenJ N m ss i out) (hi : i < out.length) : GenJ N m ss (i + 1) (gnR m i ss ss.length 0 out) ∧ out.length ≤ (gnR m i ss ss.length 0 out).length := by
  have key := upF_inv (f := fun k out => gn1 m i (ss.getD k 0) out) (n := ss.length) (fun k o => GenJ N m ss i o ∧ (∃ L, o = out ++ L) ∧ ∀ q, q < k → m (out.getD i 0) (ss.getD q 0) ∈ o) (fun k o hk ⟨h1, ⟨L, hL⟩, h3⟩ => by
    have hsk : ss.getD k 0 ∈ ss := by
      rw [List.getD_eq_getElem?_getD, List.getElem?_eq_getElem hk]
      exact List.getElem_mem hk
    have hio : i < o.length := by rw [hL]; simp; omega
    have hgo : o.getD i 0 = out.getD i 0 := by
      rw [hL, List.getD_eq_getElem?_getD, List.getElem?_append_left hi, List.getD_eq_getElem?_getD]
    obtain ⟨L2, hL2⟩ := gn1_ext (m := m) i (ss.getD k 0) o
    refine ⟨h1.one hm hss hio hsk, ⟨L ++ L2, by rw [hL2, hL, List.append_assoc]⟩, fun q hq => ?_⟩
    by_cases e : q = k
    · rw [e, ← hgo]
      exact gn1_mem i _ o
    · have := h3 q (by omega)
      rw [hL2]
      exact List.mem_append_left _ this) 0 out (by omega) ⟨J, ⟨[], by simp⟩, fun q hq => by omega⟩
  obtain ⟨h1, ⟨L, hL⟩, h3⟩ := key
  change GenJ N m ss i (gnR m i ss ss.length 0 out) at h1
  change gnR m i ss ss.length 0 out = out ++ L at hL
  refine ⟨⟨h1.nd, h1.lt, h1.z, h1.gen, ?_⟩, by rw [hL]; simp⟩
  intro p hp hpi s hs
  by_cases e : p = i
  · subst e
    obtain ⟨q, hq, rfl⟩ := List.mem_iff_getElem.mp hs
    have := h3 q hq
    have e1 : (gnR m p ss ss.length 0 out)[p] = out.getD p 0 := by
      have : (gnR m p ss ss.length 0 out)[p]? = out[p]? := by rw [hL, List.getElem?_append_left hi]
      rw [List.getElem?_eq_getElem hp] at this
      rw [List.getD_eq_getElem?_getD, ← this]; rfl
    have e2 : ss.getD q 0 = ss[q] := by rw [List.getD_eq_getElem?_getD, List.getElem?_eq_getElem hq]; rfl
    rw [e2] at this
    rw [e1]; exact this
  · exact h1.cl p hp (by omega) s hs
end
section
variable {N : Nat} {m : Nat → Nat → Nat} {ss : List Nat}
theorem GenJ.done {out : List Nat} {i : Nat} (J : GenJ N m ss i out) (hi : out.length ≤ i) (x : Nat) : x ∈ out ↔ Gen m ss x := by
  refine ⟨J.gen x, fun h => ?_⟩
  induction h with
  | zero => exact J.z
  | step x s _ hs ih =>
    obtain ⟨p, hp, rfl⟩ := List.mem_iff_getElem.mp ih
    exact J.cl p hp (by omega) s hs
open Classical in
/-- What is generated, in order. -/
noncomputable def genL (N : Nat) (m : Nat → Nat → Nat) (ss : List Nat) : List Nat := (List.range N).filter fun x => decide (Gen m ss x)
theorem genL_mem {x : Nat} : x ∈ genL N m ss ↔ x < N ∧ Gen m ss x := by simp [genL]
theorem genL_nd : (genL N m ss).Nodup := List.nodup_range.sublist List.filter_sublist
theorem genL_len : (genL N m ss).length ≤ N := by
  have := List.length_filter_le (fun x => @decide (Gen m ss x) (Classical.propDecidable _)) (List.range N)
  simpa [genL] using this
theorem genL_srt : (genL N m ss).Pairwise (· < ·) := List.pairwise_lt_range.sublist List.filter_sublist
/-- Numbers as the machine has them. -/
def nats (l : List Nat) : List Int := l.map fun (x : Nat) => (x : Int)
theorem nats_len (l : List Nat) : (nats l).length = l.length := by simp [nats]
theorem nats_getD (l : List Nat) (i : Nat) : (nats l).getD i 0 = ((l.getD i 0 : Nat) : Int) := by
  unfold nats
  rw [List.getD_eq_getElem?_getD, List.getElem?_map, List.getD_eq_getElem?_getD]
  cases l[i]? <;> rfl
theorem nats_mem {l : List Nat} {x : Nat} : (x : Int) ∈ nats l ↔ x ∈ l := by
  unfold nats
  rw [List.mem_map]
  constructor
  · rintro ⟨y, hy, e⟩
    have : y = x := by omega
    rw [← this]; exact hy
  · exact fun h => ⟨x, h, rfl⟩
theorem nats_app (l : List Nat) (x : Nat) : nats (l ++ [x]) = nats l ++ [(x : Int)] := by simp [nats]
theorem nats_inj {a b : List Nat} (h : nats a = nats b) : a = b := by
  have := congrArg (List.map Int.toNat) h
  simpa [nats, Function.comp_def] using this
/-- What is found, sorted, is what is generated, in order. -/
theorem GenJ.sorted {out : List Nat} {i : Nat} (J : GenJ N m ss i out) (hi : out.length ≤ i) : insS 0 out.length (nats out) = nats (genL N m ss) := by
  have q := insS_perm (a := 0) (b := (nats out).length) (xs := nats out) (Nat.le_refl _)
  have q2 := insS_sorted (a := 0) (b := (nats out).length) (xs := nats out) (Nat.le_refl _)
  rw [← q.length_eq] at q2
  rw [q.length_eq] at q2
  rw [nats_len] at q q2
  refine perm_sorted_eq _ _ (q.trans ?_) (srtB_pw.mp (by rw [q.length_eq, nats_len]; exact q2)) ?_
  · exact List.Perm.map _ ((List.perm_ext_iff_of_nodup J.nd genL_nd).mpr fun x => by
      rw [J.done hi, genL_mem]
      exact ⟨fun h => ⟨J.lt x ((J.done hi x).mpr h), h⟩, fun h => h.2⟩)
  · unfold nats
    rw [List.pairwise_map]
    exact genL_srt.imp fun h => by omega
end
end Go.Proofs.Ytbilmoahcnllmaa.Zv

/- Equal lists, the first place of a number. -/
namespace Go.Proofs.Ytbilmoahcnllmaa.Zv
open Go
variable {nro : Nat}
theorem ne_iff_ex (xs ys : List Int) (hl : xs.length = ys.length) : (∃ j, 0 ≤ j ∧ j < xs.length ∧ xs.getD j 0 ≠ ys.getD j 0) ↔ xs ≠ ys := by
  constructor
  · rintro ⟨j, _, _, h⟩ e
    exact h (by rw [e])
  · intro hne
    apply Classical.byContradiction
    intro hno
    apply hne
    apply List.ext_getElem hl
    intro k h1 h2
    apply Classical.byContradiction
    intro hk
    exact hno ⟨k, by omega, h1, by simpa [List.getD_eq_getElem?_getD, h1, h2] using hk⟩
/-- The first place of a number from i on. -/
def idxF (xs : List Int) (x : Int) (i : Nat) : Int := if i < xs.length then (if xs.getD i 0 = x then (i : Int) else idxF xs x (i + 1)) else -1
 termination_by xs.length - i
theorem l_slices_Index (s : Value) (xs : List Int) (x : Int) (h : VH) (hs : Sli h s xs) (hx : xs.length ≤ 1000) (k : Nat) : ∀ i, k = xs.length - i → i ≤ xs.length →
    (idxF xs x i < 0 → floop (vcall F nro) nro [0, 1, 7, 8] i_slices_Index_int64_int64_B1 h [s, .int .i64 x, .int .i64 xs.length, .int .i64 i] h = some (.exit 0, fl [], h)) ∧
    (¬ idxF xs x i < 0 → floop (vcall F nro) nro [0, 1, 7, 8] i_slices_Index_int64_int64_B1 h [s, .int .i64 x, .int .i64 xs.length, .int .i64 i] h = some (.ret, fl [(4, .int .i64 (idxF xs x i))], h)) := by
  have hso := hs.old
  induction k with
  | zero =>
    intro i hk hi
    have h1 : ¬ i < xs.length := by omega
    have h2 : ¬ (i : Int) < xs.length := by omega
    rw [idxF, if_neg h1, floop_at i_slices_Index_int64_int64_B1.eq_1]
    refine ⟨fun _ => ?_, fun h => absurd (by omega) h⟩
    simp (disch := first | assumption | omega | (simp [*] <;> omega) | fail) [h2]
  | succ k ih =>
    intro i hk hi
    have h1 : i < xs.length := by omega
    have h2 : (i : Int) < xs.length := by omega
    have x1 := hs.vidx (k := .i64) (j := (i : Int)) (by omega) (by omega)
    have x2 := hs.vload h1
    have g1 : xs.getD i 0 = xs[i] := getD_at xs h1
    have w1 : IntKind.i64.wrap ((i : Int) + 1) = (i : Int) + 1 := wrap64 (by omega) (by omega)
    have ih := ih (i + 1) (by omega) (by omega)
    rw [idxF, if_pos h1, g1, floop_at i_slices_Index_int64_int64_B1.eq_1]
    obtain ⟨a, ha⟩ : ∃ a, a = xs[i] := ⟨_, rfl⟩
    rw [← ha] at x2 ⊢
    obtain ⟨r, hr⟩ : ∃ r, r = idxF xs x (i + 1) := ⟨_, rfl⟩
    rw [← hr] at ih ⊢
    rw [show ((i + 1 : Nat) : Int) = (i : Int) + 1 by omega] at ih
    clear hs g1 ha hr
    by_cases c1 : a = x
    · rw [if_pos c1]
      have c1' : x = a := c1.symm
      refine ⟨fun h => absurd h (by omega), fun _ => ?_⟩
      simp (disch := first | assumption | omega | (simp [*] <;> omega) | fail) [x1, x2, w1, h2, c1']
    · rw [if_neg c1]
      have c1' : ¬ x = a := fun e => c1 e.symm
      obtain ⟨i1, i2⟩ := ih
      refine ⟨fun h => ?_, fun h => ?_⟩
      · have i1 := i1 h
        simp (disch := first | assumption | omega | (simp [*] <;> omega) | fail) [x1, x2, w1, h2, c1', i1]
      · have i2 := i2 h
        simp (disch := first | assumption | omega | (simp [*] <;> omega) | fail) [x1, x2, w1, h2, c1', i2]
theorem c_slices_Index (s : Value) (xs : List Int) (x : Int) (h : VH) (hs : Sli h s xs) (hx : xs.length ≤ 1000) :
    vcall F nro k_slices_Index_int64_int64 [s, .int .i64 x] h = some (.int .i64 (idxF xs x 0), h) := by
  obtain ⟨i1, i2⟩ := l_slices_Index (nro := nro) s xs x h hs hx xs.length 0 (by omega) (by omega)
  refine v_slices_Index_int64_int64 (by simp [i_slices_Index_int64_int64]) ?_
  rw [fbody_eq]
  have vl := hs.vlen
  have hneg : idxF xs x 0 < 0 → idxF xs x 0 = -1 := by
    have : ∀ k i, k = xs.length - i → idxF xs x i < 0 → idxF xs x i = -1 := by
      intro k
      induction k with
      | zero => intro i hk h; rw [idxF, if_neg (by omega)]
      | succ k ih =>
        intro i hk h
        rw [idxF, if_pos (by omega)] at h ⊢
        split
        · rename_i c; rw [if_pos c] at h; omega
        · rename_i c; rw [if_neg c] at h; exact ih (i + 1) (by omega) h
    exact this _ 0 rfl
  simp only [Int.natCast_zero] at i1 i2
  by_cases c : idxF xs x 0 < 0
  · have i1 := i1 c
    rw [hneg c]
    clear hs i2
    simp (disch := first | assumption | omega | (simp [*] <;> omega) | fail) [i_slices_Index_int64_int64, vl, i1, fresults, fresL, fres1]
  · have i2 := i2 c
    obtain ⟨r, hr⟩ : ∃ r, r = idxF xs x 0 := ⟨_, rfl⟩
    rw [← hr] at i2 ⊢
    clear hs i1
    simp (disch := first | assumption | omega | (simp [*] <;> omega) | fail) [i_slices_Index_int64_int64, vl, i2, fresults, fresL, fres1]
end Go.Proofs.Ytbilmoahcnllmaa.Zv

/- Lists of colours in the order in which they are met. -/
namespace Go.Proofs.Ytbilmoahcnllmaa.Zv
open Go
/-! ### told anew -/
theorem idxF_neg (xs : List Int) (x : Int) (k : Nat) : ∀ i, k = xs.length - i → (idxF xs x i < 0 → ∀ j, i ≤ j → j < xs.length → xs.getD j 0 ≠ x) ∧ (¬ idxF xs x i < 0 → idxF xs x i < xs.length ∧ xs.getD (idxF xs x i).toNat 0 = x) := by
  induction k with
  | zero =>
    intro i hk
    rw [idxF, if_neg (by omega)]
    exact ⟨fun _ j h1 h2 => by omega, fun h => absurd (by omega) h⟩
  | succ k ih =>
    intro i hk
    rw [idxF, if_pos (by omega)]
    by_cases c : xs.getD i 0 = x
    · rw [if_pos c]
      refine ⟨fun h => by omega, fun _ => ⟨by omega, by rw [Int.toNat_natCast]; exact c⟩⟩
    · rw [if_neg c]
      obtain ⟨h1, h2⟩ := ih (i + 1) (by omega)
      refine ⟨fun h j hj hj2 => ?_, h2⟩
      by_cases e : j = i
      · subst e; exact c
      · exact h1 h j (by omega) hj2
end Go.Proofs.Ytbilmoahcnllmaa.Zv

/- What is generated, by the program. -/
namespace Go.Proofs.Ytbilmoahcnllmaa.Zv
open Go
variable {nro : Nat}
theorem idxF_mem (xs : List Int) (x : Int) : 0 ≤ idxF xs x 0 ↔ x ∈ xs := by
  obtain ⟨h1, h2⟩ := idxF_neg xs x xs.length 0 (by omega)
  constructor
  · intro h
    obtain ⟨h3, h4⟩ := h2 (by omega)
    have h5 : (idxF xs x 0).toNat < xs.length := by omega
    rw [getD_at xs h5] at h4
    rw [← h4]
    exact List.getElem_mem h5
  · intro h
    apply Classical.byContradiction
    intro hn
    obtain ⟨j, hj, rfl⟩ := List.mem_iff_getElem.mp h
    exact h1 (by omega) j (by omega) hj (getD_at xs hj)
open Classical in
theorem c_slices_Contains (s : Value) (xs : List Int) (x : Int) (h : VH) (hs : Sli h s xs) (hx : xs.length ≤ 1000) :
    vcall F nro k_slices_Contains_int64_int64 [s, .int .i64 x] h = some (.bool (decide (x ∈ xs)), h) := by
  have hc := c_slices_Index (nro := nro) s xs x h hs hx
  refine v_slices_Contains_int64_int64 (by simp [i_slices_Contains_int64_int64]) ?_
  rw [fbody_eq]
  have he : decide (x ∈ xs) = decide (0 ≤ idxF xs x 0) := by simp [idxF_mem]
  rw [he]
  generalize idxF xs x 0 = y at hc ⊢
  clear hs he
  simp (disch := first | assumption | omega | (simp [*] <;> omega) | fail) [i_slices_Contains_int64_int64, hc]
abbrev gbx (k n : Nat) : VO := ⟨0, [.int .i64 k, .int .i64 n]⟩

section
variable {k n : Nat} (g : isGp k n) {ss : List Nat} (hss : ∀ s ∈ ss, s < gord k n) {h : VH} {t : Value} (hs : Sli h t (nats ss)) (hn : nro ≤ h.length) (hl62 : ss.length ≤ 62)
include g hss hs hn hl62
set_option maxHeartbeats 1000000 in
theorem l_impl_GeneratedBy_1 (i : Nat) (o0 out0 : List Nat) (J0 : GenJ (gord k n) (gmul k n) ss i out0) (hi0 : i < out0.length) :
    floop (vcall F nro) nro [1, 2, 7, 8, 25, 26, 27] i_impl_GeneratedBy_B1 (h ++ [gbx k n, ⟨1, ints (nats o0)⟩]) [t, bp h, .slice (some ⟨h.length + 1, 0, none⟩) out0.length out0.length, .int .i64 i, t, .int .i64 ss.length, .int .i64 0] (h ++ [gbx k n, ⟨1, ints (nats out0)⟩]) =
      some (.exit 2, fl [(1, t), (2, bp h), (7, .slice (some ⟨h.length + 1, 0, none⟩) (gnR (gmul k n) i ss ss.length 0 out0).length (gnR (gmul k n) i ss ss.length 0 out0).length), (8, .int .i64 i)], h ++ [gbx k n, ⟨1, ints (nats (gnR (gmul k n) i ss ss.length 0 out0))⟩]) := by
  have hn' := fun k => Nat.le_trans hn (Nat.le_add_right h.length k)
  have hso := fun k => hs.oldk (k := k)
  have hb := g.ord_le
  have key := for_up (call := vcall F nro) (nro := nro) (live := [1, 2, 7, 8, 25, 26, 27]) (c := i_impl_GeneratedBy_B1) (h0 := h ++ [gbx k n, ⟨1, ints (nats o0)⟩]) (n := ss.length)
    (fun q (out : List Nat) => [t, bp h, .slice (some ⟨h.length + 1, 0, none⟩) out.length out.length, .int .i64 i, t, .int .i64 ss.length, .int .i64 q])
    (fun _ out => h ++ [gbx k n, ⟨1, ints (nats out)⟩]) (fun q out => gn1 (gmul k n) i (ss.getD q 0) out)
    (fun _ out => GenJ (gord k n) (gmul k n) ss i out ∧ i < out.length)
    (fun out => some (.exit 2, fl [(1, t), (2, bp h), (7, .slice (some ⟨h.length + 1, 0, none⟩) out.length out.length), (8, .int .i64 i)], h ++ [gbx k n, ⟨1, ints (nats out)⟩]))
    (fun q out hq hq2 ⟨J, hi⟩ => ?_) (fun out _ => ?_) 0 out0 (by omega) ⟨J0, hi0⟩
  · exact key.1
  · have hsq : ss.getD q 0 ∈ ss := by
      rw [List.getD_eq_getElem?_getD, List.getElem?_eq_getElem hq]
      exact List.getElem_mem hq
    have J2 := J.one (fun x y => g.gl.lt x y) hss hi hsq
    obtain ⟨L2, hL2⟩ := gn1_ext (m := gmul k n) i (ss.getD q 0) out
    refine ⟨⟨J2, by rw [hL2]; simp; omega⟩, ?_⟩
    clear J2 hL2
    have hol := J.len
    have hq' : q < (nats ss).length := by rw [nats_len]; exact hq
    have x1 := fun L => (hs.app L).vidx (k := .i64) (j := (q : Int)) (by omega) (by rw [nats_len]; omega)
    have x2 := fun L => (hs.app L).vload hq'
    have e1 : (nats ss)[q] = ((ss.getD q 0 : Nat) : Int) := by rw [← getD_at _ hq', nats_getD]
    rw [e1] at x2
    have hi2 : i < (nats out).length := by rw [nats_len]; exact hi
    have ti := take1_ints hi2
    have e2 : (nats out)[i] = ((out.getD i 0 : Nat) : Int) := by rw [← getD_at _ hi2, nats_getD]
    rw [e2] at ti
    have hol2 : (nats out).length = out.length := nats_len out
    have hoi : out.getD i 0 < gord k n := by
      rw [List.getD_eq_getElem?_getD, List.getElem?_eq_getElem hi]
      exact J.lt _ (List.getElem_mem hi)
    have hp := fun L => g.prod (nro := nro) hoi (hss _ hsq) (h ++ L)
    have hcn := fun x => c_slices_Contains (nro := nro) (.slice (some ⟨h.length + 1, 0, none⟩) out.length out.length) (nats out) x (h ++ [gbx k n, ⟨1, ints (nats out)⟩]) (by rw [← hol2]; simp [Sli, Sl, vsrc]) (by omega)
    unfold gn1
    obtain ⟨z, hz⟩ : ∃ z, z = gmul k n (out.getD i 0) (ss.getD q 0) := ⟨_, rfl⟩
    rw [← hz] at hp ⊢
    have hcz := hcn z
    have hmz : decide ((z : Int) ∈ nats out) = decide (z ∈ out) := by simp [nats_mem]
    obtain ⟨a, ha⟩ : ∃ a, a = out.getD i 0 := ⟨_, rfl⟩
    obtain ⟨b, hb'⟩ : ∃ b, b = ss.getD q 0 := ⟨_, rfl⟩
    rw [← ha] at hp ti
    rw [← hb'] at hp x2
    have w1 : IntKind.i64.wrap ((q : Int) + 1) = (q : Int) + 1 := wrap64 (by omega) (by omega)
    have hi3 : (i : Int) < out.length := by omega
    have b1 : (out.length + 1) * 8 ≤ 1099511627776 := by omega
    have b3 : out.length < 1099511627776 := by omega
    have b4 : out.length + 1 < 9223372036854775807 := by omega
    rw [floop_at i_impl_GeneratedBy_B1.eq_1]
    by_cases c : z ∈ out
    · rw [if_pos c]
      have hcz' : decide ((z : Int) ∈ nats out) = true := by rw [hmz]; simp [c]
      clear J hss hs e1 e2 ha hb' hz hmz hsq hoi
      clear hcn
      simp (disch := first | assumption | omega | (simp [*] <;> omega) | fail) [x1, x2, hq2, hol2, ti, hp, hcz, hcz', hn', hso, w1, hi3, hi]
    · rw [if_neg c]
      have hcz' : decide ((z : Int) ∈ nats out) = false := by rw [hmz]; simp [c]
      have happ := nats_app out z
      obtain ⟨o2, ho2⟩ : ∃ o2, o2 = nats (out ++ [z]) := ⟨_, rfl⟩
      rw [← ho2] at happ ⊢
      have hapi : ints (nats out) ++ [Value.int .i64 z] = ints o2 := by rw [happ]; simp [ints]
      clear J hss hs e1 e2 ha hb' hz hmz hsq hoi hcn ho2 happ
      simp (disch := first | assumption | omega | (simp [*] <;> omega) | fail) [x1, x2, hq2, hol2, ti, hp, hcz, hcz', hn', hso, w1, hi3, hi, hapi, b1, b3, b4]
  · rw [floop_at i_impl_GeneratedBy_B1.eq_1]
    simp (disch := first | assumption | omega | (simp [*] <;> omega) | fail) []
theorem l_impl_GeneratedBy_2 (o0 : List Nat) : ∀ (d i : Nat) (out0 : List Nat), d = gord k n - i → GenJ (gord k n) (gmul k n) ss i out0 → i ≤ out0.length →
    ∃ out i', GenJ (gord k n) (gmul k n) ss i' out ∧ out.length ≤ i' ∧ floop (vcall F nro) nro [1, 2, 7, 8] i_impl_GeneratedBy_B2 (h ++ [gbx k n, ⟨1, ints (nats o0)⟩]) [t, bp h, .slice (some ⟨h.length + 1, 0, none⟩) out0.length out0.length, .int .i64 i] (h ++ [gbx k n, ⟨1, ints (nats out0)⟩]) =
      some (.exit 0, fl [(7, .slice (some ⟨h.length + 1, 0, none⟩) out.length out.length)], h ++ [gbx k n, ⟨1, ints (nats out)⟩]) := by
  have hn' := fun k => Nat.le_trans hn (Nat.le_add_right h.length k)
  have hso := fun k => hs.oldk (k := k)
  have hb := g.ord_le
  intro d
  induction d with
  | zero =>
    intro i out0 hd J hi
    have hl := J.len
    have hc : ¬ (i : Int) < out0.length := by omega
    have hol2 : (nats out0).length = out0.length := nats_len out0
    refine ⟨out0, i, J, by omega, ?_⟩
    rw [floop_at i_impl_GeneratedBy_B2.eq_1]
    clear J hss hs hl hi
    simp (disch := first | assumption | omega | (simp [*] <;> omega) | fail) [hc, hn', hso, hol2]
  | succ d ih =>
    intro i out0 hd J hi
    have hl := J.len
    have hol2 : (nats out0).length = out0.length := nats_len out0
    by_cases c : i < out0.length
    · obtain ⟨J1, hlen⟩ := J.row (fun x y => g.gl.lt x y) hss c
      have l1 := l_impl_GeneratedBy_1 g hss hs hn hl62 i out0 out0 J c
      obtain ⟨out1, h1⟩ : ∃ out1, out1 = gnR (gmul k n) i ss ss.length 0 out0 := ⟨_, rfl⟩
      rw [← h1] at J1 hlen l1
      obtain ⟨out, i', r1, r2, r3⟩ := ih (i + 1) out1 (by omega) J1 (by omega)
      refine ⟨out, i', r1, r2, ?_⟩
      rw [← r3]
      have vl := hs.vlen' (L := [gbx k n, ⟨1, ints (nats out0)⟩])
      rw [nats_len] at vl
      have hc : (i : Int) < out0.length := by omega
      have w1 : IntKind.i64.wrap ((i : Int) + 1) = (i : Int) + 1 := wrap64 (by omega) (by omega)
      have hol3 : (nats out1).length = out1.length := nats_len out1
      rw [floop_at i_impl_GeneratedBy_B2.eq_1]
      clear J J1 hss hs hl hi r1 r2 r3 ih hlen h1 hd
      simp (disch := first | assumption | omega | (simp [*] <;> omega) | fail) [hc, hn', hso, hol2, hol3, vl, l1, w1]
    · have hc : ¬ (i : Int) < out0.length := by omega
      refine ⟨out0, i, J, by omega, ?_⟩
      rw [floop_at i_impl_GeneratedBy_B2.eq_1]
      clear J hss hs hl hi ih
      simp (disch := first | assumption | omega | (simp [*] <;> omega) | fail) [hc, hn', hso, hol2]
end
theorem gen_start (N : Nat) (m : Nat → Nat → Nat) (ss : List Nat) (h : 0 < N) : GenJ N m ss 0 [0] :=
  ⟨by simp, fun x hx => by simp at hx; omega, by simp, fun x hx => by simp at hx; rw [hx]; exact .zero, fun p _ hp => by omega⟩
/-- The elements that the codes of a list name. -/
def toN (xs : List Int) : List Nat := xs.map Int.toNat
theorem toN_ok {k n : Nat} {xs : List Int} (h : ∀ x ∈ xs, gin k n x) : xs = nats (toN xs) ∧ ∀ s ∈ toN xs, s < gord k n := by
  constructor
  · unfold nats toN
    rw [List.map_map]
    conv => lhs; rw [← List.map_id xs]
    refine List.map_congr_left fun x hx => ?_
    have := h x hx
    unfold gin at this
    simp; omega
  · intro s hs
    obtain ⟨x, hx, rfl⟩ := List.mem_map.mp hs
    have := h x hx
    unfold gin at this
    simp only [Int.toNat_natCast] at this
    omega
theorem fwcd_zero {K P : Int} {xs : List Int} (h : fwcd K P xs = 0) : gpcd K P xs = 0 ∧ xs.length ≤ 62 := by
  unfold fwcd at h
  split at h
  · omega
  · rename_i c; exact ⟨h, by omega⟩
/-- A list, or a code. -/
def ires (h : VH) : List Int ⊕ Int → Value × VH
  | .inl xs => (.tuple #[.slice (some ⟨h.length, 0, none⟩) xs.length xs.length, .int .i64 0], h ++ [⟨1, ints xs⟩])
  | .inr c => (.tuple #[.slice none 0 0, .int .i64 c], h)
noncomputable def gbA (K P : Int) (xs : List Int) : List Int ⊕ Int := if fwcd K P xs = 0 then .inl (nats (genL (gord K.toNat P.toNat) (gmul K.toNat P.toNat) (toN xs))) else .inr (fwcd K P xs)
theorem c_impl_GeneratedBy (K P : Int) (t : Value) (xs : List Int) (h : VH) (hs : Sli h t xs) (hl : xs.length ≤ 9223372036854775806) (hn : nro ≤ h.length) :
    vcall F nro k_impl_GeneratedBy [gpv K P, t] h = some (ires h (gbA K P xs)) := by
  have hn' := fun k => Nat.le_trans hn (Nat.le_add_right h.length k)
  have hc := c_impl_fewCode (nro := nro) K P t xs (bx h K (.int .i64 P)) (hs.app _) hl
  refine v_impl_GeneratedBy (by simp [i_impl_GeneratedBy]) ?_
  rw [fbody_eq]
  by_cases c : fwcd K P xs = 0
  · have e : gbA K P xs = .inl (nats (genL (gord K.toNat P.toNat) (gmul K.toNat P.toNat) (toN xs))) := by unfold gbA; rw [if_pos c]
    rw [e]
    rw [c] at hc
    obtain ⟨c1, c2⟩ := fwcd_zero c
    obtain ⟨g, hg⟩ := gpcd_zero c1
    obtain ⟨k, n, rfl, rfl, g'⟩ := g.nat
    obtain ⟨t1, t2⟩ := toN_ok hg
    simp only [Int.toNat_natCast]
    rw [t1] at hs
    obtain ⟨ss, hss⟩ : ∃ ss, ss = toN xs := ⟨_, rfl⟩
    rw [← hss] at hs t2 ⊢
    have h62 : ss.length ≤ 62 := by rw [hss]; simpa [toN] using c2
    obtain ⟨out, i', r1, r2, r3⟩ := l_impl_GeneratedBy_2 g' t2 hs hn h62 [0] (gord k n) 0 [0] (by omega) (gen_start _ _ _ g'.ord_le.1) (by simp)
    have hol := r1.len
    have hb := g'.ord_le
    have hsrt := r1.sorted r2
    have hol2 : (nats out).length = out.length := nats_len out
    have hso := c_Sort (nro := nro) (G := h ++ [gbx k n, ⟨1, ints (nats out)⟩]) (blk := h.length + 1) (xs := nats out) (by simp) (hn' 1) (by omega)
    rw [hol2, hsrt] at hso
    obtain ⟨R, hR⟩ : ∃ R, R = nats (genL (gord k n) (gmul k n) ss) := ⟨_, rfl⟩
    rw [← hR] at hso hsrt ⊢
    have hRl : R.length = out.length := by
      have q := insS_perm (a := 0) (b := (nats out).length) (xs := nats out) (Nat.le_refl _)
      rw [nats_len, hsrt] at q
      rw [q.length_eq, nats_len]
    have e0 : ints (nats [0]) = [.int .i64 0] := rfl
    simp only [e0, Int.natCast_zero, List.length_cons, List.length_nil, Nat.zero_add] at r3
    simp only [ires, hRl]
    simp at hso
    clear hs g' t2 r1 r2 hsrt hR hss t1 hg c1 c e hol hb
    simp (disch := first | assumption | omega | (simp [*] <;> omega) | fail) [i_impl_GeneratedBy, hc, r3, hso, hn', fresults, fresL, fres1, hol2, hRl]
  · have e : gbA K P xs = .inr (fwcd K P xs) := by unfold gbA; rw [if_neg c]
    rw [e]
    obtain ⟨q, hq⟩ : ∃ q, q = fwcd K P xs := ⟨_, rfl⟩
    rw [← hq] at hc c ⊢
    simp only [ires]
    clear e hq hs
    simp (disch := first | assumption | omega | (simp [*] <;> omega) | fail) [i_impl_GeneratedBy, hc, c, hn, hn']
end Go.Proofs.Ytbilmoahcnllmaa.Zv

/- What is generated, by the reference. -/
namespace Go.Proofs.Ytbilmoahcnllmaa.Zv
open Go
variable {nro : Nat}
/-- A table of marks. -/
def btb (N : Nat) (p : Nat → Bool) : List Value := (List.range N).map fun x => .bool (p x)
@[simp] theorem btb_length (N : Nat) (p : Nat → Bool) : (btb N p).length = N := by simp [btb]
theorem btb_take1 {N : Nat} {p : Nat → Bool} {i : Nat} (hi : i < N) : List.take 1 (List.drop i (btb N p)) = [.bool (p i)] := by
  rw [List.drop_eq_getElem_cons (by simp; exact hi)]
  simp [btb]
theorem btb_splice {N : Nat} {p : Nat → Bool} {i : Nat} {b : Bool} (hi : i < N) : splice i [.bool b] (btb N p) = btb N (fun x => if x = i then b else p x) := by
  unfold splice
  apply List.ext_getElem
  · simp; omega
  · intro q h1 h2
    have h3 : q < N := by simpa using h2
    by_cases e : q < i
    · rw [List.getElem_append_left (by simp; omega), List.getElem_append_left (by simp; omega)]
      simp [btb]
      intro e2; omega
    · by_cases e2 : q = i
      · subst e2
        rw [List.getElem_append_left (by simp; omega), List.getElem_append_right (by simp; omega)]
        simp [btb]
      · rw [List.getElem_append_right (by simp; omega)]
        simp [btb, e2]
        congr 1
        simp at *
        omega
theorem btb_const (N : Nat) (b : Bool) : btb N (fun _ => b) = List.replicate N (.bool b) := by
  apply List.ext_getElem <;> simp [btb]
theorem btb_congr {N : Nat} {p q : Nat → Bool} (h : ∀ x, x < N → p x = q x) : btb N p = btb N q := by
  unfold btb
  refine List.map_congr_left fun x hx => ?_
  rw [h x (by simpa using hx)]
theorem flatO_btb (q z N : Nat) (p : Nat → Bool) : flatO q ⟨z, btb N p⟩ := by
  intro r hr
  unfold orefs at hr
  obtain ⟨c, hc, hr⟩ := List.mem_flatMap.mp hr
  unfold btb at hc
  obtain ⟨x, _, rfl⟩ := List.mem_map.mp hc
  simp [crefs, arefs] at hr
def pickL (p : Nat → Bool) (n i : Nat) (a : List Nat) : List Nat := upF (fun x acc => if p x = true then acc ++ [x] else acc) n i a
theorem pickL_eq (p : Nat → Bool) (n : Nat) : pickL p n 0 [] = (List.range n).filter p := by
  have := upF_inv (f := fun x acc => if p x = true then acc ++ [x] else acc) (n := n) (fun i a => a = (List.range i).filter p) (fun i a hi h => by
    rw [List.range_succ, List.filter_append, ← h]
    by_cases c : p i = true <;> simp [c]) 0 [] (by omega) (by simp)
  exact this
section
variable {k n : Nat} (g : isGp k n) {ss : List Nat} (hss : ∀ s ∈ ss, s < gord k n) {h : VH} {t : Value} (hs : Sli h t (nats ss)) (hn : nro ≤ h.length) (hl62 : ss.length ≤ 62)
/-- Marks of what is found. -/
abbrev mko (N : Nat) (out : List Nat) : List Value := btb N fun x => decide (x ∈ out)
theorem mko_snoc {N z : Nat} {out : List Nat} (hz : z < N) : splice z [.bool true] (mko N out) = mko N (out ++ [z]) := by
  rw [btb_splice hz]
  refine btb_congr fun x _ => ?_
  by_cases e : x = z <;> simp [e]
include g hss hs hn hl62
set_option maxHeartbeats 1000000 in
theorem l_spec_Generated_1 (i : Nat) (o0 out0 : List Nat) (J0 : GenJ (gord k n) (gmul k n) ss i out0) (hi0 : i < out0.length) :
    floop (vcall F nro) nro [1, 2, 5, 6, 7, 8] i_spec_l05Generated_B1 (h ++ [gbx k n, ⟨1, mko (gord k n) o0⟩, ⟨1, ints (nats o0)⟩]) [t, bp h, .slice (some ⟨h.length + 1, 0, none⟩) (gord k n) (gord k n), .slice (some ⟨h.length + 2, 0, none⟩) out0.length out0.length, .int .i64 i, .int .i64 0] (h ++ [gbx k n, ⟨1, mko (gord k n) out0⟩, ⟨1, ints (nats out0)⟩]) =
      some (.exit 2, fl [(1, t), (2, bp h), (5, .slice (some ⟨h.length + 1, 0, none⟩) (gord k n) (gord k n)), (6, .slice (some ⟨h.length + 2, 0, none⟩) (gnR (gmul k n) i ss ss.length 0 out0).length (gnR (gmul k n) i ss ss.length 0 out0).length), (7, .int .i64 i)], h ++ [gbx k n, ⟨1, mko (gord k n) (gnR (gmul k n) i ss ss.length 0 out0)⟩, ⟨1, ints (nats (gnR (gmul k n) i ss ss.length 0 out0))⟩]) := by
  have hn' := fun k => Nat.le_trans hn (Nat.le_add_right h.length k)
  have hso := fun k => hs.oldk (k := k)
  have hb := g.ord_le
  have key := for_up (call := vcall F nro) (nro := nro) (live := [1, 2, 5, 6, 7, 8]) (c := i_spec_l05Generated_B1) (h0 := h ++ [gbx k n, ⟨1, mko (gord k n) o0⟩, ⟨1, ints (nats o0)⟩]) (n := ss.length)
    (fun q (out : List Nat) => [t, bp h, .slice (some ⟨h.length + 1, 0, none⟩) (gord k n) (gord k n), .slice (some ⟨h.length + 2, 0, none⟩) out.length out.length, .int .i64 i, .int .i64 q])
    (fun _ out => h ++ [gbx k n, ⟨1, mko (gord k n) out⟩, ⟨1, ints (nats out)⟩]) (fun q out => gn1 (gmul k n) i (ss.getD q 0) out)
    (fun _ out => GenJ (gord k n) (gmul k n) ss i out ∧ i < out.length)
    (fun out => some (.exit 2, fl [(1, t), (2, bp h), (5, .slice (some ⟨h.length + 1, 0, none⟩) (gord k n) (gord k n)), (6, .slice (some ⟨h.length + 2, 0, none⟩) out.length out.length), (7, .int .i64 i)], h ++ [gbx k n, ⟨1, mko (gord k n) out⟩, ⟨1, ints (nats out)⟩]))
    (fun q out hq hq2 ⟨J, hi⟩ => ?_) (fun out _ => ?_) 0 out0 (by omega) ⟨J0, hi0⟩
  · exact key.1
  · have hsq : ss.getD q 0 ∈ ss := by
      rw [List.getD_eq_getElem?_getD, List.getElem?_eq_getElem hq]
      exact List.getElem_mem hq
    have J2 := J.one (fun x y => g.gl.lt x y) hss hi hsq
    obtain ⟨L2, hL2⟩ := gn1_ext (m := gmul k n) i (ss.getD q 0) out
    refine ⟨⟨J2, by rw [hL2]; simp; omega⟩, ?_⟩
    clear J2 hL2
    have hol := J.len
    have hq' : q < (nats ss).length := by rw [nats_len]; exact hq
    have vl := fun L => (hs.app L).vlen
    rw [nats_len] at vl
    have x1 := fun L => (hs.app L).vidx (k := .i64) (j := (q : Int)) (by omega) (by rw [nats_len]; omega)
    have x2 := fun L => (hs.app L).vload hq'
    have e1 : (nats ss)[q] = ((ss.getD q 0 : Nat) : Int) := by rw [← getD_at _ hq', nats_getD]
    rw [e1] at x2
    have hi2 : i < (nats out).length := by rw [nats_len]; exact hi
    have ti := take1_ints hi2
    have e2 : (nats out)[i] = ((out.getD i 0 : Nat) : Int) := by rw [← getD_at _ hi2, nats_getD]
    rw [e2] at ti
    have hol2 : (nats out).length = out.length := nats_len out
    have hoi : out.getD i 0 < gord k n := by
      rw [List.getD_eq_getElem?_getD, List.getElem?_eq_getElem hi]
      exact J.lt _ (List.getElem_mem hi)
    have hp := fun L => g.times (nro := nro) hoi (hss _ hsq) (h ++ L)
    have hzN : gmul k n (out.getD i 0) (ss.getD q 0) < gord k n := g.gl.lt _ _ hoi (hss _ hsq)
    unfold gn1
    obtain ⟨z, hz⟩ : ∃ z, z = gmul k n (out.getD i 0) (ss.getD q 0) := ⟨_, rfl⟩
    rw [← hz] at hp hzN ⊢
    obtain ⟨a, ha⟩ : ∃ a, a = out.getD i 0 := ⟨_, rfl⟩
    obtain ⟨b, hb'⟩ : ∃ b, b = ss.getD q 0 := ⟨_, rfl⟩
    rw [← ha] at hp ti
    rw [← hb'] at hp x2
    have w1 : IntKind.i64.wrap ((q : Int) + 1) = (q : Int) + 1 := wrap64 (by omega) (by omega)
    have hi3 : (i : Int) < out.length := by omega
    have b1 : (out.length + 1) * 8 ≤ 1099511627776 := by omega
    have b3 : out.length < 1099511627776 := by omega
    have b4 : out.length + 1 < 9223372036854775807 := by omega
    have mt := btb_take1 (p := fun x => decide (x ∈ out)) hzN
    have ms := mko_snoc (out := out) hzN
    have hzi : (z : Int) < (gord k n : Nat) := by omega
    obtain ⟨N, hN⟩ : ∃ N, N = gord k n := ⟨_, rfl⟩
    rw [← hN] at hzi mt ms hzN ⊢
    have mlen := btb_length N (fun x => decide (x ∈ out))
    have hf := fun q => flatO_btb q 1 N (fun x => decide (x ∈ out))
    have hfz := fun q => flatO_btb q 1 N (fun x => decide (x ∈ out ++ [z]))
    change ∀ q, flatO q ⟨1, mko N out⟩ at hf
    change ∀ q, flatO q ⟨1, mko N (out ++ [z])⟩ at hfz
    obtain ⟨M, hM⟩ : ∃ M, M = mko N out := ⟨_, rfl⟩
    change List.take 1 (List.drop z (mko N out)) = _ at mt
    change (mko N out).length = N at mlen
    rw [← hM] at mt ms mlen hf ⊢
    rw [floop_at i_spec_l05Generated_B1.eq_1]
    by_cases c : z ∈ out
    · rw [if_pos c]
      rw [decide_eq_true c] at mt
      rw [← hM]
      clear J hss hs e1 e2 ha hb' hz hsq hoi ms hM hb
      simp (disch := first | assumption | omega | (simp [*] <;> omega) | fail) [vl, x1, x2, hq2, hol2, ti, hp, mt, hn', hso, w1, hi3, hi, hzi, hzN, mlen, hf]
    · rw [if_neg c]
      rw [decide_eq_false c] at mt
      have happ := nats_app out z
      obtain ⟨o2, ho2⟩ : ∃ o2, o2 = nats (out ++ [z]) := ⟨_, rfl⟩
      rw [← ho2] at happ ⊢
      have hapi : ints (nats out) ++ [Value.int .i64 z] = ints o2 := by rw [happ]; simp [ints]
      obtain ⟨M2, hM2⟩ : ∃ M2, M2 = mko N (out ++ [z]) := ⟨_, rfl⟩
      rw [← hM2] at ms hfz ⊢
      clear J hss hs e1 e2 ha hb' hz hsq hoi hM ho2 happ hM2 hb
      simp (disch := first | assumption | omega | (simp [*] <;> omega) | fail) [vl, x1, x2, hq2, hol2, ti, hp, mt, ms, hn', hso, w1, hi3, hi, hzi, hzN, mlen, hf, hfz, hapi, b1, b3, b4]
  · rw [floop_at i_spec_l05Generated_B1.eq_1]
    have vl := fun L => (hs.app L).vlen
    rw [nats_len] at vl
    clear hs hss
    simp (disch := first | assumption | omega | (simp [*] <;> omega) | fail) [vl]
theorem l_spec_Generated_2 (o0 : List Nat) : ∀ (d i : Nat) (out0 : List Nat), d = gord k n - i → GenJ (gord k n) (gmul k n) ss i out0 → i ≤ out0.length →
    ∃ out i', GenJ (gord k n) (gmul k n) ss i' out ∧ out.length ≤ i' ∧ floop (vcall F nro) nro [1, 2, 5, 6, 7] i_spec_l05Generated_B2 (h ++ [gbx k n, ⟨1, mko (gord k n) o0⟩, ⟨1, ints (nats o0)⟩]) [t, bp h, .slice (some ⟨h.length + 1, 0, none⟩) (gord k n) (gord k n), .slice (some ⟨h.length + 2, 0, none⟩) out0.length out0.length, .int .i64 i] (h ++ [gbx k n, ⟨1, mko (gord k n) out0⟩, ⟨1, ints (nats out0)⟩]) =
      some (.exit 0, fl [(5, .slice (some ⟨h.length + 1, 0, none⟩) (gord k n) (gord k n))], h ++ [gbx k n, ⟨1, mko (gord k n) out⟩, ⟨1, ints (nats out)⟩]) := by
  have hn' := fun k => Nat.le_trans hn (Nat.le_add_right h.length k)
  have hso := fun k => hs.oldk (k := k)
  have hb := g.ord_le
  intro d
  induction d with
  | zero =>
    intro i out0 hd J hi
    have hl := J.len
    have hc : ¬ (i : Int) < out0.length := by omega
    have hol2 : (nats out0).length = out0.length := nats_len out0
    refine ⟨out0, i, J, by omega, ?_⟩
    rw [floop_at i_spec_l05Generated_B2.eq_1]
    clear J hss hs hl hi
    simp (disch := first | assumption | omega | (simp [*] <;> omega) | fail) [hc, hn', hso, hol2]
  | succ d ih =>
    intro i out0 hd J hi
    have hl := J.len
    have hol2 : (nats out0).length = out0.length := nats_len out0
    by_cases c : i < out0.length
    · obtain ⟨J1, hlen⟩ := J.row (fun x y => g.gl.lt x y) hss c
      have l1 := l_spec_Generated_1 g hss hs hn hl62 i out0 out0 J c
      obtain ⟨out1, h1⟩ : ∃ out1, out1 = gnR (gmul k n) i ss ss.length 0 out0 := ⟨_, rfl⟩
      rw [← h1] at J1 hlen l1
      obtain ⟨out, i', r1, r2, r3⟩ := ih (i + 1) out1 (by omega) J1 (by omega)
      refine ⟨out, i', r1, r2, ?_⟩
      rw [← r3]
      have hc : (i : Int) < out0.length := by omega
      have w1 : IntKind.i64.wrap ((i : Int) + 1) = (i : Int) + 1 := wrap64 (by omega) (by omega)
      have hol3 : (nats out1).length = out1.length := nats_len out1
      have hf := fun q => flatO_btb q 1 (gord k n) (fun x => decide (x ∈ out1))
      change ∀ q, flatO q ⟨1, mko (gord k n) out1⟩ at hf
      rw [floop_at i_spec_l05Generated_B2.eq_1]
      obtain ⟨M, hM⟩ : ∃ M, M = mko (gord k n) out1 := ⟨_, rfl⟩
      rw [← hM] at l1 hf ⊢
      clear J J1 hss hs hl hi r1 r2 r3 ih hlen h1 hd hM
      simp (disch := first | assumption | omega | (simp [*] <;> omega) | fail) [hc, hn', hso, hol2, hol3, l1, w1, hf]
    · have hc : ¬ (i : Int) < out0.length := by omega
      refine ⟨out0, i, J, by omega, ?_⟩
      rw [floop_at i_spec_l05Generated_B2.eq_1]
      clear J hss hs hl hi ih
      simp (disch := first | assumption | omega | (simp [*] <;> omega) | fail) [hc, hn', hso, hol2]
end
/-- Marked numbers, collected. -/
theorem l_spec_Generated_3 {h : VH} {N : Nat} (hN : N ≤ 62) (p : Nat → Bool) (A B : VO) (hA : ∀ q, flatO q A) (hB : ∀ q, flatO q B) (hn : nro ≤ h.length) :
    floop (vcall F nro) nro [5, 10, 11] i_spec_l05Generated_B3 (h ++ [A, ⟨1, btb N p⟩, B, ⟨1, []⟩]) [.slice (some ⟨h.length + 1, 0, none⟩) N N, .slice (some ⟨h.length + 3, 0, none⟩) 0 0, .int .i64 0] (h ++ [A, ⟨1, btb N p⟩, B, ⟨1, []⟩]) =
      some (.exit 4, fl [(10, .slice (some ⟨h.length + 3, 0, none⟩) ((List.range N).filter p).length ((List.range N).filter p).length)], h ++ [A, ⟨1, btb N p⟩, B, ⟨1, ints (nats ((List.range N).filter p))⟩]) := by
  have hn' := fun k => Nat.le_trans hn (Nat.le_add_right h.length k)
  have mlen := btb_length N p
  have key := for_up (call := vcall F nro) (nro := nro) (live := [5, 10, 11]) (c := i_spec_l05Generated_B3) (h0 := h ++ [A, ⟨1, btb N p⟩, B, ⟨1, []⟩]) (n := N)
    (fun q (acc : List Nat) => [.slice (some ⟨h.length + 1, 0, none⟩) N N, .slice (some ⟨h.length + 3, 0, none⟩) acc.length acc.length, .int .i64 q])
    (fun _ acc => h ++ [A, ⟨1, btb N p⟩, B, ⟨1, ints (nats acc)⟩]) (fun x acc => if p x = true then acc ++ [x] else acc) (fun i acc => acc.length ≤ i)
    (fun acc => some (.exit 4, fl [(10, .slice (some ⟨h.length + 3, 0, none⟩) acc.length acc.length)], h ++ [A, ⟨1, btb N p⟩, B, ⟨1, ints (nats acc)⟩]))
    (fun x acc hx hx2 I => ?_) (fun acc _ => ?_) 0 [] (by omega) (by simp)
  · have e := pickL_eq p N
    unfold pickL at e
    rw [e] at key
    exact key.1
  · have mt := btb_take1 (p := p) hx
    have hol2 : (nats acc).length = acc.length := nats_len acc
    have w1 : IntKind.i64.wrap ((x : Int) + 1) = (x : Int) + 1 := wrap64 (by omega) (by omega)
    have b1 : (acc.length + 1) * 8 ≤ 1099511627776 := by omega
    have b3 : acc.length < 1099511627776 := by omega
    have b4 : acc.length + 1 < 9223372036854775807 := by omega
    have hf := fun q => flatO_btb q 1 N p
    obtain ⟨M, hM⟩ : ∃ M, M = btb N p := ⟨_, rfl⟩
    rw [← hM] at mt mlen hf ⊢
    rw [floop_at i_spec_l05Generated_B3.eq_1]
    cases c : p x with
    | true =>
      refine ⟨by simp; omega, ?_⟩
      rw [c] at mt
      rw [if_pos rfl]
      have happ := nats_app acc x
      obtain ⟨o2, ho2⟩ : ∃ o2, o2 = nats (acc ++ [x]) := ⟨_, rfl⟩
      rw [← ho2] at happ ⊢
      have hapi : ints (nats acc) ++ [Value.int .i64 x] = ints o2 := by rw [happ]; simp [ints]
      clear hM ho2 happ
      simp (disch := first | assumption | omega | (simp [*] <;> omega) | fail) [hx, hx2, mt, hn', w1, mlen, hol2, hapi, b1, b3, b4, hA, hB, hf]
    | false =>
      refine ⟨by simp; omega, ?_⟩
      rw [c] at mt
      rw [if_neg (by simp)]
      clear hM
      simp (disch := first | assumption | omega | (simp [*] <;> omega) | fail) [hx, hx2, mt, hn', w1, mlen, hol2, hA, hB, hf]
  · have hol2 : (nats acc).length = acc.length := nats_len acc
    obtain ⟨M, hM⟩ : ∃ M, M = btb N p := ⟨_, rfl⟩
    rw [← hM] at mlen ⊢
    rw [floop_at i_spec_l05Generated_B3.eq_1]
    clear hM
    simp (disch := first | assumption | omega | (simp [*] <;> omega) | fail) [hn', mlen, hol2, hA, hB]
open Classical in
theorem c_spec_l05Generated {k n : Nat} (g : isGp k n) {ss : List Nat} (hss : ∀ s ∈ ss, s < gord k n) {h : VH} {t : Value} (hs : Sli h t (nats ss)) (hn : nro ≤ h.length) (hl62 : ss.length ≤ 62) :
    vcall F nro k_spec_l05Generated [gpv k n, t] h = some (.slice (some ⟨h.length, 0, none⟩) (genL (gord k n) (gmul k n) ss).length (genL (gord k n) (gmul k n) ss).length, h ++ [⟨1, ints (nats (genL (gord k n) (gmul k n) ss))⟩]) := by
  have hn' := fun k => Nat.le_trans hn (Nat.le_add_right h.length k)
  have hb := g.ord_le
  obtain ⟨out, i', r1, r2, r3⟩ := l_spec_Generated_2 g hss hs hn hl62 [0] (gord k n) 0 [0] (by omega) (gen_start _ _ _ hb.1) (by simp)
  have ho := fun L => c_spec_l05Order (nro := nro) g (h ++ L)
  have r4 := l_spec_Generated_3 (nro := nro) (h := h) hb.2 (fun x => decide (x ∈ out)) (gbx k n) ⟨1, ints (nats out)⟩ (fun q => by simp) (fun q => by simp) hn
  have he : (List.range (gord k n)).filter (fun x => decide (x ∈ out)) = genL (gord k n) (gmul k n) ss := by
    unfold genL
    refine List.filter_congr fun x hx => ?_
    rw [← decide_eq_decide.mpr (r1.done r2 x)]
  rw [he] at r4
  have hol := nats_len out
  have e0 : ints (nats [0]) = [.int .i64 0] := rfl
  have m0 := mko_snoc (N := gord k n) (z := 0) (out := []) hb.1
  have e1 : mko (gord k n) [] = List.replicate (gord k n) (.bool false) := by
    rw [← btb_const]
    exact btb_congr fun x _ => by simp
  rw [e1] at m0
  simp only [e0, Int.natCast_zero, List.length_cons, List.length_nil, Nat.zero_add, List.nil_append] at r3 m0
  have ho0 : (0 : Int) < (gord k n : Nat) := by omega
  have ho47 : ((gord k n : Nat) : Int) ≤ 140737488355328 := by omega
  have hl0 := genL_len (N := gord k n) (m := gmul k n) (ss := ss)
  obtain ⟨R, hR⟩ : ∃ R, R = genL (gord k n) (gmul k n) ss := ⟨_, rfl⟩
  rw [← hR] at r4 hl0 ⊢
  obtain ⟨N, hN⟩ : ∃ N, N = gord k n := ⟨_, rfl⟩
  rw [← hN] at r3 r4 m0 ho0 ho47 ho hb hl0
  obtain ⟨M0, hM0⟩ : ∃ M0, M0 = mko N [0] := ⟨_, rfl⟩
  rw [← hM0] at m0 r3
  have mlen := btb_length N (fun x => decide (x ∈ [0]))
  change (mko N [0]).length = N at mlen
  rw [← hM0] at mlen
  obtain ⟨M1, hM1⟩ : ∃ M1, M1 = mko N out := ⟨_, rfl⟩
  rw [← hM1] at r3
  change floop _ _ _ _ (h ++ [gbx k n, ⟨1, mko N out⟩, _, _]) _ (h ++ [gbx k n, ⟨1, mko N out⟩, _, _]) = some (_, _, h ++ [gbx k n, ⟨1, mko N out⟩, _, _]) at r4
  rw [← hM1] at r4
  have hRl := nats_len R
  clear hss hs r1 r2 he hR hN hM0 hM1 e1
  refine v_spec_l05Generated (by simp [i_spec_l05Generated]) ?_
  rw [fbody_eq]
  simp (disch := first | assumption | omega | (simp [*] <;> omega) | fail) [i_spec_l05Generated, ho, m0, r3, r4, ho0, ho47, hn', fresults, fresL, fres1, hRl, hb]
theorem c_spec_GeneratedBy (K P : Int) (t : Value) (xs : List Int) (h : VH) (hs : Sli h t xs) (hl : xs.length ≤ 9223372036854775806) (hn : nro ≤ h.length) :
    vcall F nro k_spec_GeneratedBy [gpv K P, t] h = some (ires h (gbA K P xs)) := by
  have hn' := fun k => Nat.le_trans hn (Nat.le_add_right h.length k)
  have hc := c_spec_l05List (nro := nro) K P t xs (bx h K (.int .i64 P)) (hs.app _) hl
  refine v_spec_GeneratedBy (by simp [i_spec_GeneratedBy]) ?_
  rw [fbody_eq]
  by_cases c : fwcd K P xs = 0
  · have e : gbA K P xs = .inl (nats (genL (gord K.toNat P.toNat) (gmul K.toNat P.toNat) (toN xs))) := by unfold gbA; rw [if_pos c]
    rw [e]
    rw [c] at hc
    obtain ⟨c1, c2⟩ := fwcd_zero c
    obtain ⟨g, hg⟩ := gpcd_zero c1
    obtain ⟨k, n, rfl, rfl, g'⟩ := g.nat
    obtain ⟨t1, t2⟩ := toN_ok hg
    simp only [Int.toNat_natCast]
    have hs' := hs.app [gbx k n]
    rw [t1] at hs'
    have h62 : (toN xs).length ≤ 62 := by simpa [toN] using c2
    have hg2 := c_spec_l05Generated (nro := nro) g' t2 hs' (by simp; omega) h62
    obtain ⟨R, hR⟩ : ∃ R, R = genL (gord k n) (gmul k n) (toN xs) := ⟨_, rfl⟩
    rw [← hR] at hg2 ⊢
    have hRl := nats_len R
    simp only [ires, hRl]
    simp at hg2
    clear hs hs' g' t2 hR t1 hg c1 c e
    simp (disch := first | assumption | omega | (simp [*] <;> omega) | fail) [i_spec_GeneratedBy, hc, hg2, hn', hRl]
  · have e : gbA K P xs = .inr (fwcd K P xs) := by unfold gbA; rw [if_neg c]
    rw [e]
    obtain ⟨q, hq⟩ : ∃ q, q = fwcd K P xs := ⟨_, rfl⟩
    rw [← hq] at hc c ⊢
    simp only [ires]
    clear e hq hs
    simp (disch := first | assumption | omega | (simp [*] <;> omega) | fail) [i_spec_GeneratedBy, hc, c, hn, hn']
end Go.Proofs.Ytbilmoahcnllmaa.Zv

/- Connection sets: plain, and by the reference. -/
namespace Go.Proofs.Ytbilmoahcnllmaa.Zv
open Go
variable {nro : Nat}
/-- A list of elements with their inverses, without 0, in order. -/
def closL (N : Nat) (iv : Nat → Nat) (ss : List Nat) : List Nat := (List.range N).filter fun x => decide (x ≠ 0 ∧ ∃ s ∈ ss, x = s ∨ x = iv s)
theorem closL_mem {N : Nat} {iv : Nat → Nat} {ss : List Nat} {x : Nat} : x ∈ closL N iv ss ↔ x < N ∧ x ≠ 0 ∧ ∃ s ∈ ss, x = s ∨ x = iv s := by simp [closL]
theorem closL_srt {N : Nat} {iv : Nat → Nat} {ss : List Nat} : (closL N iv ss).Pairwise (· < ·) := List.pairwise_lt_range.sublist List.filter_sublist
theorem closL_len {N : Nat} {iv : Nat → Nat} {ss : List Nat} : (closL N iv ss).length ≤ N := by
  have := List.length_filter_le (fun x => decide (x ≠ 0 ∧ ∃ s ∈ ss, x = s ∨ x = iv s)) (List.range N)
  simpa [closL] using this
theorem srt_nd {l : List Nat} (h : l.Pairwise (· < ·)) : l.Nodup := h.imp fun h => by omega
theorem srt_eq {a b : List Nat} (ha : a.Pairwise (· < ·)) (hb : b.Pairwise (· < ·)) (h : ∀ x, x ∈ a ↔ x ∈ b) : a = b :=
  ((List.perm_ext_iff_of_nodup (srt_nd ha) (srt_nd hb)).mpr h).eq_of_pairwise (fun x y _ _ h1 h2 => absurd h1 (by omega)) ha hb
/-- A connection set. -/
def isCn (iv : Nat → Nat) (ss : List Nat) : Prop := ss.Pairwise (· < ·) ∧ 0 ∉ ss ∧ ∀ x ∈ ss, iv x ∈ ss
theorem isGp.cn_iff {k n : Nat} (g : isGp k n) {ss : List Nat} (hss : ∀ s ∈ ss, s < gord k n) : isCn (gpiv k n) ss ↔ closL (gord k n) (gpiv k n) ss = ss := by
  constructor
  · rintro ⟨h1, h2, h3⟩
    refine srt_eq closL_srt h1 fun x => ?_
    rw [closL_mem]
    constructor
    · rintro ⟨_, _, s, hs, rfl | rfl⟩
      · exact hs
      · exact h3 s hs
    · intro hx
      exact ⟨hss x hx, fun e => h2 (e ▸ hx), x, hx, .inl rfl⟩
  · intro h
    refine ⟨h ▸ closL_srt, ?_, ?_⟩
    · intro h0
      rw [← h, closL_mem] at h0
      exact h0.2.1 rfl
    · intro x hx
      have hxN := hss x hx
      have hx0 : x ≠ 0 := by
        rw [← h, closL_mem] at hx; exact hx.2.1
      rw [← h, closL_mem]
      exact ⟨(g.giv hxN).1, fun e => hx0 ((g.gl.giv_zero hxN).mp e), x, hx, .inr rfl⟩
theorem isGp.cn_clos {k n : Nat} (g : isGp k n) {ss : List Nat} (hss : ∀ s ∈ ss, s < gord k n) : isCn (gpiv k n) (closL (gord k n) (gpiv k n) ss) := by
  refine ⟨closL_srt, fun h => (closL_mem.mp h).2.1 rfl, fun x hx => ?_⟩
  obtain ⟨h1, h2, s, hs, h3⟩ := closL_mem.mp hx
  refine closL_mem.mpr ⟨(g.giv h1).1, fun e => h2 ((g.gl.giv_zero h1).mp e), s, hs, ?_⟩
  rcases h3 with rfl | rfl
  · exact .inr rfl
  · exact .inl (g.gl.giv_giv (hss s hs))

/-! ### the reference -/
/-- Marks of a list with inverses. -/
def mkc (N : Nat) (iv : Nat → Nat) (L : List Nat) : List Value := btb N fun x => decide (∃ s ∈ L, x = s ∨ x = iv s)
theorem mkc_snoc {N s i : Nat} {iv : Nat → Nat} {L : List Nat} (hs : s < N) (hi : i < N) (hiv : i = iv s) : splice i [.bool true] (splice s [.bool true] (mkc N iv L)) = mkc N iv (L ++ [s]) := by
  unfold mkc
  rw [btb_splice hs, btb_splice hi]
  refine btb_congr fun x _ => ?_
  subst hiv
  by_cases e : x = iv s
  · rw [if_pos e]
    exact (decide_eq_true ⟨s, by simp, .inr e⟩).symm
  · rw [if_neg e]
    by_cases e2 : x = s
    · rw [if_pos e2]
      exact (decide_eq_true ⟨s, by simp, .inl e2⟩).symm
    · rw [if_neg e2]
      refine decide_eq_decide.mpr ⟨fun ⟨t, ht, h⟩ => ⟨t, by simp [ht], h⟩, fun ⟨t, ht, h⟩ => ?_⟩
      rcases List.mem_append.mp ht with ht | ht
      · exact ⟨t, ht, h⟩
      · simp at ht
        subst ht
        rcases h with h | h
        · exact absurd h e2
        · exact absurd h e
theorem mkc_len (N : Nat) (iv : Nat → Nat) (L : List Nat) : (mkc N iv L).length = N := btb_length _ _
theorem mkc_flat (N : Nat) (iv : Nat → Nat) (L : List Nat) (q : Nat) : flatO q ⟨1, mkc N iv L⟩ := flatO_btb _ _ _ _
section
variable {k n : Nat} (g : isGp k n) {ss : List Nat} (hss : ∀ s ∈ ss, s < gord k n) {h : VH} {t : Value} (hs : Sli h t (nats ss)) (hn : nro ≤ h.length) (hl62 : ss.length ≤ 1000)
include g hss hs hn hl62
theorem l_spec_Closed_1 :
    floop (vcall F nro) nro [1, 2, 5, 6, 7] i_spec_l05Closed_B1 (h ++ [gbx k n, ⟨1, mkc (gord k n) (gpiv k n) []⟩, ⟨1, []⟩]) [t, bp h, .slice (some ⟨h.length + 1, 0, none⟩) (gord k n) (gord k n), .slice (some ⟨h.length + 2, 0, none⟩) 0 0, .int .i64 0] (h ++ [gbx k n, ⟨1, mkc (gord k n) (gpiv k n) []⟩, ⟨1, []⟩]) =
      some (.exit 0, fl [(5, .slice (some ⟨h.length + 1, 0, none⟩) (gord k n) (gord k n)), (6, .slice (some ⟨h.length + 2, 0, none⟩) 0 0)], h ++ [gbx k n, ⟨1, mkc (gord k n) (gpiv k n) ss⟩, ⟨1, []⟩]) := by
  have hn' := fun k => Nat.le_trans hn (Nat.le_add_right h.length k)
  have hso := fun k => hs.oldk (k := k)
  have hb := g.ord_le
  have vl := fun L => (hs.app L).vlen
  rw [nats_len] at vl
  have key := for_up (call := vcall F nro) (nro := nro) (live := [1, 2, 5, 6, 7]) (c := i_spec_l05Closed_B1) (h0 := h ++ [gbx k n, ⟨1, mkc (gord k n) (gpiv k n) []⟩, ⟨1, []⟩]) (n := ss.length)
    (fun q (_ : Unit) => [t, bp h, .slice (some ⟨h.length + 1, 0, none⟩) (gord k n) (gord k n), .slice (some ⟨h.length + 2, 0, none⟩) 0 0, .int .i64 q])
    (fun q _ => h ++ [gbx k n, ⟨1, mkc (gord k n) (gpiv k n) (ss.take q)⟩, ⟨1, []⟩]) (fun _ u => u) (fun _ _ => True)
    (fun _ => some (.exit 0, fl [(5, .slice (some ⟨h.length + 1, 0, none⟩) (gord k n) (gord k n)), (6, .slice (some ⟨h.length + 2, 0, none⟩) 0 0)], h ++ [gbx k n, ⟨1, mkc (gord k n) (gpiv k n) ss⟩, ⟨1, []⟩]))
    (fun q u hq hq2 _ => ⟨trivial, ?_⟩) (fun u _ => ?_) 0 () (by omega) trivial
  · exact key.1
  · have hsq : ss[q] ∈ ss := List.getElem_mem hq
    have hsN := hss _ hsq
    have hq' : q < (nats ss).length := by rw [nats_len]; exact hq
    have x1 := fun L => (hs.app L).vidx (k := .i64) (j := (q : Int)) (by omega) (by rw [nats_len]; omega)
    have x2 := fun L => (hs.app L).vload hq'
    have e1 : (nats ss)[q] = ((ss[q] : Nat) : Int) := by simp [nats]
    rw [e1] at x2
    rw [List.take_succ_eq_append_getElem hq]
    have hv := g.giv hsN
    have ms := mkc_snoc (iv := gpiv k n) (L := ss.take q) hsN hv.1 rfl
    have hp := fun L => c_spec_l05Inverse (nro := nro) g hsN (h ++ L)
    have mlen := mkc_len (gord k n) (gpiv k n) (ss.take q)
    have hf := mkc_flat (gord k n) (gpiv k n) (ss.take q)
    have hf2 := mkc_flat (gord k n) (gpiv k n) (ss.take q ++ [ss[q]])
    obtain ⟨a, ha⟩ : ∃ a, a = ss[q] := ⟨_, rfl⟩
    rw [← ha] at x2 hsN hv ms hp hf2 ⊢
    obtain ⟨b, hb'⟩ : ∃ b, b = gpiv k n a := ⟨_, rfl⟩
    rw [← hb'] at hv ms hp
    have hbN := hv.1
    obtain ⟨M0, hM0⟩ : ∃ M0, M0 = mkc (gord k n) (gpiv k n) [] := ⟨_, rfl⟩
    obtain ⟨M, hM⟩ : ∃ M, M = mkc (gord k n) (gpiv k n) (ss.take q) := ⟨_, rfl⟩
    obtain ⟨M2, hM2⟩ : ∃ M2, M2 = mkc (gord k n) (gpiv k n) (ss.take q ++ [a]) := ⟨_, rfl⟩
    rw [← hM] at ms mlen hf ⊢
    rw [← hM2] at ms hf2 ⊢
    rw [← hM0]
    obtain ⟨N, hN⟩ : ∃ N, N = gord k n := ⟨_, rfl⟩
    rw [← hN] at hsN hbN mlen hb ⊢
    have hsN2 : (a : Int) < N := by omega
    have hbN2 : (b : Int) < N := by omega
    have slen : (splice a [Value.bool true] M).length = N := by
      unfold splice; simp; omega
    have w1 : IntKind.i64.wrap ((q : Int) + 1) = (q : Int) + 1 := wrap64 (by omega) (by omega)
    rw [floop_at i_spec_l05Closed_B1.eq_1]
    clear hs hss hM hM2 hM0 hN e1 ha hb' hv hsq hb
    simp (disch := first | assumption | omega | (simp [*] <;> omega) | fail) [vl, x1, x2, hq2, hp, hn', hso, w1, hsN, hsN2, hbN, hbN2, mlen, slen, ms, hf, hf2]
  · rw [List.take_length]
    rw [floop_at i_spec_l05Closed_B1.eq_1]
    clear hs hss
    simp (disch := first | assumption | omega | (simp [*] <;> omega) | fail) [vl]
end
theorem l_spec_Closed_2 {h : VH} {N : Nat} (hN : N ≤ 62) (h1 : 1 ≤ N) (p : Nat → Bool) (A : VO) (hA : ∀ q, flatO q A) (hn : nro ≤ h.length) :
    floop (vcall F nro) nro [5, 6, 8] i_spec_l05Closed_B2 (h ++ [A, ⟨1, btb N p⟩, ⟨1, []⟩]) [.slice (some ⟨h.length + 1, 0, none⟩) N N, .slice (some ⟨h.length + 2, 0, none⟩) 0 0, .int .i64 1] (h ++ [A, ⟨1, btb N p⟩, ⟨1, []⟩]) =
      some (.exit 2, fl [(6, .slice (some ⟨h.length + 2, 0, none⟩) (pickL p N 1 []).length (pickL p N 1 []).length)], h ++ [A, ⟨1, btb N p⟩, ⟨1, ints (nats (pickL p N 1 []))⟩]) := by
  have hn' := fun k => Nat.le_trans hn (Nat.le_add_right h.length k)
  have mlen := btb_length N p
  have key := for_up (call := vcall F nro) (nro := nro) (live := [5, 6, 8]) (c := i_spec_l05Closed_B2) (h0 := h ++ [A, ⟨1, btb N p⟩, ⟨1, []⟩]) (n := N)
    (fun q (acc : List Nat) => [.slice (some ⟨h.length + 1, 0, none⟩) N N, .slice (some ⟨h.length + 2, 0, none⟩) acc.length acc.length, .int .i64 q])
    (fun _ acc => h ++ [A, ⟨1, btb N p⟩, ⟨1, ints (nats acc)⟩]) (fun x acc => if p x = true then acc ++ [x] else acc) (fun i acc => acc.length ≤ i)
    (fun acc => some (.exit 2, fl [(6, .slice (some ⟨h.length + 2, 0, none⟩) acc.length acc.length)], h ++ [A, ⟨1, btb N p⟩, ⟨1, ints (nats acc)⟩]))
    (fun x acc hx hx2 I => ?_) (fun acc _ => ?_) 1 [] (by omega) (by simp)
  · exact key.1
  · have mt := btb_take1 (p := p) hx
    have hol2 : (nats acc).length = acc.length := nats_len acc
    have w1 : IntKind.i64.wrap ((x : Int) + 1) = (x : Int) + 1 := wrap64 (by omega) (by omega)
    have b1 : (acc.length + 1) * 8 ≤ 1099511627776 := by omega
    have b3 : acc.length < 1099511627776 := by omega
    have b4 : acc.length + 1 < 9223372036854775807 := by omega
    have hf := fun q => flatO_btb q 1 N p
    obtain ⟨M, hM⟩ : ∃ M, M = btb N p := ⟨_, rfl⟩
    rw [← hM] at mt mlen hf ⊢
    rw [floop_at i_spec_l05Closed_B2.eq_1]
    cases c : p x with
    | true =>
      refine ⟨by simp; omega, ?_⟩
      rw [c] at mt
      rw [if_pos rfl]
      have happ := nats_app acc x
      obtain ⟨o2, ho2⟩ : ∃ o2, o2 = nats (acc ++ [x]) := ⟨_, rfl⟩
      rw [← ho2] at happ ⊢
      have hapi : ints (nats acc) ++ [Value.int .i64 x] = ints o2 := by rw [happ]; simp [ints]
      clear hM ho2 happ
      simp (disch := first | assumption | omega | (simp [*] <;> omega) | fail) [hx, hx2, mt, hn', w1, mlen, hol2, hapi, b1, b3, b4, hA, hf]
    | false =>
      refine ⟨by simp; omega, ?_⟩
      rw [c] at mt
      rw [if_neg (by simp)]
      clear hM
      simp (disch := first | assumption | omega | (simp [*] <;> omega) | fail) [hx, hx2, mt, hn', w1, mlen, hol2, hA, hf]
  · have hol2 : (nats acc).length = acc.length := nats_len acc
    obtain ⟨M, hM⟩ : ∃ M, M = btb N p := ⟨_, rfl⟩
    rw [← hM] at mlen ⊢
    rw [floop_at i_spec_l05Closed_B2.eq_1]
    clear hM
    simp (disch := first | assumption | omega | (simp [*] <;> omega) | fail) [hn', mlen, hol2, hA]
theorem pickL_one (p : Nat → Bool) (N : Nat) (h1 : 1 ≤ N) : pickL p N 1 [] = (List.range N).filter fun x => decide (x ≠ 0) && p x := by
  rw [← pickL_eq]
  unfold pickL
  conv => rhs; rw [upF_step (show 0 < N by omega)]
  simp only [ne_eq, not_true, decide_false, Bool.false_and, Bool.false_eq_true, if_false, Nat.zero_add]
  exact upF_congr (fun i _ => 1 ≤ i) (fun i a _ h => by omega) (fun i a _ h => by
    have : i ≠ 0 := by omega
    simp [this]) 1 [] (by omega)
theorem c_spec_l05Closed {k n : Nat} (g : isGp k n) {ss : List Nat} (hss : ∀ s ∈ ss, s < gord k n) {h : VH} {t : Value} (hs : Sli h t (nats ss)) (hn : nro ≤ h.length) (hl62 : ss.length ≤ 1000) :
    vcall F nro k_spec_l05Closed [gpv k n, t] h = some (.slice (some ⟨h.length, 0, none⟩) (closL (gord k n) (gpiv k n) ss).length (closL (gord k n) (gpiv k n) ss).length, h ++ [⟨1, ints (nats (closL (gord k n) (gpiv k n) ss))⟩]) := by
  have hn' := fun k => Nat.le_trans hn (Nat.le_add_right h.length k)
  have hb := g.ord_le
  have r3 := l_spec_Closed_1 g hss hs hn hl62
  have ho := fun L => c_spec_l05Order (nro := nro) g (h ++ L)
  have r4 := l_spec_Closed_2 (nro := nro) (h := h) hb.2 hb.1 (fun x => decide (∃ s ∈ ss, x = s ∨ x = gpiv k n s)) (gbx k n) (fun q => by simp) hn
  rw [pickL_one _ _ hb.1] at r4
  have he : (List.range (gord k n)).filter (fun x => decide (x ≠ 0) && decide (∃ s ∈ ss, x = s ∨ x = gpiv k n s)) = closL (gord k n) (gpiv k n) ss := by
    unfold closL
    refine List.filter_congr fun x hx => ?_
    rw [Bool.decide_and]
  rw [he] at r4
  change floop _ _ _ _ (h ++ [gbx k n, ⟨1, mkc (gord k n) (gpiv k n) ss⟩, _]) _ (h ++ [gbx k n, ⟨1, mkc (gord k n) (gpiv k n) ss⟩, _]) = some (_, _, h ++ [gbx k n, ⟨1, mkc (gord k n) (gpiv k n) ss⟩, _]) at r4
  have e1 : mkc (gord k n) (gpiv k n) [] = List.replicate (gord k n) (.bool false) := by
    rw [← btb_const]
    exact btb_congr fun x _ => by simp
  rw [e1] at r3
  have hl0 := closL_len (N := gord k n) (iv := gpiv k n) (ss := ss)
  obtain ⟨R, hR⟩ : ∃ R, R = closL (gord k n) (gpiv k n) ss := ⟨_, rfl⟩
  rw [← hR] at r4 hl0 ⊢
  obtain ⟨M1, hM1⟩ : ∃ M1, M1 = mkc (gord k n) (gpiv k n) ss := ⟨_, rfl⟩
  rw [← hM1] at r3 r4
  obtain ⟨N, hN⟩ : ∃ N, N = gord k n := ⟨_, rfl⟩
  rw [← hN] at r3 r4 ho hb hl0
  have ho0 : (0 : Int) < N := by omega
  have ho47 : (N : Int) ≤ 140737488355328 := by omega
  have hRl := nats_len R
  clear hss hs he hR hN hM1 e1
  refine v_spec_l05Closed (by simp [i_spec_l05Closed]) ?_
  rw [fbody_eq]
  simp (disch := first | assumption | omega | (simp [*] <;> omega) | fail) [i_spec_l05Closed, ho, r3, r4, ho0, ho47, hn', fresults, fresL, fres1, hRl, hb]
end Go.Proofs.Ytbilmoahcnllmaa.Zv

/- Connection sets: the two programs. -/
namespace Go.Proofs.Ytbilmoahcnllmaa.Zv
open Go
variable {nro : Nat}
open Classical in
theorem c_spec_l05Set {k n : Nat} (g : isGp k n) {ss : List Nat} (hss : ∀ s ∈ ss, s < gord k n) {h : VH} {t : Value} (hs : Sli h t (nats ss)) (hn : nro ≤ h.length) (hl62 : ss.length ≤ 1000) :
    vcall F nro k_spec_l05Set [gpv k n, t] h = some (.bool (decide (isCn (gpiv k n) ss)), h) := by
  have hn' := fun k => Nat.le_trans hn (Nat.le_add_right h.length k)
  have hb := g.ord_le
  have he : decide (isCn (gpiv k n) ss) = decide (closL (gord k n) (gpiv k n) ss = ss) := by simp [g.cn_iff hss]
  rw [he]
  have hc := c_spec_l05Closed (nro := nro) g hss (hs.app [gbx k n]) (by simp; omega) hl62
  have hl0 := closL_len (N := gord k n) (iv := gpiv k n) (ss := ss)
  obtain ⟨R, hR⟩ : ∃ R, R = closL (gord k n) (gpiv k n) ss := ⟨_, rfl⟩
  rw [← hR] at hc hl0 ⊢
  have hRl := nats_len R
  have hso := fun k => hs.oldk (k := k)
  have vl := fun L => (hs.app L).vlen
  rw [nats_len] at vl
  simp at hc
  refine v_spec_l05Set (by simp [i_spec_l05Set]) ?_
  rw [fbody_eq]
  by_cases hl : R.length = ss.length
  · have hl2 : (nats R).length = (nats ss).length := by rw [nats_len, nats_len, hl]
    have lp := for_find (call := vcall F nro) (nro := nro) (live := [1, 5, 6]) (c := i_spec_l05Set_B1) (h0 := h ++ [gbx k n, ⟨1, ints (nats R)⟩]) (n := (nats R).length) (fun i => [t, .slice (some ⟨h.length + 1, 0, none⟩) R.length R.length, .int .i64 i]) (h ++ [gbx k n, ⟨1, ints (nats R)⟩]) (fun i => (nats R).getD i 0 ≠ (nats ss).getD i 0) (some (.ret, fl [(4, .bool false)], h ++ [gbx k n, ⟨1, ints (nats R)⟩])) (some (.exit 0, fl [], h ++ [gbx k n, ⟨1, ints (nats R)⟩])) (fun i hi hi2 => ?_) ?_ 0 (by omega)
    · simp only [Int.natCast_zero, ne_iff_ex _ _ hl2] at lp
      have hl' : (R.length : Int) = ss.length := by omega
      rw [hl] at lp
      by_cases e : R = ss
      · rw [if_neg (by simp [e])] at lp
        rw [decide_eq_true e]
        clear hs hss hR e he
        simp (disch := first | assumption | omega | (simp [*] <;> omega) | fail) [i_spec_l05Set, hc, vl, lp, hl, fresults, fresL, fres1, hRl, hn']
      · rw [if_pos (fun h => e (nats_inj h))] at lp
        rw [decide_eq_false e]
        clear hs hss hR e he
        simp (disch := first | assumption | omega | (simp [*] <;> omega) | fail) [i_spec_l05Set, hc, vl, lp, hl, fresults, fresL, fres1, hRl, hn']
    · have hq' : i < (nats ss).length := by omega
      have x1 := fun L => (hs.app L).vidx (k := .i64) (j := (i : Int)) (by omega) (by omega)
      have x2 := fun L => (hs.app L).vload hq'
      have ti := take1_ints hi
      rw [getD_at _ hi, getD_at _ hq']
      have w1 : IntKind.i64.wrap ((i : Int) + 1) = (i : Int) + 1 := wrap64 (by omega) (by omega)
      have hi3 : (i : Int) < R.length := by omega
      have hi4 : i < R.length := by omega
      generalize (nats R)[i] = a at ti ⊢
      generalize (nats ss)[i] = b at x2 ⊢
      rw [floop_at i_spec_l05Set_B1.eq_1]
      clear hs hss hR he hc
      constructor
      · intro hq
        simp (disch := first | assumption | omega | (simp [*] <;> omega) | fail) [vl, x1, x2, ti, hi3, hi4, hRl, hq, hso]
      · intro hq
        simp (disch := first | assumption | omega | (simp [*] <;> omega) | fail) [vl, x1, x2, ti, hi3, hi4, hRl, hq, hso, w1, hn']
    · rw [floop_at i_spec_l05Set_B1.eq_1]
      simp (disch := first | assumption | omega | (simp [*] <;> omega) | fail) [hRl]
  · have hl' : ¬ (R.length : Int) = ss.length := by omega
    have e : ¬ R = ss := fun e => hl (by rw [e])
    rw [decide_eq_false e]
    clear hs hss hR e he
    simp (disch := first | assumption | omega | (simp [*] <;> omega) | fail) [i_spec_l05Set, hc, vl, hl', hl, hRl, hn']
open Classical in
/-- Is it a connection set? -/
noncomputable def csA (K P : Int) (xs : List Int) : Bool × Int := if gpcd K P xs = 0 then (decide (isCn (gpiv K.toNat P.toNat) (toN xs)), 0) else (false, gpcd K P xs)
open Classical in
theorem c_spec_IsConnectionSet (K P : Int) (t : Value) (xs : List Int) (h : VH) (hs : Sli h t xs) (hl : xs.length ≤ 1000) (hn : nro ≤ h.length) :
    vcall F nro k_spec_IsConnectionSet [gpv K P, t] h = some (.tuple #[.bool (csA K P xs).1, .int .i64 (csA K P xs).2], h) := by
  have hn' := fun k => Nat.le_trans hn (Nat.le_add_right h.length k)
  have hc := c_spec_l05Elements (nro := nro) K P t xs (bx h K (.int .i64 P)) (hs.app _) (by omega)
  refine v_spec_IsConnectionSet (by simp [i_spec_IsConnectionSet]) ?_
  rw [fbody_eq]
  by_cases c : gpcd K P xs = 0
  · obtain ⟨g, hg⟩ := gpcd_zero c
    obtain ⟨k, n, rfl, rfl, g'⟩ := g.nat
    obtain ⟨t1, t2⟩ := toN_ok hg
    have hs' := hs.app [gbx k n]
    rw [t1] at hs'
    have hp := c_spec_l05Set (nro := nro) g' t2 hs' (by simp; omega) (by simpa [toN] using hl)
    have e : csA k n xs = (decide (isCn (gpiv k n) (toN xs)), 0) := by unfold csA; rw [if_pos c]; simp
    rw [e]
    rw [c] at hc
    generalize decide (isCn (gpiv k n) (toN xs)) = b at hp ⊢
    clear hg g g' e hs hs' t1 t2
    simp (disch := first | assumption | omega | (simp [*] <;> omega) | fail) [i_spec_IsConnectionSet, hc, hp, hn, hn']
  · have e : csA K P xs = (false, gpcd K P xs) := by unfold csA; rw [if_neg c]
    rw [e]
    obtain ⟨q, hq⟩ : ∃ q, q = gpcd K P xs := ⟨_, rfl⟩
    rw [← hq] at hc c ⊢
    clear e hq hs
    simp (disch := first | assumption | omega | (simp [*] <;> omega) | fail) [i_spec_IsConnectionSet, hc, c, hn, hn']
noncomputable def clA (K P : Int) (xs : List Int) : List Int ⊕ Int := if fwcd K P xs = 0 then .inl (nats (closL (gord K.toNat P.toNat) (gpiv K.toNat P.toNat) (toN xs))) else .inr (fwcd K P xs)
theorem c_spec_ClosedSet (K P : Int) (t : Value) (xs : List Int) (h : VH) (hs : Sli h t xs) (hl : xs.length ≤ 9223372036854775806) (hn : nro ≤ h.length) :
    vcall F nro k_spec_ClosedSet [gpv K P, t] h = some (ires h (clA K P xs)) := by
  have hn' := fun k => Nat.le_trans hn (Nat.le_add_right h.length k)
  have hc := c_spec_l05List (nro := nro) K P t xs (bx h K (.int .i64 P)) (hs.app _) hl
  refine v_spec_ClosedSet (by simp [i_spec_ClosedSet]) ?_
  rw [fbody_eq]
  by_cases c : fwcd K P xs = 0
  · have e : clA K P xs = .inl (nats (closL (gord K.toNat P.toNat) (gpiv K.toNat P.toNat) (toN xs))) := by unfold clA; rw [if_pos c]
    rw [e]
    rw [c] at hc
    obtain ⟨c1, c2⟩ := fwcd_zero c
    obtain ⟨g, hg⟩ := gpcd_zero c1
    obtain ⟨k, n, rfl, rfl, g'⟩ := g.nat
    obtain ⟨t1, t2⟩ := toN_ok hg
    simp only [Int.toNat_natCast]
    have hs' := hs.app [gbx k n]
    rw [t1] at hs'
    have h62 : (toN xs).length ≤ 1000 := by simp [toN]; omega
    have hg2 := c_spec_l05Closed (nro := nro) g' t2 hs' (by simp; omega) h62
    obtain ⟨R, hR⟩ : ∃ R, R = closL (gord k n) (gpiv k n) (toN xs) := ⟨_, rfl⟩
    rw [← hR] at hg2 ⊢
    have hRl := nats_len R
    simp only [ires, hRl]
    simp at hg2
    clear hs hs' g' t2 hR t1 hg c1 c e
    simp (disch := first | assumption | omega | (simp [*] <;> omega) | fail) [i_spec_ClosedSet, hc, hg2, hn', hRl]
  · have e : clA K P xs = .inr (fwcd K P xs) := by unfold clA; rw [if_neg c]
    rw [e]
    obtain ⟨q, hq⟩ : ∃ q, q = fwcd K P xs := ⟨_, rfl⟩
    rw [← hq] at hc c ⊢
    simp only [ires]
    clear e hq hs
    simp (disch := first | assumption | omega | (simp [*] <;> omega) | fail) [i_spec_ClosedSet, hc, c, hn, hn']

/-! ### the program -/
/-- What is bad at i. -/
def cnBad (iv : Nat → Nat) (ss : List Nat) (i : Nat) : Prop := ss.getD i 0 = 0 ∨ (0 < i ∧ ss.getD i 0 ≤ ss.getD (i - 1) 0) ∨ iv (ss.getD i 0) ∉ ss
theorem nget {ss : List Nat} {i : Nat} (h : i < ss.length) : ss.getD i 0 = ss[i] := by rw [List.getD_eq_getElem?_getD, List.getElem?_eq_getElem h]; rfl
theorem cnBad_iff (iv : Nat → Nat) (ss : List Nat) : (∃ j, 0 ≤ j ∧ j < ss.length ∧ cnBad iv ss j) ↔ ¬ isCn iv ss := by
  constructor
  · rintro ⟨j, _, hj, hb⟩ ⟨h1, h2, h3⟩
    rcases hb with h | ⟨h, h4⟩ | h
    · rw [nget hj] at h
      exact h2 (h ▸ List.getElem_mem hj)
    · rw [nget hj, nget (show j - 1 < ss.length by omega)] at h4
      have := List.pairwise_iff_getElem.mp h1 (j - 1) j (by omega) hj (by omega)
      omega
    · rw [nget hj] at h
      exact h (h3 _ (List.getElem_mem hj))
  · intro hn
    apply Classical.byContradiction
    intro hno
    have hg : ∀ j, j < ss.length → ¬ cnBad iv ss j := fun j hj hb => hno ⟨j, by omega, hj, hb⟩
    apply hn
    refine ⟨?_, ?_, ?_⟩
    · rw [List.pairwise_iff_getElem]
      have key : ∀ d i, (h : i + d + 1 < ss.length) → ss[i]'(by omega) < ss[i + d + 1] := by
        intro d
        induction d with
        | zero =>
          intro i h
          have := hg (i + 1) h
          unfold cnBad at this
          rw [nget h, show i + 1 - 1 = i by omega, nget (show i < ss.length by omega)] at this
          have h2 : ¬ (0 < i + 1 ∧ ss[i + 1] ≤ ss[i]'(by omega)) := fun e => this (.inr (.inl e))
          simp only [Nat.add_zero]
          omega
        | succ d ih =>
          intro i h
          have h1 := ih i (by omega)
          have := hg (i + (d + 1) + 1) h
          unfold cnBad at this
          rw [nget h, nget (show i + (d + 1) + 1 - 1 < ss.length by omega)] at this
          simp only [show i + (d + 1) + 1 - 1 = i + d + 1 by omega] at this
          have h2 : ¬ (0 < i + (d + 1) + 1 ∧ ss[i + (d + 1) + 1] ≤ ss[i + d + 1]'(by omega)) := fun e => this (.inr (.inl e))
          omega
      intro i j hi hj hij
      obtain ⟨d, rfl⟩ : ∃ d, j = i + d + 1 := ⟨j - i - 1, by omega⟩
      exact key d i hj
    · intro h0
      obtain ⟨j, hj, e⟩ := List.mem_iff_getElem.mp h0
      exact hg j hj (.inl (by rw [nget hj]; exact e))
    · intro x hx
      obtain ⟨j, hj, rfl⟩ := List.mem_iff_getElem.mp hx
      apply Classical.byContradiction
      intro h
      exact hg j hj (.inr (.inr (by rw [nget hj]; exact h)))
open Classical in
theorem c_impl_Group_isConnection {k n : Nat} (g : isGp k n) {ss : List Nat} (hss : ∀ s ∈ ss, s < gord k n) {h : VH} {t : Value} (hs : Sli h t (nats ss)) (hl62 : ss.length ≤ 1000) :
    vcall F nro k_impl_Group_isConnection [gpv k n, t] h = some (.bool (decide (isCn (gpiv k n) ss)), h) := by
  have hb := g.ord_le
  have hso := fun k => hs.oldk (k := k)
  have vl := fun L => (hs.app L).vlen
  rw [nats_len] at vl
  refine v_impl_Group_isConnection (by simp [i_impl_Group_isConnection]) ?_
  rw [fbody_eq]
  have lp := for_find (call := vcall F nro) (nro := nro) (live := [1, 2, 7, 8, 9]) (c := i_impl_Group_isConnection_B1) (h0 := h ++ [gbx k n]) (n := ss.length) (fun i => [t, bp h, t, .int .i64 ss.length, .int .i64 i]) (h ++ [gbx k n]) (cnBad (gpiv k n) ss) (some (.ret, fl [(4, .bool false)], h ++ [gbx k n])) (some (.exit 0, fl [], h ++ [gbx k n])) (fun i hi hi2 => ?_) ?_ 0 (by omega)
  · simp only [Int.natCast_zero, cnBad_iff] at lp
    by_cases e : isCn (gpiv k n) ss
    · rw [if_neg (not_not_intro e)] at lp
      rw [decide_eq_true e]
      clear hs hss e
      simp (disch := first | assumption | omega | (simp [*] <;> omega) | fail) [i_impl_Group_isConnection, vl, lp, fresults, fresL, fres1]
    · rw [if_pos e] at lp
      rw [decide_eq_false e]
      clear hs hss e
      simp (disch := first | assumption | omega | (simp [*] <;> omega) | fail) [i_impl_Group_isConnection, vl, lp, fresults, fresL, fres1]
  · have hsq : ss[i] ∈ ss := List.getElem_mem hi
    have hsN := hss _ hsq
    have hq' : i < (nats ss).length := by rw [nats_len]; exact hi
    have x1 := fun L => (hs.app L).vidx (k := .i64) (j := (i : Int)) (by omega) (by rw [nats_len]; omega)
    have x2 := fun L => (hs.app L).vload hq'
    have e1 : (nats ss)[i] = ((ss[i] : Nat) : Int) := by simp [nats]
    rw [e1] at x2
    have hp := fun L => c_impl_Group_inverse (nro := nro) g hsN (h ++ L)
    have hcn := fun x => c_slices_Contains (nro := nro) t (nats ss) x (h ++ [gbx k n]) (hs.app _) (by rw [nats_len]; omega)
    unfold cnBad
    rw [nget hi]
    have w1 : IntKind.i64.wrap ((i : Int) + 1) = (i : Int) + 1 := wrap64 (by omega) (by omega)
    have hcz := hcn (gpiv k n ss[i] : Nat)
    have hmz : decide (((gpiv k n ss[i] : Nat) : Int) ∈ nats ss) = decide (gpiv k n ss[i] ∈ ss) := by simp [nats_mem]
    rw [hmz] at hcz
    by_cases i0 : i = 0
    · have hpi : ¬ 0 < i := by omega
      generalize ss[i] = a at x2 hp hcz ⊢
      generalize gpiv k n a = b at hp hcz ⊢
      rw [floop_at i_impl_Group_isConnection_B1.eq_1]
      clear hs hss e1 hsN hsq hmz hcn
      constructor
      · intro hq
        by_cases a0 : a = 0
        · subst a0
          simp (disch := first | assumption | omega | (simp [*] <;> omega) | fail) [x1, x2, hi2]
        · have c : b ∉ ss := by
            rcases hq with h | ⟨h, _⟩ | h
            · exact absurd h a0
            · omega
            · exact h
          rw [decide_eq_false c] at hcz
          clear hq
          simp (disch := first | assumption | omega | (simp [*] <;> omega) | fail) [x1, x2, hi2, a0, hpi, hp, hcz]
      · intro hq
        have a0 : ¬ a = 0 := fun h => hq (.inl h)
        have c : b ∈ ss := Classical.byContradiction fun h => hq (.inr (.inr h))
        rw [decide_eq_true c] at hcz
        clear hq
        simp (disch := first | assumption | omega | (simp [*] <;> omega) | fail) [x1, x2, hi2, a0, hpi, hp, hcz, hso, w1]
    · have hq2 : i - 1 < (nats ss).length := by omega
      have hpi : 0 < i := by omega
      have w2 : IntKind.i64.wrap ((i : Int) - 1) = ((i - 1 : Nat) : Int) := by rw [wrap64 (by omega) (by omega)]; omega
      have y1 := fun L => (hs.app L).vidx (k := .i64) (j := ((i - 1 : Nat) : Int)) (by omega) (by rw [nats_len]; omega)
      have y2 := fun L => (hs.app L).vload hq2
      have e2 : (nats ss)[i - 1] = ((ss[i - 1] : Nat) : Int) := by simp [nats]
      rw [e2] at y2
      rw [nget (show i - 1 < ss.length by omega)]
      obtain ⟨j, hj⟩ : ∃ j, j = i - 1 := ⟨_, rfl⟩
      have ej : ss[i - 1] = ss[j]'(by omega) := by simp [hj]
      rw [ej] at y2 ⊢
      rw [← hj] at w2 y1
      have y3 : ∀ L, vload false 1 (h ++ L) (vptr t j) = some (.int .i64 (ss[j]'(by omega) : Nat)) := fun L => by have := y2 L; rwa [← hj] at this
      generalize ss[j]'(by omega) = p at y3 ⊢
      generalize ss[i] = a at x2 hp hcz ⊢
      generalize gpiv k n a = b at hp hcz ⊢
      rw [floop_at i_impl_Group_isConnection_B1.eq_1]
      clear hs hss e1 hsN hsq hmz hcn e2 ej y2 hj
      constructor
      · intro hq
        by_cases a0 : a = 0
        · subst a0
          simp (disch := first | assumption | omega | (simp [*] <;> omega) | fail) [x1, x2, hi2]
        · by_cases ap : a ≤ p
          · have ap' : (a : Int) ≤ p := by omega
            clear hq
            simp (disch := first | assumption | omega | (simp [*] <;> omega) | fail) [x1, x2, hi2, a0, hpi, w2, y1, y3, ap, ap']
          · have ap' : ¬ (a : Int) ≤ p := by omega
            have c : b ∉ ss := by
              rcases hq with h | ⟨_, h⟩ | h
              · exact absurd h a0
              · exact absurd h ap
              · exact h
            rw [decide_eq_false c] at hcz
            clear hq
            simp (disch := first | assumption | omega | (simp [*] <;> omega) | fail) [x1, x2, hi2, a0, hpi, w2, y1, y3, ap, ap', hp, hcz]
      · intro hq
        have a0 : ¬ a = 0 := fun h => hq (.inl h)
        have ap : ¬ a ≤ p := fun h => hq (.inr (.inl ⟨by omega, h⟩))
        have ap' : ¬ (a : Int) ≤ p := by omega
        have c : b ∈ ss := Classical.byContradiction fun h => hq (.inr (.inr h))
        rw [decide_eq_true c] at hcz
        clear hq
        simp (disch := first | assumption | omega | (simp [*] <;> omega) | fail) [x1, x2, hi2, a0, hpi, w2, y1, y3, ap, ap', hp, hcz, hso, w1]
  · rw [floop_at i_impl_Group_isConnection_B1.eq_1]
    simp (disch := first | assumption | omega | (simp [*] <;> omega) | fail) []
open Classical in
theorem c_impl_IsConnectionSet (K P : Int) (t : Value) (xs : List Int) (h : VH) (hs : Sli h t xs) (hl : xs.length ≤ 1000) (hn : nro ≤ h.length) :
    vcall F nro k_impl_IsConnectionSet [gpv K P, t] h = some (.tuple #[.bool (csA K P xs).1, .int .i64 (csA K P xs).2], h) := by
  have hn' := fun k => Nat.le_trans hn (Nat.le_add_right h.length k)
  have hc := c_impl_groupCode (nro := nro) K P t xs (bx h K (.int .i64 P)) (hs.app _) (by omega)
  refine v_impl_IsConnectionSet (by simp [i_impl_IsConnectionSet]) ?_
  rw [fbody_eq]
  by_cases c : gpcd K P xs = 0
  · obtain ⟨g, hg⟩ := gpcd_zero c
    obtain ⟨k, n, rfl, rfl, g'⟩ := g.nat
    obtain ⟨t1, t2⟩ := toN_ok hg
    have hs' := hs.app [gbx k n]
    rw [t1] at hs'
    have hp := c_impl_Group_isConnection (nro := nro) g' t2 hs' (by simpa [toN] using hl)
    have e : csA k n xs = (decide (isCn (gpiv k n) (toN xs)), 0) := by unfold csA; rw [if_pos c]; simp
    rw [e]
    rw [c] at hc
    generalize decide (isCn (gpiv k n) (toN xs)) = b at hp ⊢
    clear hg g g' e hs hs' t1 t2
    simp (disch := first | assumption | omega | (simp [*] <;> omega) | fail) [i_impl_IsConnectionSet, hc, hp, hn, hn']
  · have e : csA K P xs = (false, gpcd K P xs) := by unfold csA; rw [if_neg c]
    rw [e]
    obtain ⟨q, hq⟩ : ∃ q, q = gpcd K P xs := ⟨_, rfl⟩
    rw [← hq] at hc c ⊢
    clear e hq hs
    simp (disch := first | assumption | omega | (simp [*] <;> omega) | fail) [i_impl_IsConnectionSet, hc, c, hn, hn']
end Go.Proofs.Ytbilmoahcnllmaa.Zv

/- Closed sets, by the program. -/
namespace Go.Proofs.Ytbilmoahcnllmaa.Zv
open Go
variable {nro : Nat}
/-- What is left of a sorted list when no number stands twice. -/
theorem ddN_ok {xs : List Int} (hs : SrtB 0 xs.length xs) : ∀ p, p ≤ xs.length → (ddN xs p).Pairwise (· < ·) ∧ (∀ x, x ∈ ddN xs p ↔ ∃ q, q < p ∧ xs.getD q 0 = x)
  | 0, _ => by simp [ddN]
  | p + 1, hp => by
    obtain ⟨h1, h2⟩ := ddN_ok hs p (by omega)
    rw [ddN]
    by_cases c : p ≠ 0 ∧ xs.getD p 0 = xs.getD (p - 1) 0
    · rw [if_pos c]
      refine ⟨h1, fun x => ?_⟩
      rw [h2]
      constructor
      · rintro ⟨q, hq, e⟩; exact ⟨q, by omega, e⟩
      · rintro ⟨q, hq, e⟩
        by_cases hqp : q = p
        · exact ⟨p - 1, by omega, by rw [← c.2, ← hqp]; exact e⟩
        · exact ⟨q, by omega, e⟩
    · rw [if_neg c]
      refine ⟨?_, fun x => ?_⟩
      · rw [List.pairwise_append]
        refine ⟨h1, by simp, fun a ha b hb => ?_⟩
        simp only [List.mem_singleton] at hb
        subst hb
        obtain ⟨q, hq, rfl⟩ := (h2 a).mp ha
        have h3 := hs (p - 1) p (by omega) (by omega) (by omega)
        have h4 : xs.getD q 0 ≤ xs.getD (p - 1) 0 := by
          by_cases e : q = p - 1
          · rw [e]; exact Int.le_refl _
          · exact hs q (p - 1) (by omega) (by omega) (by omega)
        have h5 : xs.getD p 0 ≠ xs.getD (p - 1) 0 := fun e => c ⟨by omega, e⟩
        omega
      · rw [List.mem_append, h2, List.mem_singleton]
        constructor
        · rintro (⟨q, hq, e⟩ | e)
          · exact ⟨q, by omega, e⟩
          · exact ⟨p, by omega, e.symm⟩
        · rintro ⟨q, hq, e⟩
          by_cases hqp : q = p
          · exact .inr (by rw [← e, hqp])
          · exact .inl ⟨q, by omega, e⟩
/-- Sorted and without repeats. -/
theorem ddN_sort {xs ys : List Int} (hy : ys.Pairwise (· < ·)) (h : ∀ x, x ∈ xs ↔ x ∈ ys) : ddN (insS 0 xs.length xs) xs.length = ys := by
  have q := insS_perm (a := 0) (b := xs.length) (xs := xs) (Nat.le_refl _)
  have q2 := insS_sorted (a := 0) (b := xs.length) (xs := xs) (Nat.le_refl _)
  obtain ⟨zs, hz⟩ : ∃ zs, zs = insS 0 xs.length xs := ⟨_, rfl⟩
  rw [← hz] at q q2 ⊢
  rw [← q.length_eq] at q2 ⊢
  obtain ⟨h1, h2⟩ := ddN_ok q2 zs.length (Nat.le_refl _)
  refine ((List.perm_ext_iff_of_nodup (h1.imp fun h => by omega) (hy.imp fun h => by omega)).mpr fun x => ?_).eq_of_pairwise (fun x y _ _ h1 h2 => absurd h1 (by omega)) h1 hy
  rw [h2, ← h, ← q.mem_iff, List.mem_iff_getElem]
  constructor
  · rintro ⟨i, hi, e⟩
    exact ⟨i, hi, by rw [← getD_at zs hi]; exact e⟩
  · rintro ⟨i, hi, e⟩
    exact ⟨i, hi, by rw [getD_at zs hi]; exact e⟩
def clo1 (iv : Nat → Nat) (x : Nat) (acc : List Nat) : List Nat := if x = 0 then acc else acc ++ [x, iv x]
def cloL (iv : Nat → Nat) (ss : List Nat) : List Nat := upF (fun q acc => clo1 iv (ss.getD q 0) acc) ss.length 0 []
theorem cloL_ok (iv : Nat → Nat) (ss : List Nat) : (cloL iv ss).length ≤ 2 * ss.length ∧ ∀ x, x ∈ cloL iv ss ↔ ∃ s ∈ ss, s ≠ 0 ∧ (x = s ∨ x = iv s) := by
  have key := upF_inv (f := fun q acc => clo1 iv (ss.getD q 0) acc) (n := ss.length) (fun q acc => acc.length ≤ 2 * q ∧ ∀ x, x ∈ acc ↔ ∃ s ∈ ss.take q, s ≠ 0 ∧ (x = s ∨ x = iv s)) (fun q acc hq ⟨h1, h2⟩ => by
    rw [List.take_succ_eq_append_getElem hq, nget hq]
    unfold clo1
    by_cases c : ss[q] = 0
    · rw [if_pos c]
      refine ⟨by omega, fun x => ?_⟩
      rw [h2]
      constructor
      · rintro ⟨s, hs, h⟩; exact ⟨s, List.mem_append_left _ hs, h⟩
      · rintro ⟨s, hs, h⟩
        rcases List.mem_append.mp hs with hs | hs
        · exact ⟨s, hs, h⟩
        · simp only [List.mem_singleton] at hs
          subst hs; exact absurd c h.1
    · rw [if_neg c]
      refine ⟨by simp; omega, fun x => ?_⟩
      rw [List.mem_append, h2]
      constructor
      · rintro (⟨s, hs, h⟩ | h)
        · exact ⟨s, List.mem_append_left _ hs, h⟩
        · exact ⟨ss[q], List.mem_append_right _ (List.mem_singleton.mpr rfl), c, by simpa using h⟩
      · rintro ⟨s, hs, h⟩
        rcases List.mem_append.mp hs with hs | hs
        · exact .inl ⟨s, hs, h⟩
        · simp only [List.mem_singleton] at hs
          subst hs
          exact .inr (by simpa using h.2)) 0 [] (by omega) (by simp)
  rw [List.take_length] at key
  exact key
theorem isGp.clo {k n : Nat} (g : isGp k n) {ss : List Nat} (hss : ∀ s ∈ ss, s < gord k n) :
    ddN (insS 0 (cloL (gpiv k n) ss).length (nats (cloL (gpiv k n) ss))) (cloL (gpiv k n) ss).length = nats (closL (gord k n) (gpiv k n) ss) := by
  have := ddN_sort (xs := nats (cloL (gpiv k n) ss)) (ys := nats (closL (gord k n) (gpiv k n) ss)) (by
    unfold nats
    rw [List.pairwise_map]
    exact closL_srt.imp fun h => by omega) (fun x => by
    constructor
    · intro hx
      obtain ⟨y, hy, rfl⟩ := List.mem_map.mp hx
      rw [nats_mem, closL_mem]
      obtain ⟨s, hs, s0, h⟩ := ((cloL_ok _ _).2 y).mp hy
      have sN := hss s hs
      rcases h with rfl | rfl
      · exact ⟨sN, s0, y, hs, .inl rfl⟩
      · exact ⟨(g.giv sN).1, fun e => s0 ((g.gl.giv_zero sN).mp e), s, hs, .inr rfl⟩
    · intro hx
      obtain ⟨y, hy, rfl⟩ := List.mem_map.mp hx
      rw [nats_mem]
      obtain ⟨_, y0, s, hs, h⟩ := closL_mem.mp hy
      refine ((cloL_ok _ _).2 y).mpr ⟨s, hs, fun e => ?_, h⟩
      subst e
      rcases h with h | h
      · exact y0 h
      · exact y0 (by rw [h]; exact (g.gl.giv_zero (hss 0 hs)).mpr rfl))
  rw [nats_len] at this
  exact this
section
variable {k n : Nat} (g : isGp k n) {ss : List Nat} (hss : ∀ s ∈ ss, s < gord k n) {h : VH} {t : Value} (hs : Sli h t (nats ss)) (hn : nro ≤ h.length) (hl62 : ss.length ≤ 1000)
include g hss hs hn hl62
theorem l_impl_ClosedSet_1 :
    floop (vcall F nro) nro [2, 7, 17, 18, 19] i_impl_ClosedSet_B1 (h ++ [gbx k n, ⟨1, []⟩]) [bp h, .slice (some ⟨h.length + 1, 0, none⟩) 0 0, t, .int .i64 ss.length, .int .i64 0] (h ++ [gbx k n, ⟨1, []⟩]) =
      some (.exit 0, fl [(7, .slice (some ⟨h.length + 1, 0, none⟩) (cloL (gpiv k n) ss).length (cloL (gpiv k n) ss).length)], h ++ [gbx k n, ⟨1, ints (nats (cloL (gpiv k n) ss))⟩]) := by
  have hn' := fun k => Nat.le_trans hn (Nat.le_add_right h.length k)
  have hso := fun k => hs.oldk (k := k)
  have key := for_up (call := vcall F nro) (nro := nro) (live := [2, 7, 17, 18, 19]) (c := i_impl_ClosedSet_B1) (h0 := h ++ [gbx k n, ⟨1, []⟩]) (n := ss.length)
    (fun q (acc : List Nat) => [bp h, .slice (some ⟨h.length + 1, 0, none⟩) acc.length acc.length, t, .int .i64 ss.length, .int .i64 q])
    (fun _ acc => h ++ [gbx k n, ⟨1, ints (nats acc)⟩]) (fun q acc => clo1 (gpiv k n) (ss.getD q 0) acc) (fun q acc => acc.length ≤ 2 * q)
    (fun acc => some (.exit 0, fl [(7, .slice (some ⟨h.length + 1, 0, none⟩) acc.length acc.length)], h ++ [gbx k n, ⟨1, ints (nats acc)⟩]))
    (fun q acc hq hq2 I => ?_) (fun acc _ => ?_) 0 [] (by omega) (by simp)
  · exact key.1
  · have hsq : ss[q] ∈ ss := List.getElem_mem hq
    have hsN := hss _ hsq
    have hq' : q < (nats ss).length := by rw [nats_len]; exact hq
    have x1 := fun L => (hs.app L).vidx (k := .i64) (j := (q : Int)) (by omega) (by rw [nats_len]; omega)
    have x2 := fun L => (hs.app L).vload hq'
    have e1 : (nats ss)[q] = ((ss[q] : Nat) : Int) := by simp [nats]
    rw [e1] at x2
    rw [nget hq]
    have hp := fun L => c_impl_Group_inverse (nro := nro) g hsN (h ++ L)
    have hol2 : (nats acc).length = acc.length := nats_len acc
    have w1 : IntKind.i64.wrap ((q : Int) + 1) = (q : Int) + 1 := wrap64 (by omega) (by omega)
    have b1 : (acc.length + 2) * 8 ≤ 1099511627776 := by omega
    have b3 : acc.length + 1 < 1099511627776 := by omega
    have b4 : acc.length + 2 < 9223372036854775807 := by omega
    obtain ⟨a, ha⟩ : ∃ a, a = ss[q] := ⟨_, rfl⟩
    rw [← ha] at x2 hp ⊢
    obtain ⟨b, hb⟩ : ∃ b, b = gpiv k n a := ⟨_, rfl⟩
    rw [← hb] at hp
    have hc1 : clo1 (gpiv k n) a acc = if a = 0 then acc else acc ++ [a, b] := by unfold clo1; rw [hb]
    rw [hc1]
    rw [floop_at i_impl_ClosedSet_B1.eq_1]
    by_cases c : a = 0
    · rw [if_pos c]
      refine ⟨by omega, ?_⟩
      clear hs hss e1 ha hb hsN hsq hc1 I
      simp (disch := first | assumption | omega | (simp [*] <;> omega) | fail) [x1, x2, hq2, c, hn', hso, w1, hol2]
    · rw [if_neg c]
      refine ⟨by simp; omega, ?_⟩
      have hapi : ints (nats acc) ++ [Value.int .i64 a, Value.int .i64 b] = ints (nats (acc ++ [a, b])) := by simp [ints, nats]
      have hol3 : (acc ++ [a, b]).length = acc.length + 2 := by simp
      obtain ⟨o2, ho2⟩ : ∃ o2, o2 = nats (acc ++ [a, b]) := ⟨_, rfl⟩
      rw [← ho2] at hapi ⊢
      rw [hol3]
      clear hs hss e1 ha hb hsN hsq hc1 I ho2 hol3
      simp (disch := first | assumption | omega | (simp [*] <;> omega) | fail) [x1, x2, hq2, c, hp, hn', hso, w1, hol2, hapi, b1, b3, b4]
  · have hol2 : (nats acc).length = acc.length := nats_len acc
    rw [floop_at i_impl_ClosedSet_B1.eq_1]
    simp (disch := first | assumption | omega | (simp [*] <;> omega) | fail) [hol2]
end
theorem c_Compact0 {G : VH} {blk : Nat} (hb : G[blk]? = some ⟨1, []⟩) :
    vcall F nro k_slices_Compact_int64_int64 [.slice (some ⟨blk, 0, none⟩) 0 0] G = some (.slice (some ⟨blk, 0, none⟩) 0 0, G) := by
  refine v_slices_Compact_int64_int64 (by simp [i_slices_Compact_int64_int64]) ?_
  rw [fbody_eq]
  have hlt : blk < G.length := (List.getElem?_eq_some_iff.mp hb).1
  have hco0 : kclean G [.slice (some ⟨blk, 0, none⟩) 0 0] G = ([.slice (some ⟨blk, 0, none⟩) 0 0], G) := by
    have := cleanup_upd (L := []) (Upd.rfl' G) (vs := [.slice (some ⟨blk, 0, none⟩) 0 0]) (by simp [hlt])
    rwa [List.append_nil] at this
  simp (disch := first | assumption | omega | (simp [*] <;> omega) | fail) [-getElem?_pos, List.getElem?_cons_zero, List.getElem?_cons_succ, i_slices_Compact_int64_int64, hb, hco0]
/-- A list in a new object, or a code. -/
def iresE (h : VH) (r : Option (Value × VH)) : List Int ⊕ Int → Prop
  | .inl xs => ∃ v o, r = some (.tuple #[v, .int .i64 0], h ++ [o]) ∧ Sli (h ++ [o]) v xs
  | .inr c => r = some (.tuple #[.slice none 0 0, .int .i64 c], h)
set_option maxHeartbeats 1000000 in
theorem c_impl_ClosedSet (K P : Int) (t : Value) (xs : List Int) (h : VH) (hs : Sli h t xs) (hl : xs.length ≤ 9223372036854775806) (hn : nro ≤ h.length) :
    iresE h (vcall F nro k_impl_ClosedSet [gpv K P, t] h) (clA K P xs) := by
  have hn' := fun k => Nat.le_trans hn (Nat.le_add_right h.length k)
  have hc := c_impl_fewCode (nro := nro) K P t xs (bx h K (.int .i64 P)) (hs.app _) hl
  by_cases c : fwcd K P xs = 0
  · have e : clA K P xs = .inl (nats (closL (gord K.toNat P.toNat) (gpiv K.toNat P.toNat) (toN xs))) := by unfold clA; rw [if_pos c]
    rw [e]
    rw [c] at hc
    obtain ⟨c1, c2⟩ := fwcd_zero c
    obtain ⟨g, hg⟩ := gpcd_zero c1
    obtain ⟨k, n, rfl, rfl, g'⟩ := g.nat
    obtain ⟨t1, t2⟩ := toN_ok hg
    simp only [Int.toNat_natCast]
    have vl := hs.vlen' (L := [gbx k n, ⟨1, []⟩])
    rw [t1] at hs
    have h62 : (toN xs).length ≤ 62 := by simpa [toN] using c2
    have l1 := l_impl_ClosedSet_1 g' t2 hs hn (by omega)
    have hlx : ((toN xs).length : Int) = xs.length := by simp [toN]
    rw [hlx] at l1
    have hcl := g'.clo t2
    obtain ⟨a1, _⟩ := cloL_ok (gpiv k n) (toN xs)
    obtain ⟨acc, hacc⟩ : ∃ acc, acc = cloL (gpiv k n) (toN xs) := ⟨_, rfl⟩
    rw [← hacc] at l1 hcl a1
    obtain ⟨R, hR⟩ : ∃ R, R = nats (closL (gord k n) (gpiv k n) (toN xs)) := ⟨_, rfl⟩
    rw [← hR] at hcl ⊢
    have hol2 := nats_len acc
    have hso := c_Sort (nro := nro) (G := h ++ [gbx k n, ⟨1, ints (nats acc)⟩]) (blk := h.length + 1) (xs := nats acc) (by simp) (hn' 1) (by omega)
    rw [hol2] at hso
    have hpl : (insS 0 acc.length (nats acc)).length = acc.length := by
      have q := insS_perm (a := 0) (b := (nats acc).length) (xs := nats acc) (Nat.le_refl _)
      rw [hol2] at q
      rw [q.length_eq, hol2]
    obtain ⟨zs, hzs⟩ : ∃ zs, zs = insS 0 acc.length (nats acc) := ⟨_, rfl⟩
    rw [← hzs] at hso hcl hpl
    by_cases c0 : acc.length = 0
    · have hzn : zs = [] := List.eq_nil_of_length_eq_zero (by omega)
      have hRn : R = [] := by rw [← hcl, c0]; rfl
      have han : acc = [] := List.eq_nil_of_length_eq_zero c0
      subst hzn hRn han
      have hcp := c_Compact0 (nro := nro) (G := h ++ [gbx k n, ⟨1, []⟩]) (blk := h.length + 1) (by simp)
      have en : ints (nats []) = [] := rfl
      have en2 : ints [] = [] := rfl
      simp only [en, en2, List.length_nil] at l1 hso
      simp at hso
      refine ⟨.slice (some ⟨h.length, 0, none⟩) 0 0, ⟨1, []⟩, ?_, by simp [Sli, Sl, vsrc, ints]⟩
      refine v_impl_ClosedSet (by simp [i_impl_ClosedSet]) ?_
      rw [fbody_eq]
      clear hs g' t2 hR hacc hzs hcl hg c1 c e t1
      simp (disch := first | assumption | omega | (simp [*] <;> omega) | fail) [i_impl_ClosedSet, hc, vl, l1, hso, hcp, hn', fresults, fresL, fres1]
    · have hcp := c_Compact (nro := nro) (G := h ++ [gbx k n, ⟨1, ints zs⟩]) (blk := h.length + 1) (xs := zs) (by simp) (hn' 1) (by omega) (by omega)
      rw [hpl, hcl] at hcp
      simp at hcp hso
      have hRl : R.length ≤ acc.length := by
        rw [← hcl]; exact ddN_le _ _
      refine ⟨.slice (some ⟨h.length, 0, none⟩) R.length acc.length, ⟨1, ints (R ++ List.replicate (acc.length - R.length) 0)⟩, ?_, ?_⟩
      · refine v_impl_ClosedSet (by simp [i_impl_ClosedSet]) ?_
        rw [fbody_eq]
        obtain ⟨Z, hZ⟩ : ∃ Z, Z = R ++ List.replicate (acc.length - R.length) 0 := ⟨_, rfl⟩
        rw [← hZ] at hcp ⊢
        have hZl : Z.length = acc.length := by rw [hZ]; simp; omega
        clear hs g' t2 hR hacc hzs hcl hg c1 c e t1 hZ
        simp (disch := first | assumption | omega | (simp [*] <;> omega) | fail) [i_impl_ClosedSet, hc, vl, l1, hso, hcp, hn', fresults, fresL, fres1, hol2, hpl, hZl]
      · have hZl : (ints (R ++ List.replicate (acc.length - R.length) 0)).length = acc.length := by rw [ints_length, List.length_append, List.length_replicate]; omega
        unfold Sli Sl vsrc
        simp only [List.getElem?_append_right (Nat.le_refl _), Nat.sub_self, List.getElem?_cons_zero, hZl, ints_length]
        rw [if_pos ⟨trivial, trivial, by omega⟩]
        have e1 : ints (R ++ List.replicate (acc.length - R.length) 0) = ints R ++ ints (List.replicate (acc.length - R.length) 0) := by unfold ints; rw [List.map_append]
        have e2 := ints_length R
        rw [e1, List.drop_zero, Nat.mul_one, List.take_append_of_le_length (by omega), List.take_of_length_le (by omega)]
  · have e : clA K P xs = .inr (fwcd K P xs) := by unfold clA; rw [if_neg c]
    rw [e]
    obtain ⟨q, hq⟩ : ∃ q, q = fwcd K P xs := ⟨_, rfl⟩
    rw [← hq] at hc c ⊢
    show vcall F nro k_impl_ClosedSet [gpv K P, t] h = _
    refine v_impl_ClosedSet (by simp [i_impl_ClosedSet]) ?_
    rw [fbody_eq]
    clear e hq hs
    simp (disch := first | assumption | omega | (simp [*] <;> omega) | fail) [i_impl_ClosedSet, hc, c, hn, hn']
end Go.Proofs.Ytbilmoahcnllmaa.Zv

/- Draws: the source of a code, picks, the numbers of a cage. -/
namespace Go.Proofs.Ytbilmoahcnllmaa.Zv
open Go
variable {nro : Nat}

theorem Sl.cells {h : VH} {cd : Value} {cs : List Value} (hs : Sl h cd cs) : vcells cd = [cd] := by
  rcases hs.inv with ⟨rfl, _⟩ | ⟨rfl, _⟩ | ⟨a, n, t, o, rfl, _⟩ <;> rfl
theorem Sl.junk {h : VH} {cd : Value} {cs : List Value} (hs : Sl h cd cs) : isJunk cd = false := by
  rcases hs.inv with ⟨rfl, _⟩ | ⟨rfl, _⟩ | ⟨a, n, t, o, rfl, _⟩ <;> rfl
theorem l_spec_l01From (h : VH) (cd : Value) (xs : List Int) (hs : Sl h cd (bys xs)) (hx : Code' xs) (hn : nro ≤ h.length) (g0 : Int) :
    ∃ g1, floop (vcall F nro) nro [0, 3, 4] i_spec_l01From_B1 (h ++ [⟨0, [cd, .int .i64 0, .int .u64 g0]⟩]) [cd, .pointer (some ⟨h.length, 0, some 3⟩), .int .i64 0] (h ++ [⟨0, [cd, .int .i64 0, .int .u64 g0]⟩]) =
      some (.exit 0, fl [(3, .pointer (some ⟨h.length, 0, some 3⟩))], h ++ [⟨0, [cd, .int .i64 0, .int .u64 g1]⟩]) := by
  have hn' := fun k => Nat.le_trans hn (Nat.le_add_right h.length k)
  have hl := hx.len
  have hco : ∀ k, OldC (h.length + k) cd := fun k r hr => Nat.lt_of_lt_of_le (hs.old r (crefs_sub hr)) (Nat.le_add_right _ _)
  have hol : ∀ k, Old (h.length + k) cd := fun k => hs.old.le (Nat.le_add_right _ _)
  have e1 := fun L => hs.vlen' (L := L)
  simp only [bys_length] at e1
  refine Exists.elim (for_upR (call := vcall F nro) (nro := nro) (live := [0, 3, 4]) (c := i_spec_l01From_B1) (h0 := h ++ [⟨0, [cd, .int .i64 0, .int .u64 g0]⟩]) (n := min xs.length 4096) (fun i (_ : Int) => [cd, .pointer (some ⟨h.length, 0, some 3⟩), .int .i64 i]) (fun _ g => h ++ [⟨0, [cd, .int .i64 0, .int .u64 g]⟩])
    (fun _ _ => True) (fun g => some (.exit 0, fl [(3, .pointer (some ⟨h.length, 0, some 3⟩))], h ++ [⟨0, [cd, .int .i64 0, .int .u64 g]⟩])) ?_ ?_ 0 g0 (Nat.zero_le _) trivial) ?_
  · intro i g hi hi2 _
    have hi3 : (i : Int) < xs.length := by omega
    have hi4 : (i : Int) < 4096 := by omega
    have e2 := fun L => hs.vidx' (L := L) (k := .i64) (j := (i : Int)) (by omega) (by rw [bys_length]; omega)
    have e3 := fun L => hs.vload' (L := L) (j := i) (by rw [bys_length]; omega)
    simp only [bys_get] at e3
    obtain ⟨y, hy⟩ : ∃ y, y = xs.getD i 0 := ⟨_, rfl⟩
    rw [← hy] at e3
    have w1 : IntKind.i64.wrap ((i : Int) + 1) = (i : Int) + 1 := wrap64 (by omega) (by omega)
    refine ⟨IntKind.u64.wrap (IntKind.u64.wrap (IntKind.u64.wrap (g * 1099511628211) + IntKind.u64.wrap y) + 157), trivial, ?_⟩
    rw [floop_at i_spec_l01From_B1.eq_1]
    simp (disch := first | assumption | omega | (simp [*] <;> omega) | fail) [hi3, hi4, e1, e2, e3, w1, hn', hn, hco, hol]
  · intro g _
    rw [floop_at i_spec_l01From_B1.eq_1]
    by_cases hc : xs.length < 4096
    · have hm : min xs.length 4096 = xs.length := by omega
      rw [hm]
      simp (disch := first | assumption | omega | (simp [*] <;> omega) | fail) [e1, hn', hn, hco, hol]
    · have hm : min xs.length 4096 = 4096 := by omega
      rw [hm]
      simp (disch := first | assumption | omega | (simp [*] <;> omega) | fail) [e1, hn', hn, hco, hol]
  · rintro g1 ⟨_, hg⟩
    exact ⟨g1, hg⟩

/-- The source of a code. -/
theorem c_spec_l01From (h : VH) (cd : Value) (xs : List Int) (hs : Sl h cd (bys xs)) (hx : Code' xs) (hn : nro ≤ h.length) :
    ∃ s, SOK xs s ∧ vcall F nro k_spec_l01From [cd] h = some (.pointer (some ⟨h.length, 0, some 3⟩), h ++ [srcO cd s]) := by
  have hn' := fun k => Nat.le_trans hn (Nat.le_add_right h.length k)
  have hl := hx.len
  have e0 := hs.vlen
  simp only [bys_length] at e0
  obtain ⟨g1, lp⟩ := l_spec_l01From (nro := nro) h cd xs hs hx hn (IntKind.u64.wrap (13311 + IntKind.u64.wrap xs.length))
  refine ⟨⟨0, g1⟩, Nat.zero_le _, ?_⟩
  refine v_spec_l01From (by simp [i_spec_l01From]) ?_
  rw [fbody_eq]
  have hol : Old h.length cd := hs.old
  have hco : OldC h.length cd := fun r hr => hs.old r (crefs_sub hr)
  have hvc := hs.cells
  have hj := hs.junk
  unfold isJunk at hj
  have hcl : kclean h [.pointer (some ⟨h.length, 0, some 3⟩)] (h ++ [⟨0, [cd, .int .i64 0, .int .u64 g1]⟩]) = ([.pointer (some ⟨h.length, 0, some 3⟩)], h ++ [⟨0, [cd, .int .i64 0, .int .u64 g1]⟩]) := by
    rw [cleanup_one (k := 0) (o := srcO cd ⟨0, g1⟩) (by simp [trefs, vrefs, crefs, arefs]) (by simp [srcO]) (flatO_src hs.old _)]
    simp [tren, vren, cren, aren, renOf_one0, srcO]
  unfold srcO
  simp (disch := first | assumption | omega | (simp [*] <;> omega) | fail) [i_spec_l01From, hcl, hvc, hj, splice, e0, lp, hn', hn, hol, hco]
end Go.Proofs.Ytbilmoahcnllmaa.Zv

/- Draws: picks in a heap, the numbers of a cage. -/
namespace Go.Proofs.Ytbilmoahcnllmaa.Zv
open Go
variable {nro : Nat}
section
variable {H : VH} {b : Nat} {cd : Value} {xs : List Int} {s : SS} (S : Srce nro H b cd xs s)
include S
theorem Srce.pickA {s' : SS} (h : SOK xs s') (L : VH) (k m : Nat) (ys : List Int) (hk : L[k]? = some ⟨1, ints ys⟩) (hm : ys.length = m) (h0 : 1 ≤ m) (h1 : m ≤ 100) :
    vcall F nro k_spec_l01Pick [.pointer (some ⟨b, 0, some 3⟩), .slice (some ⟨H.length + k, 0, none⟩) m m] (H.set b (srcO cd s') ++ L) = some (.int .i64 (ys.getD (srcN xs s' m).toNat 0), H.set b (srcO cd (srcS xs s' m)) ++ L) := by
  have hlt := S.lt
  have hq : ∀ o, Sli ((H.set b (srcO cd s') ++ L).set b o) (.slice (some ⟨H.length + k, 0, none⟩) m m) ys := fun o => by
    have e : ((H.set b (srcO cd s') ++ L).set b o)[H.length + k]? = some ⟨1, ints ys⟩ := by
      rw [List.set_append_left _ _ (by simpa using hlt), List.getElem?_append_right (by simp)]
      simpa using hk
    have := sli_at e
    rwa [hm] at this
  have := (S.set h L).pick _ ys hq (by omega) (by omega)
  rw [hm] at this
  rw [this, List.set_append_left _ _ (by simpa using hlt), List.set_set]
end
end Go.Proofs.Ytbilmoahcnllmaa.Zv

/- The search for regular graphs: both searches are one. -/
namespace Go.Proofs.Ytbilmoahcnllmaa.Zv
open Go
variable {nro : Nat}

def ms (n v w : Nat) : Nat := (n - v) * (n + 2) + (n - w)
/-- What the search leaves behind. -/
def lefto (r : List Int) (o : Option (List Int)) : List Int := o.getD r
@[simp] theorem lefto_some (r r' : List Int) : lefto r (some r') = r' := rfl
@[simp] theorem lefto_none (r : List Int) : lefto r none = r := rfl

end Go.Proofs.Ytbilmoahcnllmaa.Zv

/- The first cage graph: the program's and the reference's answers. -/
namespace Go.Proofs.Ytbilmoahcnllmaa.Zv
open Go
variable {nro : Nat}

/-- Why there is none: the reference's reasons, the program's. -/
def prS (n : Nat) (k c : Int) : Prop := (n * k) % 2 ≠ 0 ∨ n ≤ k ∨ (1 < k ∧ n < c)
def prI (n : Nat) (k c : Int) : Prop := (n * k) % 2 ≠ 0 ∨ n ≤ k ∨ (2 ≤ k ∧ n < gB k c.toNat)
instance (n : Nat) (k c : Int) : Decidable (prS n k c) := by unfold prS; infer_instance
instance (n : Nat) (k c : Int) : Decidable (prI n k c) := by unfold prI; infer_instance

end Go.Proofs.Ytbilmoahcnllmaa.Zv

/- Draws of graphs: graphs of so many vertices. -/
namespace Go.Proofs.Ytbilmoahcnllmaa.Zv
open Go
variable {nro : Nat}
theorem cleanup_one_upd {h h' L : VH} {v : Value} {k : Nat} {o : VO} (hu : Upd h h') (hv : trefs v = [h.length + k]) (hk : L[k]? = some o) (hf : flatO h.length o) :
    kclean h [v] (h' ++ L) = ([tren (renOf h.length [h.length + k]) v], h' ++ [o]) := by
  have e : keepL h.length [v] = [h.length + k] := by
    unfold keepL
    simp [hv, dedup]
  have hl : h'.length = h.length := hu.1
  have hg : (h' ++ L)[h.length + k]? = some o := by rw [← hl, hgetk]; exact hk
  have htake : (h' ++ L).take h.length = h' := by rw [← hl]; simp
  have hc : okT h.length h ((h' ++ L).take h.length) ∧ flatL h.length [h.length + k] (h' ++ L) := by
    refine ⟨by rw [htake]; exact hu.2, fun i hi => ⟨o, ?_, hf⟩⟩
    simp only [List.mem_singleton] at hi
    rw [hi]; exact hg
  unfold kclean cleanup
  rw [e, if_pos hc, htake]
  simp [hg]
theorem hgetS (H L : VH) (b : Nat) (o : VO) (k : Nat) : (H.set b o ++ L)[H.length + k]? = L[k]? := by
  rw [show H.length = (H.set b o).length by simp, hgetk]
theorem hsetS (H L : VH) (b : Nat) (o : VO) (k : Nat) (p : VO) : (H.set b o ++ L).set (H.length + k) p = H.set b o ++ L.set k p := by
  rw [show H.length = (H.set b o).length by simp, hsetk]
theorem hgetS0 (H L : VH) (b : Nat) (o : VO) : (H.set b o ++ L)[H.length]? = L[0]? := hgetS H L b o 0
theorem hsetS0 (H L : VH) (b : Nat) (o : VO) (p : VO) : (H.set b o ++ L).set H.length p = H.set b o ++ L.set 0 p := hsetS H L b o 0 p
section
variable {H : VH} {b : Nat} {cd : Value} {xs : List Int} {s : SS} (S : Srce nro H b cd xs s)
include S

/-- The heap while a graph is drawn. -/
def dgH (H : VH) (b : Nat) (cd : Value) (A B C : VO) (s : SS) (r : List Int) : VH := H.set b (srcO cd s) ++ [A, ⟨1, ints r⟩, B, C]
theorem dg_upd (A B C : VO) (s0 s1 : SS) (r0 r1 : List Int) : Upd (dgH H b cd A B C s0 r0) (dgH H b cd A B C s1 r1) := by
  have hlt := S.lt
  have hself : H.set b (srcO cd s) = H := hset_self S.at'
  have ho : Old H.length cd := by
    have := (S.sl (srcO cd s)).old
    rwa [hself] at this
  have h1 := ((Upd.rfl' (dgH H b cd A B C s0 r0)).set' (b := b) (o := srcO cd s1) (flatO_src (ho.le (by simp [dgH])) _)).set' (b := H.length + 1) (o := ⟨1, ints r1⟩) (flatO_ints _ _ _)
  have e : ((dgH H b cd A B C s0 r0).set b (srcO cd s1)).set (H.length + 1) ⟨1, ints r1⟩ = dgH H b cd A B C s1 r1 := by
    unfold dgH
    rw [List.set_append_left _ _ (by simpa using hlt), List.set_set, show H.length + 1 = (H.set b (srcO cd s1)).length + 1 by simp, hsetk]
    rfl
  rwa [e] at h1
end
end Go.Proofs.Ytbilmoahcnllmaa.Zv

/- Graphs with names: each of the fifteen is a graph. -/
namespace Go.Proofs.Ytbilmoahcnllmaa.Zv
open Go
variable {nro : Nat}

noncomputable def f3 (i : Nat) (r : List Int) : List Int := put2 (put2 (put2 r i ((i + 1) % 5 : Nat)) i (i + 5 : Nat)) (i + 5 : Nat) ((i + 2) % 5 + 5 : Nat)
noncomputable def f4 (i : Nat) (r : List Int) : List Int :=
  put2 (put2 (put2 (put2 (put2 (put2 r 0 (1 + i : Nat)) 11 (6 + i : Nat)) (1 + i : Nat) (1 + (i + 1) % 5 : Nat)) (6 + i : Nat) (6 + (i + 1) % 5 : Nat)) (1 + i : Nat) (6 + i : Nat)) (1 + i : Nat) (6 + (i + 1) % 5 : Nat)
/-! ### cube and Clebsch -/
/-! ### Hoffman and Singleton -/
end Go.Proofs.Ytbilmoahcnllmaa.Zv

/- Draws of regular graphs. -/
namespace Go.Proofs.Ytbilmoahcnllmaa.Zv
open Go
variable {nro : Nat}

section
variable {H : VH} {b : Nat} {cd : Value} {xs : List Int} {s : SS} (S : Srce nro H b cd xs s)
include S
theorem Srce.nextE {s' : SS} (h : SOK xs s') (L : VH) (n : Int) (h1 : n ≤ 9223372036854775807) : ∃ x s2, SOK xs s2 ∧ 0 ≤ x ∧ (1 ≤ n → x < n) ∧ (n < 1 → x = 0) ∧
    vcall F nro k_spec_l01Next [.pointer (some ⟨b, 0, some 3⟩), .int .i64 n] (H.set b (srcO cd s') ++ L) = some (.int .i64 x, H.set b (srcO cd s2) ++ L) := by
  obtain ⟨a1, a2, a3⟩ := srcN_ok S.code s' n
  exact ⟨_, _, srcS_ok h n, a1, a2, a3, S.nextA h L n h1⟩
theorem Srce.pickE {s' : SS} (h : SOK xs s') (L : VH) (k m : Nat) (ys : List Int) (hk : L[k]? = some ⟨1, ints ys⟩) (hm : ys.length = m) (h0 : 1 ≤ m) (h1 : m ≤ 100) : ∃ x s2, SOK xs s2 ∧ x ∈ ys ∧
    vcall F nro k_spec_l01Pick [.pointer (some ⟨b, 0, some 3⟩), .slice (some ⟨H.length + k, 0, none⟩) m m] (H.set b (srcO cd s') ++ L) = some (.int .i64 x, H.set b (srcO cd s2) ++ L) := by
  obtain ⟨a1, a2, _⟩ := srcN_ok S.code s' m
  refine ⟨_, _, srcS_ok h m, ?_, S.pickA h L k m ys hk hm h0 h1⟩
  have := a2 (by omega)
  rw [List.getD_eq_getElem?_getD, List.getElem?_eq_getElem (by omega)]
  exact List.getElem_mem _
theorem Srce.setL (L : VH) (s' s2 : SS) : (H.set b (srcO cd s') ++ L).set b (srcO cd s2) = H.set b (srcO cd s2) ++ L := by
  rw [List.set_append_left _ _ (by simpa using S.lt), List.set_set]
end
end Go.Proofs.Ytbilmoahcnllmaa.Zv

/- Draws of FirstRegular and LeastVertices. -/
namespace Go.Proofs.Ytbilmoahcnllmaa.Zv
open Go
variable {nro : Nat}
@[simp] theorem old_tup3i (n : Nat) (k1 k2 k3 : IntKind) (a b c : Int) : Old n (.tuple #[.int k1 a, .int k2 b, .int k3 c]) := fun r hr => by simp [trefs, vrefs, crefs, arefs] at hr
section
variable {h : VH} {cd : Value} {xs : List Int} (hs : Sl h cd (bys xs)) (hx : Code' xs) (hn : nro ≤ h.length)
include hs hx hn
theorem srce_new {s : SS} (ho : SOK xs s) : Srce nro (h ++ [srcO cd s]) h.length cd xs s :=
  ⟨by simp, hn, hx, ho, fun o => by
    have : (h ++ [srcO cd s]).set h.length o = h ++ [o] := by simp
    rw [this]; exact hs.app _⟩

end
end Go.Proofs.Ytbilmoahcnllmaa.Zv

/- Draws of the second chapter. -/
namespace Go.Proofs.Ytbilmoahcnllmaa.Zv
open Go
open Classical
variable {nro : Nat}
theorem hsetK (h L : VH) (k : Nat) (o : VO) : (h ++ L).set (h.length + k) o = h ++ L.set k o := by
  rw [List.set_append_right _ _ (by omega)]
  congr 2
  omega
end Go.Proofs.Ytbilmoahcnllmaa.Zv

