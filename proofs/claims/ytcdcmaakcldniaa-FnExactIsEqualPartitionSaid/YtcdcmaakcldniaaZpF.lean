/- Part F of the proof: ZwPdq11, ZwPdq12, ZwPdq13, ZwRef6, ZwRef7, ZwRef8, ZwRef9, ZwRefB, ZwRefC, ZwRefE, ZwRefF, ZwRefI, ZwRefJ, ZwRefG, ZwPart, ZwRefK, ZwRefL, ZwRefD, ZwRefH, ZwRefM, ZwLawEqual. Conditions: none. -/
import Derived.Sort.AssemblyPlain
import Derived.Test.YtcdcmaakcldniaaZpD
import Derived.Test.YtcdcmaakcldniaaZpE
set_option linter.unusedSimpArgs false
set_option linter.unusedVariables false
/- Sorting: the whole. -/
namespace Go.Proofs.Ytcdcmaakcldniaa.Zv
open Go Go.Sort
variable {nro : Nat} {S C : Value} {P : Int → Value} {ag : Nat → Value} {cm : Nat → Nat → Int} {N : Nat} {H : Array Nat → VH}

def unblock : FC → FC
  | .block _ c => c
  | c => c
/-- The sort's loop. -/
abbrev pdB : FC := unblock i_slices_pdqsortCmpFunc_impl_told_B1
/-- What its places hold. -/
structure PE (S C : Value) (e : FE) (a b : Nat) (lim : Int) (wb wp : Bool) : Prop where
  e0 : e 0 = S
  e1 : e 1 = .int .i64 a
  e2 : e 2 = .int .i64 b
  e3 : e 3 = .int .i64 lim
  e4 : e 4 = C
  e10 : e 10 = .bool wb
  e11 : e 11 = .bool wp

section
variable (E : SX nro true 3 S C P ag cm N H) (hS : SWO (ltC cm)) (hN255 : N ≤ 255)
include E hS
theorem pdq_A (a b : Nat) (hab : a ≤ b) (hb : b ≤ N) (d : Array Nat) (hd : d.size = N) (lim : Int) (wb wp : Bool) (e : FE) (p : PE S C e a b lim wb wp) :
    (∃ d', d'.size = N ∧ PermIn a b d d' ∧ SortedIn (ltC cm) a b d' ∧ fcode (vcall F nro) nro (takeS 2 pdB) e (H d) = some (.ret, fl [], H d')) ∨
    (12 < b - a ∧ lim ≠ 0 ∧ ∃ e', fcode (vcall F nro) nro (takeS 2 pdB) e (H d) = some (.normal, e', H d) ∧ PE S C e' a b lim wb wp ∧ e' 12 = .int .i64 ((b - a : Nat) : Int)) := by
  have hN := E.base.hN
  have w0 : IntKind.i64.wrap ((b : Int) - a) = ((b - a : Nat) : Int) := by rw [show (b : Int) - a = ((b - a : Nat) : Int) by omega]; exact wrap64 (by omega) (by omega)
  have p0 := p.e0
  have p1 := p.e1
  have p2 := p.e2
  have p3 := p.e3
  have p4 := p.e4
  by_cases c1 : b - a ≤ 12
  · left
    have hc := c_told_ins E.base a b d hd hb (by omega)
    obtain ⟨q1, q2⟩ := insertionSort_holds (lt := ltC cm) hS d a b hab (by omega)
    refine ⟨_, by rw [q1.1]; exact hd, q1, q2, ?_⟩
    have c1' : ((b - a : Nat) : Int) ≤ 12 := by omega
    obtain ⟨r, hr⟩ : ∃ r, r = insertionSort (ltC cm) d a b := ⟨_, rfl⟩
    rw [← hr] at hc ⊢
    clear hr q1 q2
    simp (disch := first | assumption | omega | (simp [*] <;> omega) | fail) [-getElem?_pos, List.getElem?_cons_zero, List.getElem?_cons_succ, pdB, unblock, i_slices_pdqsortCmpFunc_impl_told_B1, takeS, p0, p1, p2, p3, p4, w0, c1', hc]
  · have c1' : ¬ ((b - a : Nat) : Int) ≤ 12 := by omega
    by_cases c2 : lim = 0
    · left
      have hc := c_told_heap E.base a b d hd hab hb
      obtain ⟨q1, q2⟩ := heapSort_holds (lt := ltC cm) hS d a b hab (by omega)
      refine ⟨_, by rw [q1.1]; exact hd, q1, q2, ?_⟩
      obtain ⟨r, hr⟩ : ∃ r, r = heapSort (ltC cm) d a b := ⟨_, rfl⟩
      rw [← hr] at hc ⊢
      clear hr q1 q2
      simp (disch := first | assumption | omega | (simp [*] <;> omega) | fail) [-getElem?_pos, List.getElem?_cons_zero, List.getElem?_cons_succ, pdB, unblock, i_slices_pdqsortCmpFunc_impl_told_B1, takeS, p0, p1, p2, p3, p4, w0, c1', c2, hc]
    · right
      refine ⟨by omega, c2, ?_⟩
      have p10 := p.e10
      have p11 := p.e11
      have hgoal : ∃ e', fcode (vcall F nro) nro (takeS 2 pdB) e (H d) = some (.normal, e', H d) ∧ ((e' 0 = S ∧ e' 1 = .int .i64 a ∧ e' 2 = .int .i64 b ∧ e' 3 = .int .i64 lim ∧ e' 4 = C ∧ e' 10 = .bool wb ∧ e' 11 = .bool wp) ∧ e' 12 = .int .i64 ((b - a : Nat) : Int)) := by
        simp (disch := first | assumption | omega | (simp [*] <;> omega) | fail) [-getElem?_pos, List.getElem?_cons_zero, List.getElem?_cons_succ, pdB, unblock, i_slices_pdqsortCmpFunc_impl_told_B1, takeS, p0, p1, p2, p3, p4, p10, p11, w0, c1', c2]
      obtain ⟨e', h1, ⟨q0, q1, q2, q3, q4, q5, q6⟩, h2⟩ := hgoal
      exact ⟨e', h1, ⟨q0, q1, q2, q3, q4, q5, q6⟩, h2⟩
omit hS in
theorem pdq_B (hN255 : N ≤ 255) (a b : Nat) (hab : a ≤ b) (hb : b ≤ N) (d : Array Nat) (hd : d.size = N) (lim : Int) (hl0 : 1 ≤ lim) (hl1 : lim ≤ 255) (wb wp : Bool) (e : FE) (x : Value) (p : PE S C e a b lim wb wp) (p12 : e 12 = x) :
    ∃ e' d1 lim', fcode (vcall F nro) nro (takeS 0 (dropS 3 pdB)) e (H d) = some (.normal, e', H d1) ∧ d1.size = N ∧ PermIn a b d d1 ∧ (0 ≤ lim' ∧ lim' ≤ 255) ∧ PE S C e' a b lim' wb wp ∧ e' 12 = x := by
  have p0 := p.e0
  have p1 := p.e1
  have p2 := p.e2
  have p3 := p.e3
  have p4 := p.e4
  have p10 := p.e10
  have p11 := p.e11
  cases wb with
  | true =>
    have hgoal : ∃ e', fcode (vcall F nro) nro (takeS 0 (dropS 3 pdB)) e (H d) = some (.normal, e', H d) ∧ ((e' 0 = S ∧ e' 1 = .int .i64 a ∧ e' 2 = .int .i64 b ∧ e' 3 = .int .i64 lim ∧ e' 4 = C ∧ e' 10 = .bool true ∧ e' 11 = .bool wp) ∧ e' 12 = x) := by
      simp (disch := first | assumption | omega | (simp [*] <;> omega) | fail) [-getElem?_pos, List.getElem?_cons_zero, List.getElem?_cons_succ, pdB, unblock, i_slices_pdqsortCmpFunc_impl_told_B1, takeS, dropS, p0, p1, p2, p3, p4, p10, p11, p12]
    obtain ⟨e', h1, ⟨r0, r1, r2, r3, r4, r5, r6⟩, h2⟩ := hgoal
    exact ⟨e', d, lim, h1, hd, permIn_refl d a b, by omega, ⟨r0, r1, r2, r3, r4, r5, r6⟩, h2⟩
  | false =>
    obtain ⟨d1, q1, q2, q3⟩ := c_told_break E a b d hd hab hb hN255
    have w1 : IntKind.i64.wrap (lim - 1) = lim - 1 := wrap64 (by omega) (by omega)
    have hgoal : ∃ e', fcode (vcall F nro) nro (takeS 0 (dropS 3 pdB)) e (H d) = some (.normal, e', H d1) ∧ ((e' 0 = S ∧ e' 1 = .int .i64 a ∧ e' 2 = .int .i64 b ∧ e' 3 = .int .i64 (lim - 1) ∧ e' 4 = C ∧ e' 10 = .bool false ∧ e' 11 = .bool wp) ∧ e' 12 = x) := by
      simp (disch := first | assumption | omega | (simp [*] <;> omega) | fail) [-getElem?_pos, List.getElem?_cons_zero, List.getElem?_cons_succ, pdB, unblock, i_slices_pdqsortCmpFunc_impl_told_B1, takeS, dropS, p0, p1, p2, p3, p4, p10, p11, p12, q3, w1]
    obtain ⟨e', h1, ⟨r0, r1, r2, r3, r4, r5, r6⟩, h2⟩ := hgoal
    exact ⟨e', d1, lim - 1, h1, q1, q2, by omega, ⟨r0, r1, r2, r3, r4, r5, r6⟩, h2⟩
omit hS in
theorem pdq_C (a b : Nat) (hab : a < b) (hb : b ≤ N) (d : Array Nat) (hd : d.size = N) (lim : Int) (wb wp : Bool) (e : FE) (x : Value) (p : PE S C e a b lim wb wp) (p12 : e 12 = x) :
    ∃ e' d1 m t, fcode (vcall F nro) nro (takeS 1 (dropS 4 pdB)) e (H d) = some (.normal, e', H d1) ∧ d1.size = N ∧ PermIn a b d d1 ∧ (a ≤ m ∧ m < b) ∧ PE S C e' a b lim wb wp ∧ e' 12 = x ∧ e' 13 = .int .i64 ((m : Nat) : Int) ∧ e' 14 = .int .i64 t := by
  have hN := E.base.hN
  have p0 := p.e0
  have p1 := p.e1
  have p2 := p.e2
  have p3 := p.e3
  have p4 := p.e4
  have p10 := p.e10
  have p11 := p.e11
  obtain ⟨m, t, hm, ht, hc⟩ := c_told_pivot E d hd a b hab hb
  by_cases c : t = 2
  · have hr := c_told_rev E.base a b d hd hab hb
    have hp := reverseRange_holds (α := Nat) d a b (by omega) (by omega)
    subst c
    obtain ⟨m', hm'⟩ : ∃ m' : Nat, m' = b - 1 - (m - a) := ⟨_, rfl⟩
    have w1 : IntKind.i64.wrap ((b : Int) - 1) = (b : Int) - 1 := wrap64 (by omega) (by omega)
    have w2 : IntKind.i64.wrap ((m : Int) - a) = (m : Int) - a := wrap64 (by omega) (by omega)
    have w3 : IntKind.i64.wrap ((b : Int) - 1 - ((m : Int) - a)) = m' := by rw [show (b : Int) - 1 - ((m : Int) - a) = m' by omega]; exact wrap64 (by omega) (by omega)
    have hgoal : ∃ e', fcode (vcall F nro) nro (takeS 1 (dropS 4 pdB)) e (H d) = some (.normal, e', H (reverseRange d a b)) ∧ ((e' 0 = S ∧ e' 1 = .int .i64 a ∧ e' 2 = .int .i64 b ∧ e' 3 = .int .i64 lim ∧ e' 4 = C ∧ e' 10 = .bool wb ∧ e' 11 = .bool wp) ∧ e' 12 = x ∧ e' 13 = .int .i64 ((m' : Nat) : Int) ∧ e' 14 = .int .i64 1) := by
      obtain ⟨r, hr2⟩ : ∃ r, r = reverseRange d a b := ⟨_, rfl⟩
      rw [← hr2] at hr ⊢
      clear hp hm hr2 hm'
      simp (disch := first | assumption | omega | (simp [*] <;> omega) | fail) [-getElem?_pos, List.getElem?_cons_zero, List.getElem?_cons_succ, pdB, unblock, i_slices_pdqsortCmpFunc_impl_told_B1, takeS, dropS, p0, p1, p2, p3, p4, p10, p11, p12, hc, hr, w1, w2, w3]
    obtain ⟨e', h1, ⟨r0, r1, r2, r3, r4, r5, r6⟩, h2, h3, h4⟩ := hgoal
    exact ⟨e', _, m', 1, h1, by rw [hp.1]; exact hd, hp, by omega, ⟨r0, r1, r2, r3, r4, r5, r6⟩, h2, h3, h4⟩
  · have c' : ¬ (t : Int) = 2 := by omega
    have hgoal : ∃ e', fcode (vcall F nro) nro (takeS 1 (dropS 4 pdB)) e (H d) = some (.normal, e', H d) ∧ ((e' 0 = S ∧ e' 1 = .int .i64 a ∧ e' 2 = .int .i64 b ∧ e' 3 = .int .i64 lim ∧ e' 4 = C ∧ e' 10 = .bool wb ∧ e' 11 = .bool wp) ∧ e' 12 = x ∧ e' 13 = .int .i64 ((m : Nat) : Int) ∧ e' 14 = .int .i64 t) := by
      clear hm ht
      simp (disch := first | assumption | omega | (simp [*] <;> omega) | fail) [-getElem?_pos, List.getElem?_cons_zero, List.getElem?_cons_succ, pdB, unblock, i_slices_pdqsortCmpFunc_impl_told_B1, takeS, dropS, p0, p1, p2, p3, p4, p10, p11, p12, hc, c', c]
    obtain ⟨e', h1, ⟨r0, r1, r2, r3, r4, r5, r6⟩, h2, h3, h4⟩ := hgoal
    exact ⟨e', d, m, t, h1, hd, permIn_refl d a b, hm, ⟨r0, r1, r2, r3, r4, r5, r6⟩, h2, h3, h4⟩
theorem pdq_D (a b : Nat) (hab : a < b) (hb : b ≤ N) (d : Array Nat) (hd : d.size = N) (hB : Below (ltC cm) a b d) (lim : Int) (wb wp : Bool) (e : FE) (x y : Value) (t : Int) (p : PE S C e a b lim wb wp) (p12 : e 12 = x) (p13 : e 13 = y) (p14 : e 14 = .int .i64 t) :
    (∃ d', d'.size = N ∧ PermIn a b d d' ∧ SortedIn (ltC cm) a b d' ∧ fcode (vcall F nro) nro (takeS 0 (dropS 6 pdB)) e (H d) = some (.ret, fl [], H d')) ∨
    ∃ e' d1, fcode (vcall F nro) nro (takeS 0 (dropS 6 pdB)) e (H d) = some (.normal, e', H d1) ∧ d1.size = N ∧ PermIn a b d d1 ∧ PE S C e' a b lim wb wp ∧ e' 12 = x ∧ e' 13 = y := by
  have p0 := p.e0
  have p1 := p.e1
  have p2 := p.e2
  have p3 := p.e3
  have p4 := p.e4
  have p10 := p.e10
  have p11 := p.e11
  by_cases c : wb = true ∧ wp = true ∧ t = 1
  · obtain ⟨rfl, rfl, rfl⟩ := c
    obtain ⟨hc, hs⟩ := c_told_pis E.base a b hab hb d hd
    obtain ⟨q1, q2⟩ := partialInsertionSort_holds (lt := ltC cm) hS d a b hab (by omega) hB
    obtain ⟨r, hr⟩ : ∃ r, r = partialInsertionSort (ltC cm) d a b := ⟨_, rfl⟩
    rw [← hr] at hc hs q1 q2
    obtain ⟨r1, r2⟩ := r
    simp only at hc hs q1 q2
    cases r2 with
    | true =>
      left
      refine ⟨r1, hs, q1, q2 rfl, ?_⟩
      clear q1 q2 hr
      simp (disch := first | assumption | omega | (simp [*] <;> omega) | fail) [-getElem?_pos, List.getElem?_cons_zero, List.getElem?_cons_succ, pdB, unblock, i_slices_pdqsortCmpFunc_impl_told_B1, takeS, dropS, p0, p1, p2, p3, p4, p10, p11, p12, p13, p14, hc]
    | false =>
      right
      have hgoal : ∃ e', fcode (vcall F nro) nro (takeS 0 (dropS 6 pdB)) e (H d) = some (.normal, e', H r1) ∧ ((e' 0 = S ∧ e' 1 = .int .i64 a ∧ e' 2 = .int .i64 b ∧ e' 3 = .int .i64 lim ∧ e' 4 = C ∧ e' 10 = .bool true ∧ e' 11 = .bool true) ∧ e' 12 = x ∧ e' 13 = y) := by
        clear q1 q2 hr
        simp (disch := first | assumption | omega | (simp [*] <;> omega) | fail) [-getElem?_pos, List.getElem?_cons_zero, List.getElem?_cons_succ, pdB, unblock, i_slices_pdqsortCmpFunc_impl_told_B1, takeS, dropS, p0, p1, p2, p3, p4, p10, p11, p12, p13, p14, hc]
      obtain ⟨e', h1, ⟨s0, s1, s2, s3, s4, s5, s6⟩, h2, h3⟩ := hgoal
      exact ⟨e', r1, h1, hs, q1, ⟨s0, s1, s2, s3, s4, s5, s6⟩, h2, h3⟩
  · right
    have hgoal : ∃ e', fcode (vcall F nro) nro (takeS 0 (dropS 6 pdB)) e (H d) = some (.normal, e', H d) ∧ ((e' 0 = S ∧ e' 1 = .int .i64 a ∧ e' 2 = .int .i64 b ∧ e' 3 = .int .i64 lim ∧ e' 4 = C ∧ e' 10 = .bool wb ∧ e' 11 = .bool wp) ∧ e' 12 = x ∧ e' 13 = y) := by
      cases wb with
      | false => simp (disch := first | assumption | omega | (simp [*] <;> omega) | fail) [-getElem?_pos, List.getElem?_cons_zero, List.getElem?_cons_succ, pdB, unblock, i_slices_pdqsortCmpFunc_impl_told_B1, takeS, dropS, p0, p1, p2, p3, p4, p10, p11, p12, p13, p14]
      | true =>
        cases wp with
        | false => simp (disch := first | assumption | omega | (simp [*] <;> omega) | fail) [-getElem?_pos, List.getElem?_cons_zero, List.getElem?_cons_succ, pdB, unblock, i_slices_pdqsortCmpFunc_impl_told_B1, takeS, dropS, p0, p1, p2, p3, p4, p10, p11, p12, p13, p14]
        | true =>
          have c2 : ¬ t = 1 := fun h => c ⟨rfl, rfl, h⟩
          simp (disch := first | assumption | omega | (simp [*] <;> omega) | fail) [-getElem?_pos, List.getElem?_cons_zero, List.getElem?_cons_succ, pdB, unblock, i_slices_pdqsortCmpFunc_impl_told_B1, takeS, dropS, p0, p1, p2, p3, p4, p10, p11, p12, p13, p14, c2]
    obtain ⟨e', h1, ⟨s0, s1, s2, s3, s4, s5, s6⟩, h2, h3⟩ := hgoal
    exact ⟨e', d, h1, hd, permIn_refl d a b, ⟨s0, s1, s2, s3, s4, s5, s6⟩, h2, h3⟩
end
end Go.Proofs.Ytcdcmaakcldniaa.Zv

/- Sorting: the recursion. -/
namespace Go.Proofs.Ytcdcmaakcldniaa.Zv
open Go Go.Sort
variable {nro : Nat} {S C : Value} {P : Int → Value} {ag : Nat → Value} {cm : Nat → Nat → Int} {N : Nat} {H : Array Nat → VH}
section
variable (E : SX nro true 3 S C P ag cm N H)
include E
theorem pdq_E (a b m : Nat) (ham : a ≤ m) (hmb : m < b) (hb : b ≤ N) (d : Array Nat) (hd : d.size = N) (lim : Int) (wb wp : Bool) (e : FE) (x : Value) (p : PE S C e a b lim wb wp) (p12 : e 12 = x) (p13 : e 13 = .int .i64 ((m : Nat) : Int)) :
    (0 < a ∧ ltC cm d[a - 1]! d[m]! = false ∧ ∃ e', fcode (vcall F nro) nro (takeS 0 (dropS 7 pdB)) e (H d) = some (.exit 1, e', H (partitionEqual (ltC cm) d a b m).2) ∧ PE S C e' (partitionEqual (ltC cm) d a b m).1 b lim wb wp) ∨
    ∃ e', fcode (vcall F nro) nro (takeS 0 (dropS 7 pdB)) e (H d) = some (.normal, e', H d) ∧ PE S C e' a b lim wb wp ∧ e' 12 = x ∧ e' 13 = .int .i64 ((m : Nat) : Int) := by
  have hN := E.base.hN
  have p0 := p.e0
  have p1 := p.e1
  have p2 := p.e2
  have p3 := p.e3
  have p4 := p.e4
  have p10 := p.e10
  have p11 := p.e11
  have hix := E.base.idx
  have hld := E.base.load
  have hcm := E.base.cmp
  by_cases c0 : 0 < a
  · have c0' : (0 : Int) < a := by omega
    have w1 : IntKind.i64.wrap ((a : Int) - 1) = (a : Int) - 1 := wrap64 (by omega) (by omega)
    have g1 := getI_nat d ((a : Int) - 1) (a - 1) (by omega)
    have g2 := getI_nat d (m : Int) m rfl
    have k1 : (0 : Int) ≤ (a : Int) - 1 := by omega
    have k2 : (a : Int) - 1 < N := by omega
    have k3 : (0 : Int) ≤ m := by omega
    have k4 : (m : Int) < N := by omega
    rw [← g1, ← g2]
    by_cases c1 : cm (getI d ((a : Int) - 1)) (getI d (m : Int)) < 0
    · right
      have hgoal : ∃ e', fcode (vcall F nro) nro (takeS 0 (dropS 7 pdB)) e (H d) = some (.normal, e', H d) ∧ ((e' 0 = S ∧ e' 1 = .int .i64 a ∧ e' 2 = .int .i64 b ∧ e' 3 = .int .i64 lim ∧ e' 4 = C ∧ e' 10 = .bool wb ∧ e' 11 = .bool wp) ∧ e' 12 = x ∧ e' 13 = .int .i64 ((m : Nat) : Int)) := by
        clear g1 g2
        simp (disch := first | assumption | omega | (simp [*] <;> omega) | fail) [-getElem?_pos, List.getElem?_cons_zero, List.getElem?_cons_succ, pdB, unblock, i_slices_pdqsortCmpFunc_impl_told_B1, takeS, dropS, p0, p1, p2, p3, p4, p10, p11, p12, p13, c0', c0, w1, hix, hld, hcm, hd, k1, k2, k3, k4, c1]
      obtain ⟨e', h1, ⟨s0, s1, s2, s3, s4, s5, s6⟩, h2, h3⟩ := hgoal
      exact ⟨e', h1, ⟨s0, s1, s2, s3, s4, s5, s6⟩, h2, h3⟩
    · left
      refine ⟨c0, decide_eq_false c1, ?_⟩
      have hc := c_told_partE E.base d hd a b m ham hmb hb
      obtain ⟨r, hr⟩ : ∃ r, r = partitionEqual (ltC cm) d a b m := ⟨_, rfl⟩
      rw [← hr] at hc ⊢
      have hgoal : ∃ e', fcode (vcall F nro) nro (takeS 0 (dropS 7 pdB)) e (H d) = some (.exit 1, e', H r.2) ∧ (e' 0 = S ∧ e' 1 = .int .i64 ((r.1 : Nat) : Int) ∧ e' 2 = .int .i64 b ∧ e' 3 = .int .i64 lim ∧ e' 4 = C ∧ e' 10 = .bool wb ∧ e' 11 = .bool wp) := by
        clear g1 g2 hr
        simp (disch := first | assumption | omega | (simp [*] <;> omega) | fail) [-getElem?_pos, List.getElem?_cons_zero, List.getElem?_cons_succ, pdB, unblock, i_slices_pdqsortCmpFunc_impl_told_B1, takeS, dropS, p0, p1, p2, p3, p4, p10, p11, p12, p13, c0', c0, w1, hix, hld, hcm, hd, k1, k2, k3, k4, c1, hc]
      obtain ⟨e', h1, s0, s1, s2, s3, s4, s5, s6⟩ := hgoal
      exact ⟨e', h1, ⟨s0, s1, s2, s3, s4, s5, s6⟩⟩
  · right
    have c0' : ¬ (0 : Int) < a := by omega
    have hgoal : ∃ e', fcode (vcall F nro) nro (takeS 0 (dropS 7 pdB)) e (H d) = some (.normal, e', H d) ∧ ((e' 0 = S ∧ e' 1 = .int .i64 a ∧ e' 2 = .int .i64 b ∧ e' 3 = .int .i64 lim ∧ e' 4 = C ∧ e' 10 = .bool wb ∧ e' 11 = .bool wp) ∧ e' 12 = x ∧ e' 13 = .int .i64 ((m : Nat) : Int)) := by
      simp (disch := first | assumption | omega | (simp [*] <;> omega) | fail) [-getElem?_pos, List.getElem?_cons_zero, List.getElem?_cons_succ, pdB, unblock, i_slices_pdqsortCmpFunc_impl_told_B1, takeS, dropS, p0, p1, p2, p3, p4, p10, p11, p12, p13, c0', c0]
    obtain ⟨e', h1, ⟨s0, s1, s2, s3, s4, s5, s6⟩, h2, h3⟩ := hgoal
    exact ⟨e', h1, ⟨s0, s1, s2, s3, s4, s5, s6⟩, h2, h3⟩

theorem pdq_F (a b m mid : Nat) (ap : Bool) (d d4 L : Array Nat) (lim : Int) (wb wp : Bool) (e : FE) (len : Nat) (hlen : len ≤ 1000) (hmid : a ≤ mid ∧ mid < b ∧ b ≤ N) (p : PE S C e a b lim wb wp) (p12 : e 12 = .int .i64 ((len : Nat) : Int)) (p13 : e 13 = .int .i64 ((m : Nat) : Int))
    (hc : vcall F nro k_slices_partitionCmpFunc_impl_told [S, .int .i64 a, .int .i64 b, .int .i64 m, C] (H d) = some (.tuple #[.int .i64 ((mid : Nat) : Int), .bool ap], H d4))
    (hcall : if mid - a < b - mid then vcall F nro k_slices_pdqsortCmpFunc_impl_told [S, .int .i64 a, .int .i64 mid, .int .i64 lim, C] (H d4) = some (.tuple #[], H L) else vcall F nro k_slices_pdqsortCmpFunc_impl_told [S, .int .i64 ((mid + 1 : Nat) : Int), .int .i64 b, .int .i64 lim, C] (H d4) = some (.tuple #[], H L)) :
    ∃ e' wb', fcode (vcall F nro) nro (dropS 8 pdB) e (H d) = some (.normal, e', H L) ∧ (if mid - a < b - mid then PE S C e' (mid + 1) b lim wb' ap else PE S C e' a mid lim wb' ap) := by
  have hN := E.base.hN
  have p0 := p.e0
  have p1 := p.e1
  have p2 := p.e2
  have p3 := p.e3
  have p4 := p.e4
  have p10 := p.e10
  have p11 := p.e11
  obtain ⟨q, hq⟩ : ∃ q : Nat, q = len / 8 := ⟨_, rfl⟩
  have t1 : ((len : Nat) : Int).tdiv 8 = q := by rw [Int.tdiv_eq_ediv_of_nonneg (by omega)]; omega
  have w1 : IntKind.i64.wrap ((mid : Int) - a) = (mid : Int) - a := wrap64 (by omega) (by omega)
  have w2 : IntKind.i64.wrap ((b : Int) - mid) = (b : Int) - mid := wrap64 (by omega) (by omega)
  have w3 : IntKind.i64.wrap (q : Int) = q := wrap64 (by omega) (by omega)
  have w4 : IntKind.i64.wrap ((mid : Int) + 1) = (mid : Int) + 1 := wrap64 (by omega) (by omega)
  by_cases c : mid - a < b - mid
  · have c' : (mid : Int) - a < (b : Int) - mid := by omega
    rw [if_pos c] at hcall
    have hgoal : ∃ e', fcode (vcall F nro) nro (dropS 8 pdB) e (H d) = some (.normal, e', H L) ∧ (e' 0 = S ∧ e' 1 = .int .i64 ((mid : Int) + 1) ∧ e' 2 = .int .i64 b ∧ e' 3 = .int .i64 lim ∧ e' 4 = C ∧ e' 10 = .bool (decide ((q : Int) ≤ (mid : Int) - a)) ∧ e' 11 = .bool ap) := by
      clear hq hmid hlen
      simp (disch := first | assumption | omega | (simp [*] <;> omega) | fail) [-getElem?_pos, List.getElem?_cons_zero, List.getElem?_cons_succ, pdB, unblock, i_slices_pdqsortCmpFunc_impl_told_B1, dropS, p0, p1, p2, p3, p4, p10, p11, p12, p13, hc, t1, w1, w2, w3, w4, c', hcall]
    obtain ⟨e', h1, s0, s1, s2, s3, s4, s5, s6⟩ := hgoal
    refine ⟨e', decide ((q : Int) ≤ (mid : Int) - a), h1, ?_⟩
    rw [if_pos c]
    exact ⟨s0, s1, s2, s3, s4, s5, s6⟩
  · have c' : ¬ (mid : Int) - a < (b : Int) - mid := by omega
    rw [if_neg c] at hcall
    rw [show ((mid + 1 : Nat) : Int) = (mid : Int) + 1 by omega] at hcall
    have hgoal : ∃ e', fcode (vcall F nro) nro (dropS 8 pdB) e (H d) = some (.normal, e', H L) ∧ (e' 0 = S ∧ e' 1 = .int .i64 a ∧ e' 2 = .int .i64 mid ∧ e' 3 = .int .i64 lim ∧ e' 4 = C ∧ e' 10 = .bool (decide ((q : Int) ≤ (b : Int) - mid)) ∧ e' 11 = .bool ap) := by
      clear hq hmid hlen
      simp (disch := first | assumption | omega | (simp [*] <;> omega) | fail) [-getElem?_pos, List.getElem?_cons_zero, List.getElem?_cons_succ, pdB, unblock, i_slices_pdqsortCmpFunc_impl_told_B1, dropS, p0, p1, p2, p3, p4, p10, p11, p12, p13, hc, t1, w1, w2, w3, w4, c', hcall]
    obtain ⟨e', h1, s0, s1, s2, s3, s4, s5, s6⟩ := hgoal
    refine ⟨e', decide ((q : Int) ≤ (b : Int) - mid), h1, ?_⟩
    rw [if_neg c]
    exact ⟨s0, s1, s2, s3, s4, s5, s6⟩
end

theorem pdB_eq : i_slices_pdqsortCmpFunc_impl_told_B1 = .block 1 pdB := rfl
theorem seq_step {call : VCall} (k : Nat) {c : FC} {e e' : FE} {h h' : VH} (hk : k + 1 ≤ nseq c) (h1 : fcode call nro (takeS k c) e h = some (.normal, e', h')) : fcode call nro c e h = fcode call nro (dropS (k + 1) c) e' h' := by
  rw [fcode_parts call nro k c e h hk, h1, kseq_normal]
theorem seq_ret {call : VCall} (k : Nat) {c : FC} {e e' : FE} {h h' : VH} {x : VX} (hk : k + 1 ≤ nseq c) (hx : x ≠ .normal) (h1 : fcode call nro (takeS k c) e h = some (x, e', h')) : fcode call nro c e h = some (x, e', h') := by
  rw [fcode_parts call nro k c e h hk, h1]
  cases x with
  | normal => exact absurd rfl hx
  | ret => rfl
  | exit i => rfl
theorem floop_pe (e : FE) (a b : Nat) (lim : Int) (wb wp : Bool) (p : PE S C e a b lim wb wp) : [0, 1, 2, 3, 4, 10, 11].map e = [S, .int .i64 a, .int .i64 b, .int .i64 lim, C, .bool wb, .bool wp] := by
  simp [p.e0, p.e1, p.e2, p.e3, p.e4, p.e10, p.e11]

/-- The sort sorts: its loop, and its call. -/
def PdqL (nro : Nat) (S C : Value) (cm : Nat → Nat → Int) (N : Nat) (H : Array Nat → VH) (a b : Nat) : Prop :=
  ∀ (d : Array Nat), d.size = N → Below (ltC cm) a b d → ∀ (lim : Int), 0 ≤ lim → lim ≤ 255 → ∀ (wb wp : Bool) (d0 : Array Nat), ∃ d', d'.size = N ∧ PermIn a b d d' ∧ SortedIn (ltC cm) a b d' ∧ floop (vcall F nro) nro [0, 1, 2, 3, 4, 10, 11] i_slices_pdqsortCmpFunc_impl_told_B1 (H d0) [S, .int .i64 a, .int .i64 b, .int .i64 lim, C, .bool wb, .bool wp] (H d) = some (.ret, fl [], H d')
theorem PdqL.call (E : SX nro true 3 S C P ag cm N H) {a b : Nat} (h : PdqL nro S C cm N H a b) (d : Array Nat) (hd : d.size = N) (hB : Below (ltC cm) a b d) (lim : Int) (hl : 0 ≤ lim) (hl2 : lim ≤ 255) :
    ∃ d', d'.size = N ∧ PermIn a b d d' ∧ SortedIn (ltC cm) a b d' ∧ vcall F nro k_slices_pdqsortCmpFunc_impl_told [S, .int .i64 a, .int .i64 b, .int .i64 lim, C] (H d) = some (.tuple #[], H d') := by
  obtain ⟨d', h1, h2, h3, lp⟩ := h d hd hB lim hl hl2 true true d
  refine ⟨d', h1, h2, h3, ?_⟩
  have hc0 := fun q vs => E.base.clean0 d q vs
  clear h2 h3
  refine v_slices_pdqsortCmpFunc_impl_told (by simp [i_slices_pdqsortCmpFunc_impl_told]) ?_
  rw [fbody_eq]
  simp (disch := first | assumption | omega | (simp [*] <;> omega) | fail) [-getElem?_pos, List.getElem?_cons_zero, List.getElem?_cons_succ, i_slices_pdqsortCmpFunc_impl_told, lp, hc0, fresults, fresL]

set_option maxHeartbeats 1000000 in
theorem pdq_all (E : SX nro true 3 S C P ag cm N H) (hS : SWO (ltC cm)) (hN255 : N ≤ 255) : ∀ (n a b : Nat), b - a ≤ n → a ≤ b → b ≤ N → PdqL nro S C cm N H a b := by
  intro n
  induction n with
  | zero =>
    intro a b hn hab hb d hd hB lim hl hl2 wb wp d0
    have pe : PE S C (fl ([0, 1, 2, 3, 4, 10, 11].zip [S, .int .i64 a, .int .i64 b, .int .i64 lim, C, .bool wb, .bool wp])) a b lim wb wp := ⟨rfl, rfl, rfl, rfl, rfl, rfl, rfl⟩
    rcases pdq_A E hS a b hab hb d hd lim wb wp _ pe with ⟨d', h1, h2, h3, h4⟩ | ⟨h1, _⟩
    · refine ⟨d', h1, h2, h3, ?_⟩
      rw [floop_at pdB_eq, fcode_block, fcode_parts (vcall F nro) nro 2 pdB _ _ (by decide), h4]
      rfl
    · omega
  | succ n ih =>
    intro a b hn hab hb d hd hB lim hl hl2 wb wp d0
    have pe : PE S C (fl ([0, 1, 2, 3, 4, 10, 11].zip [S, .int .i64 a, .int .i64 b, .int .i64 lim, C, .bool wb, .bool wp])) a b lim wb wp := ⟨rfl, rfl, rfl, rfl, rfl, rfl, rfl⟩
    obtain ⟨env, henv⟩ : ∃ env, env = fl ([0, 1, 2, 3, 4, 10, 11].zip [S, .int .i64 a, .int .i64 b, .int .i64 lim, C, .bool wb, .bool wp]) := ⟨_, rfl⟩
    rw [floop_at pdB_eq, fcode_block, ← henv]
    rw [← henv] at pe
    rw [fcode_parts (vcall F nro) nro 2 pdB _ _ (by decide)]
    rcases pdq_A E hS a b hab hb d hd lim wb wp _ pe with ⟨d', h1, h2, h3, h4⟩ | ⟨h12, hl3, eA, fA, peA, pA12⟩
    · refine ⟨d', h1, h2, h3, ?_⟩
      rw [h4]
      rfl
    rw [← fcode_parts (vcall F nro) nro 2 pdB _ _ (by decide), seq_step 2 (by decide) fA]
    obtain ⟨eB, d1, limB, fB, s1, q1, hlB, peB, pB12⟩ := pdq_B E hN255 a b hab hb d hd lim (by omega) hl2 wb wp eA _ peA pA12
    rw [seq_step 0 (by decide) fB]
    have B1 := hB.perm (by omega) q1
    obtain ⟨eC, d2, m, t, fC, s2, q2, hm, peC, pC12, pC13, pC14⟩ := pdq_C E a b (by omega) hb d1 s1 limB wb wp eB _ peB pB12
    have t1 : dropS (0 + 1) (dropS (2 + 1) pdB) = dropS 4 pdB := rfl
    rw [t1, seq_step 1 (by decide) fC]
    have B2 := B1.perm (by omega) q2
    have t2 : dropS (1 + 1) (dropS 4 pdB) = dropS 6 pdB := rfl
    rw [t2]
    have Q2 := permIn_trans _ _ _ a b q1 q2
    rcases pdq_D E hS a b (by omega) hb d2 s2 B2 limB wb wp eC _ _ t peC pC12 pC13 pC14 with ⟨d', h1, h2, h3, h4⟩ | ⟨eD, d3, fD, s3, q3, peD, pD12, pD13⟩
    · refine ⟨d', h1, permIn_trans _ _ _ a b Q2 h2, h3, ?_⟩
      rw [seq_ret 0 (by decide) (by simp) h4]
      rfl
    rw [seq_step 0 (by decide) fD]
    have t3 : dropS (0 + 1) (dropS 6 pdB) = dropS 7 pdB := rfl
    rw [t3]
    have B3 := B2.perm (by omega) q3
    have Q3 := permIn_trans _ _ _ a b Q2 q3
    rcases pdq_E E a b m hm.1 hm.2 hb d3 s3 limB wb wp eD _ peD pD12 pD13 with ⟨ha0, hlt, eE, fE, peE⟩ | ⟨eE, fE, peE, pE12, pE13⟩
    · -- equal elements to the left
      obtain ⟨g1, g2, g3, g4, g5⟩ := round_eq hS (partitionEqual_holds (ltC cm)) (d3 := d3) (d4 := (partitionEqual (ltC cm) d3 a b m).2) (mid := (partitionEqual (ltC cm) d3 a b m).1) ha0 hm.1 hm.2 (by omega) B3 hlt rfl
      obtain ⟨r, hr⟩ : ∃ r, r = partitionEqual (ltC cm) d3 a b m := ⟨_, rfl⟩
      rw [← hr] at g1 g2 g3 g4 g5 fE peE
      rw [seq_ret 0 (by decide) (by simp) fE]
      obtain ⟨d', i1, i2, i3, i4⟩ := ih r.1 b (by omega) g2 hb r.2 (by omega) g4 limB hlB.1 hlB.2 wb wp d0
      obtain ⟨z1, z2⟩ := g5 d' i2 i3
      refine ⟨d', i1, permIn_trans _ _ _ a b Q3 z1, z2, ?_⟩
      rw [← i4]
      show kloop (vcall F nro) nro [0, 1, 2, 3, 4, 10, 11] i_slices_pdqsortCmpFunc_impl_told_B1 (H d0) (kclean (H d0) ([0, 1, 2, 3, 4, 10, 11].map eE) (H r.2)) = _
      rw [floop_pe eE r.1 b limB wb wp peE]
      have hc := E.base.clean0 d0 r.2
      have oS := E.base.oS
      have oC := E.base.oC
      clear g1 g2 g3 g4 g5 i1 i2 i3 i4 z1 z2 hr
      simp (disch := first | assumption | omega | (simp [*] <;> omega) | fail) [-getElem?_pos, List.getElem?_cons_zero, List.getElem?_cons_succ, hc, oS, oC]
    · rw [seq_step 0 (by decide) fE]
      have t4 : dropS (0 + 1) (dropS 7 pdB) = dropS 8 pdB := rfl
      rw [t4]
      have hpt := c_told_part E.base d3 s3 a b m hm.1 hm.2 hb
      obtain ⟨r, hr⟩ : ∃ r, r = partition (ltC cm) d3 a b m := ⟨_, rfl⟩
      rw [← hr] at hpt
      obtain ⟨mid, ap, d4⟩ := r
      simp only at hpt
      obtain ⟨g1, g2, g3, g4, g5, g6, g7⟩ := round_part hS (partition_holds (ltC cm)) hm.1 hm.2 (show b ≤ d3.size by omega) B3 hr.symm
      by_cases c : mid - a < b - mid
      · obtain ⟨L, l1, l2, l3, l4⟩ := (ih a mid (by omega) g1 (by omega)).call E d4 (by omega) g4 limB hlB.1 hlB.2
        obtain ⟨g8, g9⟩ := g6 L l2 l3
        obtain ⟨eF, wbF, fF, peF⟩ := pdq_F E a b m mid ap d3 d4 L limB wb wp eE (b - a) (by have := E.base.hN; omega) ⟨g1, g2, hb⟩ peE pE12 pE13 hpt (by rw [if_pos c]; exact l4)
        rw [if_pos c] at peF
        rw [fF]
        obtain ⟨d', i1, i2, i3, i4⟩ := ih (mid + 1) b (by omega) (by omega) hb L l1 g8 limB hlB.1 hlB.2 wbF ap d0
        obtain ⟨z1, z2⟩ := g9 d' i2 i3
        refine ⟨d', i1, permIn_trans _ _ _ a b Q3 z1, z2, ?_⟩
        rw [← i4]
        show kloop (vcall F nro) nro [0, 1, 2, 3, 4, 10, 11] i_slices_pdqsortCmpFunc_impl_told_B1 (H d0) (kclean (H d0) ([0, 1, 2, 3, 4, 10, 11].map eF) (H L)) = _
        rw [floop_pe eF (mid + 1) b limB wbF ap peF]
        have hc := E.base.clean0 d0 L
        have oS := E.base.oS
        have oC := E.base.oC
        clear g1 g2 g3 g4 g5 g6 g7 g8 g9 i1 i2 i3 i4 z1 z2 hr
        simp (disch := first | assumption | omega | (simp [*] <;> omega) | fail) [-getElem?_pos, List.getElem?_cons_zero, List.getElem?_cons_succ, hc, oS, oC]
      · obtain ⟨L, l1, l2, l3, l4⟩ := (ih (mid + 1) b (by omega) (by omega) hb).call E d4 (by omega) g5 limB hlB.1 hlB.2
        obtain ⟨g8, g9⟩ := g7 L l2 l3
        obtain ⟨eF, wbF, fF, peF⟩ := pdq_F E a b m mid ap d3 d4 L limB wb wp eE (b - a) (by have := E.base.hN; omega) ⟨g1, g2, hb⟩ peE pE12 pE13 hpt (by rw [if_neg c]; exact l4)
        rw [if_neg c] at peF
        rw [fF]
        obtain ⟨d', i1, i2, i3, i4⟩ := ih a mid (by omega) g1 (by omega) L l1 g8 limB hlB.1 hlB.2 wbF ap d0
        obtain ⟨z1, z2⟩ := g9 d' i2 i3
        refine ⟨d', i1, permIn_trans _ _ _ a b Q3 z1, z2, ?_⟩
        rw [← i4]
        show kloop (vcall F nro) nro [0, 1, 2, 3, 4, 10, 11] i_slices_pdqsortCmpFunc_impl_told_B1 (H d0) (kclean (H d0) ([0, 1, 2, 3, 4, 10, 11].map eF) (H L)) = _
        rw [floop_pe eF a mid limB wbF ap peF]
        have hc := E.base.clean0 d0 L
        have oS := E.base.oS
        have oC := E.base.oC
        clear g1 g2 g3 g4 g5 g6 g7 g8 g9 i1 i2 i3 i4 z1 z2 hr
        simp (disch := first | assumption | omega | (simp [*] <;> omega) | fail) [-getElem?_pos, List.getElem?_cons_zero, List.getElem?_cons_succ, hc, oS, oC]
end Go.Proofs.Ytcdcmaakcldniaa.Zv

/- slices.SortFunc. -/
namespace Go.Proofs.Ytcdcmaakcldniaa.Zv
open Go Go.Sort
variable {nro : Nat} {S C : Value} {P : Int → Value} {ag : Nat → Value} {cm : Nat → Nat → Int} {N : Nat} {H : Array Nat → VH}
theorem c_told_SortFunc (E : SX nro true 3 S C P ag cm N H) (hS : SWO (ltC cm)) (hN255 : N ≤ 255) (d : Array Nat) (hd : d.size = N) :
    ∃ d', d'.size = N ∧ PermIn 0 N d d' ∧ SortedIn (ltC cm) 0 N d' ∧ vcall F nro k_slices_SortFunc_impl_told_impl_told [S, C] (H d) = some (.tuple #[], H d') := by
  obtain ⟨y, y1, _, _, e1⟩ := c_bits_Len64x (nro := nro) N hN255 (H d)
  have e2 : vcall F nro k_math_bits_Len [.int .u64 N] (H d) = some (.int .i64 y, H d) := by
    refine v_math_bits_Len (by simp [i_math_bits_Len]) ?_
    rw [fbody_eq]
    simp (disch := first | assumption | omega | (simp [*] <;> omega) | fail) [i_math_bits_Len, e1]
  obtain ⟨d', h1, h2, h3, h4⟩ := (pdq_all E hS hN255 N 0 N (by omega) (by omega) (Nat.le_refl _)).call E d hd (.inl rfl) y (by omega) (by omega)
  refine ⟨d', h1, h2, h3, ?_⟩
  have vl := E.base.vln d hd
  have hc0 := fun q vs => E.base.clean0 d q vs
  have w1 : IntKind.u64.wrap (N : Int) = N := wrapu64 (by omega) (by omega)
  simp only [Int.natCast_zero] at h4
  clear h2 h3
  refine v_slices_SortFunc_impl_told_impl_told (by simp [i_slices_SortFunc_impl_told_impl_told]) ?_
  rw [fbody_eq]
  simp (disch := first | assumption | omega | (simp [*] <;> omega) | fail) [-getElem?_pos, List.getElem?_cons_zero, List.getElem?_cons_succ, i_slices_SortFunc_impl_told_impl_told, vl, w1, e2, h4, hc0, fresults, fresL]
end Go.Proofs.Ytcdcmaakcldniaa.Zv

/- What is told, sorted. -/
namespace Go.Proofs.Ytcdcmaakcldniaa.Zv
open Go Go.Sort
section
variable {ce : Nat → List Value} (h3 : ∀ j, (ce j).length = 3)
include h3
theorem flat3_len (l : List Nat) : (l.flatMap ce).length = l.length * 3 := by
  induction l with
  | nil => rfl
  | cons a l ih => rw [List.flatMap_cons, List.length_append, ih, h3, List.length_cons]; omega
theorem flat3_get (l : List Nat) (x : Nat) (hx : x < l.length) : ((l.flatMap ce).drop (x * 3)).take 3 = ce l[x] := by
  induction l generalizing x with
  | nil => simp at hx
  | cons a l ih =>
    have ha := h3 a
    rw [List.flatMap_cons]
    cases x with
    | zero =>
      simp only [Nat.zero_mul, List.drop_zero, List.getElem_cons_zero]
      rw [← ha]
      simp
    | succ x =>
      have := ih x (by simpa using hx)
      simp only [List.getElem_cons_succ]
      rw [← this, Nat.succ_mul, Nat.add_comm, ← List.drop_drop, ← ha]
      simp
theorem flat3_set (l : List Nat) (x v : Nat) (hx : x < l.length) : splice (x * 3) (ce v) (l.flatMap ce) = (l.set x v).flatMap ce := by
  induction l generalizing x with
  | nil => simp at hx
  | cons a l ih =>
    have ha := h3 a
    have hv := h3 v
    rw [List.flatMap_cons]
    cases x with
    | zero =>
      simp only [Nat.zero_mul, List.set_cons_zero, List.flatMap_cons]
      unfold splice
      rw [hv, ← ha]
      simp
    | succ x =>
      have ih := ih x (by simpa using hx)
      simp only [List.set_cons_succ, List.flatMap_cons]
      rw [← ih]
      unfold splice
      rw [hv, Nat.succ_mul, List.take_append, List.drop_append, ha]
      rw [List.take_of_length_le (by omega), List.drop_eq_nil_of_le (by omega), show x * 3 + 3 - 3 = x * 3 by omega, show x * 3 + 3 + 3 - 3 = x * 3 + 3 by omega]
      simp
end
variable {nro : Nat}
theorem c_refine_1 (H : VH) (g1 g2 v1 v2 : Int) (s1 s2 : Value) (l1 l2 : List Int) (h1 : Sli H s1 l1) (h2 : Sli H s2 l2) (b1 : l1.length ≤ 1000) (b2 : l2.length ≤ 1000) :
    vcall F nro k_impl_coloured_refine_1 [.agg #[.int .i64 g1, .int .i64 v1, s1], .agg #[.int .i64 g2, .int .i64 v2, s2]] H = some (.int .i64 (cmpL l1 l2), H) := by
  have j1 := Sl.nj h1
  have j2 := Sl.nj h2
  unfold isJunk at j1 j2
  have hc := c_slices_Compare (nro := nro) (H ++ [⟨0, [.int .i64 g1, .int .i64 v1, s1]⟩, ⟨0, [.int .i64 g2, .int .i64 v2, s2]⟩]) s1 s2 l1 l2 (h1.app _) (h2.app _) b1 b2
  refine v_impl_coloured_refine_1 (by simp [i_impl_coloured_refine_1]) ?_
  rw [fbody_eq]
  clear h1 h2
  simp (disch := first | assumption | omega | (simp [*] <;> omega) | fail) [-getElem?_pos, List.getElem?_cons_zero, List.getElem?_cons_succ, i_impl_coloured_refine_1, hc, j1, j2, fresults, fresL, fres1]
end Go.Proofs.Ytcdcmaakcldniaa.Zv

/- What is told, sorted: the elements of the library's sort. -/
namespace Go.Proofs.Ytcdcmaakcldniaa.Zv
open Go Go.Sort
variable {nro : Nat}
def tjN (N j : Nat) : Nat := if j < N then j else 0
/-- Numbers of the element j. -/
def tnu (T : List TD) (j : Nat) : List Int := (T.getD (tjN T.length j) (0, 0, [])).2.2
def ceT (T : List TD) (n0 : Nat) (kf : Nat → Nat) (j : Nat) : List Value :=
  [.int .i64 (T.getD (tjN T.length j) (0, 0, [])).1, .int .i64 (T.getD (tjN T.length j) (0, 0, [])).2.1, .slice (some ⟨n0 + kf (tjN T.length j), 0, none⟩) (tnu T j).length (tnu T j).length]
theorem ceT_len (T : List TD) (n0 : Nat) (kf : Nat → Nat) (j : Nat) : (ceT T n0 kf j).length = 3 := rfl
def hpT (P : VH) (T : List TD) (kf : Nat → Nat) (G : VH) (d : Array Nat) : VH := P ++ ⟨3, d.toList.flatMap (ceT T (P.length + 1) kf)⟩ :: G
theorem hpT_snoc (P : VH) (T : List TD) (kf : Nat → Nat) (G : VH) (o : VO) : (fun d => hpT P T kf G d ++ [o]) = hpT P T kf (G ++ [o]) := by
  funext d
  simp [hpT]
theorem se_told (P : VH) (hn : nro ≤ P.length) (T : List TD) (kf : Nat → Nat) (G : VH) (h0 : 0 < T.length) (hN : T.length ≤ 1000) (hk : ∀ i, i < T.length → G[kf i]? = some ⟨1, ints (tnu T i)⟩) (hl : ∀ t ∈ T, t.2.2.length ≤ 1000) :
    SE nro true 3 (.slice (some ⟨P.length, 0, none⟩) T.length (T.length * 3)) (.func (.func k_impl_coloured_refine_1) #[] #[]) (fun x => .pointer (some ⟨P.length, x.toNat * 3, some (T.length * 3)⟩)) (fun j => .agg (ceT T (P.length + 1) kf j).toArray) (fun i j => cmpL (tnu T i) (tnu T j)) T.length (hpT P T kf G) := by
  have h3 := ceT_len T (P.length + 1) kf
  have hlen : ∀ d, (hpT P T kf G d).length = P.length + 1 + G.length := fun d => by simp [hpT]; omega
  have hat : ∀ d, (hpT P T kf G d)[P.length]? = some ⟨3, d.toList.flatMap (ceT T (P.length + 1) kf)⟩ := fun d => by unfold hpT; rw [hget0]; rfl
  have htj : ∀ j, tjN T.length j < T.length := fun j => by unfold tjN; split <;> omega
  have htt : ∀ j, tnu T (tjN T.length j) = tnu T j := fun j => by
    unfold tnu
    have : tjN T.length (tjN T.length j) = tjN T.length j := by
      have := htj j
      generalize tjN T.length j = y at this ⊢
      unfold tjN
      rw [if_pos this]
    rw [this]
  have hnl : ∀ j, (tnu T j).length ≤ 1000 := fun j => by
    have := htj j
    unfold tnu
    refine hl _ ?_
    rw [List.getD_eq_getElem?_getD, List.getElem?_eq_getElem this]
    exact List.getElem_mem _
  refine ⟨fun d d' => by rw [hlen, hlen], fun d => by rw [hlen]; omega, ?_, ?_, ?_, ?_, ?_, ?_, ?_, ?_, hN⟩
  · intro n hln
    rw [hlen] at hln
    intro r hr
    simp [trefs, vrefs, crefs, arefs] at hr
    omega
  · intro n _ r hr
    simp [trefs, vrefs, crefs, arefs] at hr
  · intro d x hd h1 h2
    unfold vidx
    simp only [hat]
    rw [flat3_len h3, Array.length_toList (xs := d), hd, if_pos ⟨trivial, rfl, h1, h2⟩]
    simp
  · intro d x hd h1 h2
    have hx : x.toNat < d.toList.length := by rw [Array.length_toList (xs := d)]; omega
    unfold vload vget
    simp only [hat]
    rw [flat3_len h3, Array.length_toList (xs := d), hd, if_pos ⟨rfl, by omega⟩]
    simp only
    rw [flat3_get h3 _ _ hx]
    have : d.toList[x.toNat] = getI d x := by
      unfold getI
      have hx' : x.toNat < d.size := by omega
      simp [hx']
    rw [this]
    rfl
  · intro d x v hd h1 h2
    have hx : x.toNat < d.toList.length := by rw [Array.length_toList (xs := d)]; omega
    unfold vstore
    simp only [hat]
    have hv : vcells (.agg (ceT T (P.length + 1) kf v).toArray) = ceT T (P.length + 1) kf v := by simp [vcells, Value.cells]
    rw [hv, flat3_len h3, Array.length_toList (xs := d), hd, if_pos ⟨by omega, rfl, by omega, rfl, rfl⟩, flat3_set h3 _ _ _ hx]
    congr 1
    unfold hpT setI
    rw [Array.toList_setIfInBounds]
    simp
  · intro d x y
    unfold vcallv
    have sx : ∀ j, Sli (hpT P T kf G d) (.slice (some ⟨P.length + 1 + kf (tjN T.length j), 0, none⟩) (tnu T j).length (tnu T j).length) (tnu T j) := fun j => by
      refine sli_at ?_
      unfold hpT
      rw [Nat.add_assoc, hgetk, Nat.add_comm 1, List.getElem?_cons_succ, hk _ (htj j), htt]
    exact c_refine_1 (nro := nro) _ _ _ _ _ _ _ _ _ (sx x) (sx y) (hnl x) (hnl y)
  · intro d d'
    refine ⟨by rw [hlen, hlen], fun i p hp => ?_⟩
    by_cases hi : i = P.length
    · subst hi
      rw [hat] at hp
      cases hp
      right
      intro r hr
      rw [hlen]
      unfold orefs at hr
      obtain ⟨c, hc, hr⟩ := List.mem_flatMap.mp hr
      obtain ⟨j, _, hj⟩ := List.mem_flatMap.mp hc
      have h5 := (List.getElem?_eq_some_iff.mp (hk _ (htj j))).1
      unfold ceT at hj
      simp only [List.mem_cons, List.not_mem_nil, or_false] at hj
      rcases hj with rfl | rfl | rfl <;> simp [crefs, arefs] at hr
      omega
    · left
      rw [← hp]
      unfold hpT
      by_cases hi2 : i < P.length
      · rw [List.getElem?_append_left hi2, List.getElem?_append_left hi2]
      · rw [List.getElem?_append_right (by omega), List.getElem?_append_right (by omega), show i - P.length = (i - P.length - 1) + 1 by omega]
        rfl
  · intro d hd
    unfold vlen
    simp only [hat]
    rw [flat3_len h3, Array.length_toList (xs := d), hd, if_pos rfl]
end Go.Proofs.Ytcdcmaakcldniaa.Zv

/- What is told is sorted. -/
namespace Go.Proofs.Ytcdcmaakcldniaa.Zv
open Go Go.Sort
variable {nro : Nat}
theorem flat3_ext {ce : Nat → List Value} : ∀ (N : Nat) (cs : List Value), cs.length = N * 3 → (∀ i, i < N → (cs.drop (i * 3)).take 3 = ce i) → cs = (List.range N).flatMap ce
  | 0, cs, hl, _ => by simp at hl; simp [hl]
  | N + 1, cs, hl, h => by
    have ih := flat3_ext (ce := ce) N (cs.take (N * 3)) (by simp; omega) (fun i hi => by
      rw [← h i (by omega), List.drop_take, List.take_take]
      congr 1
      omega)
    have h2 := h N (by omega)
    rw [List.take_of_length_le (by simp; omega)] at h2
    rw [List.range_succ, List.flatMap_append, ← ih]
    simp [← h2]
/-- Sorted by the numbers. -/
def SrtT (U : List TD) : Prop := U.Pairwise fun x y => ¬ cmpL y.2.2 x.2.2 < 0
theorem c_sort_told (P : VH) (hn : nro ≤ P.length) (T : List TD) (cs : List Value) (G : VH) (e : ET (P.length + 1) cs G T) (h0 : 0 < T.length) (hN : T.length ≤ 255) (hl : ∀ t ∈ T, t.2.2.length ≤ 1000) :
    ∃ (U : List TD) (cs' : List Value), U.Perm T ∧ SrtT U ∧ ET (P.length + 1) cs' G U ∧
      vcall F nro k_slices_SortFunc_impl_told_impl_told [.slice (some ⟨P.length, 0, none⟩) T.length cs.length, .func (.func k_impl_coloured_refine_1) #[] #[]] (P ++ ⟨3, cs⟩ :: G) = some (.tuple #[], P ++ ⟨3, cs'⟩ :: G) := by
  have hex : ∀ i, ∃ k, ∀ (hi : i < T.length), (cs.drop (i * 3)).take 3 = [.int .i64 T[i].1, .int .i64 T[i].2.1, .slice (some ⟨P.length + 1 + k, 0, none⟩) T[i].2.2.length T[i].2.2.length] ∧ G[k]? = some ⟨1, ints T[i].2.2⟩ := fun i => by
    by_cases hi : i < T.length
    · obtain ⟨k, h⟩ := e.at_ i hi
      exact ⟨k, fun _ => h⟩
    · exact ⟨0, fun h => absurd h hi⟩
  obtain ⟨kf, hkf⟩ : ∃ kf : Nat → Nat, ∀ i (hi : i < T.length), (cs.drop (i * 3)).take 3 = [.int .i64 T[i].1, .int .i64 T[i].2.1, .slice (some ⟨P.length + 1 + kf i, 0, none⟩) T[i].2.2.length T[i].2.2.length] ∧ G[kf i]? = some ⟨1, ints T[i].2.2⟩ := ⟨fun i => Classical.choose (hex i), fun i => Classical.choose_spec (hex i)⟩
  have hg : ∀ i (hi : i < T.length), T.getD (tjN T.length i) (0, 0, []) = T[i] := fun i hi => by
    unfold tjN
    rw [if_pos hi, List.getD_eq_getElem?_getD, List.getElem?_eq_getElem hi]
    rfl
  have hnu : ∀ i (hi : i < T.length), tnu T i = T[i].2.2 := fun i hi => by unfold tnu; rw [hg i hi]
  have hce : ∀ i (hi : i < T.length), ceT T (P.length + 1) kf i = [.int .i64 T[i].1, .int .i64 T[i].2.1, .slice (some ⟨P.length + 1 + kf i, 0, none⟩) T[i].2.2.length T[i].2.2.length] := fun i hi => by
    unfold ceT
    rw [hnu i hi, hg i hi]
    unfold tjN
    rw [if_pos hi]
  have hk : ∀ i, i < T.length → G[kf i]? = some ⟨1, ints (tnu T i)⟩ := fun i hi => by rw [hnu i hi]; exact (hkf i hi).2
  have SX1 : SX nro true 3 _ _ _ _ _ _ (hpT P T kf G) := ⟨se_told P hn T kf G h0 (by omega) hk hl, fun o => by
    rw [hpT_snoc]
    exact se_told P hn T kf (G ++ [o]) h0 (by omega) (fun i hi => by rw [List.getElem?_append_left (List.getElem?_eq_some_iff.mp (hk i hi)).1]; exact hk i hi) hl⟩
  obtain ⟨d', s1, s2, s3, s4⟩ := c_told_SortFunc SX1 (cmpL_swo (tnu T)) hN (Array.range T.length) (by simp)
  have hcs : cs = (List.range T.length).flatMap (ceT T (P.length + 1) kf) := flat3_ext _ _ e.len fun i hi => by rw [(hkf i hi).1, hce i hi]
  have hcs2 : T.length * 3 = cs.length := e.len.symm
  have hperm : d'.toList.Perm (List.range T.length) := by
    have := s2.2.2
    rw [Array.extract_eq_self_of_le (by omega), Array.extract_eq_self_of_le (by simp)] at this
    simpa using this
  have hlt : ∀ j ∈ d'.toList, j < T.length := fun j hj => by simpa using hperm.mem_iff.mp hj
  refine ⟨d'.toList.map fun j => T.getD j (0, 0, []), d'.toList.flatMap (ceT T (P.length + 1) kf), ?_, ?_, ⟨?_, fun i hi => ?_⟩, ?_⟩
  · have h1 := hperm.map fun j => T.getD j (0, 0, [])
    have h2 : (List.range T.length).map (fun j => T.getD j (0, 0, [])) = T := by
      apply List.ext_getElem (by simp)
      intro i p1 p2
      simp [List.getD_eq_getElem?_getD, p2]
    rwa [h2] at h1
  · unfold SrtT
    rw [List.pairwise_map, List.pairwise_iff_getElem]
    intro i j hi hj hij
    have hs := s3 i j (by omega) hij (by rw [← s1]; simpa using hj)
    have hi' : i < d'.size := by simpa using hi
    have hj' : j < d'.size := by simpa using hj
    have gi : d'[i]! = d'.toList[i] := by simp [hi']
    have gj : d'[j]! = d'.toList[j] := by simp [hj']
    rw [gi, gj] at hs
    have li := hlt _ (List.getElem_mem hi)
    have lj := hlt _ (List.getElem_mem hj)
    generalize d'.toList[i] = x at hs li ⊢
    generalize d'.toList[j] = y at hs lj ⊢
    unfold ltC at hs
    simp only [hnu _ li, hnu _ lj] at hs
    have e1 : T.getD x (0, 0, []) = T[x] := by simp [List.getD_eq_getElem?_getD, li]
    have e2 : T.getD y (0, 0, []) = T[y] := by simp [List.getD_eq_getElem?_getD, lj]
    rw [e1, e2]
    simpa using hs
  · rw [flat3_len (ceT_len T (P.length + 1) kf)]; simp
  · rw [List.length_map] at hi
    have li := hlt _ (List.getElem_mem hi)
    refine ⟨kf d'.toList[i], ?_, ?_⟩
    · rw [flat3_get (ceT_len T (P.length + 1) kf) _ _ hi, hce _ li]
      have e1 : T.getD d'.toList[i] (0, 0, []) = T[d'.toList[i]] := by rw [List.getD_eq_getElem?_getD, List.getElem?_eq_getElem li]; rfl
      simp only [List.getElem_map, e1]
    · have e1 : T.getD d'.toList[i] (0, 0, []) = T[d'.toList[i]] := by rw [List.getD_eq_getElem?_getD, List.getElem?_eq_getElem li]; rfl
      simp only [List.getElem_map, e1]
      exact (hkf _ li).2
  · unfold hpT at s4
    rw [Array.toList_range, ← hcs, hcs2] at s4
    exact s4
end Go.Proofs.Ytcdcmaakcldniaa.Zv

/- Refining: the new colours. -/
namespace Go.Proofs.Ytcdcmaakcldniaa.Zv
open Go Go.Sort
theorem Upd.appR {h h' : VH} (hu : Upd h h') (X : VH) : Upd (h ++ X) (h' ++ X) := by
  refine ⟨by simp [hu.1], fun i p hp => ?_⟩
  by_cases hi : i < h'.length
  · rw [List.getElem?_append_left hi] at hp
    have hi2 : i < h.length := by have := hu.1; omega
    rcases hu.2 i p hp with h1 | h1
    · left; rw [List.getElem?_append_left hi2]; exact h1
    · right
      intro r hr
      have := h1 r hr
      simp; omega
  · left
    rw [List.getElem?_append_right (by omega)] at hp
    rw [List.getElem?_append_right (by have := hu.1; omega)]
    rw [← hu.1]; exact hp
def tdD : TD := (0, 0, [])
/-- One vertex gets its colour. -/
def asg (U : List TD) (k : Nat) (s : Int × (Nat → List Int)) : Int × (Nat → List Int) :=
  let col := if k = 0 ∨ (U.getD k tdD).2.2 ≠ (U.getD (k - 1) tdD).2.2 then s.1 + 1 else s.1
  (col, updL s.2 (U.getD k tdD).1.toNat ((s.2 (U.getD k tdD).1.toNat).set (U.getD k tdD).2.1.toNat col))
section
variable {nro K n a bg bc : Nat} {q : Nat → Nat} {rs : Nat → Value} {rows : Nat → List Int} {gcs : List Value} {Hc : (Nat → List Int) → VH} (E : RG nro K n a bg bc q rs rows gcs Hc)
include E
set_option maxHeartbeats 4000000 in
theorem l_refine_B5 (m : Nat) (U : List TD) (cs : List Value) (G : VH) (c0 : Nat → List Int) (e : ET ((Hc c0).length + 1) cs G U) (hU : ∀ t ∈ U, 0 ≤ t.1 ∧ t.1 < K ∧ 0 ≤ t.2.1 ∧ t.2.1 < n ∧ t.2.2.length ≤ 1000) (hN : U.length ≤ 255) (C0 : CL K n c0) :
    floop (vcall F nro) nro [0, 2, 3, 14, 98, 99, 100] i_impl_coloured_refine_B5 (Hc c0 ++ ⟨3, cs⟩ :: G)
      [.pointer (some ⟨a, 0, some 2⟩), .int .i64 m, .slice (some ⟨(Hc c0).length, 0, none⟩) U.length cs.length, .int .i64 (-1), .slice (some ⟨(Hc c0).length, 0, none⟩) U.length cs.length, .int .i64 U.length, .int .i64 0] (Hc c0 ++ ⟨3, cs⟩ :: G) =
      some (.exit 10, fl [(0, .pointer (some ⟨a, 0, some 2⟩)), (2, .int .i64 m), (14, .int .i64 (upF (asg U) U.length 0 (-1, c0)).1)], Hc (upF (asg U) U.length 0 (-1, c0)).2 ++ ⟨3, cs⟩ :: G) ∧
    CL K n (upF (asg U) U.length 0 (-1, c0)).2 ∧ -1 ≤ (upF (asg U) U.length 0 (-1, c0)).1 ∧ (upF (asg U) U.length 0 (-1, c0)).1 < U.length := by
  have hK := E.K2
  have hn1 := E.n1
  have key := for_up (call := vcall F nro) (nro := nro) (live := [0, 2, 3, 14, 98, 99, 100]) (c := i_impl_coloured_refine_B5) (h0 := Hc c0 ++ ⟨3, cs⟩ :: G) (n := U.length)
    (fun k (s : Int × (Nat → List Int)) => [.pointer (some ⟨a, 0, some 2⟩), .int .i64 m, .slice (some ⟨(Hc c0).length, 0, none⟩) U.length cs.length, .int .i64 s.1, .slice (some ⟨(Hc c0).length, 0, none⟩) U.length cs.length, .int .i64 U.length, .int .i64 k])
    (fun _ s => Hc s.2 ++ ⟨3, cs⟩ :: G) (asg U) (fun k s => (CL K n s.2 ∧ -1 ≤ s.1 ∧ s.1 < k) ∧ (1 ≤ k → 0 ≤ s.1))
    (fun s => some (.exit 10, fl [(0, .pointer (some ⟨a, 0, some 2⟩)), (2, .int .i64 m), (14, .int .i64 s.1)], Hc s.2 ++ ⟨3, cs⟩ :: G)) (fun k s hk hk2 I => ?_) (fun s _ => ?_) 0 (-1, c0) (by omega) ⟨⟨C0, by omega, by simp⟩, by omega⟩
  · exact ⟨key.1, key.2.1⟩
  · obtain ⟨col, c⟩ := s
    obtain ⟨⟨C, i1, i2⟩, i3⟩ := I
    simp only at C i1 i2 i3 ⊢
    have hlen := E.len c c0
    obtain ⟨t, ht⟩ : ∃ t, t = U.getD k tdD := ⟨_, rfl⟩
    have htk : t = U[k] := by rw [ht, List.getD_eq_getElem?_getD, List.getElem?_eq_getElem hk]; rfl
    obtain ⟨u1, u2, u3, u4, u5⟩ := hU t (by rw [htk]; exact List.getElem_mem hk)
    obtain ⟨i, hi⟩ : ∃ i : Nat, t.1 = i := ⟨t.1.toNat, by omega⟩
    obtain ⟨v, hv⟩ : ∃ v : Nat, t.2.1 = v := ⟨t.2.1.toNat, by omega⟩
    have hiK : i < K := by omega
    have hvn : v < n := by omega
    obtain ⟨col', hcol⟩ : ∃ col', col' = if k = 0 ∨ t.2.2 ≠ (U.getD (k - 1) tdD).2.2 then col + 1 else col := ⟨_, rfl⟩
    have hasg : asg U k (col, c) = (col', updL c i ((c i).set v col')) := by
      unfold asg
      simp only [← ht, ← hcol, hi, hv, Int.toNat_natCast]
    have hcl := C.len i hiK
    have hcol2 : -1 ≤ col' ∧ col' < ((k + 1 : Nat) : Int) ∧ 0 ≤ col' := by
      rw [hcol]
      split
      · omega
      · rename_i h
        have : k ≠ 0 := fun h2 => h (.inl h2)
        have := i3 (by omega)
        refine ⟨by omega, by omega, by omega⟩
    have C' : CL K n (updL c i ((c i).set v col')) := by
      refine ⟨fun j hj => ?_, fun j hj x hx => ?_⟩
      · unfold updL
        split
        · simpa using hcl
        · exact C.len j hj
      · unfold updL at hx
        split at hx
        · rcases List.mem_or_eq_of_mem_set hx with h | h
          · exact C.ge i hiK x h
          · omega
        · exact C.ge j hj x hx
    refine ⟨by rw [hasg]; exact ⟨⟨C', hcol2.1, hcol2.2.1⟩, fun _ => hcol2.2.2⟩, ?_⟩
    rw [hasg]
    obtain ⟨kk, e1, e2⟩ := e.at_ k hk
    rw [← htk, hi, hv] at e1
    rw [← htk] at e2
    obtain ⟨H, hH⟩ : ∃ H, H = Hc c ++ ⟨3, cs⟩ :: G := ⟨_, rfl⟩
    have hHl : H.length = (Hc c).length + 1 + G.length := by rw [hH]; simp; omega
    have hel := e.len
    have la : a < H.length := by have := E.lax c; omega
    have lb : bc < H.length := by have := E.lbc c; omega
    have lq : q i < H.length := by have := E.lq c hiK; omega
    have lA : (Hc c0).length < H.length := by omega
    have p0 : ∀ L : VH, (H ++ L)[a]? = _ := fun L => (List.getElem?_append_left la).trans (hH ▸ E.lt c (E.ax c) (⟨3, cs⟩ :: G))
    have p2 : ∀ L : VH, (H ++ L)[bc]? = _ := fun L => (List.getElem?_append_left lb).trans (hH ▸ E.lt c (E.ac c) (⟨3, cs⟩ :: G))
    have p3 : ∀ L : VH, (H ++ L)[q i]? = _ := fun L => (List.getElem?_append_left lq).trans (hH ▸ E.lt c (E.aq c i hiK) (⟨3, cs⟩ :: G))
    have q3 : H[(Hc c0).length]? = some ⟨3, cs⟩ := by rw [hH, ← hlen, hget0]; rfl
    have p4 : ∀ L : VH, (H ++ L)[(Hc c0).length]? = _ := fun L => (List.getElem?_append_left lA).trans q3
    have g2 := E.ccell i hiK
    have nq := E.nq i hiK
    have hnH : nro ≤ H.length := by have := E.nr c; omega
    have s1 : Sli H (.slice (some ⟨(Hc c0).length + 1 + kk, 0, none⟩) t.2.2.length t.2.2.length) t.2.2 := sli_at (by
      rw [hH, ← hlen, Nat.add_assoc, hgetk, Nat.add_comm 1, List.getElem?_cons_succ]; exact e2)
    have w1 : IntKind.i64.wrap ((k : Int) + 1) = (k : Int) + 1 := wrap64 (by omega) (by omega)
    have w2 : IntKind.i64.wrap (col + 1) = col + 1 := wrap64 (by omega) (by omega)
    have w3 : IntKind.i64.wrap ((k : Int) - 1) = (k : Int) - 1 := wrap64 (by omega) (by omega)
    have hvl : v < (c i).length := by omega
    have sp := splice_ints (v := col') hvl
    obtain ⟨ns, hns⟩ : ∃ ns, ns = Value.slice (some ⟨(Hc c0).length + 1 + kk, 0, none⟩) t.2.2.length t.2.2.length := ⟨_, rfl⟩
    rw [← hns] at e1 s1
    have jn := Sl.nj s1
    unfold isJunk at jn
    have hst : H.set (q i) ⟨1, ints ((c i).set v col')⟩ = Hc (updL c i ((c i).set v col')) ++ (⟨3, cs⟩ :: G) := by
      rw [hH, E.setA c _ i _ hiK]
    have hcl2 : kclean (Hc c0 ++ ⟨3, cs⟩ :: G) [.pointer (some ⟨a, 0, some 2⟩), .int .i64 m, .slice (some ⟨(Hc c0).length, 0, none⟩) U.length cs.length, .int .i64 col', .slice (some ⟨(Hc c0).length, 0, none⟩) U.length cs.length, .int .i64 U.length, .int .i64 ((k : Int) + 1)] (Hc (updL c i ((c i).set v col')) ++ (⟨3, cs⟩ :: G ++ [⟨0, [.int .i64 i, .int .i64 v, ns]⟩])) =
        ([.pointer (some ⟨a, 0, some 2⟩), .int .i64 m, .slice (some ⟨(Hc c0).length, 0, none⟩) U.length cs.length, .int .i64 col', .slice (some ⟨(Hc c0).length, 0, none⟩) U.length cs.length, .int .i64 U.length, .int .i64 ((k : Int) + 1)], Hc (updL c i ((c i).set v col')) ++ ⟨3, cs⟩ :: G) := by
      rw [← List.append_assoc]
      refine cleanup_upd ((E.upd _ _).appR _) ?_
      intro w hw
      have hl0 : (Hc c0 ++ (⟨3, cs⟩ : VO) :: G).length = H.length := by rw [hHl, hlen]; simp; omega
      rw [hl0]
      simp only [List.mem_cons, List.not_mem_nil, or_false] at hw
      rcases hw with rfl | rfl | rfl | rfl | rfl | rfl | rfl <;> intro r hr <;> simp [trefs, vrefs, crefs, arefs] at hr <;> omega
    rw [← hH]
    rw [floop_at i_impl_coloured_refine_B5.eq_1]
    have l3 : k * 3 + 3 ≤ cs.length := by omega
    simp only [List.cons_append] at hcl2
    by_cases hk0 : k = 0
    · have e5 : col' = col + 1 := by rw [hcol, if_pos (.inl hk0)]
      have w2 : IntKind.i64.wrap (col + 1) = col' := by rw [w2, e5]
      clear hH hHl hcol hasg hcol2 C' C i1 i2 i3 e hU C0 e2 ht htk u1 u2 u3 u4 u5 hi hv hns s1 hel
      subst hk0
      simp only [Nat.zero_mul, List.drop_zero, Nat.zero_add, Int.natCast_zero, Int.zero_add] at e1 l3 hk2 w1 hcl2 w3
      have l3' : 2 < cs.length := by omega
      simp (disch := first | assumption | omega | (simp [*] <;> omega) | fail) [-getElem?_pos, List.getElem?_cons_zero, List.getElem?_cons_succ, hk, hk2, l3', q3, p4, p0, p2, p3, e1, l3, w1, w2, g2, hiK, hvn, hvl, sp, nq, jn, hst, hcl2, hcl, hnH]
    · have hj : k - 1 < U.length := by omega
      obtain ⟨kk', e1', e2'⟩ := e.at_ (k - 1) hj
      have htk' : U.getD (k - 1) tdD = U[k - 1] := by rw [List.getD_eq_getElem?_getD, List.getElem?_eq_getElem hj]; rfl
      rw [htk'] at hcol
      have u5' := (hU _ (List.getElem_mem hj)).2.2.2.2
      obtain ⟨t', ht'⟩ : ∃ t', t' = U[k - 1] := ⟨_, rfl⟩
      rw [← ht'] at e1' e2' hcol u5'
      have s2 : Sli H (.slice (some ⟨(Hc c0).length + 1 + kk', 0, none⟩) t'.2.2.length t'.2.2.length) t'.2.2 := sli_at (by
        rw [hH, ← hlen, Nat.add_assoc, hgetk, Nat.add_comm 1, List.getElem?_cons_succ]; exact e2')
      obtain ⟨ns', hns'⟩ : ∃ ns, ns = Value.slice (some ⟨(Hc c0).length + 1 + kk', 0, none⟩) t'.2.2.length t'.2.2.length := ⟨_, rfl⟩
      rw [← hns'] at e1' s2
      have e6 : List.take 1 (List.drop ((k - 1) * 3 + 2) cs) = [ns'] := by
        have := congrArg (List.drop 2) e1'
        rw [List.drop_take, List.drop_drop] at this
        exact this
      have hc := c_slices_Compare (nro := nro) (H ++ [⟨0, [.int .i64 i, .int .i64 v, ns]⟩]) ns ns' t.2.2 t'.2.2 (s1.app _) (s2.app _) u5 u5'
      have t1 : ((k : Int) - 1).toNat = k - 1 := by omega
      have l4 : (k - 1) * 3 + 2 + 1 ≤ cs.length := by omega
      have l5 : (1 : Int) ≤ (k : Int) := by omega
      have l6 : (k : Int) - 1 < U.length := by omega
      by_cases hq : t.2.2 = t'.2.2
      · have e5 : col' = col := by rw [hcol, if_neg (by rintro (h | h); exact hk0 h; exact h hq)]
        rw [hq, cmpL_refl] at hc
        rw [e5] at hst hcl2 sp ⊢
        clear hH hHl hcol hasg hcol2 C' C i1 i2 i3 e hU C0 e2 ht htk u1 u2 u3 u4 u5 hi hv hns s1 hel hq s2 hns' e1' e2' ht' htk' w2
        simp (disch := first | assumption | omega | (simp [*] <;> omega) | fail) [-getElem?_pos, List.getElem?_cons_zero, List.getElem?_cons_succ, hk, hk2, q3, p4, p0, p2, p3, e1, e6, l3, l4, l5, l6, t1, hc, hk0, w1, w3, g2, hiK, hvn, hvl, sp, nq, jn, hst, hcl2, hcl, hnH]
      · have e5 : col' = col + 1 := by rw [hcol, if_pos (.inr hq)]
        have hne : cmpL t.2.2 t'.2.2 ≠ 0 := fun h => hq (cmpL_eq h)
        have w2 : IntKind.i64.wrap (col + 1) = col' := by rw [w2, e5]
        obtain ⟨z, hz⟩ : ∃ z, z = cmpL t.2.2 t'.2.2 := ⟨_, rfl⟩
        rw [← hz] at hne hc
        clear hH hHl hcol hasg hcol2 C' C i1 i2 i3 e hU C0 e2 ht htk u1 u2 u3 u4 u5 hi hv hns s1 hel hq s2 hns' e1' e2' ht' htk' hz
        simp (disch := first | assumption | omega | (simp [*] <;> omega) | fail) [-getElem?_pos, List.getElem?_cons_zero, List.getElem?_cons_succ, hk, hk2, q3, p4, p0, p2, p3, e1, e6, l3, l4, l5, l6, t1, hc, hne, hk0, w1, w2, w3, g2, hiK, hvn, hvl, sp, nq, jn, hst, hcl2, hcl, hnH]
  · rw [floop_at i_impl_coloured_refine_B5.eq_1]
    simp (disch := first | assumption | omega | (simp [*] <;> omega) | fail) [-getElem?_pos, List.getElem?_cons_zero, List.getElem?_cons_succ, ]
end
end Go.Proofs.Ytcdcmaakcldniaa.Zv

/- Refining, in plain terms: one round. -/
namespace Go.Proofs.Ytcdcmaakcldniaa.Zv
open Go Go.Sort
def nuU (U : List TD) (k : Nat) : List Int := (U.getD k tdD).2.2
open Classical in
/-- The colour of the k-th of the sorted. -/
noncomputable def colK (U : List TD) : Nat → Int
  | 0 => 0
  | k + 1 => if nuU U (k + 1) ≠ nuU U k then colK U k + 1 else colK U k
theorem colK_ge (U : List TD) : ∀ k, 0 ≤ colK U k
  | 0 => Int.le_refl _
  | k + 1 => by
    have := colK_ge U k
    rw [colK]
    split <;> omega
theorem colK_mono (U : List TD) (j : Nat) : ∀ d, colK U j ≤ colK U (j + d)
  | 0 => Int.le_refl _
  | d + 1 => by
    have := colK_mono U j d
    rw [← Nat.add_assoc, colK]
    split <;> omega
theorem srt_le {U : List TD} (hs : SrtT U) {j k : Nat} (hj : j ≤ k) (hk : k < U.length) : ¬ cmpL (nuU U k) (nuU U j) < 0 := by
  by_cases e : j = k
  · subst e; rw [cmpL_refl]; omega
  · have hp := List.pairwise_iff_getElem.mp hs j k (by omega) hk (by omega)
    unfold nuU
    rw [List.getD_eq_getElem?_getD, List.getElem?_eq_getElem hk, List.getD_eq_getElem?_getD, List.getElem?_eq_getElem (by omega : j < U.length)]
    exact hp
theorem cmpL_ge {a b : List Int} (h1 : ¬ cmpL a b < 0) (h2 : ¬ cmpL b a < 0) : a = b := by
  have h3 := cmpL_neg a b
  exact cmpL_eq (by omega)
theorem colK_iff {U : List TD} (hs : SrtT U) (j : Nat) : ∀ d, j + d < U.length → (colK U j = colK U (j + d) ↔ nuU U j = nuU U (j + d))
  | 0, _ => by simp
  | d + 1, hd => by
    have ih := colK_iff hs j d (by omega)
    have hm := colK_mono U j d
    rw [← Nat.add_assoc, colK]
    by_cases e : nuU U (j + d + 1) = nuU U (j + d)
    · rw [if_neg (by simp [e]), e]
      exact ih
    · rw [if_pos e]
      constructor
      · intro h; omega
      · intro h
        exfalso
        apply e
        have h1 := srt_le hs (j := j) (k := j + d) (by omega) (by omega)
        have h2 := srt_le hs (j := j + d) (k := j + d + 1) (by omega) (by omega)
        rw [← h] at h2 ⊢
        exact cmpL_ge h2 h1
theorem colK_eq {U : List TD} (hs : SrtT U) (j k : Nat) (hj : j < U.length) (hk : k < U.length) : colK U j = colK U k ↔ nuU U j = nuU U k := by
  rcases Nat.le_total j k with h | h
  · obtain ⟨d, rfl⟩ := Nat.le.dest h
    exact colK_iff hs j d hk
  · obtain ⟨d, rfl⟩ := Nat.le.dest h
    have := colK_iff hs k d hj
    exact ⟨fun h => (this.mp h.symm).symm, fun h => (this.mpr h.symm).symm⟩
theorem colK_sur (U : List TD) : ∀ k x, 0 ≤ x → x ≤ colK U k → ∃ j, j ≤ k ∧ colK U j = x
  | 0, x, h1, h2 => ⟨0, Nat.le_refl _, by rw [colK] at h2 ⊢; omega⟩
  | k + 1, x, h1, h2 => by
    by_cases h : x ≤ colK U k
    · obtain ⟨j, h3, h4⟩ := colK_sur U k x h1 h
      exact ⟨j, by omega, h4⟩
    · refine ⟨k + 1, Nat.le_refl _, ?_⟩
      have : colK U (k + 1) ≤ colK U k + 1 := by
        rw [colK]; split <;> omega
      omega

/-- What the assignment leaves. -/
theorem asg_all (U : List TD) (K n : Nat) (c0 : Nat → List Int) (hl0 : ∀ i, i < K → (c0 i).length = n) (hU : ∀ t ∈ U, 0 ≤ t.1 ∧ t.1 < K ∧ 0 ≤ t.2.1 ∧ t.2.1 < n)
    (hd : ∀ j k, j < U.length → k < U.length → (U.getD j tdD).1 = (U.getD k tdD).1 → (U.getD j tdD).2.1 = (U.getD k tdD).2.1 → j = k) :
    (0 < U.length → (upF (asg U) U.length 0 (-1, c0)).1 = colK U (U.length - 1)) ∧ ∀ j, j < U.length → ((upF (asg U) U.length 0 (-1, c0)).2 (U.getD j tdD).1.toNat).getD (U.getD j tdD).2.1.toNat 0 = colK U j := by
  have := upF_inv (n := U.length) (f := asg U) (I := fun k s => (k = 0 → s.1 = -1) ∧ (∀ p, k = p + 1 → s.1 = colK U p) ∧ (∀ i, i < K → (s.2 i).length = n) ∧ ∀ j, j < k → (s.2 (U.getD j tdD).1.toNat).getD (U.getD j tdD).2.1.toNat 0 = colK U j) (fun k s hk I => ?_) 0 (-1, c0) (by omega) ⟨fun _ => rfl, by omega, hl0, by omega⟩
  · obtain ⟨h1, h2, h3, h4⟩ := this
    exact ⟨fun h => h2 _ (by omega), h4⟩
  · obtain ⟨col, c⟩ := s
    obtain ⟨h1, h2, h3, h4⟩ := I
    simp only at h1 h2 h3 h4
    have hcol : (if k = 0 ∨ (U.getD k tdD).2.2 ≠ (U.getD (k - 1) tdD).2.2 then col + 1 else col) = colK U k := by
      cases k with
      | zero =>
        rw [if_pos (.inl rfl), h1 rfl, colK]; rfl
      | succ p =>
        rw [h2 p rfl, colK]
        simp only [Nat.add_sub_cancel]
        unfold nuU
        by_cases e : (U.getD (p + 1) tdD).2.2 = (U.getD p tdD).2.2
        · rw [if_neg (by rintro (h | h); omega; exact h e), if_neg (fun h => h e)]
        · rw [if_pos (.inr e), if_pos e]
    have hmem : ∀ j, j < U.length → U.getD j tdD ∈ U := fun j hj => by
      rw [List.getD_eq_getElem?_getD, List.getElem?_eq_getElem hj]; exact List.getElem_mem hj
    obtain ⟨u1, u2, u3, u4⟩ := hU _ (hmem k hk)
    unfold asg
    simp only [hcol]
    refine ⟨by omega, fun p hp => by rw [show k = p by omega], fun i hi => ?_, fun j hj => ?_⟩
    · unfold updL
      split
      · rename_i e
        rw [List.length_set, ← e]
        exact h3 i hi
      · exact h3 i hi
    · obtain ⟨w1, w2, w3, w4⟩ := hU _ (hmem j (by omega))
      unfold updL
      by_cases e : j = k
      · subst e
        rw [if_pos rfl, List.getD_eq_getElem?_getD, List.getElem?_set_self (by rw [h3 _ (by omega)]; omega)]
        rfl
      · have hjk := h4 j (by omega)
        by_cases e2 : (U.getD j tdD).1.toNat = (U.getD k tdD).1.toNat
        · rw [if_pos e2, List.getD_eq_getElem?_getD, List.getElem?_set_ne, ← List.getD_eq_getElem?_getD, ← e2]
          · exact hjk
          · intro e3
            exact e (hd j k (by omega) hk (by omega) (by omega))
        · rw [if_neg e2]
          exact hjk

/-- One round: colours are parted by what is told. -/
structure Rnd (rows : Nat → List Int) (K n : Nat) (c c' : Nat → List Int) (col : Int) : Prop where
  col0 : 0 ≤ col
  eq : ∀ i v j w, i < K → v < n → j < K → w < n → ((c' i).getD v 0 = (c' j).getD w 0 ↔ nuC (rows i) (c i) (manyN K c) n v = nuC (rows j) (c j) (manyN K c) n w)
  le : ∀ i v, i < K → v < n → 0 ≤ (c' i).getD v 0 ∧ (c' i).getD v 0 ≤ col
  sur : ∀ x, 0 ≤ x → x ≤ col → ∃ i v, i < K ∧ v < n ∧ (c' i).getD v 0 = x
theorem rnd_asg (rows c : Nat → List Int) (K n : Nat) (hK : 1 ≤ K) (hn : 1 ≤ n) (R : ∀ i, i < K → Rok n (rows i)) (C : CL K n c) (U : List TD) (hp : U.Perm (tdsF rows c (manyN K c) n K 0)) (hs : SrtT U) :
    Rnd rows K n c (upF (asg U) U.length 0 (-1, c)).2 (upF (asg U) U.length 0 (-1, c)).1 := by
  have hm := tdsF_mem (m := manyN K c) R C.len (fun i hi x hx => C.lt hn i hi x hx) 0
  have hnd := (tdsF_nodup (rows := rows) (c := c) (m := manyN K c) (n := n) (K := K) 0).1
  have hmU : ∀ t, t ∈ U ↔ ∃ j w : Nat, j < K ∧ w < n ∧ t = ((j : Int), (w : Int), nuC (rows j) (c j) (manyN K c) n w) := fun t => by
    rw [hp.mem_iff, hm t]
    simp
  have hget : ∀ j, j < U.length → U.getD j tdD = U[j]! := fun j hj => by simp [List.getD_eq_getElem?_getD, hj]
  have hmem : ∀ j, j < U.length → U.getD j tdD ∈ U := fun j hj => by
    rw [List.getD_eq_getElem?_getD, List.getElem?_eq_getElem hj]; exact List.getElem_mem hj
  have hndU : U.Nodup := hp.nodup_iff.mpr hnd
  have hlen : 0 < U.length := by
    have : (((0 : Nat) : Int), ((0 : Nat) : Int), nuC (rows 0) (c 0) (manyN K c) n 0) ∈ U := (hmU _).mpr ⟨0, 0, by omega, by omega, rfl⟩
    exact List.length_pos_of_mem this
  obtain ⟨a1, a2⟩ := asg_all U K n c C.len (fun t ht => by
    obtain ⟨j, w, h1, h2, rfl⟩ := (hmU t).mp ht
    exact ⟨by simp, by simp only; omega, by simp, by simp only; omega⟩) (fun j k hj hk e1 e2 => by
    obtain ⟨j1, w1, h1, h2, h3⟩ := (hmU _).mp (hmem j hj)
    obtain ⟨j2, w2, h4, h5, h6⟩ := (hmU _).mp (hmem k hk)
    rw [h3, h6] at e1 e2
    simp only at e1 e2
    have e3 : j1 = j2 := by omega
    have e4 : w1 = w2 := by omega
    subst e3 e4
    have e5 : U.getD j tdD = U.getD k tdD := by rw [h3, h6]
    rw [List.getD_eq_getElem?_getD, List.getElem?_eq_getElem hj, List.getD_eq_getElem?_getD, List.getElem?_eq_getElem hk] at e5
    exact (List.getElem_inj hndU).mp e5)
  have a1 := a1 hlen
  have at' : ∀ i v, i < K → v < n → ∃ k, k < U.length ∧ ((upF (asg U) U.length 0 (-1, c)).2 i).getD v 0 = colK U k ∧ nuU U k = nuC (rows i) (c i) (manyN K c) n v := fun i v hi hv => by
    obtain ⟨k, hk, he⟩ := List.getElem_of_mem ((hmU _).mpr ⟨i, v, hi, hv, rfl⟩)
    have hg : U.getD k tdD = ((i : Int), (v : Int), nuC (rows i) (c i) (manyN K c) n v) := by rw [List.getD_eq_getElem?_getD, List.getElem?_eq_getElem hk]; exact he
    have := a2 k hk
    rw [hg] at this
    simp only [Int.toNat_natCast] at this
    exact ⟨k, hk, this, by unfold nuU; rw [hg]⟩
  refine ⟨?_, fun i v j w hi hv hj hw => ?_, fun i v hi hv => ?_, fun x h1 h2 => ?_⟩
  · rw [a1]; exact colK_ge _ _
  · obtain ⟨k1, h1, h2, h3⟩ := at' i v hi hv
    obtain ⟨k2, h4, h5, h6⟩ := at' j w hj hw
    rw [h2, h5, colK_eq hs k1 k2 h1 h4, h3, h6]
  · obtain ⟨k1, h1, h2, h3⟩ := at' i v hi hv
    rw [h2, a1]
    refine ⟨colK_ge _ _, ?_⟩
    obtain ⟨d, hd⟩ := Nat.le.dest (by omega : k1 ≤ U.length - 1)
    rw [← hd]
    exact colK_mono U k1 d
  · rw [a1] at h2
    obtain ⟨j, h3, h4⟩ := colK_sur U _ x h1 h2
    obtain ⟨i, w, h5, h6, h7⟩ := (hmU _).mp (hmem j (by omega))
    have := a2 j (by omega)
    rw [h7] at this
    simp only [Int.toNat_natCast] at this
    exact ⟨i, w, h5, h6, by rw [this, h4]⟩
end Go.Proofs.Ytcdcmaakcldniaa.Zv

/- Refining, in plain terms: how many colours after a round. -/
namespace Go.Proofs.Ytcdcmaakcldniaa.Zv
open Go Go.Sort
theorem inj_sum (m p : Nat) (f : Nat → Nat) (hf : ∀ x, x < m → f x < p) : (m : Int) = sumF (fun y => sumF (fun x => oneIf (f x = y)) m) p := by
  rw [← sumF_swap (fun x y => oneIf (f x = y)) p m]
  have : ∀ x, x < m → sumF (fun y => oneIf (f x = y)) p = 1 := fun x hx => by
    rw [sumF_one (k := f x) (hf x hx) (fun i _ hi => one_neg fun h => hi h.symm)]
    exact one_pos rfl
  rw [sumF_congr (g := fun _ => 1 * 1) this]
  clear this hf
  induction m with
  | zero => rfl
  | succ m ih => rw [sumF, ← ih]; omega
theorem sumF_const (c : Int) : ∀ n : Nat, sumF (fun _ => c) n = n * c
  | 0 => by simp [sumF]
  | n + 1 => by rw [sumF, sumF_const c n]; simp [Int.add_mul]
theorem inj_le (m p : Nat) (f : Nat → Nat) (hf : ∀ x, x < m → f x < p) (hi : ∀ x y, x < m → y < m → f x = f y → x = y) : m ≤ p := by
  have h1 := inj_sum m p f hf
  have h2 : sumF (fun y => sumF (fun x => oneIf (f x = y)) m) p ≤ sumF (fun _ => 1) p := sumF_le fun y _ => sumF_most fun i j hi' hj h3 h4 => hi i j hi' hj (h3.trans h4.symm)
  rw [sumF_const] at h2
  omega
theorem inj_sur (m : Nat) (f : Nat → Nat) (hf : ∀ x, x < m → f x < m) (hi : ∀ x y, x < m → y < m → f x = f y → x = y) (y : Nat) (hy : y < m) : ∃ x, x < m ∧ f x = y := by
  apply Classical.byContradiction
  intro hno
  have h1 := inj_le m (m - 1) (fun x => if f x < y then f x else f x - 1) (fun x hx => by
    have := hf x hx
    have : f x ≠ y := fun h => hno ⟨x, hx, h⟩
    try simp only
    split <;> omega) (fun x z hx hz h => by
    have h2 : f x ≠ y := fun h => hno ⟨x, hx, h⟩
    have h3 : f z ≠ y := fun h => hno ⟨z, hz, h⟩
    refine hi x z hx hz ?_
    try simp only at h
    split at h <;> split at h <;> omega)
  omega
/-- Every colour occurs. -/
def SurC (K n : Nat) (c : Nat → List Int) : Prop := ∀ x : Int, 0 ≤ x → x < manyN K c → ∃ i v, i < K ∧ v < n ∧ (c i).getD v 0 = x
theorem CL.getD {K n : Nat} {c : Nat → List Int} (C : CL K n c) {i v : Nat} (hi : i < K) (hv : v < n) : (c i).getD v 0 ∈ c i := by
  have := C.len i hi
  rw [List.getD_eq_getElem?_getD, List.getElem?_eq_getElem (by omega)]
  exact List.getElem_mem _
theorem Rnd.many {rows : Nat → List Int} {K n : Nat} {c c' : Nat → List Int} {col : Int} (r : Rnd rows K n c c' col) (C' : CL K n c') (hn : 1 ≤ n) : (manyN K c' : Int) = col + 1 := by
  have h0 := r.col0
  have hne : ∀ i, i < K → c' i ≠ [] := fun i hi => C'.ne hn i hi
  have h1 := (mxK_le c' col h0 K hne).mpr (fun i hi x hx => by
    obtain ⟨v, hv, rfl⟩ := List.getElem_of_mem hx
    have hl := C'.len i hi
    have := (r.le i v hi (by omega)).2
    rwa [List.getD_eq_getElem?_getD, List.getElem?_eq_getElem hv] at this)
  have h2 := (mxK_le c' (mxK c' K) (mxK_ge c' K) K hne).mp (Int.le_refl _)
  obtain ⟨i, v, h3, h4, h5⟩ := r.sur col h0 (Int.le_refl _)
  have h6 := h2 i h3 _ (C'.getD h3 h4)
  have h7 := mxK_ge c' K
  unfold manyN
  omega
theorem Rnd.surC {rows : Nat → List Int} {K n : Nat} {c c' : Nat → List Int} {col : Int} (r : Rnd rows K n c c' col) (C' : CL K n c') (hn : 1 ≤ n) : SurC K n c' := fun x h1 h2 => by
  have := r.many C' hn
  exact r.sur x h1 (by omega)
/-- A round parts colours. -/
theorem Rnd.fine {rows : Nat → List Int} {K n : Nat} {c c' : Nat → List Int} {col : Int} (r : Rnd rows K n c c' col) {i v j w : Nat} (hi : i < K) (hv : v < n) (hj : j < K) (hw : w < n) (h : (c' i).getD v 0 = (c' j).getD w 0) : (c i).getD v 0 = (c j).getD w 0 := by
  have := (r.eq i v j w hi hv hj hw).mp h
  unfold nuC at this
  exact (List.cons.inj this).1
/-- What stands for a colour. -/
theorem SurC.rep {K n : Nat} {c : Nat → List Int} (S : SurC K n c) : ∃ ri rv : Nat → Nat, ∀ x, x < manyN K c → ri x < K ∧ rv x < n ∧ (c (ri x)).getD (rv x) 0 = x := by
  have h : ∀ x : Nat, ∃ p : Nat × Nat, x < manyN K c → p.1 < K ∧ p.2 < n ∧ (c p.1).getD p.2 0 = x := fun x => by
    by_cases hx : x < manyN K c
    · obtain ⟨i, v, h1, h2, h3⟩ := S x (by omega) (by omega)
      exact ⟨(i, v), fun _ => ⟨h1, h2, h3⟩⟩
    · exact ⟨(0, 0), fun h => absurd h hx⟩
  exact ⟨fun x => (Classical.choose (h x)).1, fun x => (Classical.choose (h x)).2, fun x => Classical.choose_spec (h x)⟩
theorem Rnd.more {rows : Nat → List Int} {K n : Nat} {c c' : Nat → List Int} {col : Int} (r : Rnd rows K n c c' col) (C' : CL K n c') (hn : 1 ≤ n) (S : SurC K n c) : manyN K c ≤ manyN K c' := by
  obtain ⟨ri, rv, h⟩ := S.rep
  have hm := r.many C' hn
  refine inj_le _ _ (fun x => ((c' (ri x)).getD (rv x) 0).toNat) (fun x hx => ?_) (fun x y hx hy e => ?_)
  · obtain ⟨h1, h2, h3⟩ := h x hx
    have := r.le _ _ h1 h2
    try simp only
    omega
  · obtain ⟨h1, h2, h3⟩ := h x hx
    obtain ⟨h4, h5, h6⟩ := h y hy
    have l1 := r.le _ _ h1 h2
    have l2 := r.le _ _ h4 h5
    try simp only at e
    have := r.fine h1 h2 h4 h5 (by omega)
    omega
/-- A round that leaves as many colours leaves the parts. -/
theorem Rnd.same {rows : Nat → List Int} {K n : Nat} {c c' : Nat → List Int} {col : Int} (r : Rnd rows K n c c' col) (C : CL K n c) (C' : CL K n c') (hn : 1 ≤ n) (S : SurC K n c) (he : manyN K c = manyN K c') {i v j w : Nat} (hi : i < K) (hv : v < n) (hj : j < K) (hw : w < n) :
    (c' i).getD v 0 = (c' j).getD w 0 ↔ (c i).getD v 0 = (c j).getD w 0 := by
  refine ⟨r.fine hi hv hj hw, fun e => ?_⟩
  obtain ⟨ri, rv, h⟩ := S.rep
  have hm := r.many C' hn
  have hsur := inj_sur (manyN K c) (fun x => ((c' (ri x)).getD (rv x) 0).toNat) (fun x hx => by
    obtain ⟨h1, h2, h3⟩ := h x hx
    have := r.le _ _ h1 h2
    try simp only
    omega) (fun x y hx hy e => by
    obtain ⟨h1, h2, h3⟩ := h x hx
    obtain ⟨h4, h5, h6⟩ := h y hy
    have l1 := r.le _ _ h1 h2
    have l2 := r.le _ _ h4 h5
    try simp only at e
    have := r.fine h1 h2 h4 h5 (by omega)
    omega)
  have key : ∀ i v, i < K → v < n → ∃ x, x < manyN K c ∧ (c i).getD v 0 = x ∧ (c' i).getD v 0 = (c' (ri x)).getD (rv x) 0 := fun i v hi hv => by
    have l1 := r.le i v hi hv
    obtain ⟨x, hx, hxe⟩ := hsur ((c' i).getD v 0).toNat (by omega)
    obtain ⟨h1, h2, h3⟩ := h x hx
    have l2 := r.le _ _ h1 h2
    try simp only at hxe
    have e2 : (c' i).getD v 0 = (c' (ri x)).getD (rv x) 0 := by omega
    exact ⟨x, hx, by rw [r.fine hi hv h1 h2 e2, h3], e2⟩
  obtain ⟨x, h1, h2, h3⟩ := key i v hi hv
  obtain ⟨y, h4, h5, h6⟩ := key j w hj hw
  have : x = y := by omega
  rw [h3, h6, this]
end Go.Proofs.Ytcdcmaakcldniaa.Zv

/- The reference's steps of a refinement: counts, equal lists. -/
namespace Go.Proofs.Ytcdcmaakcldniaa.Zv
open Go
variable {nro : Nat}
open Classical in
noncomputable def cnF (rows cl : List Int) (v w : Nat) (g : Nat → Int) : Nat → Int := if rbit rows v w = true then upd g (cl.getD w 0).toNat (g (cl.getD w 0).toNat + 1) else g
theorem l_spec_l10Counts (h : VH) (n : Nat) (s t : Value) (rows cl : List Int) (hs : Sli h s rows) (ht : Sli h t cl) (R : Rok n rows) (hcl : cl.length = n) (hc : ∀ x ∈ cl, 0 ≤ x ∧ x < n) (v : Nat) (hv : v < n) (hn : nro ≤ h.length) :
    ∃ g, floop (vcall F nro) nro [1, 2, 3, 7, 8] i_spec_l10Counts_B1 (bx h n s ++ [⟨1, ints (tbl n fun _ => 0)⟩]) [t, .int .i64 v, bp h, .slice (some ⟨h.length + 1, 0, none⟩) n n, .int .i64 0] (bx h n s ++ [⟨1, ints (tbl n fun _ => 0)⟩]) =
      some (.exit 0, fl [(7, .slice (some ⟨h.length + 1, 0, none⟩) n n)], bx h n s ++ [⟨1, ints (tbl n g)⟩]) ∧ ∀ x, x < n → g x = cntC rows cl n v x := by
  have hn' := fun k => Nat.le_trans hn (Nat.le_add_right h.length k)
  have hso := fun k => hs.oldCk (k := k)
  have hto := fun k => ht.oldk (k := k)
  have hle := R.le
  have hlen := R.len
  have key := for_up (call := vcall F nro) (nro := nro) (live := [1, 2, 3, 7, 8]) (c := i_spec_l10Counts_B1) (h0 := bx h n s ++ [⟨1, ints (tbl n fun _ => 0)⟩]) (n := n)
    (fun w (_ : Nat → Int) => [t, .int .i64 v, bp h, .slice (some ⟨h.length + 1, 0, none⟩) n n, .int .i64 w]) (fun _ g => bx h n s ++ [⟨1, ints (tbl n g)⟩]) (cnF rows cl v)
    (fun w g => ∀ x : Nat, x < n → g x = sumF (fun w => oneIf (rbit rows v w = true ∧ cl.getD w 0 = x)) w)
    (fun g => some (.exit 0, fl [(7, .slice (some ⟨h.length + 1, 0, none⟩) n n)], bx h n s ++ [⟨1, ints (tbl n g)⟩])) (fun w g hw hw2 I => ?_) (fun g _ => ?_) 0 (fun _ => 0) (by omega) (fun x _ => rfl)
  · exact ⟨_, key.1, key.2⟩
  · have hwl : w < cl.length := by omega
    have hxc := hc cl[w] (List.getElem_mem hwl)
    have hg : cl.getD w 0 = cl[w] := getD_at cl hwl
    obtain ⟨x, hx⟩ : ∃ x : Nat, cl[w] = x := ⟨(cl[w]).toNat, by omega⟩
    have hxn : x < n := by omega
    refine ⟨fun y hy => ?_, ?_⟩
    · rw [sumF, ← I y hy]
      unfold cnF
      rw [hg, hx, Int.toNat_natCast]
      by_cases c1 : rbit rows v w = true
      · rw [if_pos c1]
        by_cases c2 : y = x
        · subst c2
          rw [upd_same, one_pos ⟨c1, rfl⟩]
        · rw [upd_ne c2, one_neg (by rintro ⟨_, h⟩; omega)]
          omega
      · rw [if_neg c1, one_neg (by rintro ⟨h, _⟩; exact c1 h)]
        omega
    · obtain ⟨r1, r2⟩ := R.row v hv
      have r3 := le62 hle r2
      have hvl : v < rows.length := by omega
      have vx := fun L => (hs.app L).vidx (k := .i64) (j := (v : Int)) (by omega) (by omega)
      have vl := fun L => (hs.app L).vload hvl
      have tx := fun L => (ht.app L).vidx (k := .i64) (j := (w : Int)) (by omega) (by omega)
      have tl := fun L => (ht.app L).vload hwl
      have w1 : IntKind.u64.wrap (w : Int) = w := wrapu64 (by omega) (by omega)
      have hbit := bit_two (a := rows.getD v 0) (b := (w : Int)) r1 (by omega) (by omega)
      rw [Int.toNat_natCast, getD_at rows hvl] at hbit
      have hrb : rbit rows v w = (rows[v]'hvl).toNat.testBit w := by unfold rbit; rw [getD_at rows hvl]
      rw [← hrb] at hbit
      have hgb : 0 ≤ g x ∧ g x ≤ w := by
        rw [I x hxn]
        have h1 := sumF_nonneg (f := fun w => oneIf (rbit rows v w = true ∧ cl.getD w 0 = (x : Int))) (n := w) (fun i _ => one_nonneg _)
        have h2 := sumF_le (f := fun w => oneIf (rbit rows v w = true ∧ cl.getD w 0 = (x : Int))) (g := fun _ => 1) (n := w) (fun i _ => one_le _)
        rw [sumF_const] at h2
        omega
      have w2 : IntKind.i64.wrap (g x + 1) = g x + 1 := wrap64 (by omega) (by omega)
      have w3 : IntKind.i64.wrap ((w : Int) + 1) = (w : Int) + 1 := wrap64 (by omega) (by omega)
      have t2 := tbl_take1 (g := g) hxn
      have t3 := tbl_splice (g := g) (x := g x + 1) hxn
      have hx2 : (x : Int) < n := by omega
      unfold cnF
      rw [hg, hx, Int.toNat_natCast]
      rw [hx] at tl
      rw [floop_at i_spec_l10Counts_B1.eq_1]
      clear I hgb hrb r1 r2 r3 hxc hg hx hc hs ht
      by_cases c1 : rbit rows v w = true
      · rw [if_pos c1] at hbit
        simp (disch := first | assumption | omega | (simp [*] <;> omega) | fail) [hw, hw2, hxn, hx2, vx, vl, tx, tl, w1, hbit, c1, t2, t3, w2, w3, hn', hso, hto]
      · rw [if_neg c1] at hbit
        simp (disch := first | assumption | omega | (simp [*] <;> omega) | fail) [hw, hw2, hxn, hx2, vx, vl, tx, tl, w1, hbit, c1, t2, t3, w2, w3, hn', hso, hto]
  · rw [floop_at i_spec_l10Counts_B1.eq_1]
    simp (disch := first | assumption | omega | (simp [*] <;> omega) | fail) [hn', hso, hto]
/-- The counts of a vertex. -/
noncomputable def cnts (rows cl : List Int) (n v : Nat) : List Int := (List.range n).map fun x : Nat => cntC rows cl n v x
theorem c_spec_l10Counts (h : VH) (n : Nat) (s t : Value) (rows cl : List Int) (hs : Sli h s rows) (ht : Sli h t cl) (R : Rok n rows) (hcl : cl.length = n) (hc : ∀ x ∈ cl, 0 ≤ x ∧ x < n) (v : Nat) (hv : v < n) (hn : nro ≤ h.length) :
    vcall F nro k_spec_l10Counts [gv n s, t, .int .i64 v] h = some (.slice (some ⟨h.length, 0, none⟩) n n, h ++ [⟨1, ints (cnts rows cl n v)⟩]) := by
  obtain ⟨g, h1, h2⟩ := l_spec_l10Counts (nro := nro) h n s t rows cl hs ht R hcl hc v hv hn
  have e1 : tbl n g = cnts rows cl n v := tbl_congr h2
  rw [e1] at h1
  have hle := R.le
  have hn' := fun k => Nat.le_trans hn (Nat.le_add_right h.length k)
  have hj := Sl.nj hs
  unfold isJunk at hj
  have hcl2 : (cnts rows cl n v).length = n := by simp [cnts]
  obtain ⟨cn, hcn⟩ : ∃ cn, cn = cnts rows cl n v := ⟨_, rfl⟩
  rw [← hcn] at h1 hcl2 ⊢
  have b1 : 8 * (n : Int) ≤ 140737488355328 := by omega
  have b2 : (n : Int) ≤ 140737488355328 := by omega
  rw [tbl_const] at h1
  simp at h1
  clear hc e1 h2 hs ht
  refine v_spec_l10Counts (by simp [i_spec_l10Counts]) ?_
  rw [fbody_eq]
  simp (disch := first | assumption | omega | (simp [*] <;> omega) | fail) [i_spec_l10Counts, h1, hn', hj, b1, b2, fresults, fresL, fres1]
end Go.Proofs.Ytcdcmaakcldniaa.Zv

/- Equal lists, the first place of a number. -/
namespace Go.Proofs.Ytcdcmaakcldniaa.Zv
open Go
variable {nro : Nat}
theorem ne_iff_ex (xs ys : List Int) (hl : xs.length = ys.length) : (∃ j, 0 ≤ j ∧ j < xs.length ∧ xs.getD j 0 ≠ ys.getD j 0) ↔ xs ≠ ys := by
  constructor
  · rintro ⟨j, _, _, h⟩ e
    exact h (by rw [e])
  · intro hne
    apply Classical.byContradiction
    intro hno
    apply hne
    apply List.ext_getElem hl
    intro k h1 h2
    apply Classical.byContradiction
    intro hk
    exact hno ⟨k, by omega, h1, by simpa [List.getD_eq_getElem?_getD, h1, h2] using hk⟩
open Classical in
theorem c_spec_l10Same (s t : Value) (xs ys : List Int) (h : VH) (hs : Sli h s xs) (ht : Sli h t ys) (hl : xs.length = ys.length) (hx : xs.length ≤ 1000) :
    vcall F nro k_spec_l10Same [s, t] h = some (.bool (decide (xs = ys)), h) := by
  refine v_spec_l10Same (by simp [i_spec_l10Same]) ?_
  rw [fbody_eq]
  have hso := hs.old
  have hto := ht.old
  have vl := hs.vlen
  have lp := for_find (call := vcall F nro) (nro := nro) (live := [0, 1, 5]) (c := i_spec_l10Same_B1) (h0 := h) (n := xs.length) (fun i => [s, t, .int .i64 i]) h (fun i => xs.getD i 0 ≠ ys.getD i 0) (some (.ret, fl [(4, .bool false)], h)) (some (.exit 0, fl [], h)) (fun i hi hi2 => ?_) ?_ 0 (by omega)
  · simp only [Int.natCast_zero, ne_iff_ex xs ys hl] at lp
    by_cases e : xs = ys
    · rw [if_neg (by simp [e])] at lp
      rw [decide_eq_true e]
      clear hs ht e
      simp (disch := first | assumption | omega | (simp [*] <;> omega) | fail) [i_spec_l10Same, lp, fresults, fresL, fres1]
    · rw [if_pos e] at lp
      rw [decide_eq_false e]
      clear hs ht
      simp (disch := first | assumption | omega | (simp [*] <;> omega) | fail) [i_spec_l10Same, lp, fresults, fresL, fres1]
  · have hi3 : i < ys.length := by omega
    have x1 := hs.vidx (k := .i64) (j := (i : Int)) (by omega) (by omega)
    have x2 := hs.vload hi
    have y1 := ht.vidx (k := .i64) (j := (i : Int)) (by omega) (by omega)
    have y2 := ht.vload hi3
    have g1 : xs.getD i 0 = xs[i] := getD_at xs hi
    have g2 : ys.getD i 0 = ys[i] := getD_at ys hi3
    rw [g1, g2]
    have w1 : IntKind.i64.wrap ((i : Int) + 1) = (i : Int) + 1 := wrap64 (by omega) (by omega)
    obtain ⟨a, ha⟩ : ∃ a, a = xs[i] := ⟨_, rfl⟩
    obtain ⟨b, hb⟩ : ∃ b, b = ys[i] := ⟨_, rfl⟩
    rw [← ha] at x2 ⊢
    rw [← hb] at y2 ⊢
    rw [floop_at i_spec_l10Same_B1.eq_1]
    clear hs ht g1 g2 ha hb hl
    constructor <;> intro hq <;> simp (disch := first | assumption | omega | (simp [*] <;> omega) | fail) [vl, x1, x2, y1, y2, w1, hi2, hq]
  · rw [floop_at i_spec_l10Same_B1.eq_1]
    simp (disch := first | assumption | omega | (simp [*] <;> omega) | fail) [vl]
open Classical in
theorem c_slices_Equal (s t : Value) (xs ys : List Int) (h : VH) (hs : Sli h s xs) (ht : Sli h t ys) (hx : xs.length ≤ 1000) :
    vcall F nro k_slices_Equal_int64_int64 [s, t] h = some (.bool (decide (xs = ys)), h) := by
  refine v_slices_Equal_int64_int64 (by simp [i_slices_Equal_int64_int64]) ?_
  rw [fbody_eq]
  have hso := hs.old
  have hto := ht.old
  have vl := hs.vlen
  have vl2 := ht.vlen
  by_cases hl : xs.length = ys.length
  · have lp := for_find (call := vcall F nro) (nro := nro) (live := [0, 1, 12, 13]) (c := i_slices_Equal_int64_int64_B1) (h0 := h) (n := xs.length) (fun i => [s, t, .int .i64 xs.length, .int .i64 i]) h (fun i => xs.getD i 0 ≠ ys.getD i 0) (some (.ret, fl [(4, .bool false)], h)) (some (.exit 0, fl [], h)) (fun i hi hi2 => ?_) ?_ 0 (by omega)
    · simp only [Int.natCast_zero, ne_iff_ex xs ys hl] at lp
      have hl' : (xs.length : Int) = ys.length := by omega
      by_cases e : xs = ys
      · rw [if_neg (by simp [e])] at lp
        rw [decide_eq_true e]
        clear hs ht e hl
        rw [hl'] at lp vl
        simp (disch := first | assumption | omega | (simp [*] <;> omega) | fail) [i_slices_Equal_int64_int64, vl, vl2, lp, fresults, fresL, fres1]
      · rw [if_pos e] at lp
        rw [decide_eq_false e]
        clear hs ht hl
        rw [hl'] at lp vl
        simp (disch := first | assumption | omega | (simp [*] <;> omega) | fail) [i_slices_Equal_int64_int64, vl, vl2, lp, fresults, fresL, fres1]
    · have hi3 : i < ys.length := by omega
      have x1 := hs.vidx (k := .i64) (j := (i : Int)) (by omega) (by omega)
      have x2 := hs.vload hi
      have y1 := ht.vidx (k := .i64) (j := (i : Int)) (by omega) (by omega)
      have y2 := ht.vload hi3
      have g1 : xs.getD i 0 = xs[i] := getD_at xs hi
      have g2 : ys.getD i 0 = ys[i] := getD_at ys hi3
      rw [g1, g2]
      have w1 : IntKind.i64.wrap ((i : Int) + 1) = (i : Int) + 1 := wrap64 (by omega) (by omega)
      obtain ⟨a, ha⟩ : ∃ a, a = xs[i] := ⟨_, rfl⟩
      obtain ⟨b, hb⟩ : ∃ b, b = ys[i] := ⟨_, rfl⟩
      rw [← ha] at x2 ⊢
      rw [← hb] at y2 ⊢
      rw [floop_at i_slices_Equal_int64_int64_B1.eq_1]
      clear hs ht g1 g2 ha hb hl vl vl2
      constructor <;> intro hq <;> simp (disch := first | assumption | omega | (simp [*] <;> omega) | fail) [x1, x2, y1, y2, w1, hi2, hq]
    · rw [floop_at i_slices_Equal_int64_int64_B1.eq_1]
      simp (disch := first | assumption | omega | (simp [*] <;> omega) | fail) []
  · have e : xs ≠ ys := fun e => hl (by rw [e])
    have hl' : ¬ (xs.length : Int) = ys.length := by omega
    rw [decide_eq_false e]
    clear hs ht hl
    simp (disch := first | assumption | omega | (simp [*] <;> omega) | fail) [i_slices_Equal_int64_int64, vl, vl2, hl', fresults, fresL, fres1]

/-- The first place of a number from i on. -/
def idxF (xs : List Int) (x : Int) (i : Nat) : Int := if i < xs.length then (if xs.getD i 0 = x then (i : Int) else idxF xs x (i + 1)) else -1
 termination_by xs.length - i
theorem l_slices_Index (s : Value) (xs : List Int) (x : Int) (h : VH) (hs : Sli h s xs) (hx : xs.length ≤ 1000) (k : Nat) : ∀ i, k = xs.length - i → i ≤ xs.length →
    (idxF xs x i < 0 → floop (vcall F nro) nro [0, 1, 7, 8] i_slices_Index_int64_int64_B1 h [s, .int .i64 x, .int .i64 xs.length, .int .i64 i] h = some (.exit 0, fl [], h)) ∧
    (¬ idxF xs x i < 0 → floop (vcall F nro) nro [0, 1, 7, 8] i_slices_Index_int64_int64_B1 h [s, .int .i64 x, .int .i64 xs.length, .int .i64 i] h = some (.ret, fl [(4, .int .i64 (idxF xs x i))], h)) := by
  have hso := hs.old
  induction k with
  | zero =>
    intro i hk hi
    have h1 : ¬ i < xs.length := by omega
    have h2 : ¬ (i : Int) < xs.length := by omega
    rw [idxF, if_neg h1, floop_at i_slices_Index_int64_int64_B1.eq_1]
    refine ⟨fun _ => ?_, fun h => absurd (by omega) h⟩
    simp (disch := first | assumption | omega | (simp [*] <;> omega) | fail) [h2]
  | succ k ih =>
    intro i hk hi
    have h1 : i < xs.length := by omega
    have h2 : (i : Int) < xs.length := by omega
    have x1 := hs.vidx (k := .i64) (j := (i : Int)) (by omega) (by omega)
    have x2 := hs.vload h1
    have g1 : xs.getD i 0 = xs[i] := getD_at xs h1
    have w1 : IntKind.i64.wrap ((i : Int) + 1) = (i : Int) + 1 := wrap64 (by omega) (by omega)
    have ih := ih (i + 1) (by omega) (by omega)
    rw [idxF, if_pos h1, g1, floop_at i_slices_Index_int64_int64_B1.eq_1]
    obtain ⟨a, ha⟩ : ∃ a, a = xs[i] := ⟨_, rfl⟩
    rw [← ha] at x2 ⊢
    obtain ⟨r, hr⟩ : ∃ r, r = idxF xs x (i + 1) := ⟨_, rfl⟩
    rw [← hr] at ih ⊢
    rw [show ((i + 1 : Nat) : Int) = (i : Int) + 1 by omega] at ih
    clear hs g1 ha hr
    by_cases c1 : a = x
    · rw [if_pos c1]
      have c1' : x = a := c1.symm
      refine ⟨fun h => absurd h (by omega), fun _ => ?_⟩
      simp (disch := first | assumption | omega | (simp [*] <;> omega) | fail) [x1, x2, w1, h2, c1']
    · rw [if_neg c1]
      have c1' : ¬ x = a := fun e => c1 e.symm
      obtain ⟨i1, i2⟩ := ih
      refine ⟨fun h => ?_, fun h => ?_⟩
      · have i1 := i1 h
        simp (disch := first | assumption | omega | (simp [*] <;> omega) | fail) [x1, x2, w1, h2, c1', i1]
      · have i2 := i2 h
        simp (disch := first | assumption | omega | (simp [*] <;> omega) | fail) [x1, x2, w1, h2, c1', i2]
theorem c_slices_Index (s : Value) (xs : List Int) (x : Int) (h : VH) (hs : Sli h s xs) (hx : xs.length ≤ 1000) :
    vcall F nro k_slices_Index_int64_int64 [s, .int .i64 x] h = some (.int .i64 (idxF xs x 0), h) := by
  obtain ⟨i1, i2⟩ := l_slices_Index (nro := nro) s xs x h hs hx xs.length 0 (by omega) (by omega)
  refine v_slices_Index_int64_int64 (by simp [i_slices_Index_int64_int64]) ?_
  rw [fbody_eq]
  have vl := hs.vlen
  have hneg : idxF xs x 0 < 0 → idxF xs x 0 = -1 := by
    have : ∀ k i, k = xs.length - i → idxF xs x i < 0 → idxF xs x i = -1 := by
      intro k
      induction k with
      | zero => intro i hk h; rw [idxF, if_neg (by omega)]
      | succ k ih =>
        intro i hk h
        rw [idxF, if_pos (by omega)] at h ⊢
        split
        · rename_i c; rw [if_pos c] at h; omega
        · rename_i c; rw [if_neg c] at h; exact ih (i + 1) (by omega) h
    exact this _ 0 rfl
  simp only [Int.natCast_zero] at i1 i2
  by_cases c : idxF xs x 0 < 0
  · have i1 := i1 c
    rw [hneg c]
    clear hs i2
    simp (disch := first | assumption | omega | (simp [*] <;> omega) | fail) [i_slices_Index_int64_int64, vl, i1, fresults, fresL, fres1]
  · have i2 := i2 c
    obtain ⟨r, hr⟩ : ∃ r, r = idxF xs x 0 := ⟨_, rfl⟩
    rw [← hr] at i2 ⊢
    clear hs i1
    simp (disch := first | assumption | omega | (simp [*] <;> omega) | fail) [i_slices_Index_int64_int64, vl, i2, fresults, fresL, fres1]
end Go.Proofs.Ytcdcmaakcldniaa.Zv

/- The reference's step of a refinement. -/
namespace Go.Proofs.Ytcdcmaakcldniaa.Zv
open Go
variable {nro : Nat}
open Classical in
/-- The colour of an earlier vertex of the same kind. -/
noncomputable def colW (sm : Nat → Prop) (out : List Int) (v w : Nat) : Int := if w < v then (if sm w then out.getD w 0 else colW sm out v (w + 1)) else -1
 termination_by v - w
theorem l_spec_l10Step_B1 (H : VH) (t tO tC own b2 v7 : Value) (cl out ow : List Int) (vs : List Value) (n v : Nat) (cn : Nat → List Int) (ht : Sli H t cl) (hC : Sl H tC vs) (hO : Sli H tO out) (hw : Sli H own ow) (hcn : ∀ w (h : w < vs.length), Sli H vs[w] (cn w)) (lv : vs.length = v) (lo : out.length = v) (lc : ∀ w, w < v → (cn w).length = n) (lw : ow.length = n) (hn : n ≤ 1000) (hv : v < cl.length) (hv2 : v ≤ 1000) (ob : Old H.length b2) (o7 : Old H.length v7) (k : Nat) : ∀ w, k = v - w → w ≤ v →
    floop (vcall F nro) nro [1, 2, 5, 6, 7, 8, 9, 10, 11] i_spec_l10Step_B1 H [t, b2, tC, tO, v7, .int .i64 v, own, .int .i64 (-1), .int .i64 w] H =
      some (.exit 2, fl [(1, t), (2, b2), (5, tC), (6, tO), (7, v7), (8, .int .i64 v), (9, own), (10, .int .i64 (colW (fun w => cl.getD w 0 = cl.getD v 0 ∧ cn w = ow) out v w))], H) := by
  have hto := ht.old
  have hCo := hC.old
  have hOo := hO.old
  have hwo := hw.old
  induction k with
  | zero =>
    intro w hk hw2
    have h1 : ¬ w < v := by omega
    have h2 : ¬ (w : Int) < v := by omega
    rw [colW, if_neg h1, floop_at i_spec_l10Step_B1.eq_1]
    clear ht hC hO hw hcn lc
    simp (disch := first | assumption | omega | (simp [*] <;> omega) | fail) [h2]
  | succ k ih =>
    intro w hk hw2
    have h1 : w < v := by omega
    have h2 : (w : Int) < v := by omega
    have ih := ih (w + 1) (by omega) (by omega)
    have hwc : w < cl.length := by omega
    have hwv : w < vs.length := by omega
    have hwo2 : w < out.length := by omega
    have x1 := ht.vidx (k := .i64) (j := (w : Int)) (by omega) (by omega)
    have x2 := ht.vload hwc
    have y1 := ht.vidx (k := .i64) (j := (v : Int)) (by omega) (by omega)
    have y2 := ht.vload hv
    have z1 := hC.vidx (k := .i64) (j := (w : Int)) (by omega) (by omega)
    have z2 := hC.vload hwv
    have u1 := hO.vidx (k := .i64) (j := (w : Int)) (by omega) (by omega)
    have u2 := hO.vload hwo2
    have g1 : cl.getD w 0 = cl[w] := getD_at cl hwc
    have g2 : cl.getD v 0 = cl[v] := getD_at cl hv
    have g3 : out.getD w 0 = out[w] := getD_at out hwo2
    have hs := c_spec_l10Same (nro := nro) vs[w] own (cn w) ow H (hcn w hwv) hw (by rw [lc w h1, lw]) (by rw [lc w h1]; omega)
    have w1 : IntKind.i64.wrap ((w : Int) + 1) = (w : Int) + 1 := wrap64 (by omega) (by omega)
    rw [colW, if_pos h1, g1, g3]
    obtain ⟨r, hr⟩ : ∃ r, r = colW (fun w => cl.getD w 0 = cl.getD v 0 ∧ cn w = ow) out v (w + 1) := ⟨_, rfl⟩
    rw [← hr] at ih ⊢
    rw [g2]
    rw [show ((w + 1 : Nat) : Int) = (w : Int) + 1 by omega] at ih
    obtain ⟨a, ha⟩ : ∃ a, a = cl[w] := ⟨_, rfl⟩
    obtain ⟨b, hb⟩ : ∃ b, b = cl[v] := ⟨_, rfl⟩
    obtain ⟨o, ho⟩ : ∃ o, o = out[w] := ⟨_, rfl⟩
    obtain ⟨vw, hvw⟩ : ∃ o, o = vs[w] := ⟨_, rfl⟩
    rw [← ha] at x2 ⊢
    rw [← hb] at y2 ⊢
    rw [← ho] at u2 ⊢
    rw [← hvw] at z2 hs
    rw [floop_at i_spec_l10Step_B1.eq_1]
    clear ht hC hO hw hcn lc g1 g2 g3 ha hb ho hvw hr
    by_cases c1 : a = b
    · by_cases c2 : cn w = ow
      · rw [if_pos ⟨c1, c2⟩]
        rw [decide_eq_true c2] at hs
        simp (disch := first | assumption | omega | (simp [*] <;> omega) | fail) [h2, x1, x2, y1, y2, z1, z2, u1, u2, hs, c1, w1]
      · rw [if_neg (by rintro ⟨_, h⟩; exact c2 h)]
        rw [decide_eq_false c2] at hs
        simp (disch := first | assumption | omega | (simp [*] <;> omega) | fail) [h2, x1, x2, y1, y2, z1, z2, u1, u2, hs, c1, w1, ih]
    · rw [if_neg (by rintro ⟨h, _⟩; exact c1 h)]
      simp (disch := first | assumption | omega | (simp [*] <;> omega) | fail) [h2, x1, x2, y1, y2, z1, z2, u1, u2, c1, w1, ih]
theorem EI.shift {n : Nat} {vs : List Value} {G : VH} {ess : List (List Int)} (e : EI (n + 1) vs G ess) (o : VO) : EI n vs (o :: G) ess := by
  refine ⟨e.len, fun i hi => ?_, e.nd⟩
  obtain ⟨k, h1, h2⟩ := e.at_ i hi
  exact ⟨k + 1, by rw [h1]; congr 4; omega, h2⟩
theorem EI.unshift {n : Nat} {vs : List Value} {G G' : VH} {o : VO} {ess : List (List Int)} (e : EI n vs (o :: G) ess) (e' : EI (n + 1) vs G' ess) : EI (n + 1) vs G ess := by
  refine ⟨e.len, fun i hi => ?_, e.nd⟩
  obtain ⟨k, h1, h2⟩ := e.at_ i hi
  obtain ⟨k', h3, h4⟩ := e'.at_ i hi
  refine ⟨k', h3, ?_⟩
  rw [h1] at h3
  simp at h3
  have : k = k' + 1 := by omega
  subst this
  exact h2
end Go.Proofs.Ytcdcmaakcldniaa.Zv

/- The reference's step of a refinement: the whole. -/
namespace Go.Proofs.Ytcdcmaakcldniaa.Zv
open Go
variable {nro : Nat}
open Classical in
/-- The reference's new colours of the first vertices, and how many there are. -/
noncomputable def stp (rows cl : List Int) (n : Nat) : Nat → List Int × Int
  | 0 => ([], 0)
  | v + 1 =>
    if colW (fun w => cl.getD w 0 = cl.getD v 0 ∧ cnts rows cl n w = cnts rows cl n v) (stp rows cl n v).1 v 0 < 0 then ((stp rows cl n v).1 ++ [(stp rows cl n v).2], (stp rows cl n v).2 + 1)
    else ((stp rows cl n v).1 ++ [colW (fun w => cl.getD w 0 = cl.getD v 0 ∧ cnts rows cl n w = cnts rows cl n v) (stp rows cl n v).1 v 0], (stp rows cl n v).2)
theorem stp_len (rows cl : List Int) (n : Nat) : ∀ v, (stp rows cl n v).1.length = v ∧ 0 ≤ (stp rows cl n v).2 ∧ (stp rows cl n v).2 ≤ v
  | 0 => ⟨rfl, Int.le_refl _, Int.le_refl _⟩
  | v + 1 => by
    obtain ⟨h1, h2, h3⟩ := stp_len rows cl n v
    rw [stp]
    split
    · exact ⟨by simp [h1], by simp only; omega, by simp only; omega⟩
    · exact ⟨by simp [h1], by simp only; omega, by simp only; omega⟩
noncomputable def cnL (rows cl : List Int) (n v : Nat) : List (List Int) := (List.range v).map (cnts rows cl n)
theorem cnL_len (rows cl : List Int) (n v : Nat) : (cnL rows cl n v).length = v := by simp [cnL]
theorem cnL_get (rows cl : List Int) (n v w : Nat) (h : w < v) : (cnL rows cl n v).getD w [] = cnts rows cl n w := by simp [cnL, List.getD_eq_getElem?_getD, h]
theorem cnL_succ (rows cl : List Int) (n v : Nat) : cnL rows cl n (v + 1) = cnL rows cl n v ++ [cnts rows cl n v] := by simp [cnL, List.range_succ]
set_option maxHeartbeats 4000000 in
theorem l_spec_l10Step_B2 (h : VH) (hn : nro ≤ h.length) (n : Nat) (s t : Value) (rows cl : List Int) (hs : Sli h s rows) (ht : Sli h t cl) (R : Rok n rows) (hcl : cl.length = n) (hc : ∀ x ∈ cl, 0 ≤ x ∧ x < n) (k : Nat) : ∀ (v : Nat) (vs : List Value) (G : VH), k = n - v → v ≤ n → EI (h.length + 3) vs G (cnL rows cl n v) →
    ∃ vs' G', floop (vcall F nro) nro [1, 2, 5, 6, 7, 8] i_spec_l10Step_B2 (h ++ [⟨0, [.int .i64 n, s]⟩, ⟨1, []⟩, ⟨1, []⟩])
      [t, bp h, .slice (some ⟨h.length + 1, 0, none⟩) v v, .slice (some ⟨h.length + 2, 0, none⟩) v v, .int .i64 (stp rows cl n v).2, .int .i64 v] (h ++ ⟨0, [.int .i64 n, s]⟩ :: ⟨1, vs⟩ :: ⟨1, ints (stp rows cl n v).1⟩ :: G) =
      some (.exit 0, fl [(6, .slice (some ⟨h.length + 2, 0, none⟩) n n)], h ++ ⟨0, [.int .i64 n, s]⟩ :: ⟨1, vs'⟩ :: ⟨1, ints (stp rows cl n n).1⟩ :: G') := by
  have hso := hs.old
  have hto := ht.old
  have hRle := R.le
  induction k with
  | zero =>
    intro v vs G hk hv e
    have h1 : v = n := by omega
    subst h1
    refine ⟨vs, G, ?_⟩
    rw [floop_at i_spec_l10Step_B2.eq_1]
    obtain ⟨o, ho⟩ : ∃ o, o = (stp rows cl v v).1 := ⟨_, rfl⟩
    rw [← ho]
    clear hs ht hc e ho hk
    simp (disch := first | assumption | omega | (simp [*] <;> omega) | fail) []
  | succ k ih =>
    intro v vs G hk hv e
    have h1 : v < n := by omega
    have h2 : (v : Int) < n := by omega
    obtain ⟨sl, s0, s1⟩ := stp_len rows cl n v
    have hvs : vs.length = v := by rw [e.len, cnL_len]
    obtain ⟨out, hout⟩ : ∃ o, o = (stp rows cl n v).1 := ⟨_, rfl⟩
    obtain ⟨most, hmost⟩ : ∃ o, o = (stp rows cl n v).2 := ⟨_, rfl⟩
    obtain ⟨ow, how⟩ : ∃ o, o = cnts rows cl n v := ⟨_, rfl⟩
    have hol : ow.length = n := by rw [how]; simp [cnts]
    obtain ⟨H, hH⟩ : ∃ H, H = h ++ ⟨0, [.int .i64 n, s]⟩ :: ⟨1, vs⟩ :: ⟨1, ints out⟩ :: G := ⟨_, rfl⟩
    have hHl : H.length = h.length + 3 + G.length := by rw [hH]; simp; omega
    have p0 : H[h.length]? = some ⟨0, [.int .i64 n, s]⟩ := by rw [hH, hget0]; rfl
    have p1 : H[h.length + 1]? = some ⟨1, vs⟩ := by rw [hH, hgetk]; rfl
    have p2 : H[h.length + 2]? = some ⟨1, ints out⟩ := by rw [hH, hgetk]; rfl
    have hsH : Sli H s rows := by rw [hH]; exact hs.app _
    have htH : Sli H t cl := by rw [hH]; exact ht.app _
    have e1 := c_spec_l10Counts (nro := nro) H n s t rows cl hsH htH R hcl hc v h1 (by omega)
    rw [← how] at e1
    obtain ⟨own, hown⟩ : ∃ o, o = Value.slice (some ⟨H.length, 0, none⟩) n n := ⟨_, rfl⟩
    have hownS : Sli (H ++ [⟨1, ints ow⟩]) own ow := by
      have := sli_at (h := H ++ [⟨1, ints ow⟩]) (b := H.length) (xs := ow) (by simp)
      rwa [hol, ← hown] at this
    have b1 := l_spec_l10Step_B1 (nro := nro) (H ++ [⟨1, ints ow⟩]) t (.slice (some ⟨h.length + 2, 0, none⟩) v v) (.slice (some ⟨h.length + 1, 0, none⟩) v v) own (bp h) (.int .i64 most) cl out ow vs n v (cnts rows cl n) (htH.app _) (by
      unfold Sl
      refine (Sl.app (h := H) ?_ _)
      unfold Sl
      rw [vsrc_ref]
      simp only [p1, hvs]
      simp [hvs]
      rw [List.take_of_length_le (by omega)]) (by
      have := (sli_at p2).app [⟨1, ints ow⟩]
      rwa [hout, sl, ← hout] at this) hownS (fun w hw => by
      have hw2 : w < (cnL rows cl n v).length := by rw [cnL_len]; omega
      obtain ⟨kk, k1, k2⟩ := e.at_ w hw2
      rw [cnL_get _ _ _ _ _ (by omega)] at k1 k2
      have k3 : vs[w] = .slice (some ⟨h.length + 3 + kk, 0, none⟩) (cnts rows cl n w).length (cnts rows cl n w).length := (List.getElem?_eq_some_iff.mp k1).2
      rw [k3]
      refine (sli_at ?_).app _
      rw [hH, Nat.add_assoc, hgetk, show 3 + kk = kk + 1 + 1 + 1 by omega]
      exact k2) hvs (by rw [hout, sl]) (fun w _ => by simp [cnts]) hol (by omega) (by omega) (by omega) (by intro r hr; simp [trefs, vrefs, crefs, arefs] at hr; simp; omega) (by simp) v 0 (by omega) (by omega)
    obtain ⟨r, hr⟩ : ∃ r, r = colW (fun w => cl.getD w 0 = cl.getD v 0 ∧ cnts rows cl n w = cnts rows cl n v) out v 0 := ⟨_, rfl⟩
    rw [← how] at hr
    rw [← hr] at b1
    obtain ⟨nc, hnc⟩ : ∃ nc, nc = if r < 0 then most else r := ⟨_, rfl⟩
    have hst : (stp rows cl n (v + 1)).1 = out ++ [nc] ∧ (stp rows cl n (v + 1)).2 = if r < 0 then most + 1 else most := by
      rw [stp, ← hout, ← hmost, ← how, ← hr, hnc]
      split <;> simp [*]
    -- the heap after the appends
    have e2 := (e.push ow [⟨1, [own]⟩, ⟨1, [.int .i64 nc]⟩])
    rw [how, ← cnL_succ, ← how] at e2
    rw [← hHl, hol, ← hown] at e2
    have ec : EI ((h ++ ([⟨0, [.int .i64 n, s]⟩] : VH)).length + 1) (vs ++ [own]) (⟨1, ints (out ++ [nc])⟩ :: (G ++ ⟨1, ints ow⟩ :: [⟨1, [own]⟩, ⟨1, [.int .i64 nc]⟩])) (cnL rows cl n (v + 1)) := by
      have := e2.shift ⟨1, ints (out ++ [nc])⟩
      simpa using this
    obtain ⟨G1, k1, k2, k3, k4⟩ := EI.cleanP' (P0 := h ++ [⟨0, [.int .i64 n, s]⟩]) (vals := [t, bp h, .slice (some ⟨h.length + 1, 0, none⟩) (v + 1) (v + 1), .slice (some ⟨h.length + 2, 0, none⟩) (v + 1) (v + 1), .int .i64 (if r < 0 then most + 1 else most), .int .i64 ((v : Int) + 1)]) (EI.nil _ [⟨1, []⟩]) ec rfl (by simp) (by
      intro w hw
      simp only [List.mem_cons, List.not_mem_nil, or_false] at hw
      rcases hw with rfl | rfl | rfl | rfl | rfl | rfl
      · intro r hr; have := hto r hr; simp; omega
      · intro r hr; simp [trefs, vrefs, crefs, arefs] at hr; simp; omega
      · intro r hr; simp [trefs, vrefs, crefs, arefs] at hr; simp; omega
      · intro r hr; simp [trefs, vrefs, crefs, arefs] at hr; simp; omega
      · simp
      · simp)
    obtain ⟨G2, hG2⟩ : ∃ G2, G1 = ⟨1, ints (out ++ [nc])⟩ :: G2 := by
      have := k4 0 (by simp)
      cases G1 with
      | nil => simp at this
      | cons a b => simp at this; exact ⟨b, by rw [this]⟩
    subst hG2
    have e3 : EI (h.length + 3) (vs ++ [own]) G2 (cnL rows cl n (v + 1)) := by
      have k2' : EI (h.length + 2) (vs ++ [own]) (⟨1, ints (out ++ [nc])⟩ :: G2) (cnL rows cl n (v + 1)) := by simpa using k2
      exact k2'.unshift e2
    obtain ⟨vs', G', i1⟩ := ih (v + 1) _ G2 (by omega) (by omega) e3
    refine ⟨vs', G', ?_⟩
    rw [hst.1, hst.2, show ((v + 1 : Nat) : Int) = (v : Int) + 1 by omega] at i1
    obtain ⟨H2, hH2⟩ : ∃ H2, H2 = h ++ ⟨0, [.int .i64 n, s]⟩ :: ⟨1, vs ++ [own]⟩ :: ⟨1, ints out⟩ :: G := ⟨_, rfl⟩
    have l0 : h.length < H.length := by omega
    have l1 : h.length + 1 < H.length := by omega
    have l2 : h.length + 2 < H.length := by omega
    have lH2 : H2.length = H.length := by rw [hH2, hH]; simp
    have q0 : ∀ L : VH, (H ++ L)[h.length]? = _ := fun L => (List.getElem?_append_left l0).trans p0
    have q1 : ∀ L : VH, (H ++ L)[h.length + 1]? = _ := fun L => (List.getElem?_append_left l1).trans p1
    have p2' : H2[h.length + 2]? = some ⟨1, ints out⟩ := by rw [hH2, hgetk]; rfl
    have q2 : ∀ L : VH, (H2 ++ L)[h.length + 2]? = _ := fun L => (List.getElem?_append_left (by omega)).trans p2'
    have hs1 : H.set (h.length + 1) ⟨1, vs ++ [own]⟩ = H2 := by rw [hH, hsetk, hH2]; rfl
    have hs2 : ∀ y : List Int, H2.set (h.length + 2) ⟨1, ints y⟩ = h ++ ⟨0, [.int .i64 n, s]⟩ :: ⟨1, vs ++ [own]⟩ :: ⟨1, ints y⟩ :: G := fun y => by rw [hH2, hsetk]; rfl
    have hown2 : isJunk own = false := by rw [hown]; rfl
    unfold isJunk at hown2
    have hvc : vcells own = [own] := by rw [hown]; rfl
    rw [← hown] at e1
    have w1 : IntKind.i64.wrap ((v : Int) + 1) = (v : Int) + 1 := wrap64 (by omega) (by omega)
    have w2 : IntKind.i64.wrap (most + 1) = most + 1 := wrap64 (by omega) (by omega)
    rw [← hmost] at s0 s1
    rw [← hout, ← hmost, ← hH]
    have c1 : (v + 1) * 24 ≤ 1099511627776 := by omega
    have c2 : v < 1099511627776 := by omega
    have c3 : (v + 1) * 8 ≤ 1099511627776 := by omega
    have g2 : ∀ A B C : VO, (H2 ++ [A, B, C])[H.length + 2]? = some C := fun A B C => by rw [← lH2, hgetk]; rfl
    have lo : out.length = v := by rw [hout, sl]
    have l2' : h.length + 2 < H2.length := by omega
    have nn := fun k => Nat.le_trans hn (Nat.le_add_right h.length k)
    simp only [List.append_assoc, List.cons_append, List.nil_append] at k1
    simp only [Int.natCast_zero] at b1
    have st1 := stp_len rows cl n v
    clear hs ht hc e ec e2 e3 k2 k3 k4 ih hH hH2 hout hmost how hown hst hr p2 p2' st1 hsH htH hownS R hk
    rw [floop_at i_spec_l10Step_B2.eq_1]
    by_cases hr0 : r < 0
    · rw [if_pos hr0] at hnc i1 k1
      subst hnc
      simp (disch := first | assumption | omega | (simp [*] <;> omega) | fail) [-getElem?_pos, List.getElem?_cons_zero, List.getElem?_cons_succ, h2, p0, p1, q0, q1, q2, e1, b1, hr0, hs1, hs2, hown2, hvc, w1, w2, c1, c2, c3, g2, hvs, lo, nn, hn, ints_snoc, k1, i1, l1, l2', lH2]
    · rw [if_neg hr0] at hnc i1 k1
      subst hnc
      simp (disch := first | assumption | omega | (simp [*] <;> omega) | fail) [-getElem?_pos, List.getElem?_cons_zero, List.getElem?_cons_succ, h2, p0, p1, q0, q1, q2, e1, b1, hr0, hs1, hs2, hown2, hvc, w1, w2, c1, c2, c3, g2, hvs, lo, nn, hn, ints_snoc, k1, i1, l1, l2', lH2]
theorem c_spec_l10Step (h : VH) (hn : nro ≤ h.length) (n : Nat) (s t : Value) (rows cl : List Int) (hs : Sli h s rows) (ht : Sli h t cl) (R : Rok n rows) (hcl : cl.length = n) (hc : ∀ x ∈ cl, 0 ≤ x ∧ x < n) :
    vcall F nro k_spec_l10Step [gv n s, t] h = some (.slice (some ⟨h.length, 0, none⟩) n n, h ++ [⟨1, ints (stp rows cl n n).1⟩]) := by
  obtain ⟨vs', G', lp⟩ := l_spec_l10Step_B2 (nro := nro) h hn n s t rows cl hs ht R hcl hc n 0 [] [] (by omega) (by omega) (EI.nil _ _)
  have h0 : (stp rows cl n 0) = ([], 0) := rfl
  rw [h0] at lp
  simp only [Int.natCast_zero, ints_nil] at lp
  obtain ⟨a, ha⟩ : ∃ a, a = (stp rows cl n n).1 := ⟨_, rfl⟩
  rw [← ha] at lp
  rw [← ha]
  have hj := Sl.nj hs
  unfold isJunk at hj
  have hn' := fun k => Nat.le_trans hn (Nat.le_add_right h.length k)
  have hcl2 : kclean h [.slice (some ⟨h.length + 2, 0, none⟩) n n] (h ++ ⟨0, [.int .i64 n, s]⟩ :: ⟨1, vs'⟩ :: ⟨1, ints a⟩ :: G') = ([.slice (some ⟨h.length, 0, none⟩) n n], h ++ [⟨1, ints a⟩]) := by
    have := clean_slk h (⟨0, [.int .i64 n, s]⟩ :: ⟨1, vs'⟩ :: ⟨1, ints a⟩ :: G') 2 0 n n (by simp) (by simp)
    exact this
  refine v_spec_l10Step (by simp [i_spec_l10Step]) ?_
  rw [fbody_eq]
  clear hs ht hc R ha h0
  simp (disch := first | assumption | omega | (simp [*] <;> omega) | fail) [i_spec_l10Step, lp, hn, hn', hj, hcl2, fresults, fresL, fres1]
end Go.Proofs.Ytcdcmaakcldniaa.Zv

/- Colours told anew, in the order in which they are met. -/
namespace Go.Proofs.Ytcdcmaakcldniaa.Zv
open Go
variable {nro : Nat}
def bfF (met : List Int) : List Int → List Int
  | [] => []
  | c :: r => if idxF met c 0 < 0 then (met.length : Int) :: bfF (met ++ [c]) r else idxF met c 0 :: bfF met r
def bfM (met : List Int) : List Int → List Int
  | [] => met
  | c :: r => if idxF met c 0 < 0 then bfM (met ++ [c]) r else bfM met r
theorem bfF_len : ∀ (r met : List Int), (bfF met r).length = r.length
  | [], _ => rfl
  | c :: r, met => by
    rw [bfF]
    split
    · rw [List.length_cons, List.length_cons, bfF_len r]
    · rw [List.length_cons, List.length_cons, bfF_len r]
theorem l_impl_byFirst (h : VH) (hn : nro ≤ h.length) (s : Value) (xs : List Int) (hs : Sli h s xs) (hx : xs.length ≤ 1000) (r : List Int) : ∀ (i : Nat) (met out : List Int), xs.drop i = r → met.length ≤ i → out.length = i → i ≤ xs.length →
    floop (vcall F nro) nro [3, 4, 10, 11, 12] i_impl_byFirst_B1 (h ++ [⟨1, ints []⟩, ⟨1, ints []⟩]) [.slice (some ⟨h.length, 0, none⟩) met.length met.length, .slice (some ⟨h.length + 1, 0, none⟩) i i, s, .int .i64 xs.length, .int .i64 i] (h ++ [⟨1, ints met⟩, ⟨1, ints out⟩]) =
      some (.exit 0, fl [(4, .slice (some ⟨h.length + 1, 0, none⟩) xs.length xs.length)], h ++ [⟨1, ints (bfM met r)⟩, ⟨1, ints (out ++ bfF met r)⟩]) := by
  have hso := fun k => hs.oldCk (k := k)
  have hso2 : Old (h.length + 2) s := fun r hr => by have := hs.old r hr; omega
  have hn' := fun k => Nat.le_trans hn (Nat.le_add_right h.length k)
  induction r with
  | nil =>
    intro i met out hr hm ho hi
    have h1 : ¬ i < xs.length := by
      intro h1
      have := congrArg List.length hr
      simp at this
      omega
    have h2 : ¬ (i : Int) < xs.length := by omega
    have h3 : i = xs.length := by omega
    rw [bfM, bfF, List.append_nil, floop_at i_impl_byFirst_B1.eq_1]
    subst h3
    clear hs hr
    simp (disch := first | assumption | omega | (simp [*] <;> omega) | fail) []
  | cons c r ih =>
    intro i met out hr hm ho hi
    have h1 : i < xs.length := by
      apply Classical.byContradiction
      intro h1
      rw [List.drop_eq_nil_of_le (by omega)] at hr
      cases hr
    have h2 : (i : Int) < xs.length := by omega
    rw [List.drop_eq_getElem_cons h1] at hr
    obtain ⟨hr1, hr2⟩ := List.cons.inj hr
    have vx := fun L => (hs.app L).vidx (k := .i64) (j := (i : Int)) (by omega) (by omega)
    have vl := fun L => (hs.app L).vload h1
    rw [hr1] at vl
    have w1 : IntKind.i64.wrap ((i : Int) + 1) = (i : Int) + 1 := wrap64 (by omega) (by omega)
    have hc := c_slices_Index (nro := nro) (.slice (some ⟨h.length, 0, none⟩) met.length met.length) met c (h ++ [⟨1, ints met⟩, ⟨1, ints out⟩]) (sli_at (by simp)) (by omega)
    have hcl : ∀ m x vs, (∀ v ∈ vs, Old (h.length + 2) v) → ∀ L, kclean (h ++ [⟨1, ints []⟩, ⟨1, ints []⟩]) vs (h ++ ⟨1, ints m⟩ :: ⟨1, ints x⟩ :: L) = (vs, h ++ [⟨1, ints m⟩, ⟨1, ints x⟩]) := fun m x vs hv L => by
      have := cleanup_app (h0 := h) (L0 := [⟨1, ints []⟩, ⟨1, ints []⟩]) (L := ⟨1, ints m⟩ :: ⟨1, ints x⟩ :: L) (vs := vs) (by simpa using hv) (by simp)
      simpa using this
    simp only [ints_nil] at hcl ih ⊢
    have b1 : (met.length + 1) * 8 ≤ 1099511627776 := by omega
    have b2 : met.length < 1099511627776 := by omega
    have b3 : (out.length + 1) * 8 ≤ 1099511627776 := by omega
    have b4 : out.length < 1099511627776 := by omega
    rw [bfM, bfF, floop_at i_impl_byFirst_B1.eq_1]
    by_cases c1 : idxF met c 0 < 0
    · rw [if_pos c1, if_pos c1]
      have ih := ih (i + 1) (met ++ [c]) (out ++ [(met.length : Int)]) hr2 (by simp; omega) (by simp [ho]) h1
      obtain ⟨k, hk⟩ : ∃ k, k = idxF met c 0 := ⟨_, rfl⟩
      rw [← hk] at hc c1
      simp only [List.length_append, List.length_singleton, List.append_assoc, List.singleton_append, Int.natCast_add, Int.natCast_one] at ih
      subst ho
      clear hs hr hr1 hr2 hk
      simp (disch := first | assumption | omega | (simp [*] <;> omega) | fail) [h1, h2, vx, vl, w1, hc, c1, b1, b2, b3, b4, hn, hn', hso, hso2, ints_snoc, hcl, ih]
    · rw [if_neg c1, if_neg c1]
      obtain ⟨k, hk⟩ : ∃ k, k = idxF met c 0 := ⟨_, rfl⟩
      rw [← hk] at hc c1 ⊢
      have ih := ih (i + 1) met (out ++ [k]) hr2 (by omega) (by simp [ho]) h1
      simp only [List.append_assoc, List.singleton_append, Int.natCast_add, Int.natCast_one] at ih
      subst ho
      clear hs hr hr1 hr2 hk
      simp (disch := first | assumption | omega | (simp [*] <;> omega) | fail) [h1, h2, vx, vl, w1, hc, c1, b1, b2, b3, b4, hn, hn', hso, hso2, ints_snoc, hcl, ih]
theorem c_impl_byFirst (h : VH) (hn : nro ≤ h.length) (s : Value) (xs : List Int) (hs : Sli h s xs) (hx : xs.length ≤ 1000) :
    vcall F nro k_impl_byFirst [s] h = some (.slice (some ⟨h.length, 0, none⟩) xs.length xs.length, h ++ [⟨1, ints (bfF [] xs)⟩]) := by
  have lp := l_impl_byFirst (nro := nro) h hn s xs hs hx xs 0 [] [] rfl (by simp) rfl (by omega)
  have vl := fun L => (hs.app L).vlen
  simp only [Int.natCast_zero, List.length_nil, ints_nil, List.nil_append] at lp
  obtain ⟨a, ha⟩ : ∃ a, a = bfF [] xs := ⟨_, rfl⟩
  obtain ⟨b, hb⟩ : ∃ b, b = bfM [] xs := ⟨_, rfl⟩
  rw [← ha, ← hb] at lp
  rw [← ha]
  refine v_impl_byFirst (by simp [i_impl_byFirst]) ?_
  rw [fbody_eq]
  clear hs
  simp (disch := first | assumption | omega | (simp [*] <;> omega) | fail) [i_impl_byFirst, vl, lp, hn, fresults, fresL, fres1]
end Go.Proofs.Ytcdcmaakcldniaa.Zv

/- Partitions; the law of IsPartition. -/
namespace Go.Proofs.Ytcdcmaakcldniaa.Zv
open Go
variable {nro : Nat}

/-- The colours come in order. -/
def PartOK : List Int → Int → Prop
  | [], _ => True
  | x :: r, m => 0 ≤ x ∧ x ≤ m ∧ PartOK r (if x = m then m + 1 else m)

theorem partOK_drop {xs : List Int} {i : Nat} (hi : i < xs.length) (m : Int) : PartOK (xs.drop i) m ↔ 0 ≤ xs[i] ∧ xs[i] ≤ m ∧ PartOK (xs.drop (i + 1)) (if xs[i] = m then m + 1 else m) := by
  rw [List.drop_eq_getElem_cons hi]
  rfl

open Classical in
theorem l_spec_l10Is (n : Int) (s t : Value) (xs : List Int) (h : VH) (ht : Sli h t xs) (h3 : xs.length ≤ 4611686018427387904) (i m : Int) (hi : 0 ≤ i) (hin : i ≤ xs.length) (hm : 0 ≤ m) (hmi : m ≤ i) :
    floop (vcall F nro) nro [1, 2, 5, 6] i_spec_l10Is_B1 (bx h n s) [t, bp h, .int .i64 m, .int .i64 i] (bx h n s) =
      if PartOK (xs.drop i.toNat) m then some (.exit 0, fl [(1, t), (2, bp h)], bx h n s) else some (.ret, fl [(4, .bool false)], bx h n s) := by
  have hto := fun k => ht.oldk (k := k)
  rw [floop_at i_spec_l10Is_B1.eq_1]
  by_cases hlt : i < xs.length
  · have hc := fun (x a b : Int) => c_spec_l01In (nro := nro) x a b (bx h n s)
    rw [partOK_drop (by omega)]
    by_cases h0 : 0 ≤ xs[i.toNat]'(by omega)
    · by_cases h1 : xs[i.toNat]'(by omega) ≤ m
      · by_cases h2 : xs[i.toNat]'(by omega) = m
        · have ih := l_spec_l10Is n s t xs h ht h3 (i + 1) (m + 1) (by omega) (by omega) (by omega) (by omega)
          rw [show (i + 1).toNat = i.toNat + 1 by omega] at ih
          have h4 : ¬ m < 0 := by omega
          simp (disch := first | assumption | omega | (simp [*] <;> omega) | fail) [ht.vlen', ht.vidx', ht.vload', wrap64, hlt, hc, h0, h1, h2, ih, h4, hm]
        · have ih := l_spec_l10Is n s t xs h ht h3 (i + 1) m (by omega) (by omega) (by omega) (by omega)
          rw [show (i + 1).toNat = i.toNat + 1 by omega] at ih
          simp (disch := first | assumption | omega | (simp [*] <;> omega) | fail) [ht.vlen', ht.vidx', ht.vload', wrap64, hlt, hc, h0, h1, h2, ih]
      · simp (disch := first | assumption | omega | (simp [*] <;> omega) | fail) [ht.vlen', ht.vidx', ht.vload', wrap64, hlt, hc, h0, h1]
    · simp (disch := first | assumption | omega | (simp [*] <;> omega) | fail) [ht.vlen', ht.vidx', ht.vload', wrap64, hlt, hc, h0]
  · have : xs.drop i.toNat = [] := List.drop_eq_nil_of_le (by omega)
    simp (disch := first | assumption | omega | (simp [*] <;> omega) | fail) [ht.vlen', hlt, this, PartOK]
 termination_by (xs.length - i).toNat

open Classical in
theorem c_spec_l10Is (n : Int) (s t : Value) (rows xs : List Int) (h : VH) (hs : Sli h s rows) (ht : Sli h t xs) (h3 : xs.length ≤ 4611686018427387904) :
    vcall F nro k_spec_l10Is [gv n s, t] h = some (.bool (decide ((xs.length : Int) = n ∧ PartOK xs 0)), h) := by
  refine v_spec_l10Is (by simp [i_spec_l10Is]) ?_
  rw [fbody_eq]
  have hl := l_spec_l10Is (nro := nro) n s t xs h ht h3 0 0 (by omega) (by omega) (by omega) (by omega)
  by_cases hp : PartOK xs 0
  · rw [if_pos (by simpa using hp)] at hl
    simp (disch := first | assumption | omega | (simp [*] <;> omega) | fail) [i_spec_l10Is, hl, ht.vlen', hp]
  · rw [if_neg (by simpa using hp)] at hl
    simp (disch := first | assumption | omega | (simp [*] <;> omega) | fail) [i_spec_l10Is, hl, hp]

open Classical in
theorem l_impl_isPartition (n : Int) (s t : Value) (xs : List Int) (h : VH) (ht : Sli h t xs) (h3 : xs.length ≤ 4611686018427387904) (i m : Int) (hi : 0 ≤ i) (hin : i ≤ xs.length) (hm : 0 ≤ m) (hmi : m ≤ i) :
    floop (vcall F nro) nro [5, 13, 14, 15] i_impl_isPartition_B1 (bx h n s) [.int .i64 m, t, .int .i64 xs.length, .int .i64 i] (bx h n s) =
      if PartOK (xs.drop i.toNat) m then some (.exit 0, fl [], bx h n s) else some (.ret, fl [(4, .bool false)], bx h n s) := by
  have hto := fun k => ht.oldk (k := k)
  rw [floop_at i_impl_isPartition_B1.eq_1]
  by_cases hlt : i < xs.length
  · rw [partOK_drop (by omega)]
    by_cases h0 : 0 ≤ xs[i.toNat]'(by omega)
    · have h0' : ¬ xs[i.toNat]'(by omega) < 0 := by omega
      by_cases h1 : xs[i.toNat]'(by omega) ≤ m
      · have h1' : ¬ m < xs[i.toNat]'(by omega) := by omega
        by_cases h2 : xs[i.toNat]'(by omega) = m
        · have ih := l_impl_isPartition n s t xs h ht h3 (i + 1) (m + 1) (by omega) (by omega) (by omega) (by omega)
          rw [show (i + 1).toNat = i.toNat + 1 by omega] at ih
          have h4 : ¬ m < 0 := by omega
          simp (disch := first | assumption | omega | (simp [*] <;> omega) | fail) [ht.vlen', ht.vidx', ht.vload', wrap64, hlt, h0, h0', h1, h1', h2, ih, h4, hm]
        · have ih := l_impl_isPartition n s t xs h ht h3 (i + 1) m (by omega) (by omega) (by omega) (by omega)
          rw [show (i + 1).toNat = i.toNat + 1 by omega] at ih
          simp (disch := first | assumption | omega | (simp [*] <;> omega) | fail) [ht.vlen', ht.vidx', ht.vload', wrap64, hlt, h0, h0', h1, h1', h2, ih]
      · have h1' : m < xs[i.toNat]'(by omega) := by omega
        simp (disch := first | assumption | omega | (simp [*] <;> omega) | fail) [ht.vlen', ht.vidx', ht.vload', wrap64, hlt, h0, h0', h1, h1']
    · have h0' : xs[i.toNat]'(by omega) < 0 := by omega
      simp (disch := first | assumption | omega | (simp [*] <;> omega) | fail) [ht.vlen', ht.vidx', ht.vload', wrap64, hlt, h0, h0']
  · have : xs.drop i.toNat = [] := List.drop_eq_nil_of_le (by omega)
    simp (disch := first | assumption | omega | (simp [*] <;> omega) | fail) [ht.vlen', hlt, this, PartOK]
 termination_by (xs.length - i).toNat

open Classical in
theorem c_impl_isPartition (n : Int) (s t : Value) (rows xs : List Int) (h : VH) (hs : Sli h s rows) (ht : Sli h t xs) (h3 : xs.length ≤ 4611686018427387904) :
    vcall F nro k_impl_isPartition [gv n s, t] h = some (.bool (decide ((xs.length : Int) = n ∧ PartOK xs 0)), h) := by
  refine v_impl_isPartition (by simp [i_impl_isPartition]) ?_
  rw [fbody_eq]
  have hl := l_impl_isPartition (nro := nro) n s t xs h ht h3 0 0 (by omega) (by omega) (by omega) (by omega)
  by_cases hx : (xs.length : Int) = n
  · by_cases hp : PartOK xs 0
    · rw [if_pos (by simpa using hp)] at hl
      rw [hx] at hl
      simp (disch := first | assumption | omega | (simp [*] <;> omega) | fail) [i_impl_isPartition, hl, ht.vlen', hp, hx]
    · rw [if_neg (by simpa using hp)] at hl
      rw [hx] at hl
      simp (disch := first | assumption | omega | (simp [*] <;> omega) | fail) [i_impl_isPartition, hl, ht.vlen', hp, hx]
  · simp (disch := first | assumption | omega | (simp [*] <;> omega) | fail) [i_impl_isPartition, ht.vlen', hx]

end Go.Proofs.Ytcdcmaakcldniaa.Zv

/- Lists of colours in the order in which they are met. -/
namespace Go.Proofs.Ytcdcmaakcldniaa.Zv
open Go
/-- The same parts. -/
def EqL (n : Nat) (l l' : List Int) : Prop := ∀ v w, v < n → w < n → (l.getD v 0 = l.getD w 0 ↔ l'.getD v 0 = l'.getD w 0)
theorem EqL.symm {n : Nat} {l l' : List Int} (h : EqL n l l') : EqL n l' l := fun v w hv hw => (h v w hv hw).symm
theorem EqL.trans {n : Nat} {l l' l'' : List Int} (h : EqL n l l') (h' : EqL n l' l'') : EqL n l l'' := fun v w hv hw => (h v w hv hw).trans (h' v w hv hw)
theorem EqL.rfl' (n : Nat) (l : List Int) : EqL n l l := fun _ _ _ _ => Iff.rfl
/-- How many are met first before v. -/
noncomputable def newN (l : List Int) (v : Nat) : Int := sumF (fun w => oneIf (∀ u, u < w → l.getD u 0 ≠ l.getD w 0)) v
theorem partOK_new (l : List Int) (k : Nat) : ∀ (i : Nat) (m : Int), k = l.length - i → i ≤ l.length → PartOK (l.drop i) m → m = newN l i → (∀ w, w < i → 0 ≤ l.getD w 0 ∧ l.getD w 0 < m) → (∀ x, 0 ≤ x → x < m → ∃ w, w < i ∧ l.getD w 0 = x) →
    ∀ v, i ≤ v → v < l.length → (∀ u, u < v → l.getD u 0 ≠ l.getD v 0) → l.getD v 0 = newN l v := by
  induction k with
  | zero => intro i m hk hi _ _ _ _ v h1 h2; omega
  | succ k ih =>
    intro i m hk hi hp hm hb hs v h1 h2 hn
    have hil : i < l.length := by omega
    rw [partOK_drop hil] at hp
    have hg : l.getD i 0 = l[i] := getD_at l hil
    rw [← hg] at hp
    obtain ⟨p1, p2, p3⟩ := hp
    have hnew : (∀ u, u < i → l.getD u 0 ≠ l.getD i 0) ↔ l.getD i 0 = m := by
      constructor
      · intro h
        apply Classical.byContradiction
        intro hne
        obtain ⟨w, hw, he⟩ := hs _ p1 (by omega)
        exact h w hw he
      · intro h u hu he
        have := (hb u hu).2
        omega
    by_cases hv : v = i
    · subst hv
      rw [hnew.mp hn, hm]
    · have hm' : (if l.getD i 0 = m then m + 1 else m) = newN l (i + 1) := by
        unfold newN
        rw [sumF]
        unfold newN at hm
        rw [← hm]
        by_cases c : l.getD i 0 = m
        · rw [if_pos c, one_pos (hnew.mpr c)]
        · rw [if_neg c, one_neg (fun h => c (hnew.mp h))]; omega
      refine ih (i + 1) _ (by omega) hil p3 hm' (fun w hw => ?_) (fun x hx1 hx2 => ?_) v (by omega) h2 hn
      · by_cases hwi : w = i
        · subst hwi
          split <;> omega
        · have := hb w (by omega)
          split <;> omega
      · by_cases hxm : x < m
        · obtain ⟨w, hw, he⟩ := hs x hx1 hxm
          exact ⟨w, by omega, he⟩
        · refine ⟨i, by omega, ?_⟩
          split at hx2 <;> omega
theorem newN_eq {n : Nat} {l l' : List Int} (h : EqL n l l') (v : Nat) (hv : v ≤ n) : newN l v = newN l' v := by
  unfold newN
  refine sumF_congr fun w hw => ?_
  have : (∀ u, u < w → l.getD u 0 ≠ l.getD w 0) ↔ ∀ u, u < w → l'.getD u 0 ≠ l'.getD w 0 := by
    constructor
    · intro h1 u hu he; exact h1 u hu ((h u w (by omega) (by omega)).mpr he)
    · intro h1 u hu he; exact h1 u hu ((h u w (by omega) (by omega)).mp he)
  by_cases c : ∀ u, u < w → l.getD u 0 ≠ l.getD w 0
  · rw [one_pos c, one_pos (this.mp c)]
  · rw [one_neg c, one_neg (fun h => c (this.mpr h))]
/-- Lists in the order of meeting are told by their parts. -/
theorem partOK_uniq {n : Nat} {l l' : List Int} (h1 : PartOK l 0) (h2 : PartOK l' 0) (e1 : l.length = n) (e2 : l'.length = n) (h : EqL n l l') : l = l' := by
  have f1 := partOK_new l l.length 0 0 (by omega) (by omega) (by simpa using h1) rfl (by omega) (by omega)
  have f2 := partOK_new l' l'.length 0 0 (by omega) (by omega) (by simpa using h2) rfl (by omega) (by omega)
  have key : ∀ k v, v < k → v < n → l.getD v 0 = l'.getD v 0 := by
    intro k
    induction k with
    | zero => omega
    | succ k ih =>
      intro v hv hvn
      by_cases c : ∀ u, u < v → l.getD u 0 ≠ l.getD v 0
      · rw [f1 v (by omega) (by omega) c, f2 v (by omega) (by omega) (fun u hu he => c u hu ((h u v (by omega) hvn).mpr he))]
        exact newN_eq h v (by omega)
      · have : ∃ u, u < v ∧ l.getD u 0 = l.getD v 0 := by
          apply Classical.byContradiction
          intro hno
          exact c fun u hu he => hno ⟨u, hu, he⟩
        obtain ⟨u, hu, he⟩ := this
        rw [← he, ih u (by omega) (by omega)]
        exact (h u v (by omega) hvn).mp he
  apply List.ext_getElem (by omega)
  intro i p1 p2
  have := key (i + 1) i (by omega) (by omega)
  rwa [getD_at l p1, getD_at l' p2] at this
/-! ### told anew -/
theorem idxF_neg (xs : List Int) (x : Int) (k : Nat) : ∀ i, k = xs.length - i → (idxF xs x i < 0 → ∀ j, i ≤ j → j < xs.length → xs.getD j 0 ≠ x) ∧ (¬ idxF xs x i < 0 → idxF xs x i < xs.length ∧ xs.getD (idxF xs x i).toNat 0 = x) := by
  induction k with
  | zero =>
    intro i hk
    rw [idxF, if_neg (by omega)]
    exact ⟨fun _ j h1 h2 => by omega, fun h => absurd (by omega) h⟩
  | succ k ih =>
    intro i hk
    rw [idxF, if_pos (by omega)]
    by_cases c : xs.getD i 0 = x
    · rw [if_pos c]
      refine ⟨fun h => by omega, fun _ => ⟨by omega, by rw [Int.toNat_natCast]; exact c⟩⟩
    · rw [if_neg c]
      obtain ⟨h1, h2⟩ := ih (i + 1) (by omega)
      refine ⟨fun h j hj hj2 => ?_, h2⟩
      by_cases e : j = i
      · subst e; exact c
      · exact h1 h j (by omega) hj2
/-- No number stands twice. -/
def Dist (m : List Int) : Prop := ∀ i j, i < m.length → j < m.length → m.getD i 0 = m.getD j 0 → i = j
theorem Dist.snoc {m : List Int} (h : Dist m) {c : Int} (hc : ∀ j, j < m.length → m.getD j 0 ≠ c) : Dist (m ++ [c]) := by
  have g1 : ∀ i, i < m.length → (m ++ [c]).getD i 0 = m.getD i 0 := fun i hi => by
    simp only [List.getD_eq_getElem?_getD]; rw [List.getElem?_append_left hi]
  have g2 : (m ++ [c]).getD m.length 0 = c := by simp [List.getD_eq_getElem?_getD]
  intro i j hi hj e
  simp only [List.length_append, List.length_singleton] at hi hj
  by_cases ci : i = m.length
  · by_cases cj : j = m.length
    · omega
    · rw [ci, g2, g1 j (by omega)] at e
      exact absurd e.symm (hc j (by omega))
  · by_cases cj : j = m.length
    · rw [cj, g2, g1 i (by omega)] at e
      exact absurd e (hc i (by omega))
    · rw [g1 i (by omega), g1 j (by omega)] at e
      exact h i j (by omega) (by omega) e
theorem bfM_pre : ∀ (r met : List Int), ∃ z, bfM met r = met ++ z
  | [], met => ⟨[], by simp [bfM]⟩
  | c :: r, met => by
    rw [bfM]
    split
    · obtain ⟨z, hz⟩ := bfM_pre r (met ++ [c])
      exact ⟨c :: z, by rw [hz]; simp⟩
    · exact bfM_pre r met
theorem bfF_all : ∀ (r met : List Int), Dist met → PartOK (bfF met r) met.length ∧ Dist (bfM met r) ∧ ∀ i, i < r.length → 0 ≤ (bfF met r).getD i 0 ∧ (bfF met r).getD i 0 < (bfM met r).length ∧ (bfM met r).getD ((bfF met r).getD i 0).toNat 0 = r.getD i 0
  | [], met, hd => ⟨trivial, hd, fun i hi => by simp at hi⟩
  | c :: r, met, hd => by
    obtain ⟨n1, n2⟩ := idxF_neg met c met.length 0 (by omega)
    by_cases h : idxF met c 0 < 0
    · rw [bfF, bfM, if_pos h, if_pos h]
      obtain ⟨h1, h2, h3⟩ := bfF_all r (met ++ [c]) (hd.snoc fun j hj => n1 h j (by omega) hj)
      refine ⟨⟨by omega, by omega, ?_⟩, h2, fun i hi => ?_⟩
      · rw [if_pos rfl]
        simpa using h1
      · cases i with
        | zero =>
          obtain ⟨z, hz⟩ := bfM_pre r (met ++ [c])
          rw [hz]
          simp [List.getD_eq_getElem?_getD]
          omega
        | succ i =>
          have := h3 i (by simpa using hi)
          simpa [List.getD_eq_getElem?_getD] using this
    · rw [bfF, bfM, if_neg h, if_neg h]
      obtain ⟨h1, h2, h3⟩ := bfF_all r met hd
      obtain ⟨m1, m2⟩ := n2 h
      refine ⟨⟨by omega, by omega, ?_⟩, h2, fun i hi => ?_⟩
      · rw [if_neg (by omega)]
        exact h1
      · cases i with
        | zero =>
          obtain ⟨z, hz⟩ := bfM_pre r met
          rw [hz]
          refine ⟨?_, ?_, ?_⟩
          · simp [List.getD_eq_getElem?_getD]; omega
          · simp [List.getD_eq_getElem?_getD]; omega
          · have e0 : (idxF met c 0 :: bfF met r).getD 0 0 = idxF met c 0 := rfl
            have e1 : (c :: r).getD 0 0 = c := rfl
            rw [e0, e1]
            obtain ⟨k, hk⟩ : ∃ k, k = idxF met c 0 := ⟨_, rfl⟩
            rw [← hk] at m1 m2 h ⊢
            have hkl : k.toNat < met.length := by omega
            have e2 : (met ++ z).getD k.toNat 0 = met.getD k.toNat 0 := by
              simp only [List.getD_eq_getElem?_getD]
              rw [List.getElem?_append_left hkl]
            rw [e2]
            exact m2
        | succ i =>
          have := h3 i (by simpa using hi)
          simpa [List.getD_eq_getElem?_getD] using this
theorem bfF_eqL (xs : List Int) : PartOK (bfF [] xs) 0 ∧ EqL xs.length (bfF [] xs) xs := by
  obtain ⟨h1, h2, h3⟩ := bfF_all xs [] (fun i j hi => by simp at hi)
  refine ⟨h1, fun v w hv hw => ?_⟩
  obtain ⟨a1, a2, a3⟩ := h3 v hv
  obtain ⟨b1, b2, b3⟩ := h3 w hw
  constructor
  · intro h
    rw [← a3, ← b3, h]
  · intro h
    rw [← a3, ← b3] at h
    have := h2 _ _ (by omega) (by omega) h
    omega
end Go.Proofs.Ytcdcmaakcldniaa.Zv

/- The reference's step is a round, in the order of meeting. -/
namespace Go.Proofs.Ytcdcmaakcldniaa.Zv
open Go
def pmP (m : Int) : List Int → Int
  | [] => m
  | x :: r => pmP (if x = m then m + 1 else m) r
theorem pmP_snoc : ∀ (xs : List Int) (m x : Int), pmP m (xs ++ [x]) = if x = pmP m xs then pmP m xs + 1 else pmP m xs
  | [], m, x => rfl
  | y :: r, m, x => by rw [List.cons_append, pmP, pmP, pmP_snoc r]
theorem partOK_snoc : ∀ (xs : List Int) (m x : Int), PartOK (xs ++ [x]) m ↔ PartOK xs m ∧ 0 ≤ x ∧ x ≤ pmP m xs
  | [], m, x => by simp [PartOK, pmP]
  | y :: r, m, x => by
    rw [List.cons_append, PartOK, PartOK, pmP, partOK_snoc r]
    constructor
    · rintro ⟨a, b, c, d, e⟩; exact ⟨⟨a, b, c⟩, d, e⟩
    · rintro ⟨⟨a, b, c⟩, d, e⟩; exact ⟨a, b, c, d, e⟩
theorem colW_all (sm : Nat → Prop) (out : List Int) (v : Nat) (h0 : ∀ w, w < v → 0 ≤ out.getD w 0) (k : Nat) : ∀ w, k = v - w → (colW sm out v w < 0 → ∀ u, w ≤ u → u < v → ¬ sm u) ∧ (¬ colW sm out v w < 0 → ∃ u, u < v ∧ sm u ∧ colW sm out v w = out.getD u 0) := by
  induction k with
  | zero =>
    intro w hk
    rw [colW, if_neg (by omega)]
    exact ⟨fun _ u h1 h2 => by omega, fun h => absurd (by omega) h⟩
  | succ k ih =>
    intro w hk
    have hw : w < v := by omega
    rw [colW, if_pos hw]
    by_cases c : sm w
    · rw [if_pos c]
      have := h0 w hw
      exact ⟨fun h => by omega, fun _ => ⟨w, hw, c, rfl⟩⟩
    · rw [if_neg c]
      obtain ⟨h1, h2⟩ := ih (w + 1) (by omega)
      refine ⟨fun h u hu hu2 => ?_, h2⟩
      by_cases e : u = w
      · subst e; exact c
      · exact h1 h u (by omega) hu2
/-- Of one kind. -/
def smK (rows cl : List Int) (n u w : Nat) : Prop := cl.getD u 0 = cl.getD w 0 ∧ cnts rows cl n u = cnts rows cl n w
theorem smK.symm {rows cl : List Int} {n u w : Nat} (h : smK rows cl n u w) : smK rows cl n w u := ⟨h.1.symm, h.2.symm⟩
theorem smK.trans {rows cl : List Int} {n u w x : Nat} (h : smK rows cl n u w) (h' : smK rows cl n w x) : smK rows cl n u x := ⟨h.1.trans h'.1, h.2.trans h'.2⟩
theorem getD_snoc (l : List Int) (x : Int) (w : Nat) (h : w < l.length) : (l ++ [x]).getD w 0 = l.getD w 0 := by
  simp only [List.getD_eq_getElem?_getD]; rw [List.getElem?_append_left h]
theorem getD_snoc' (l : List Int) (x : Int) (w : Nat) (h : w = l.length) : (l ++ [x]).getD w 0 = x := by
  subst h; simp [List.getD_eq_getElem?_getD]
theorem stp_all (rows cl : List Int) (n : Nat) : ∀ v, (∀ u w, u < v → w < v → ((stp rows cl n v).1.getD u 0 = (stp rows cl n v).1.getD w 0 ↔ smK rows cl n u w)) ∧ (∀ w, w < v → 0 ≤ (stp rows cl n v).1.getD w 0 ∧ (stp rows cl n v).1.getD w 0 < (stp rows cl n v).2) ∧
    (∀ x, 0 ≤ x → x < (stp rows cl n v).2 → ∃ w, w < v ∧ (stp rows cl n v).1.getD w 0 = x) ∧ PartOK (stp rows cl n v).1 0 ∧ pmP 0 (stp rows cl n v).1 = (stp rows cl n v).2
  | 0 => ⟨fun u w h => by omega, fun w h => by omega, fun x h1 h2 => by simp [stp] at h2; omega, trivial, rfl⟩
  | v + 1 => by
    obtain ⟨i1, i2, i3, i4, i5⟩ := stp_all rows cl n v
    obtain ⟨l1, l2, l3⟩ := stp_len rows cl n v
    obtain ⟨w1, w2⟩ := colW_all (fun w => cl.getD w 0 = cl.getD v 0 ∧ cnts rows cl n w = cnts rows cl n v) (stp rows cl n v).1 v (fun w hw => (i2 w hw).1) v 0 (by omega)
    rw [stp]
    obtain ⟨out, hout⟩ : ∃ o, o = (stp rows cl n v).1 := ⟨_, rfl⟩
    obtain ⟨most, hmost⟩ : ∃ o, o = (stp rows cl n v).2 := ⟨_, rfl⟩
    rw [← hout] at i1 i2 i3 i4 i5 l1 w1 w2 ⊢
    rw [← hmost] at i2 i3 i5 l2 l3 ⊢
    obtain ⟨r, hr⟩ : ∃ r, r = colW (fun w => cl.getD w 0 = cl.getD v 0 ∧ cnts rows cl n w = cnts rows cl n v) out v 0 := ⟨_, rfl⟩
    rw [← hr] at w1 w2 ⊢
    by_cases c : r < 0
    · rw [if_pos c]
      simp only
      have w1 := w1 c
      refine ⟨fun u w hu hw => ?_, fun w hw => ?_, fun x h1 h2 => ?_, (partOK_snoc _ _ _).mpr ⟨i4, l2, by omega⟩, by rw [pmP_snoc, i5, if_pos rfl]⟩
      · by_cases eu : u = v
        · by_cases ew : w = v
          · subst eu ew; exact ⟨fun _ => ⟨rfl, rfl⟩, fun _ => rfl⟩
          · rw [getD_snoc' _ _ u (by omega), getD_snoc _ _ w (by omega)]
            have := (i2 w (by omega)).2
            refine ⟨fun h => by omega, fun h => absurd ?_ (w1 w (by omega) (by omega))⟩
            subst eu
            exact h.symm
        · by_cases ew : w = v
          · rw [getD_snoc' _ _ w (by omega), getD_snoc _ _ u (by omega)]
            have := (i2 u (by omega)).2
            refine ⟨fun h => by omega, fun h => absurd ?_ (w1 u (by omega) (by omega))⟩
            subst ew
            exact h
          · rw [getD_snoc _ _ u (by omega), getD_snoc _ _ w (by omega)]
            exact i1 u w (by omega) (by omega)
      · by_cases ew : w = v
        · rw [getD_snoc' _ _ w (by omega)]; omega
        · rw [getD_snoc _ _ w (by omega)]
          have := i2 w (by omega)
          omega
      · by_cases ex : x < most
        · obtain ⟨w, hw, he⟩ := i3 x h1 ex
          exact ⟨w, by omega, by rw [getD_snoc _ _ w (by omega)]; exact he⟩
        · exact ⟨v, by omega, by rw [getD_snoc' _ _ v (by omega)]; omega⟩
    · rw [if_neg c]
      simp only
      obtain ⟨z, z1, z2, z3⟩ := w2 c
      have hz := i2 z z1
      refine ⟨fun u w hu hw => ?_, fun w hw => ?_, fun x h1 h2 => ?_, (partOK_snoc _ _ _).mpr ⟨i4, by omega, by omega⟩, by rw [pmP_snoc, i5, if_neg (by omega)]⟩
      · by_cases eu : u = v
        · by_cases ew : w = v
          · subst eu ew; exact ⟨fun _ => ⟨rfl, rfl⟩, fun _ => rfl⟩
          · rw [getD_snoc' _ _ u (by omega), getD_snoc _ _ w (by omega), z3, i1 z w z1 (by omega)]
            subst eu
            exact ⟨fun h => (smK.symm z2).trans h, fun h => smK.trans z2 h⟩
        · by_cases ew : w = v
          · rw [getD_snoc' _ _ w (by omega), getD_snoc _ _ u (by omega), z3, i1 u z (by omega) z1]
            subst ew
            exact ⟨fun h => h.trans z2, fun h => h.trans (smK.symm z2)⟩
          · rw [getD_snoc _ _ u (by omega), getD_snoc _ _ w (by omega)]
            exact i1 u w (by omega) (by omega)
      · by_cases ew : w = v
        · rw [getD_snoc' _ _ w (by omega)]; omega
        · rw [getD_snoc _ _ w (by omega)]
          exact i2 w (by omega)
      · obtain ⟨w, hw, he⟩ := i3 x h1 h2
        exact ⟨w, by omega, by rw [getD_snoc _ _ w (by omega)]; exact he⟩
end Go.Proofs.Ytcdcmaakcldniaa.Zv

/- Refining: the whole walk. -/
namespace Go.Proofs.Ytcdcmaakcldniaa.Zv
open Go Go.Sort
/-- Rounds, till there are as many colours as before. -/
inductive Chn (rows : Nat → List Int) (K n : Nat) : (Nat → List Int) → (Nat → List Int) → Prop
  | last {c c' col} : CL K n c → SurC K n c → Rnd rows K n c c' col → CL K n c' → manyN K c' = manyN K c → Chn rows K n c c'
  | more {c c1 c' col} : CL K n c → SurC K n c → Rnd rows K n c c1 col → CL K n c1 → manyN K c1 ≠ manyN K c → Chn rows K n c1 c' → Chn rows K n c c'
section
variable {nro K n a bg bc : Nat} {q : Nat → Nat} {rs : Nat → Value} {rows : Nat → List Int} {gcs : List Value} {Hc : (Nat → List Int) → VH} (E : RG nro K n a bg bc q rs rows gcs Hc)
include E
theorem l_refine_B6 (cI : Nat → List Int) (k : Nat) : ∀ (c : Nat → List Int), CL K n c → SurC K n c → 1001 - manyN K c ≤ k →
    ∃ c' e X, floop (vcall F nro) nro [0] i_impl_coloured_refine_B6 (Hc cI) [.pointer (some ⟨a, 0, some 2⟩)] (Hc c) = some (.ret, e, Hc c' ++ X) ∧ Chn rows K n c c' ∧ CL K n c' := by
  have hn1 := E.n1
  have hK1 := E.K1
  have hK2 := E.K2
  have hn62 := (E.rok 0 (by omega)).le
  have hKn : K * n ≤ 2 * 62 := Nat.mul_le_mul hK2 hn62
  have hKn0 : 0 < K * n := Nat.mul_pos (by omega) (by omega)
  induction k with
  | zero =>
    intro c C S hk
    have := C.many hn1
    omega
  | succ k ih =>
    intro c C S hk
    obtain ⟨m, hm⟩ : ∃ m, m = manyN K c := ⟨_, rfl⟩
    have e1 := c_impl_coloured_many E c C []
    rw [List.append_nil, ← hm] at e1
    obtain ⟨cs, G, f1, f2⟩ := l_refine_B4 E c C m hm K 0 [] [] [] (by omega) (by omega) (ET.nil _ _) (by simp)
    rw [List.nil_append] at f1 f2
    obtain ⟨T, hT⟩ : ∃ T, T = tdsF rows c m n K 0 := ⟨_, rfl⟩
    have hTl : T.length = K * n := by rw [hT, tdsF_len]; simp
    have hmm := fun i (hi : i < K) x hx => C.lt hn1 i hi x hx
    rw [← hm] at hmm
    have hTm := fun t => tdsF_mem (m := m) E.rok C.len hmm 0 t
    rw [← hT] at f1 f2 hTm
    have hml := C.many5 hn1
    rw [← hm] at hml
    obtain ⟨U, cs2, g1, g2, g3, g4⟩ := c_sort_told (nro := nro) (Hc c) (E.nr c) T cs G f2 (by omega) (by omega) (fun t ht => by
      obtain ⟨j, w, h1, h2, h3, rfl⟩ := (hTm t).mp ht
      have : (nuC (rows j) (c j) m n w).length = m + 1 := by simp [nuC]
      simp only
      omega)
    have hUl : U.length = T.length := g1.length_eq
    obtain ⟨b1, b2, b3, b4⟩ := l_refine_B5 E m U cs2 G c g3 (fun t ht => by
      obtain ⟨j, w, h1, h2, h3, rfl⟩ := (hTm t).mp (g1.mem_iff.mp ht)
      have : (nuC (rows j) (c j) m n w).length = m + 1 := by simp [nuC]
      refine ⟨by simp, by simp only; omega, by simp, by simp only; omega, by simp only; omega⟩) (by omega) C
    have r := rnd_asg rows c K n hK1 hn1 E.rok C U (by rw [← hm, ← hT]; exact g1) g2
    obtain ⟨s, hs⟩ : ∃ s, s = upF (asg U) U.length 0 (-1, c) := ⟨_, rfl⟩
    rw [← hs] at b1 b2 b3 b4 r
    obtain ⟨col, c1⟩ := s
    simp only at b1 b2 b3 b4 r
    have hmn := r.many b2 hn1
    have hmo := r.more b2 hn1 S
    have hcs : cs2.length = cs.length := by rw [g3.len, f2.len, hUl]
    have la := E.lax c
    have q0 : ∀ L : VH, (Hc c ++ L)[a]? = _ := fun L => E.lt c (E.ax c) L
    have qg : ∀ L : VH, (Hc c ++ L)[bg]? = _ := fun L => E.lt c (E.ag c) L
    have hgl := E.gl
    have hnr := E.nr c
    simp only [Int.natCast_zero, List.length_nil] at f1
    rw [hUl, hcs] at b1
    have w1 : IntKind.i64.wrap (col + 1) = col + 1 := wrap64 (by omega) (by omega)
    have q3 : ∀ X : VH, (Hc c ++ ⟨3, cs2⟩ :: X)[(Hc c).length]? = some ⟨3, cs2⟩ := fun X => by rw [hget0]; rfl
    have hcl : ∀ X : VH, kclean (Hc cI) [.pointer (some ⟨a, 0, some 2⟩)] (Hc c1 ++ X) = ([.pointer (some ⟨a, 0, some 2⟩)], Hc c1) := fun X => by
      refine cleanup_upd (E.upd _ _) ?_
      have := E.lax cI
      intro w hw
      simp only [List.mem_cons, List.not_mem_nil, or_false] at hw
      subst hw
      intro r hr
      simp [trefs, vrefs, crefs, arefs] at hr
      omega
    by_cases hq : manyN K c1 = manyN K c
    · have hq' : col + 1 = m := by omega
      have w0 : IntKind.i64.wrap (m : Int) = m := wrap64 (by omega) (by omega)
      refine ⟨c1, fl [], ⟨3, cs2⟩ :: G, ?_, .last C S r b2 hq, b2⟩
      rw [floop_at i_impl_coloured_refine_B6.eq_1]
      clear r b2 g1 g2 g3 f2 hTm hmm hT C S ih
      simp (disch := first | assumption | omega | (simp [*] <;> omega) | fail) [-getElem?_pos, List.getElem?_cons_zero, List.getElem?_cons_succ, e1, q0, qg, hgl, hnr, f1, g4, b1, q3, w1, w0, hq', hcl, hcs]
    · have hq' : ¬ col + 1 = m := by omega
      obtain ⟨c', e, X, i1, i2, i3⟩ := ih c1 b2 (r.surC b2 hn1) (by omega)
      refine ⟨c', e, X, ?_, .more C S r b2 hq i2, i3⟩
      rw [floop_at i_impl_coloured_refine_B6.eq_1]
      clear r i2 i3 b2 g1 g2 g3 f2 hTm hmm hT C S ih
      simp (disch := first | assumption | omega | (simp [*] <;> omega) | fail) [-getElem?_pos, List.getElem?_cons_zero, List.getElem?_cons_succ, e1, q0, qg, hgl, hnr, f1, g4, b1, q3, w1, hq', hcl, i1, hcs]
theorem c_impl_coloured_refine (c : Nat → List Int) (C : CL K n c) (S : SurC K n c) : ∃ c', vcall F nro k_impl_coloured_refine [.pointer (some ⟨a, 0, some 2⟩)] (Hc c) = some (.tuple #[], Hc c') ∧ Chn rows K n c c' ∧ CL K n c' := by
  obtain ⟨c', e, X, h1, h2, h3⟩ := l_refine_B6 E c _ c C S (Nat.le_refl _)
  refine ⟨c', ?_, h2, h3⟩
  have hcl := cleanup_upd (L := X) (vs := [.tuple #[]]) (E.upd c c') (by intro w hw; simp at hw; subst hw; intro r hr; simp [trefs, vrefs, crefs, arefs] at hr)
  refine v_impl_coloured_refine (by simp [i_impl_coloured_refine]) ?_
  rw [fbody_eq]
  clear h2 h3 C S
  simp (disch := first | assumption | omega | (simp [*] <;> omega) | fail) [-getElem?_pos, List.getElem?_cons_zero, List.getElem?_cons_succ, i_impl_coloured_refine, h1, hcl, fresults, fresL, fres1]
end
end Go.Proofs.Ytcdcmaakcldniaa.Zv

/- The refined partition of one graph. -/
namespace Go.Proofs.Ytcdcmaakcldniaa.Zv
open Go
variable {nro : Nat}
/-- One graph with colours, in new memory. -/
def h1C (h : VH) (n : Nat) (s : Value) (c : Nat → List Int) : VH :=
  h ++ [⟨0, [.int .i64 n, s]⟩, ⟨1, ints (c 0)⟩, ⟨2, [.int .i64 n, s]⟩, ⟨1, [.slice (some ⟨h.length + 1, 0, none⟩) n n]⟩, ⟨0, [.slice (some ⟨h.length + 2, 0, none⟩) 1 2, .slice (some ⟨h.length + 3, 0, none⟩) 1 1]⟩]
theorem rg_one (h : VH) (hn : nro ≤ h.length) (n : Nat) (s : Value) (rows : List Int) (hs : Sli h s rows) (R : Rok n rows) (hn1 : 1 ≤ n) :
    RG nro 1 n (h.length + 4) (h.length + 2) (h.length + 3) (fun _ => h.length + 1) (fun _ => s) (fun _ => rows) [.int .i64 n, s] (h1C h n s) where
  nr c := by unfold h1C; simp; omega
  nq i hi := by omega
  len c c' := by simp [h1C]
  upd c c' := by
    have e : h1C h n s c' = (h1C h n s c).set (h.length + 1) ⟨1, ints (c' 0)⟩ := by unfold h1C; rw [hsetk]; rfl
    rw [e]
    exact upd_set _ _ _ _
  ax c := by unfold h1C; rw [hgetk]; rfl
  ag c := by unfold h1C; rw [hgetk]; rfl
  gl := rfl
  ga i hi := by
    have : i = 0 := by omega
    subst this
    exact ⟨rfl, rfl⟩
  ac c := by unfold h1C; rw [hgetk]; rfl
  aq c i hi := by
    have : i = 0 := by omega
    subst this
    unfold h1C; rw [hgetk]; rfl
  st c i l hi := by
    have : i = 0 := by omega
    subst this
    unfold h1C; rw [hsetk]; rfl
  rr c i hi := hs.app _
  rok i hi := R
  n1 := hn1
  K1 := by omega
  K2 := by omega
theorem c_impl_refined (h : VH) (hn : nro ≤ h.length) (n : Nat) (s t : Value) (rows cl : List Int) (hs : Sli h s rows) (ht : Sli h t cl) (R : Rok n rows) (hn1 : 1 ≤ n) (C : CL 1 n fun _ => cl) (S : SurC 1 n fun _ => cl) :
    ∃ c', Chn (fun _ => rows) 1 n (fun _ => cl) c' ∧ CL 1 n c' ∧ vcall F nro k_impl_refined [gv n s, t] h = some (.slice (some ⟨h.length, 0, none⟩) n n, h ++ [⟨1, ints (bfF [] (c' 0))⟩]) := by
  obtain ⟨c', e1, e2, e3⟩ := c_impl_coloured_refine (rg_one h hn n s rows hs R hn1) _ C S
  refine ⟨c', e2, e3, ?_⟩
  have hle := R.le
  have hl : cl.length = n := C.len 0 (by omega)
  have hl' : (c' 0).length = n := e3.len 0 (by omega)
  have hne : cl ≠ [] := by intro e; rw [e] at hl; simp at hl; omega
  have k1 := c_slices_Clone (nro := nro) t cl (h ++ [⟨0, [.int .i64 n, s]⟩]) (ht.app _) hne (by omega) (by simp; omega)
  have k2 := c_impl_byFirst (nro := nro) (h1C h n s c') (by unfold h1C; simp; omega) (.slice (some ⟨h.length + 1, 0, none⟩) n n) (c' 0) (by
    have := sli_at (h := h1C h n s c') (b := h.length + 1) (xs := c' 0) (by unfold h1C; rw [hgetk]; rfl)
    rwa [hl'] at this) (by omega)
  rw [hl] at k1
  rw [hl'] at k2
  have hn' := fun k => Nat.le_trans hn (Nat.le_add_right h.length k)
  have hj := Sl.nj hs
  unfold isJunk at hj
  obtain ⟨b, hb⟩ : ∃ b, b = bfF [] (c' 0) := ⟨_, rfl⟩
  rw [← hb] at k2 ⊢
  obtain ⟨d, hd⟩ : ∃ d, d = c' 0 := ⟨_, rfl⟩
  unfold h1C at e1 k2
  rw [← hd] at e1 k2
  simp at k1 k2 e1
  clear C S e2 e3 hs ht hb hd R
  refine v_impl_refined (by simp [i_impl_refined]) ?_
  rw [fbody_eq]
  simp (disch := first | assumption | omega | (simp [*] <;> omega) | fail) [i_impl_refined, k1, e1, k2, hn, hn', hj, fresults, fresL, fres1]
end Go.Proofs.Ytcdcmaakcldniaa.Zv

/- Program and reference refine alike. -/
namespace Go.Proofs.Ytcdcmaakcldniaa.Zv
open Go
theorem partOK_sur : ∀ (k : Nat) (l : List Int), l.length = k → PartOK l 0 → 0 ≤ pmP 0 l ∧ pmP 0 l ≤ l.length ∧ (∀ w, w < l.length → 0 ≤ l.getD w 0 ∧ l.getD w 0 < pmP 0 l) ∧ ∀ x, 0 ≤ x → x < pmP 0 l → ∃ w, w < l.length ∧ l.getD w 0 = x
  | 0, l, hl, _ => by
    have : l = [] := List.length_eq_zero_iff.mp hl
    subst this
    exact ⟨Int.le_refl _, by simp [pmP], fun w hw => by simp at hw, fun x h1 h2 => by simp [pmP] at h2; omega⟩
  | k + 1, l, hl, hp => by
    have hne : l ≠ [] := by intro e; rw [e] at hl; simp at hl
    obtain ⟨xs, x, hx⟩ : ∃ xs x, l = xs ++ [x] := ⟨l.dropLast, l.getLast hne, (List.dropLast_concat_getLast hne).symm⟩
    subst hx
    simp only [List.length_append, List.length_singleton] at hl
    obtain ⟨p1, p2, p3⟩ := (partOK_snoc _ _ _).mp hp
    obtain ⟨i0, i1, i2, i3⟩ := partOK_sur k xs (by omega) p1
    rw [pmP_snoc]
    simp only [List.length_append, List.length_singleton]
    refine ⟨by split <;> omega, by split <;> omega, fun w hw => ?_, fun y h1 h2 => ?_⟩
    · by_cases ew : w = xs.length
      · rw [getD_snoc' _ _ w ew]
        split <;> omega
      · rw [getD_snoc _ _ w (by omega)]
        have := i2 w (by omega)
        split <;> omega
    · by_cases ey : y < pmP 0 xs
      · obtain ⟨w, hw, he⟩ := i3 y h1 ey
        exact ⟨w, by omega, by rw [getD_snoc _ _ w hw]; exact he⟩
      · refine ⟨xs.length, by omega, ?_⟩
        rw [getD_snoc' _ _ _ rfl]
        split at h2 <;> omega
theorem mem_getD {l : List Int} {x : Int} (h : x ∈ l) : ∃ w, w < l.length ∧ l.getD w 0 = x := by
  obtain ⟨w, hw, rfl⟩ := List.getElem_of_mem h
  exact ⟨w, hw, getD_at l hw⟩
/-- A partition as colours of one graph. -/
theorem part_CL {n : Nat} {l : List Int} (hl : l.length = n) (hn : n ≤ 62) (hp : PartOK l 0) : CL 1 n fun _ => l := by
  obtain ⟨i0, i1, i2, i3⟩ := partOK_sur n l hl hp
  refine ⟨fun _ _ => hl, fun i _ x hx => ?_⟩
  obtain ⟨w, hw, rfl⟩ := mem_getD hx
  have := i2 w hw
  omega
theorem part_many {n : Nat} {l : List Int} (hl : l.length = n) (hn1 : 1 ≤ n) (hn : n ≤ 62) (hp : PartOK l 0) : (manyN 1 (fun _ => l) : Int) = pmP 0 l := by
  obtain ⟨i0, i1, i2, i3⟩ := partOK_sur n l hl hp
  have C := part_CL hl hn hp
  have hne : ∀ i : Nat, i < 1 → (fun _ : Nat => l) i ≠ [] := fun i hi => C.ne hn1 i hi
  have h0 := i2 0 (by omega)
  have h1 := (mxK_le (fun _ => l) (pmP 0 l - 1) (by omega) 1 hne).mpr (fun i hi x hx => by
    obtain ⟨w, hw, rfl⟩ := mem_getD hx
    have := i2 w hw
    omega)
  have h2 := (mxK_le (fun _ => l) (mxK (fun _ => l) 1) (mxK_ge _ 1) 1 hne).mp (Int.le_refl _)
  obtain ⟨w, hw, he⟩ := i3 (pmP 0 l - 1) (by omega) (by omega)
  have h3 := h2 0 (by omega) _ (C.getD (i := 0) (by omega) (by omega : w < n))
  have h4 := mxK_ge (fun _ => l) 1
  unfold manyN
  try simp only at h3
  omega
theorem part_Sur {n : Nat} {l : List Int} (hl : l.length = n) (hn1 : 1 ≤ n) (hn : n ≤ 62) (hp : PartOK l 0) : SurC 1 n fun _ => l := by
  obtain ⟨i0, i1, i2, i3⟩ := partOK_sur n l hl hp
  intro x h1 h2
  rw [part_many hl hn1 hn hp] at h2
  obtain ⟨w, hw, he⟩ := i3 x h1 h2
  exact ⟨0, w, by omega, by omega, he⟩
theorem cntC_none {rows l : List Int} {n v : Nat} {x : Int} (h : ∀ w, w < n → l.getD w 0 ≠ x) : cntC rows l n v x = 0 := by
  unfold cntC
  rw [sumF_congr (g := fun _ => 0) (fun w hw => one_neg (fun h2 => h w hw h2.2)), sumF_zero]
/-- The reference's step is a round. -/
theorem stp_rnd {rows l : List Int} {n : Nat} (hl : l.length = n) (hn1 : 1 ≤ n) (hn : n ≤ 62) (hp : PartOK l 0) : Rnd (fun _ => rows) 1 n (fun _ => l) (fun _ => (stp rows l n n).1) ((stp rows l n n).2 - 1) := by
  obtain ⟨i1, i2, i3, i4, i5⟩ := stp_all rows l n n
  obtain ⟨p0, p1, p2, p3⟩ := partOK_sur n l hl hp
  have hm := part_many hl hn1 hn hp
  have h0 := i2 0 (by omega)
  refine ⟨by omega, fun i v j w hi hv hj hw => ?_, fun i v hi hv => ?_, fun x h1 h2 => ?_⟩
  · try simp only
    rw [i1 v w hv hw]
    unfold smK nuC cnts
    rw [List.cons.injEq]
    refine and_congr_right fun _ => ?_
    rw [List.map_inj_left, List.map_inj_left]
    simp only [List.mem_range]
    constructor
    · intro h x hx; exact h x (by omega)
    · intro h x hx
      by_cases c : x < manyN 1 fun _ => l
      · exact h x c
      · have hno : ∀ w, w < n → l.getD w 0 ≠ (x : Int) := fun w hw he => by
          have := (p2 w (by omega)).2
          omega
        rw [cntC_none hno, cntC_none hno]
  · have := i2 v hv
    try simp only
    omega
  · obtain ⟨w, hw, he⟩ := i3 x h1 (by omega)
    exact ⟨0, w, by omega, hw, he⟩
/-- What is told depends on the parts alone. -/
theorem nuC_rel {rows : List Int} {n : Nat} {c : Nat → List Int} (C : CL 1 n c) (S : SurC 1 n c) (hn1 : 1 ≤ n) {v w : Nat} (hv : v < n) (hw : w < n) :
    nuC rows (c 0) (manyN 1 c) n v = nuC rows (c 0) (manyN 1 c) n w ↔ (c 0).getD v 0 = (c 0).getD w 0 ∧ ∀ u, u < n → cntC rows (c 0) n v ((c 0).getD u 0) = cntC rows (c 0) n w ((c 0).getD u 0) := by
  unfold nuC
  rw [List.cons.injEq]
  refine and_congr_right fun _ => ?_
  rw [List.map_inj_left]
  simp only [List.mem_range]
  constructor
  · intro h u hu
    have := C.lt hn1 0 (by omega) _ (C.getD (by omega) hu)
    have := h ((c 0).getD u 0).toNat (by omega)
    rwa [Int.toNat_of_nonneg (by omega)] at this
  · intro h x hx
    obtain ⟨i, u, h1, h2, h3⟩ := S x (by omega) (by omega)
    have : i = 0 := by omega
    subst this
    rw [← h3]
    exact h u h2
theorem rnd_eqL {rows : List Int} {n : Nat} {c c' d d' : Nat → List Int} {x y : Int} (C : CL 1 n c) (S : SurC 1 n c) (D : CL 1 n d) (T : SurC 1 n d) (hn1 : 1 ≤ n) (r : Rnd (fun _ => rows) 1 n c c' x) (s : Rnd (fun _ => rows) 1 n d d' y) (h : EqL n (c 0) (d 0)) : EqL n (c' 0) (d' 0) := by
  intro v w hv hw
  rw [r.eq 0 v 0 w (by omega) hv (by omega) hw, s.eq 0 v 0 w (by omega) hv (by omega) hw]
  try simp only
  rw [nuC_rel C S hn1 hv hw, nuC_rel D T hn1 hv hw, h v w hv hw]
  have hc : ∀ z u, u < n → cntC rows (c 0) n z ((c 0).getD u 0) = cntC rows (d 0) n z ((d 0).getD u 0) := fun z u hu => by
    unfold cntC
    refine sumF_congr fun i hi => ?_
    have := h i u hi hu
    simp only [this]
  refine and_congr_right fun _ => ?_
  constructor
  · intro h2 u hu; rw [← hc v u hu, ← hc w u hu]; exact h2 u hu
  · intro h2 u hu; rw [hc v u hu, hc w u hu]; exact h2 u hu
theorem many_le {n : Nat} {c d : Nat → List Int} (S : SurC 1 n c) (D : CL 1 n d) (hn1 : 1 ≤ n) (h : EqL n (c 0) (d 0)) : manyN 1 c ≤ manyN 1 d := by
  obtain ⟨ri, rv, hr⟩ := S.rep
  refine inj_le _ _ (fun x => ((d 0).getD (rv x) 0).toNat) (fun x hx => ?_) (fun x y hx hy e => ?_)
  · obtain ⟨h1, h2, h3⟩ := hr x hx
    have := D.lt hn1 0 (by omega) _ (D.getD (by omega) h2)
    omega
  · obtain ⟨h1, h2, h3⟩ := hr x hx
    obtain ⟨h4, h5, h6⟩ := hr y hy
    have l1 := D.lt hn1 0 (by omega) _ (D.getD (by omega) h2)
    have l2 := D.lt hn1 0 (by omega) _ (D.getD (by omega) h5)
    try simp only at e
    have := (h (rv x) (rv y) h2 h5).mpr (by omega)
    rw [show ri x = 0 by omega] at h3
    rw [show ri y = 0 by omega] at h6
    omega
theorem many_eq {n : Nat} {c d : Nat → List Int} (S : SurC 1 n c) (T : SurC 1 n d) (C : CL 1 n c) (D : CL 1 n d) (hn1 : 1 ≤ n) (h : EqL n (c 0) (d 0)) : manyN 1 c = manyN 1 d :=
  Nat.le_antisymm (many_le S D hn1 h) (many_le T C hn1 h.symm)
/-- The reference's steps, till nothing changes. -/
inductive SCh (rows : List Int) (n : Nat) : List Int → List Int → Prop
  | last {l} : (stp rows l n n).1 = l → SCh rows n l l
  | more {l l'} : (stp rows l n n).1 ≠ l → SCh rows n (stp rows l n n).1 l' → SCh rows n l l'
theorem stp_part (rows l : List Int) (n : Nat) : (stp rows l n n).1.length = n ∧ PartOK (stp rows l n n).1 0 := ⟨(stp_len rows l n n).1, (stp_all rows l n n).2.2.2.1⟩
theorem SCh.part {rows : List Int} {n : Nat} {l l' : List Int} (h : SCh rows n l l') : l'.length = n ∧ PartOK l' 0 := by
  induction h with
  | last h => rw [← h]; exact stp_part _ _ _
  | more _ _ ih => exact ih
theorem chn_sch {rows : List Int} {n : Nat} (hn1 : 1 ≤ n) (hn : n ≤ 62) {c c' : Nat → List Int} (h : Chn (fun _ => rows) 1 n c c') : ∀ (l l' : List Int), l.length = n → PartOK l 0 → EqL n (c 0) l → SCh rows n l l' → EqL n (c' 0) l' := by
  induction h with
  | @last c c' col C S r C' he =>
    intro l l' hl hp hq hs
    have r2 := stp_rnd (rows := rows) hl hn1 hn hp
    have e1 := rnd_eqL C S (part_CL hl hn hp) (part_Sur hl hn1 hn hp) hn1 r r2 hq
    have e2 : EqL n (c' 0) (c 0) := fun v w hv hw => r.same C C' hn1 S he.symm (by omega) hv (by omega) hw
    obtain ⟨s1, s2⟩ := stp_part rows l n
    have e3 : (stp rows l n n).1 = l := partOK_uniq s2 hp s1 hl (e1.symm.trans (e2.trans hq))
    cases hs with
    | last h => exact e2.trans hq
    | more h _ => exact absurd e3 h
  | @more c c1 c' col C S r C1 hne _ ih =>
    intro l l' hl hp hq hs
    have r2 := stp_rnd (rows := rows) hl hn1 hn hp
    have e1 := rnd_eqL C S (part_CL hl hn hp) (part_Sur hl hn1 hn hp) hn1 r r2 hq
    obtain ⟨s1, s2⟩ := stp_part rows l n
    cases hs with
    | last h =>
      exfalso
      simp only [h] at e1
      exact hne (many_eq (r.surC C1 hn1) S C1 C hn1 (e1.trans hq.symm))
    | more h hs => exact ih _ _ s1 s2 e1 hs
/-- The refined partitions are equal. -/
theorem refined_eq {rows : List Int} {n : Nat} (hn1 : 1 ≤ n) (hn : n ≤ 62) {l l' : List Int} {c' : Nat → List Int} (hl : l.length = n) (hp : PartOK l 0) (h : Chn (fun _ => rows) 1 n (fun _ => l) c') (C' : CL 1 n c') (hs : SCh rows n l l') : bfF [] (c' 0) = l' := by
  have e1 := chn_sch hn1 hn h l l' hl hp (EqL.rfl' n l) hs
  obtain ⟨p1, p2⟩ := bfF_eqL (c' 0)
  have hcl := C'.len 0 (by omega)
  rw [hcl] at p2
  exact partOK_uniq p1 hs.part.2 (by rw [bfF_len, hcl]) hs.part.1 (p2.trans e1)
/-- A list is refined already, if it is its own step. -/
theorem equal_iff {rows : List Int} {n : Nat} (hn1 : 1 ≤ n) (hn : n ≤ 62) {l : List Int} {c' : Nat → List Int} (hl : l.length = n) (hp : PartOK l 0) (h : Chn (fun _ => rows) 1 n (fun _ => l) c') (C' : CL 1 n c') : bfF [] (c' 0) = l ↔ (stp rows l n n).1 = l := by
  constructor
  · intro e
    obtain ⟨p1, p2⟩ := bfF_eqL (c' 0)
    have hcl := C'.len 0 (by omega)
    rw [hcl, e] at p2
    have r2 := stp_rnd (rows := rows) hl hn1 hn hp
    obtain ⟨s1, s2⟩ := stp_part rows l n
    -- the first round leaves the parts
    have key : ∀ c c', Chn (fun _ => rows) 1 n c c' → EqL n (c 0) (c' 0) → ∃ d x, CL 1 n c ∧ SurC 1 n c ∧ Rnd (fun _ => rows) 1 n c d x ∧ EqL n (c 0) (d 0) := by
      intro c c' h he
      have fine : ∀ c c', Chn (fun _ => rows) 1 n c c' → ∀ v w, v < n → w < n → (c' 0).getD v 0 = (c' 0).getD w 0 → (c 0).getD v 0 = (c 0).getD w 0 := by
        intro c c' h
        induction h with
        | last C S r C' he => intro v w hv hw h; exact r.fine (by omega) hv (by omega) hw h
        | more C S r C1 hne _ ih => intro v w hv hw h; exact r.fine (by omega) hv (by omega) hw (ih v w hv hw h)
      cases h with
      | @last _ _ col C S r C' hm => exact ⟨c', col, C, S, r, he⟩
      | @more _ c1 _ col C S r C1 hne h2 =>
        refine ⟨c1, col, C, S, r, fun v w hv hw => ⟨fun h3 => ?_, fun h3 => r.fine (by omega) hv (by omega) hw h3⟩⟩
        exact fine _ _ h2 v w hv hw ((he v w hv hw).mp h3)
    obtain ⟨d, x, C, S, r, e2⟩ := key _ _ h p2
    have e3 := rnd_eqL C S (part_CL hl hn hp) (part_Sur hl hn1 hn hp) hn1 r r2 (EqL.rfl' n l)
    exact partOK_uniq s2 hp s1 hl (e3.symm.trans e2.symm)
  · intro e
    exact refined_eq hn1 hn hl hp h C' (.last e)
end Go.Proofs.Ytcdcmaakcldniaa.Zv

/- The law of IsEqualPartition. -/
namespace Go.Proofs.Ytcdcmaakcldniaa.Zv
open Go
variable {nro : Nat}
open Classical in
/-- The error of a graph and a list. -/
noncomputable def parC (n : Int) (rows xs : List Int) : Int := if GV n rows then (if (xs.length : Int) = n ∧ PartOK xs 0 then 0 else 2) else 1
open Classical in
theorem c_spec_l10Code (n : Int) (s t : Value) (rows xs : List Int) (h : VH) (hs : Sli h s rows) (ht : Sli h t xs) (h3 : xs.length ≤ 4611686018427387904) :
    vcall F nro k_spec_l10Code [gv n s, t] h = some (.int .i64 (parC n rows xs), h) := by
  refine v_spec_l10Code (by simp [i_spec_l10Code]) ?_
  rw [fbody_eq]
  have hc1 := c_spec_l01Is (nro := nro) n s rows (bx h n s) (hs.app _)
  have hc2 := c_spec_l10Is (nro := nro) n s t rows xs (bx h n s) (hs.app _) (ht.app _) h3
  unfold parC
  by_cases g : GV n rows
  · rw [if_pos g]
    by_cases p : (xs.length : Int) = n ∧ PartOK xs 0
    · rw [if_pos p]
      rw [decide_eq_true p] at hc2
      simp (disch := first | assumption | omega | (simp [*] <;> omega) | fail) [i_spec_l10Code, hc1, hc2, g]
    · rw [if_neg p]
      rw [decide_eq_false p] at hc2
      clear p
      simp (disch := first | assumption | omega | (simp [*] <;> omega) | fail) [i_spec_l10Code, hc1, hc2, g]
  · rw [if_neg g]
    simp (disch := first | assumption | omega | (simp [*] <;> omega) | fail) [i_spec_l10Code, hc1, hc2, g]
open Classical in
theorem c_impl_partitionCode (n : Int) (s t : Value) (rows xs : List Int) (h : VH) (hs : Sli h s rows) (ht : Sli h t xs) (h3 : xs.length ≤ 4611686018427387904) :
    vcall F nro k_impl_partitionCode [gv n s, t] h = some (.int .i64 (parC n rows xs), h) := by
  refine v_impl_partitionCode (by simp [i_impl_partitionCode]) ?_
  rw [fbody_eq]
  have hc1 := c_impl_IsGraph (nro := nro) n s rows (bx h n s) (hs.app _)
  have hc2 := c_impl_isPartition (nro := nro) n s t rows xs (bx h n s) (hs.app _) (ht.app _) h3
  unfold parC
  by_cases g : GV n rows
  · rw [if_pos g]
    by_cases p : (xs.length : Int) = n ∧ PartOK xs 0
    · rw [if_pos p]
      rw [decide_eq_true p] at hc2
      simp (disch := first | assumption | omega | (simp [*] <;> omega) | fail) [i_impl_partitionCode, hc1, hc2, g]
    · rw [if_neg p]
      rw [decide_eq_false p] at hc2
      clear p
      simp (disch := first | assumption | omega | (simp [*] <;> omega) | fail) [i_impl_partitionCode, hc1, hc2, g]
  · rw [if_neg g]
    simp (disch := first | assumption | omega | (simp [*] <;> omega) | fail) [i_impl_partitionCode, hc1, hc2, g]
theorem parC_zero {n : Int} {rows xs : List Int} (h : parC n rows xs = 0) : GV n rows ∧ (xs.length : Int) = n ∧ PartOK xs 0 := by
  unfold parC at h
  split at h
  · rename_i g
    split at h
    · rename_i p; exact ⟨g, p.1, p.2⟩
    · omega
  · omega
open Classical in
/-- What IsEqualPartition answers. -/
noncomputable def eqAns (n : Int) (rows xs : List Int) : Value := .tuple #[.bool (decide (parC n rows xs = 0 ∧ (stp rows xs n.toNat n.toNat).1 = xs)), .int .i64 (parC n rows xs)]
open Classical in
theorem c_spec_IsEqualPartition (n : Int) (s t : Value) (rows xs : List Int) (h : VH) (hs : Sli h s rows) (ht : Sli h t xs) (h3 : xs.length ≤ 4611686018427387904) (hn : nro ≤ h.length) :
    vcall F nro k_spec_IsEqualPartition [gv n s, t] h = some (eqAns n rows xs, h) := by
  refine v_spec_IsEqualPartition (by simp [i_spec_IsEqualPartition]) ?_
  rw [fbody_eq]
  have hc1 := c_spec_l10Code (nro := nro) n s t rows xs (bx h n s) (hs.app _) (ht.app _) h3
  unfold eqAns
  by_cases c : parC n rows xs = 0
  · obtain ⟨g, hl, hp⟩ := parC_zero c
    rw [c] at hc1
    obtain ⟨N, rfl⟩ : ∃ N : Nat, n = N := ⟨n.toNat, by omega⟩
    have hl : xs.length = N := by omega
    have R := g.rok
    have hle := R.le
    obtain ⟨p0, p1, p2, p3⟩ := partOK_sur N xs hl hp
    have e1 := c_spec_l10Step (nro := nro) (bx h N s) (by simp; omega) N s t rows xs (hs.app _) (ht.app _) R hl (fun x hx => by
      obtain ⟨w, hw, rfl⟩ := mem_getD hx
      have := p2 w hw
      omega)
    obtain ⟨sl, sp⟩ := stp_part rows xs N
    rw [Int.toNat_natCast]
    obtain ⟨l1, hl1⟩ : ∃ l1, l1 = (stp rows xs N N).1 := ⟨_, rfl⟩
    rw [← hl1] at e1 sl ⊢
    have e2 := c_spec_l10Same (nro := nro) (.slice (some ⟨h.length + 1, 0, none⟩) N N) t l1 xs (bx h N s ++ [⟨1, ints l1⟩]) (by
      have := sli_at (h := bx h N s ++ [⟨1, ints l1⟩]) (b := h.length + 1) (xs := l1) (by simp)
      rwa [sl] at this) ((ht.app _).app _) (by omega) (by omega)
    have hd : decide (parC N rows xs = 0 ∧ l1 = xs) = decide (l1 = xs) := by simp [c]
    rw [hd, c]
    simp at e1 e2
    have hto := ht.old
    obtain ⟨q, hq⟩ : ∃ q, q = decide (l1 = xs) := ⟨_, rfl⟩
    rw [← hq] at e2 ⊢
    clear hs ht g hp p2 p3 hl1 sp R hd c hq
    simp (disch := first | assumption | omega | (simp [*] <;> omega) | fail) [i_spec_IsEqualPartition, hc1, e1, e2, fresults, fresL, fres1]
  · have hd : decide (parC n rows xs = 0 ∧ (stp rows xs n.toNat n.toNat).1 = xs) = false := by simp [c]
    rw [hd]
    obtain ⟨q, hq⟩ : ∃ q, q = parC n rows xs := ⟨_, rfl⟩
    rw [← hq] at hc1 c ⊢
    clear hs ht hd
    simp (disch := first | assumption | omega | (simp [*] <;> omega) | fail) [i_spec_IsEqualPartition, hc1, c, fresults, fresL, fres1]
open Classical in
theorem c_impl_IsEqualPartition (n : Int) (s t : Value) (rows xs : List Int) (h : VH) (hs : Sli h s rows) (ht : Sli h t xs) (h3 : xs.length ≤ 4611686018427387904) (hn : nro ≤ h.length) :
    vcall F nro k_impl_IsEqualPartition [gv n s, t] h = some (eqAns n rows xs, h) := by
  refine v_impl_IsEqualPartition (by simp [i_impl_IsEqualPartition]) ?_
  rw [fbody_eq]
  have hc1 := c_impl_partitionCode (nro := nro) n s t rows xs (bx h n s) (hs.app _) (ht.app _) h3
  unfold eqAns
  by_cases c : parC n rows xs = 0
  · obtain ⟨g, hl, hp⟩ := parC_zero c
    rw [c] at hc1
    obtain ⟨N, rfl⟩ : ∃ N : Nat, n = N := ⟨n.toNat, by omega⟩
    have hl : xs.length = N := by omega
    have R := g.rok
    have hle := R.le
    have hlo := g.lo
    have hn1 : 1 ≤ N := by omega
    obtain ⟨c', k1, k2, e1⟩ := c_impl_refined (nro := nro) (bx h N s) (by simp; omega) N s t rows xs (hs.app _) (ht.app _) R hn1 (part_CL hl hle hp) (part_Sur hl hn1 hle hp)
    have hiff := equal_iff hn1 hle hl hp k1 k2
    rw [Int.toNat_natCast]
    have sl : (bfF [] (c' 0)).length = N := by rw [bfF_len, k2.len 0 (by omega)]
    obtain ⟨l1, hl1⟩ : ∃ l1, l1 = bfF [] (c' 0) := ⟨_, rfl⟩
    rw [← hl1] at e1 sl hiff
    have e2 := c_slices_Equal (nro := nro) (.slice (some ⟨h.length + 1, 0, none⟩) N N) t l1 xs (bx h N s ++ [⟨1, ints l1⟩]) (by
      have := sli_at (h := bx h N s ++ [⟨1, ints l1⟩]) (b := h.length + 1) (xs := l1) (by simp)
      rwa [sl] at this) ((ht.app _).app _) (by omega)
    have hd : decide (parC N rows xs = 0 ∧ (stp rows xs N N).1 = xs) = decide (l1 = xs) := by simp [c, hiff]
    rw [hd, c]
    simp at e1 e2
    have hto := ht.old
    obtain ⟨q, hq⟩ : ∃ q, q = decide (l1 = xs) := ⟨_, rfl⟩
    rw [← hq] at e2 ⊢
    clear hs ht g hp hl1 R hd c hq hiff k1 k2
    simp (disch := first | assumption | omega | (simp [*] <;> omega) | fail) [i_impl_IsEqualPartition, hc1, e1, e2, fresults, fresL, fres1]
  · have hd : decide (parC n rows xs = 0 ∧ (stp rows xs n.toNat n.toNat).1 = xs) = false := by simp [c]
    rw [hd]
    obtain ⟨q, hq⟩ : ∃ q, q = parC n rows xs := ⟨_, rfl⟩
    rw [← hq] at hc1 c ⊢
    clear hs ht hd
    simp (disch := first | assumption | omega | (simp [*] <;> omega) | fail) [i_impl_IsEqualPartition, hc1, c, fresults, fresL, fres1]
theorem r_spec_IsEqualPartition (n : Int) (s t : Value) (h : VH) (hs : isSli h s) (ht : isSli h t) (h3 : (rd h t).length ≤ 4611686018427387904) (hn : nro ≤ h.length) :
    vcall F nro k_spec_IsEqualPartition [gv n s, t] h = some (eqAns n (rd h s) (rd h t), h) := c_spec_IsEqualPartition n s t _ _ h hs.sli ht.sli h3 hn
theorem r_impl_IsEqualPartition (n : Int) (s t : Value) (h : VH) (hs : isSli h s) (ht : isSli h t) (h3 : (rd h t).length ≤ 4611686018427387904) (hn : nro ≤ h.length) :
    vcall F nro k_impl_IsEqualPartition [gv n s, t] h = some (eqAns n (rd h s) (rd h t), h) := c_impl_IsEqualPartition n s t _ _ h hs.sli ht.sli h3 hn
theorem law_IsEqualPartition (n : Int) (s : Value) (rows : List Int) (t : Value) (xs : List Int) (h : VH) (hs : Sli h s rows) (ht : Sli h t xs) (h3 : rows.length ≤ 9223372036854775807) (h4 : xs.length ≤ 9223372036854775807) (hn : nro ≤ h.length) :
    vcall F nro k_laws_FnExactIsEqualPartition [gv n s, t] h = some (.bool true, h) := by
  refine v_laws_FnExactIsEqualPartition (by simp [i_laws_FnExactIsEqualPartition]) ?_
  rw [fbody_eq]
  by_cases hx : 1048576 < (xs.length : Int)
  · simp (disch := first | assumption | omega | (simp [*] <;> omega) | fail) [i_laws_FnExactIsEqualPartition, ht.vlen', hx]
  · have hc1 := c_laws_szGraph (nro := nro) n s rows 1048576 (bx h n s) (hs.app _) (by omega) (by omega) h3
    by_cases hr : 1048576 < (rows.length : Int)
    · rw [if_pos hr] at hc1
      simp (disch := first | assumption | omega | (simp [*] <;> omega) | fail) [i_laws_FnExactIsEqualPartition, ht.vlen', hx, hc1]
    · rw [if_neg hr] at hc1
      have hr2 : ¬ (1048576 - (rows.length : Int) < 0) := by omega
      have h5 : rows.length ≤ 1048576 := by omega
      have h6 : xs.length ≤ 1048576 := by omega
      have hn' := fun k => Nat.le_trans hn (Nat.le_add_right h.length k)
      have hsi := fun L => hs.is' (L := L)
      have hti := fun L => ht.is' (L := L)
      have hsr := fun L => hs.rd' (L := L)
      have htr := fun L => ht.rd' (L := L)
      have htl := fun L => ht.vlen' (L := L)
      clear hs ht
      obtain ⟨b, c, hp⟩ : ∃ b c, eqAns n rows xs = .tuple #[.bool b, .int .i64 c] := ⟨_, _, rfl⟩
      simp (disch := first | assumption | omega | (simp [*] <;> omega) | fail) [i_laws_FnExactIsEqualPartition, hx, hc1, hr2, r_laws_toGraph, r_laws_toInt64S, r_spec_IsEqualPartition, r_impl_IsEqualPartition, r_laws_eqGraph, r_laws_eqInt64S, hp, hsi, hti, hsr, htr, htl, hn', h5, h6]
end Go.Proofs.Ytcdcmaakcldniaa.Zv

